/- What LimitFall asks of the lengths, plain. No program is named here. -/
import Derived.Test.YtblbggdglndiiaaLimRes
namespace Go.Proofs.Ytblbggdglndiiaa
set_option linter.unusedVariables false

/-- who is more frequent has no longer word. -/
theorem fall_len {F P : List Nat} (h : IsOrd F P) (i a b : Nat) (ha : 0 < F.getD a 0) (hb : b < F.length) (hab : F.getD a 0 < F.getD b 0) (hal : a < F.length) : lenP F P i b ≤ lenP F P i a := by
  have hbP : b ∈ P := (h.mem b).2 ⟨hb, by omega⟩
  have haP : a ∈ P := (h.mem a).2 ⟨hal, ha⟩
  have hne : a ≠ b := fun e => by subst e; omega
  have h2 : P.length ≠ 1 := fun e => by
    obtain ⟨y, hy⟩ := List.length_eq_one_iff.1 e
    rw [hy] at haP hbP
    exact hne ((List.mem_singleton.1 haP).trans (List.mem_singleton.1 hbP).symm)
  rw [lenP, lenP, lenInit, lenInit, if_neg (fun e => h2 e.1), if_neg (fun e => h2 e.1)]
  have := outAt_falls h (takes (wtsOf F P) i (2 * P.length - 2)) (a := a) (b := b) haP (Or.inl hab)
  simp only [lenOf]
  omega
theorem sumTo_cost (F P : List Nat) (i : Nat) : sumTo F (lensP F P i) F.length = costF F (lenP F P i) := by
  rw [sumTo, costF]
  congr 1
  refine List.map_congr_left fun s hs => ?_
  rw [lensP_get (List.mem_range.1 hs)]
theorem costF_add (F : List Nat) (f g : Nat → Nat) : costF F (fun s => f s + g s) = costF F f + costF F g := by
  unfold costF
  induction List.range F.length with
  | nil => rfl
  | cons a l ih => simp only [List.map_cons, List.sum_cons]; rw [ih, Nat.mul_add]; omega
/-- what the length that is set ahead costs: the sum, if there is one alone. -/
theorem init_cost {F P : List Nat} (h : IsOrd F P) : costF F (lenInit P) = if P.length = 1 then F.sum else 0 := by
  by_cases h1 : P.length = 1
  · rw [if_pos h1]
    have e : costF F (lenInit P) = ((List.range F.length).map fun s => F.getD s 0).sum := by
      rw [costF]
      congr 1
      refine List.map_congr_left fun s hs => ?_
      by_cases hsP : s ∈ P
      · rw [lenInit, if_pos ⟨h1, hsP⟩, Nat.mul_one]
      · have : ¬ 0 < F.getD s 0 := fun h0 => hsP ((h.mem s).2 ⟨List.mem_range.1 hs, h0⟩)
        have h0 : F.getD s 0 = 0 := by omega
        rw [h0, Nat.zero_mul]
    rw [e, range_getD]
  · rw [if_neg h1, costF]
    have : ((List.range F.length).map fun s => F.getD s 0 * lenInit P s) = (List.range F.length).map fun _ => 0 := by
      refine List.map_congr_left fun s _ => ?_
      rw [lenInit, if_neg (fun e => h1 e.1), Nat.mul_zero]
    rw [this]
    induction List.range F.length with
    | nil => rfl
    | cons a l ih => simp only [List.map_cons, List.sum_cons, Nat.zero_add]; exact ih
theorem sum_filter_pos : ∀ F : List Nat, (F.filter fun x => decide (0 < x)).sum = F.sum
  | [] => rfl
  | x :: F => by
    rw [List.filter_cons]
    by_cases h : 0 < x
    · rw [if_pos (by simpa using h)]; simp [sum_filter_pos F]
    · rw [if_neg (by simpa using h), sum_filter_pos F]
      obtain rfl : x = 0 := by omega
      simp
theorem costP_same {F P G Q : List Nat} (h : IsOrd F P) (g : IsOrd G Q) (i : Nat) (e : (F.filter fun x => decide (0 < x)).Perm (G.filter fun x => decide (0 < x))) : costF F (lenP F P i) = costF G (lenP G Q i) := by
  have h1 : costF F (lenP F P i) = costF F (lenInit P) + costF F (lenOf F P i) := costF_add F _ _
  have h2 : costF G (lenP G Q i) = costF G (lenInit Q) + costF G (lenOf G Q i) := costF_add G _ _
  rw [h1, h2, cost_same h g i e, init_cost h, init_cost g]
  have hl : P.length = Q.length := by rw [ord_len h, ord_len g, e.length_eq]
  have hs : F.sum = G.sum := by rw [← sum_filter_pos F, ← sum_filter_pos G]; exact e.sum_nat
  rw [hl, hs]
end Go.Proofs.Ytblbggdglndiiaa
