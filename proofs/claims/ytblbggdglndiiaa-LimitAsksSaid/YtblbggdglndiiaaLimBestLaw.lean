/- A choice of lengths, in plain terms. -/
import Derived.Test.YtblbggdglndiiaaLimChoice
import Derived.Test.YtblbggdglndiiaaLimGrowsLaw
import Derived.Test.YtblbggdglndiiaaLimFallLaw
namespace Go.Proofs.Ytblbggdglndiiaa
set_option linter.unusedVariables false

theorem ord_cnt {F P : List Nat} (h : IsOrd F P) : cntPos F F.length = P.length := (ord_symsUp h).length_eq.symm
/-- a choice is a full code. -/
theorem choice_full {F P Ls : List Nat} {L : Nat} (h : IsOrd F P) (hc : Choice F Ls L) (hL : L ≤ 17) (h2 : 2 ≤ P.length) : Full L (P.map fun s => Ls.getD s 0) := by
  have hle : ∀ s ∈ P, Ls.getD s 0 ≤ L := fun s hs => (hc.each s ((h.mem s).1 hs).1).2
  refine ⟨fun l hl => ?_, ?_⟩
  · obtain ⟨s, hs, rfl⟩ := List.mem_map.1 hl
    exact hle s hs
  · have hw := (hc.full (by rw [ord_cnt h]; exact h2)).2
    have e : weightL Ls = (P.map fun s => 2 ^ (20 - Ls.getD s 0)).sum := by
      have := weightL_ord h (fun s => Ls.getD s 0) (fun s hs => (hc.each s hs).1)
      rw [← hc.len, map_getD] at this
      exact this
    rw [e, kraft_weight_map L (by omega) (fun s => Ls.getD s 0) P hle] at hw
    exact (weight_full (by omega)).1 hw
/-- so they have room. -/
theorem choice_room {F P Ls : List Nat} {L : Nat} (h : IsOrd F P) (hc : Choice F Ls L) (hL : L ≤ 17) : P.length ≤ 2 ^ L := by
  by_cases h2 : 2 ≤ P.length
  · have := kraftL_len L (P.map fun s => Ls.getD s 0)
    rw [(choice_full h hc hL h2).2, List.length_map] at this
    exact this
  · have := Nat.two_pow_pos L
    omega
/-- the program's lengths are a choice. -/
theorem choice_own {F P : List Nat} (h : IsOrd F P) {i : Nat} (hi : i + 1 ≤ 17) (hr : P.length ≤ 2 ^ (i + 1)) (hl : F.length ≤ 512) : Choice F (lensP F P i) (i + 1) := by
  by_cases h2 : 2 ≤ P.length
  · have hf : Full (i + 1) (P.map (lenOf F P i)) := out_full h i hr (by omega)
    have hp := full_pos hf (by rw [List.length_map]; exact h2)
    have each : ∀ s, s < F.length → (0 < lenP F P i s ↔ 0 < F.getD s 0) ∧ lenP F P i s ≤ i + 1 := fun s hs => by
      by_cases h0 : 0 < F.getD s 0
      · have hm : lenOf F P i s ∈ P.map (lenOf F P i) := List.mem_map.2 ⟨s, (h.mem s).2 ⟨hs, h0⟩, rfl⟩
        rw [lenP_two h2]
        exact ⟨⟨fun _ => h0, fun _ => hp _ hm⟩, hf.1 _ hm⟩
      · rw [lenP_nought h i (by omega)]
        exact ⟨⟨fun h => by omega, fun h => absurd h h0⟩, Nat.zero_le _⟩
    refine ⟨lensP_len F P i, fun s hs => by rw [lensP_get hs]; exact each s hs, fun h3 => by rw [ord_cnt h] at h3; omega, fun _ => ⟨⟨by rw [lensP_len]; exact hl, fun x hx => ?_⟩, ?_⟩⟩
    · have := lensP_le F P i x hx; omega
    · rw [lensP, weightL_ord h (lenP F P i) (fun s hs => (each s hs).1), kraft_weight_map (i + 1) (by omega) (lenP F P i) P (fun s hs => (each s ((h.mem s).1 hs).1).2)]
      rw [List.map_congr_left (fun s _ => lenP_two h2 i s)]
      exact (weight_full (by omega)).2 hf.2
  · have e : ∀ s, lenP F P i s = lenInit P s := fun s => by rw [lenP, lenOf_few (by omega), Nat.add_zero]
    have hle : ∀ s, s < F.length → (lensP F P i).getD s 0 ≤ 1 := fun s hs => by rw [lensP_get hs, e]; exact lenInit_one P s
    refine ⟨lensP_len F P i, fun s hs => ⟨?_, by have := hle s hs; omega⟩, fun _ s hs => hle s hs, fun h3 => by rw [ord_cnt h] at h3; omega⟩
    rw [lensP_get hs, e]
    by_cases h0 : 0 < F.getD s 0
    · have hm := (h.mem s).2 ⟨hs, h0⟩
      have : P.length = 1 := by have := List.length_pos_of_mem hm; omega
      rw [lenInit, if_pos ⟨this, hm⟩]; omega
    · rw [lenInit, if_neg (fun h3 => h0 ((h.mem s).1 h3.2).2)]; omega
theorem sum_le_sum (f g : Nat → Nat) : ∀ l : List Nat, (∀ s ∈ l, f s ≤ g s) → (l.map f).sum ≤ (l.map g).sum
  | [], _ => Nat.le_refl _
  | a :: l, h => by
    rw [List.map_cons, List.map_cons, List.sum_cons, List.sum_cons]
    exact Nat.add_le_add (h a (List.mem_cons_self ..)) (sum_le_sum f g l fun s hs => h s (List.mem_cons_of_mem _ hs))
/-- no choice costs less. -/
theorem choice_least {F P Ls : List Nat} (h : IsOrd F P) {i : Nat} (hi : i + 1 ≤ 17) (hr : P.length ≤ 2 ^ (i + 1)) (hc : Choice F Ls (i + 1)) : sumTo F (lensP F P i) F.length ≤ sumTo F Ls F.length := by
  rw [sumTo_cost]
  show _ ≤ costF F (fun s => Ls.getD s 0)
  by_cases h2 : 2 ≤ P.length
  · have := out_least h i hr (by omega) (fun s => Ls.getD s 0) (choice_full h hc hi h2)
    have e : costF F (lenP F P i) = costF F (lenOf F P i) := by rw [show lenP F P i = lenOf F P i from funext fun s => lenP_two h2 i s]
    rw [e]
    exact this
  · refine sum_le_sum _ _ _ fun s hs => Nat.mul_le_mul_left _ ?_
    have hs' := List.mem_range.1 hs
    rw [lenP, lenOf_few (by omega), Nat.add_zero]
    by_cases h0 : 0 < F.getD s 0
    · have := ((hc.each s hs').1).2 h0
      have := lenInit_one P s
      show _ ≤ Ls.getD s 0
      omega
    · rw [lenInit, if_neg (fun h3 => h0 ((h.mem s).1 h3.2).2)]; exact Nat.zero_le _
end Go.Proofs.Ytblbggdglndiiaa
