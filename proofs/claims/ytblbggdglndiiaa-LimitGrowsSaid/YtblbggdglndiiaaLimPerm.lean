/- Lengths of symbols in any order, plain: what they cost and Kraft's sum are the same under a permutation. No program is named here. -/
import Derived.Test.YtblbggdglndiiaaLimKraft
namespace Go.Proofs.Ytblbggdglndiiaa
set_option linter.unusedVariables false

theorem kraftL_perm (L : Nat) {a b : List Nat} (h : a.Perm b) : kraftL L a = kraftL L b := (h.map _).sum_nat
/-- weights with lengths. -/
def dotP (ps : List (Nat × Nat)) : Nat := (ps.map fun p => p.1 * p.2).sum
theorem dotP_cons (p : Nat × Nat) (ps : List (Nat × Nat)) : dotP (p :: ps) = p.1 * p.2 + dotP ps := by simp [dotP]
theorem dotP_perm {a b : List (Nat × Nat)} (h : a.Perm b) : dotP a = dotP b := (h.map _).sum_nat
theorem dotP_dot : ∀ ps : List (Nat × Nat), dotP ps = dot (ps.map (·.1)) (ps.map (·.2))
  | [] => rfl
  | p :: ps => by rw [dotP_cons, dotP_dot ps]; rfl
theorem rises_pairwise : ∀ l : List Nat, Rises l ↔ l.Pairwise (· ≤ ·)
  | [] => by simp [Rises]
  | a :: l => by
    rw [List.pairwise_cons, ← rises_pairwise l]
    refine ⟨fun h => ⟨h.le, h.tail⟩, fun h => ?_⟩
    cases l with
    | nil => trivial
    | cons b l => exact ⟨h.1 b (List.mem_cons_self ..), h.2⟩
/-- of the same numbers there is one rising order. -/
theorem rises_same : ∀ (a b : List Nat), a.Perm b → Rises a → Rises b → a = b
  | [], b, h, _, _ => (List.nil_perm.1 h).symm
  | x :: a, [], h, _, _ => absurd h.length_eq (by simp)
  | x :: a, y :: b, h, ha, hb => by
    have h1 : x ≤ y := by
      rcases List.mem_cons.1 (h.mem_iff.2 (List.mem_cons_self (a := y) (l := b))) with e | e
      · exact Nat.le_of_eq e.symm
      · exact ha.le y e
    have h2 : y ≤ x := by
      rcases List.mem_cons.1 (h.mem_iff.1 (List.mem_cons_self (a := x) (l := a))) with e | e
      · exact Nat.le_of_eq e.symm
      · exact hb.le x e
    obtain rfl : x = y := by omega
    rw [rises_same a b (List.Perm.cons_inv h) ha.tail hb.tail]
/-- pairs in the order of their weights. -/
theorem sorted_pairs (ps : List (Nat × Nat)) : ∃ qs : List (Nat × Nat), qs.Perm ps ∧ Rises (qs.map (·.1)) := by
  refine ⟨ps.mergeSort (fun a b => decide (a.1 ≤ b.1)), List.mergeSort_perm .., (rises_pairwise _).2 (List.pairwise_map.2 ?_)⟩
  have := List.pairwise_mergeSort (le := fun (a b : Nat × Nat) => decide (a.1 ≤ b.1)) (fun a b c h1 h2 => by simp at *; omega) (fun a b => by simp; omega) ps
  exact this.imp (fun h => by simpa using h)
/-- no lengths of at most i + 1 that make a full code cost less than the least, whatever the order of the symbols. -/
theorem perm_least {W : List Nat} (hW : Rises W) (i : Nat) (h : W.length ≤ 2 ^ (i + 1)) (h2 : 1 ≤ W.length) (ps : List (Nat × Nat)) (hp : (ps.map (·.1)).Perm W) (hle : ∀ p ∈ ps, p.2 ≤ i + 1) (hk : kraftL (i + 1) (ps.map (·.2)) = 2 ^ (i + 1)) : dot W (bestL W i) ≤ dotP ps := by
  obtain ⟨qs, hq, hr⟩ := sorted_pairs ps
  have e : qs.map (·.1) = W := rises_same _ _ ((hq.map _).trans hp) hr hW
  rw [← dotP_perm hq, dotP_dot, e]
  refine best_least hW i h h2 _ (by rw [← e]; simp) (fun l hl => ?_) (by rw [kraftL_perm _ (hq.map _)]; exact hk)
  obtain ⟨p, hpm, rfl⟩ := List.mem_map.1 hl
  exact hle p (hq.mem_iff.1 hpm)
/-- the lengths' own pairs: what they cost. -/
theorem zip_dot : ∀ (W ls : List Nat), W.length = ls.length → dotP (W.zip ls) = dot W ls
  | [], [], _ => rfl
  | a :: W, b :: ls, h => by rw [List.zip_cons_cons, dotP_cons, zip_dot W ls (by simpa using h)]; rfl
  | [], _ :: _, h => by simp at h
  | _ :: _, [], h => by simp at h
/-- 2 to the power of L lengths of at most L that make a full code are all L. -/
theorem kraft_tight (L : Nat) : ∀ ls : List Nat, (∀ l ∈ ls, l ≤ L) → ls.length ≤ kraftL L ls ∧ (kraftL L ls = ls.length → ∀ l ∈ ls, l = L)
  | [], _ => ⟨Nat.zero_le _, fun _ l hl => by cases hl⟩
  | l :: ls, h => by
    obtain ⟨i1, i2⟩ := kraft_tight L ls (fun x hx => h x (List.mem_cons_of_mem _ hx))
    have hl := h l (List.mem_cons_self ..)
    have e : kraftL L (l :: ls) = 2 ^ (L - l) + kraftL L ls := by simp [kraftL]
    have hp := Nat.two_pow_pos (L - l)
    rw [e, List.length_cons]
    refine ⟨by omega, fun hk x hx => ?_⟩
    rcases List.mem_cons.1 hx with rfl | hx
    · apply Classical.byContradiction
      intro hn
      have : 2 ^ 1 ≤ 2 ^ (L - x) := Nat.pow_le_pow_right (by decide) (by omega)
      omega
    · exact i2 (by omega) x hx
/-- lengths given in another order cost less by the exchange of a longer word of a heavier symbol. -/
theorem dotP_swap (a b x y : Nat) (ps : List (Nat × Nat)) : dotP ((a, x) :: (b, y) :: ps) + (b * x + a * y) = dotP ((a, y) :: (b, x) :: ps) + (a * x + b * y) := by
  rw [dotP_cons, dotP_cons, dotP_cons, dotP_cons]; show a * x + (b * y + dotP ps) + _ = a * y + (b * x + dotP ps) + _; omega
theorem swap_gain (a b x y : Nat) (hab : a < b) (hxy : x < y) : a * y + b * x < a * x + b * y := by
  obtain ⟨d, rfl⟩ : ∃ d, b = a + d + 1 := ⟨b - a - 1, by omega⟩
  obtain ⟨e, rfl⟩ : ∃ e, y = x + e + 1 := ⟨y - x - 1, by omega⟩
  simp only [Nat.add_mul, Nat.mul_add, Nat.one_mul, Nat.mul_one]
  omega
end Go.Proofs.Ytblbggdglndiiaa
