/- How long and how heavy a row of the work may be, plain. No program is named here. -/
import Derived.Test.YtblbggdglndiiaaLimCnt
namespace Go.Proofs.Ytblbggdglndiiaa
set_option linter.unusedVariables false

theorem mix_mem : ∀ (n : Nat) (a b : List Nat), a.length + b.length = n → ∀ x ∈ wts (mix a b), x ∈ a ∨ x ∈ b
  | n, [], b, _, x, h => by
    rw [mix_nil_l] at h
    right
    simpa [wts] using h
  | n, a, [], _, x, h => by
    rw [mix_nil_r] at h
    left
    simpa [wts] using h
  | 0, x :: a, y :: b, h, _, _ => by simp at h
  | n + 1, x :: a, y :: b, h, z, hz => by
    rw [mix_cons] at hz
    simp only [List.length_cons] at h
    split at hz
    · rw [wts_cons] at hz
      rcases List.mem_cons.1 hz with rfl | hz
      · exact Or.inl (List.mem_cons_self ..)
      · rcases mix_mem n a (y :: b) (by simp; omega) z hz with h | h
        · exact Or.inl (List.mem_cons_of_mem _ h)
        · exact Or.inr h
    · rw [wts_cons] at hz
      rcases List.mem_cons.1 hz with rfl | hz
      · exact Or.inr (List.mem_cons_self ..)
      · rcases mix_mem n (x :: a) b (by simp; omega) z hz with h | h
        · exact Or.inl h
        · exact Or.inr (List.mem_cons_of_mem _ h)
theorem pairs_bound {M : Nat} : ∀ l : List Nat, (∀ x ∈ l, x ≤ M) → ∀ y ∈ pairs l, y ≤ 2 * M
  | [], _, y, h => by simp [pairs] at h
  | [_], _, y, h => by simp [pairs] at h
  | a :: b :: l, hl, y, h => by
    rw [pairs] at h
    rcases List.mem_cons.1 h with rfl | h
    · have := hl a (List.mem_cons_self ..)
      have := hl b (List.mem_cons_of_mem _ (List.mem_cons_self ..))
      omega
    · exact pairs_bound l (fun x hx => hl x (List.mem_cons_of_mem _ (List.mem_cons_of_mem _ hx))) y h
theorem row_bound {W : List Nat} {M : Nat} (h : ∀ x ∈ W, x ≤ M) : ∀ i, ∀ x ∈ wts (rowL W i), x ≤ M * 2 ^ i
  | 0, x, hx => by
    rw [rowL] at hx
    rcases mix_mem _ W [] rfl x hx with h2 | h2
    · have := h x h2; omega
    · cases h2
  | i + 1, x, hx => by
    rw [rowL] at hx
    rcases mix_mem _ W _ rfl x hx with h2 | h2
    · have := h x h2
      exact Nat.le_trans this (Nat.le_mul_of_pos_right _ (Nat.two_pow_pos _))
    · have := pairs_bound _ (row_bound h i) x h2
      rw [Nat.pow_succ]
      have e : M * (2 ^ i * 2) = 2 * (M * 2 ^ i) := by rw [Nat.mul_comm (2 ^ i) 2, Nat.mul_left_comm]
      omega
theorem row_short (W : List Nat) : ∀ i, (rowL W i).length ≤ 2 * W.length
  | 0 => by rw [row_len0]; omega
  | i + 1 => by rw [row_len]; have := row_short W i; omega
theorem outAt_cons (P ks : List Nat) (k s : Nat) : outAt P (ks ++ [k]) s = outAt P ks s + (if s ∈ P.take k then 1 else 0) := by
  rw [outAt, List.filter_append, List.length_append, outAt]
  by_cases h : s ∈ P.take k <;> simp [h]
/-- the share of one row, and of the rows below. -/
theorem takes_step (W : List Nat) (i t : Nat) (ht : t ≤ (rowL W (i + 1)).length) : takes W (i + 1) t = syms (rowL W (i + 1)) t :: takes W i (2 * (t - syms (rowL W (i + 1)) t)) ∧ 2 * (t - syms (rowL W (i + 1)) t) ≤ (rowL W i).length ∧ syms (rowL W (i + 1)) t ≤ W.length := by
  have hl := row_len W i
  obtain ⟨h1, _, h2, h3⟩ := mix_take _ W (pairs (wts (rowL W i))) rfl t (by rw [← mix_len _ W (pairs (wts (rowL W i))) rfl]; exact ht)
  rw [pairs_len, wts_len] at h2
  refine ⟨rfl, ?_, h1⟩
  rw [rowL]
  omega
theorem takes_end (W : List Nat) (t : Nat) (ht : t ≤ (rowL W 0).length) : takes W 0 t = [syms (rowL W 0) t] ∧ syms (rowL W 0) t ≤ W.length := ⟨rfl, by rw [row_len0] at ht; rw [syms_row0 W t ht]; exact ht⟩
theorem takes_nought (W : List Nat) : ∀ i, takes W i 0 = List.replicate (i + 1) 0
  | 0 => by simp [takes, syms]
  | i + 1 => by rw [takes]; simp [syms, takes_nought W i, List.replicate_succ]
theorem outAt_noughts (P : List Nat) (i s : Nat) : outAt P (List.replicate i 0) s = 0 := by
  rw [outAt, List.filter_eq_nil_iff.2]
  · rfl
  · intro k hk
    rw [List.mem_replicate] at hk
    rw [hk.2]
    simp
end Go.Proofs.Ytblbggdglndiiaa
