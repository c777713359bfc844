/- limit.Lengths whatever it is handed: one contract. -/
import Derived.Test.YtblbggdglndiiaaLimPicks
import Derived.Test.YtblbggdglndiiaaLimWt
namespace Go.Proofs.Ytblbggdglndiiaa
open Go.RowKit
set_option linter.unusedVariables false

/-- may the arguments not be? -/
def LenBad (xs : List Int) (lim : Int) : Prop := lim < 1 ∨ 17 < lim ∨ 512 < xs.length ∨ xs.any badF = true
/-- arguments that may be. -/
structure LenOk (xs : List Int) (lim : Int) (F P : List Nat) (L : Nat) : Prop where
  fs : xs = F.map fun (x : Nat) => (x : Int)
  lim : lim = L
  lo : 1 ≤ L
  hi : L ≤ 17
  len : F.length ≤ 512
  top : ∀ x ∈ F, x ≤ 2 ^ 40
  ord : IsOrd F P
theorem len_ok {xs : List Int} {lim : Int} (h : ¬ LenBad xs lim) : ∃ F P L, LenOk xs lim F P L := by
  simp only [LenBad, not_or] at h
  obtain ⟨h1, h2, h3, h4⟩ := h
  have h5 : ∀ x ∈ xs, 0 ≤ x ∧ x ≤ 1099511627776 := fun x hx => by
    have h6 : xs.any badF = false := by simpa using h4
    have := List.any_eq_false.1 h6 x hx
    simp [badF] at this
    omega
  obtain ⟨P, hP⟩ := ord_exists (xs.map Int.toNat)
  refine ⟨xs.map Int.toNat, P, lim.toNat, ?_, by omega, by omega, by omega, by rw [List.length_map]; omega, fun x hx => ?_, hP⟩
  · rw [List.map_map]
    conv => lhs; rw [← List.map_id xs]
    refine List.map_congr_left fun x hx => ?_
    have := h5 x hx
    simp; omega
  · obtain ⟨y, hy, rfl⟩ := List.mem_map.1 hx
    have := h5 y hy
    omega
/-- what comes of it. -/
def LenRes (xs : List Int) (lim : Int) (w : World) (e : Ending) (w' : World) : Prop :=
  (LenBad xs lim ∧ e = .returned (.tuple #[.slice none 0 0, .int .i64 5]) ∧ Ext w w') ∨
  (∃ F P L, LenOk xs lim F P L ∧ 2 ^ L < P.length ∧ e = .returned (.tuple #[.slice none 0 0, .int .i64 2]) ∧ Ext w w') ∨
  (∃ F P L ov, LenOk xs lim F P L ∧ P.length ≤ 2 ^ L ∧ e = .returned (.tuple #[ov, .int .i64 0]) ∧ BO w (lensP F P (L - 1)) ov w')
theorem lim_res (v : Value) (xs : List Int) (lim : Int) (w : World) (hv : ViewL w v (ints xs)) (hl : xs.length ≤ 2 ^ 50) : Calls Try.prog 11 #[v, .int .i64 lim] w (LenRes xs lim w) := by
  by_cases hb : LenBad xs lim
  · exact (lim_len_arg v xs lim w hv hl hb).mono fun e w' ⟨h1, h2⟩ => Or.inl ⟨hb, h1, by rw [h2]; exact Ext.refl w⟩
  · obtain ⟨F, P, L, h⟩ := len_ok hb
    have hv' : ViewL w v (intsL F) := by rw [← ints_nat h.fs]; exact hv
    rw [h.lim]
    by_cases hn : 2 ^ L < P.length
    · exact (lim_len_form v F P L w hv' h.lo h.hi h.len h.top h.ord hn).mono fun e w' ⟨h1, h2⟩ => Or.inr (Or.inl ⟨F, P, L, by rw [← h.lim]; exact h, hn, h1, h2⟩)
    · exact (lim_len v F P L w hv' h.lo h.hi h.len h.top h.ord (by omega)).mono fun e w' ⟨ov, h1, h2⟩ => Or.inr (Or.inr ⟨F, P, L, ov, by rw [← h.lim]; exact h, by omega, h1, h2⟩)
end Go.Proofs.Ytblbggdglndiiaa
