/- limit.row.first: its walk. -/
import Derived.Test.YtblbggdglndiiaaLimBy
namespace Go.Proofs.Ytblbggdglndiiaa
open Go.RowKit
set_option linter.unusedVariables false

theorem lim_first (S : List Nat) (B o k : Nat) (sv : Value) (w : World) (hB : w.cell? ⟨B, o + 1, none⟩ = some sv) (hv : ViewL w sv (intsL S)) (hk : k ≤ S.length) (hl : S.length ≤ 2 ^ 40) :
    Calls Try.prog 19 #[.pointer (some ⟨B, o, none⟩), .int .i64 k] w fun e w' => e = .returned (.int .i64 (if k = 0 then 0 else (S.getD (k - 1) 0 : Nat) : Int)) ∧ w' = w := by
  by_cases h0 : k = 0
  · subst h0
    rw [if_pos rfl]
    go_enter Try.func19, Try.ntmps19
    go_wp2_with fail
    go_ret
    exact ⟨rfl, rfl⟩
  · rw [if_neg h0]
    obtain ⟨ao, cap, rfl⟩ := hv.shape
    rw [length_intsL] at *
    obtain ⟨ob, q, rfl, _, hc⟩ := viewL_cells hv (by rw [length_intsL]; omega)
    obtain ⟨j, rfl⟩ : ∃ j, k = j + 1 := ⟨k - 1, by omega⟩
    obtain ⟨x, hx⟩ : ∃ x, S[j]? = some x := ⟨_, List.getElem?_eq_getElem (by omega)⟩
    have c1 := hc j (.int .i64 x) (by simp [intsL, hx])
    rw [Nat.add_sub_cancel, List.getD_eq_getElem?_getD, hx]
    simp only [Option.getD_some]
    have h1 : ¬ (((j + 1 : Nat) : Int) = 0) := by omega
    have h2 : IntKind.i64.wrap (((j + 1 : Nat) : Int) - 1) = (j : Int) := by rw [show ((j + 1 : Nat) : Int) - 1 = j by omega]; exact IntWalk.i64_in _ (by omega)
    have h3 : (j : Int) < (S.length : Int) := by omega
    have h4 : (((j + 1 : Nat) : Int) == 0) = false := by rw [beq_eq_false_iff_ne]; omega
    clear hc hx hv h0
    go_enter Try.func19, Try.ntmps19
    go_wp2_with fail
    go_ret
    exact ⟨rfl, rfl⟩
end Go.Proofs.Ytblbggdglndiiaa
