/- cmp.Compare of ints: its walk. -/
import Derived.Test.YtblbggdglndiiaaLaw
namespace Go.Proofs.Ytblbggdglndiiaa
open Go.RowKit
set_option linter.unusedVariables false

theorem lim_nan (x : Int) (w : World) : Calls Try.prog 31 #[.int .i64 x] w fun e w' => e = .returned (.bool false) ∧ w = w' := by
  go_enter Try.func31, Try.ntmps31
  go_wp2_with fail
  go_ret
  exact ⟨rfl, rfl⟩
/-- less, alike, more. -/
def cmpI (x y : Int) : Int := if x < y then -1 else if y < x then 1 else 0
theorem lim_cmp (x y : Int) (w : World) : Calls Try.prog 26 #[.int .i64 x, .int .i64 y] w fun e w' => e = .returned (.int .i64 (cmpI x y)) ∧ w = w' := by
  by_cases h : x < y
  · rw [cmpI, if_pos h]
    go_enter Try.func26, Try.ntmps26
    go_wp2_with fail
    refine (lim_nan x _).mono ?_
    rintro e w' ⟨rfl, rfl⟩
    go_wp2_with fail
    refine (lim_nan y _).mono ?_
    rintro e w' ⟨rfl, rfl⟩
    go_wp2_with fail
    go_ret
    exact ⟨rfl, rfl⟩
  · by_cases h2 : y < x
    · rw [cmpI, if_neg h, if_pos h2]
      go_enter Try.func26, Try.ntmps26
      go_wp2_with fail
      refine (lim_nan x _).mono ?_
      rintro e w' ⟨rfl, rfl⟩
      go_wp2_with fail
      refine (lim_nan y _).mono ?_
      rintro e w' ⟨rfl, rfl⟩
      go_wp2_with fail
      go_ret
      exact ⟨rfl, rfl⟩
    · rw [cmpI, if_neg h, if_neg h2]
      go_enter Try.func26, Try.ntmps26
      go_wp2_with fail
      refine (lim_nan x _).mono ?_
      rintro e w' ⟨rfl, rfl⟩
      go_wp2_with fail
      refine (lim_nan y _).mono ?_
      rintro e w' ⟨rfl, rfl⟩
      go_wp2_with fail
      go_ret
      exact ⟨rfl, rfl⟩
end Go.Proofs.Ytblbggdglndiiaa
