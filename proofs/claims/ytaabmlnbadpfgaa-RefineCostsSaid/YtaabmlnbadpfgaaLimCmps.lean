/- cmp.Compare of ints: its walk. limit.rarest's comparison: its walk. limit.row.first: its walk. -/
import Derived.Test.YtaabmlnbadpfgaaLaw
import Derived.RangeFuncBox
import Derived.Test.YtaabmlnbadpfgaaBO
import Derived.Deep.DeepMust
/-! cmp.Compare of ints: its walk. -/
namespace Go.Proofs.Ytaabmlnbadpfgaa
open Go.RowKit
set_option linter.unusedVariables false

theorem lim_nan (x : Int) (w : World) : Calls Try.prog 69 #[.int .i64 x] w fun e w' => e = .returned (.bool false) ∧ w = w' := by
  go_enter Try.func69, Try.ntmps69
  go_wp2_with fail
  go_ret
  exact ⟨rfl, rfl⟩
/-- less, alike, more. -/
def cmpI (x y : Int) : Int := if x < y then -1 else if y < x then 1 else 0
theorem lim_cmp (x y : Int) (w : World) : Calls Try.prog 66 #[.int .i64 x, .int .i64 y] w fun e w' => e = .returned (.int .i64 (cmpI x y)) ∧ w = w' := by
  by_cases h : x < y
  · rw [cmpI, if_pos h]
    go_enter Try.func66, Try.ntmps66
    go_wp2_with fail
    refine (lim_nan x _).mono ?_
    rintro e w' ⟨rfl, rfl⟩
    go_wp2_with fail
    refine (lim_nan y _).mono ?_
    rintro e w' ⟨rfl, rfl⟩
    go_wp2_with fail
    go_ret
    exact ⟨rfl, rfl⟩
  · by_cases h2 : y < x
    · rw [cmpI, if_neg h, if_pos h2]
      go_enter Try.func66, Try.ntmps66
      go_wp2_with fail
      refine (lim_nan x _).mono ?_
      rintro e w' ⟨rfl, rfl⟩
      go_wp2_with fail
      refine (lim_nan y _).mono ?_
      rintro e w' ⟨rfl, rfl⟩
      go_wp2_with fail
      go_ret
      exact ⟨rfl, rfl⟩
    · rw [cmpI, if_neg h, if_neg h2]
      go_enter Try.func66, Try.ntmps66
      go_wp2_with fail
      refine (lim_nan x _).mono ?_
      rintro e w' ⟨rfl, rfl⟩
      go_wp2_with fail
      refine (lim_nan y _).mono ?_
      rintro e w' ⟨rfl, rfl⟩
      go_wp2_with fail
      go_ret
      exact ⟨rfl, rfl⟩
end Go.Proofs.Ytaabmlnbadpfgaa

/-! limit.rarest's comparison: its walk. -/
namespace Go.Proofs.Ytaabmlnbadpfgaa
open Go.RowKit
set_option linter.unusedVariables false

def intsL (l : List Nat) : List Value := l.map fun (b : Nat) => Value.int .i64 b
theorem length_intsL (l : List Nat) : (intsL l).length = l.length := by simp [intsL]
theorem lim_cmp_q (x y : Int) (w : World) : Calls Try.prog 66 #[.int .i64 x, .int .i64 y] w fun e w' => e = .returned (.int .i64 (cmpI x y)) ∧ w' = w := (lim_cmp x y w).mono (by rintro e w' ⟨h1, h2⟩; exact ⟨h1, h2.symm⟩)
theorem lim_by (F : List Nat) (Bn : Nat) (fv : Value) (a b : Nat) (w : World) (hB : Boxed w Bn 23 fv) (hv : ViewL w fv (intsL F)) (ha : a < F.length) (hb : b < F.length) (hl : F.length ≤ 2 ^ 40) :
    Calls Try.prog 65 #[.int .i64 a, .int .i64 b, .pointer (some ⟨Bn, 0, none⟩)] w fun e w' => e = .returned (.int .i64 (cmpI (F.getD a 0) (F.getD b 0))) ∧ ∃ n, w' = w.drewN n := by
  obtain ⟨ao, cap, rfl⟩ := hv.shape
  rw [length_intsL] at *
  obtain ⟨ob, o, rfl, _, hc⟩ := viewL_cells hv (by rw [length_intsL]; omega)
  obtain ⟨x, hx⟩ : ∃ x, F[a]? = some x := ⟨_, List.getElem?_eq_getElem ha⟩
  obtain ⟨y, hy⟩ : ∃ y, F[b]? = some y := ⟨_, List.getElem?_eq_getElem hb⟩
  have c1 := hc a (.int .i64 x) (by simp [intsL, hx])
  have c2 := hc b (.int .i64 y) (by simp [intsL, hy])
  have hcB : w.cell? ⟨Bn, 0, none⟩ = some (.slice (some ⟨ob, o, none⟩) F.length cap) := by rw [World.cell?, hB]; rfl
  have a1 : (a : Int) < (F.length : Int) := by omega
  have b1 : (b : Int) < (F.length : Int) := by omega
  rw [List.getD_eq_getElem?_getD, List.getD_eq_getElem?_getD, hx, hy]
  simp only [Option.getD_some]
  clear hc hx hy hB hv
  go_enter Try.func65, Try.ntmps65
  go_wp2_with fail
  go_quiet (first | (go_at_call 66; exact Calls.quiet_of_same (lim_cmp_q _ _ _)))
  go_wp2_with fail
  go_ret
  exact ⟨rfl, _, rfl⟩
end Go.Proofs.Ytaabmlnbadpfgaa

/-! limit.row.first: its walk. -/
namespace Go.Proofs.Ytaabmlnbadpfgaa
open Go.RowKit
set_option linter.unusedVariables false

theorem lim_first (S : List Nat) (B o k : Nat) (sv : Value) (w : World) (hB : w.cell? ⟨B, o + 1, none⟩ = some sv) (hv : ViewL w sv (intsL S)) (hk : k ≤ S.length) (hl : S.length ≤ 2 ^ 40) :
    Calls Try.prog 61 #[.pointer (some ⟨B, o, none⟩), .int .i64 k] w fun e w' => e = .returned (.int .i64 (if k = 0 then 0 else (S.getD (k - 1) 0 : Nat) : Int)) ∧ w' = w := by
  by_cases h0 : k = 0
  · subst h0
    rw [if_pos rfl]
    go_enter Try.func61, Try.ntmps61
    go_wp2_with fail
    go_ret
    exact ⟨rfl, rfl⟩
  · rw [if_neg h0]
    obtain ⟨ao, cap, rfl⟩ := hv.shape
    rw [length_intsL] at *
    obtain ⟨ob, q, rfl, _, hc⟩ := viewL_cells hv (by rw [length_intsL]; omega)
    obtain ⟨j, rfl⟩ : ∃ j, k = j + 1 := ⟨k - 1, by omega⟩
    obtain ⟨x, hx⟩ : ∃ x, S[j]? = some x := ⟨_, List.getElem?_eq_getElem (by omega)⟩
    have c1 := hc j (.int .i64 x) (by simp [intsL, hx])
    rw [Nat.add_sub_cancel, List.getD_eq_getElem?_getD, hx]
    simp only [Option.getD_some]
    have h1 : ¬ (((j + 1 : Nat) : Int) = 0) := by omega
    have h2 : IntKind.i64.wrap (((j + 1 : Nat) : Int) - 1) = (j : Int) := by rw [show ((j + 1 : Nat) : Int) - 1 = j by omega]; exact IntWalk.i64_in _ (by omega)
    have h3 : (j : Int) < (S.length : Int) := by omega
    have h4 : (((j + 1 : Nat) : Int) == 0) = false := by rw [beq_eq_false_iff_ne]; omega
    clear hc hx hv h0
    go_enter Try.func61, Try.ntmps61
    go_wp2_with fail
    go_ret
    exact ⟨rfl, rfl⟩
end Go.Proofs.Ytaabmlnbadpfgaa
