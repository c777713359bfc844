/- limit.rarest's comparison: its walk. -/
import Derived.RangeFuncBox
import Derived.Test.YtblbggdglndiiaaLimCmp
import Derived.Test.YtblbggdglndiiaaBO
import Derived.Deep.DeepMust
namespace Go.Proofs.Ytblbggdglndiiaa
open Go.RowKit
set_option linter.unusedVariables false

def intsL (l : List Nat) : List Value := l.map fun (b : Nat) => Value.int .i64 b
theorem length_intsL (l : List Nat) : (intsL l).length = l.length := by simp [intsL]
theorem lim_cmp_q (x y : Int) (w : World) : Calls Try.prog 26 #[.int .i64 x, .int .i64 y] w fun e w' => e = .returned (.int .i64 (cmpI x y)) ∧ w' = w := (lim_cmp x y w).mono (by rintro e w' ⟨h1, h2⟩; exact ⟨h1, h2.symm⟩)
theorem lim_by (F : List Nat) (Bn : Nat) (fv : Value) (a b : Nat) (w : World) (hB : Boxed w Bn 24 fv) (hv : ViewL w fv (intsL F)) (ha : a < F.length) (hb : b < F.length) (hl : F.length ≤ 2 ^ 40) :
    Calls Try.prog 25 #[.int .i64 a, .int .i64 b, .pointer (some ⟨Bn, 0, none⟩)] w fun e w' => e = .returned (.int .i64 (cmpI (F.getD a 0) (F.getD b 0))) ∧ ∃ n, w' = w.drewN n := by
  obtain ⟨ao, cap, rfl⟩ := hv.shape
  rw [length_intsL] at *
  obtain ⟨ob, o, rfl, _, hc⟩ := viewL_cells hv (by rw [length_intsL]; omega)
  obtain ⟨x, hx⟩ : ∃ x, F[a]? = some x := ⟨_, List.getElem?_eq_getElem ha⟩
  obtain ⟨y, hy⟩ : ∃ y, F[b]? = some y := ⟨_, List.getElem?_eq_getElem hb⟩
  have c1 := hc a (.int .i64 x) (by simp [intsL, hx])
  have c2 := hc b (.int .i64 y) (by simp [intsL, hy])
  have hcB : w.cell? ⟨Bn, 0, none⟩ = some (.slice (some ⟨ob, o, none⟩) F.length cap) := by rw [World.cell?, hB]; rfl
  have a1 : (a : Int) < (F.length : Int) := by omega
  have b1 : (b : Int) < (F.length : Int) := by omega
  rw [List.getD_eq_getElem?_getD, List.getD_eq_getElem?_getD, hx, hy]
  simp only [Option.getD_some]
  clear hc hx hy hB hv
  go_enter Try.func25, Try.ntmps25
  go_wp2_with fail
  go_quiet (first | (go_at_call 26; exact Calls.quiet_of_same (lim_cmp_q _ _ _)))
  go_wp2_with fail
  go_ret
  exact ⟨rfl, _, rfl⟩
end Go.Proofs.Ytblbggdglndiiaa
