/- tables.GetSelectors: its walk. -/
import Derived.Test.YteabjmebnbaonaaTabChosen
namespace Go.Proofs.Yteabjmebnbaonaa
open Go.RowKit
set_option linter.unusedVariables false

def SGn (w : World) (B : Nat) (og : Option Nat) (bs : List Nat) (r : Option (List Nat × Nat)) (e : Ending) (w' : World) : Prop :=
  (∃ l q v, r = some (l, q) ∧ e = .returned (.tuple #[v, .int .i64 0]) ∧ GS w B og bs l q v w') ∨
  (∃ q, r = none ∧ e = .returned (.tuple #[.slice none 0 0, .int .i64 2]) ∧ RPost 67 w B og bs q w' ∧ q ≤ 8 * bs.length)
theorem tab_gets_nil (n : Int) (w : World) : Calls Try.prog 38 #[.pointer none, .int .i64 n] w fun e w' => e = .returned (.tuple #[.slice none 0 0, .int .i64 8]) ∧ w = w' := by
  go_enter Try.func38, Try.ntmps38
  go_wp2_with fail
  go_ret2
  exact ⟨rfl, rfl⟩
theorem tab_gets_arg (B : Nat) (n : Int) (w : World) (h : n < 2 ∨ 6 < n) : Calls Try.prog 38 #[.pointer (some ⟨B, 0, none⟩), .int .i64 n] w fun e w' => e = .returned (.tuple #[.slice none 0 0, .int .i64 5]) ∧ w = w' := by
  by_cases h1 : n < 2
  · go_enter Try.func38, Try.ntmps38
    go_wp2_with fail
    go_ret2
    exact ⟨rfl, rfl⟩
  · have h2 : 6 < n := by omega
    go_enter Try.func38, Try.ntmps38
    go_wp2_with fail
    go_ret2
    exact ⟨rfl, rfl⟩
theorem tab_gets (B : Nat) (og : Option Nat) (bs : List Nat) (p n : Nat) (w : World) (hr : IsR 67 w B og bs p) (hl : bs.length ≤ 2 ^ 20) (hb : ∀ b ∈ bs, b < 256) (hp : p ≤ 8 * bs.length) (hn : 2 ≤ n) (hn2 : n ≤ 6) :
    Calls Try.prog 38 #[.pointer (some ⟨B, 0, none⟩), .int .i64 n] w (SGn w B og bs (gSel (rbit true bs) (8 * bs.length) p n)) := by
  have h1 : ¬ (n : Int) < 2 := by omega
  have h2 : ¬ (6 : Int) < (n : Int) := by omega
  have HC := tab_chosen B og bs p n w hr hl hb hp hn hn2
  generalize gSel (rbit true bs) (8 * bs.length) p n = G at *
  clear hr hb
  go_enter Try.func38, Try.ntmps38
  go_wp2_with fail
  refine HC.mono ?_
  clear HC
  rintro e w1 (⟨l, q, v, hg, rfl, hgb⟩ | ⟨q, v, hg, rfl, hrp, hq⟩)
  · obtain ⟨ao, cap, rfl⟩ := hgb.choose_spec.1.shape
    have HG := Lib.hid hg
    have HGB := Lib.hid hgb
    clear hg hgb
    go_wp2_with fail
    go_ret2
    exact Or.inl ⟨l, q, _, HG.out, rfl, HGB.out⟩
  · have HG := Lib.hid hg
    have HRP := Lib.hid hrp
    clear hg hrp
    go_wp2_with fail
    go_ret2
    exact Or.inr ⟨q, HG.out, rfl, HRP.out, hq⟩
end Go.Proofs.Yteabjmebnbaonaa
