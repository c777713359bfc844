/- tables.GetLengths: its walk. -/
import Derived.Test.YteabjmebnbaonaaTabLens
namespace Go.Proofs.Yteabjmebnbaonaa
open Go.RowKit
set_option linter.unusedVariables false

def LGn (w : World) (B : Nat) (og : Option Nat) (bs : List Nat) (r : Option (List Nat × Nat)) (e : Ending) (w' : World) : Prop :=
  (∃ l q v, r = some (l, q) ∧ e = .returned (.tuple #[v, .int .i64 0]) ∧ GB w B og bs l q v w') ∨
  (∃ q, r = none ∧ e = .returned (.tuple #[.slice none 0 0, .int .i64 2]) ∧ RPost 67 w B og bs q w' ∧ q ≤ 8 * bs.length)
theorem tab_get_nil (n : Int) (w : World) : Calls Try.prog 37 #[.pointer none, .int .i64 n] w fun e w' => e = .returned (.tuple #[.slice none 0 0, .int .i64 8]) ∧ w = w' := by
  go_enter Try.func37, Try.ntmps37
  go_wp2_with fail
  go_ret2
  exact ⟨rfl, rfl⟩
theorem tab_get_arg (B : Nat) (n : Int) (w : World) (h : n < 3 ∨ 258 < n) : Calls Try.prog 37 #[.pointer (some ⟨B, 0, none⟩), .int .i64 n] w fun e w' => e = .returned (.tuple #[.slice none 0 0, .int .i64 5]) ∧ w = w' := by
  by_cases h1 : n < 3
  · go_enter Try.func37, Try.ntmps37
    go_wp2_with fail
    go_ret2
    exact ⟨rfl, rfl⟩
  · have h2 : 258 < n := by omega
    go_enter Try.func37, Try.ntmps37
    go_wp2_with fail
    go_ret2
    exact ⟨rfl, rfl⟩
theorem tab_get (B : Nat) (og : Option Nat) (bs : List Nat) (p n : Nat) (w : World) (hr : IsR 67 w B og bs p) (hl : bs.length ≤ 2 ^ 20) (hb : ∀ b ∈ bs, b < 256) (hp : p ≤ 8 * bs.length) (hn : 3 ≤ n) (hn2 : n ≤ 258) :
    Calls Try.prog 37 #[.pointer (some ⟨B, 0, none⟩), .int .i64 n] w (LGn w B og bs (gLens (rbit true bs) (8 * bs.length) p n)) := by
  have h1 : ¬ (n : Int) < 3 := by omega
  have h2 : ¬ (258 : Int) < (n : Int) := by omega
  have HC := tab_lengths B og bs p n w hr hl hb hp (by omega)
  generalize gLens (rbit true bs) (8 * bs.length) p n = G at *
  clear hr hb
  go_enter Try.func37, Try.ntmps37
  go_wp2_with fail
  refine HC.mono ?_
  clear HC
  rintro e w1 (⟨l, q, v, hg, rfl, hgb⟩ | ⟨q, v, hg, rfl, hrp, hq⟩)
  · obtain ⟨ao, cap, rfl⟩ := hgb.choose_spec.1.shape
    have HG := Lib.hid hg
    have HGB := Lib.hid hgb
    clear hg hgb
    go_wp2_with fail
    go_ret2
    exact Or.inl ⟨l, q, _, HG.out, rfl, HGB.out⟩
  · have HG := Lib.hid hg
    have HRP := Lib.hid hrp
    clear hg hrp
    go_wp2_with fail
    go_ret2
    exact Or.inr ⟨q, HG.out, rfl, HRP.out, hq⟩
end Go.Proofs.Yteabjmebnbaonaa
