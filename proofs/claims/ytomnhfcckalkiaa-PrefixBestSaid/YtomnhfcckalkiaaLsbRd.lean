/- lsb.Reader: New, Align, At, Left, Get. -/
import Derived.Test.YtomnhfcckalkiaaReader
import Derived.Test.YtomnhfcckalkiaaClone
import Derived.Test.YtomnhfcckalkiaaRows
import Derived.Outline
import Derived.Deep.DeepMust
import Derived.BigQuiet
namespace Go.Proofs.Ytomnhfcckalkiaa
open Go.RowKit

theorem lsb_new (v : Value) (bs : List Nat) (w : World) (hv : View w v bs) (hl : bs.length ≤ 2 ^ 46) :
    Calls Try.prog 20 #[v] w (NewR 77 w bs) := by
  have HV := Lib.hid hv; clear hv
  go_enter Try.func20, Try.ntmps20
  go_wp2_with fail
  refine (clone v bs w HV.out hl).mono ?_
  rintro e w' ⟨u, og', rfl, k1, k2, k3⟩
  obtain ⟨ao, cap, rfl⟩ := k1.shape
  have K1 := Lib.hid k1
  have K2 := Lib.hid k2
  have K3 := Lib.hid k3
  clear k1 k2 k3
  go_wp2_with fail
  go_ret
  exact new_post K1.out K2.out K3.out
theorem lsb_at (B : Nat) (og : Option Nat) (bs : List Nat) (i : Nat) (w : World) (hr : IsR 77 w B og bs i) :
    Calls Try.prog 24 #[.pointer (some ⟨B, 0, none⟩)] w fun e w' => e = .returned (.int .i64 i) ∧ w = w' := by
  obtain ⟨v, h1, _, _⟩ := hr
  have hc1 : w.cell? ⟨B, 1, none⟩ = some (.int .i64 i) := by simp [World.cell?, h1]
  clear h1
  go_enter Try.func24, Try.ntmps24
  go_wp2_with fail
  go_ret
  exact ⟨rfl, rfl⟩
theorem lsb_at_nil (w : World) : Calls Try.prog 24 #[.pointer none] w fun e w' => e = .returned (.int .i64 0) ∧ w = w' := by
  go_enter Try.func24, Try.ntmps24
  go_wp2_with fail
  go_ret
  exact ⟨rfl, rfl⟩
theorem lsb_left (B : Nat) (og : Option Nat) (bs : List Nat) (i : Nat) (w : World) (hr : IsR 77 w B og bs i) (hl : bs.length ≤ 2 ^ 46) (hi : i ≤ 8 * bs.length) :
    Calls Try.prog 52 #[.pointer (some ⟨B, 0, none⟩)] w fun e w' => e = .returned (.int .i64 (8 * bs.length - i)) ∧ Drew w w' := by
  obtain ⟨v, h1, h2, _⟩ := hr
  have hc0 : w.cell? ⟨B, 0, none⟩ = some v := by simp [World.cell?, h1]
  have hc1 : w.cell? ⟨B, 1, none⟩ = some (.int .i64 i) := by simp [World.cell?, h1]
  obtain ⟨ao, cap, rfl⟩ : ∃ ao cap, v = .slice ao bs.length cap := by
    rcases h2.form with ⟨_, rfl, h0, _⟩ | ⟨g, cap, _, _, rfl, _⟩
    · exact ⟨none, 0, by rw [h0]⟩
    · exact ⟨_, _, rfl⟩
  clear h1 h2
  have k1 : IntKind.i64.wrap (8 * (bs.length : Int)) = 8 * (bs.length : Int) := IntWalk.i64_in _ (by omega)
  have k2 : IntKind.i64.wrap (8 * (bs.length : Int) - i) = 8 * (bs.length : Int) - i := IntWalk.i64_in _ (by omega)
  go_enter Try.func52, Try.ntmps52
  go_wp2_with fail
  go_quiet (fail)
  go_wp2_with fail
  go_ret
  exact ⟨rfl, ⟨_, rfl⟩⟩
theorem lsb_left_nil (w : World) : Calls Try.prog 52 #[.pointer none] w fun e w' => e = .returned (.int .i64 0) ∧ w = w' := by
  go_enter Try.func52, Try.ntmps52
  go_wp2_with fail
  go_ret
  exact ⟨rfl, rfl⟩
end Go.Proofs.Ytomnhfcckalkiaa
