/- pressworklaw01.LsbNil: its walk. -/
import Derived.Test.YtnmibfdpaamlgaaLsbAdd
import Derived.Test.YtnmibfdpaamlgaaLsbLays
import Derived.Deep.RegionWith
namespace Go.Proofs.Ytnmibfdpaamlgaa
open Go.RowKit

set_option maxHeartbeats 1000000 in
theorem lsb_nil (v : Nat) (n : Int) (w : World) (_hv : v < 2 ^ 32) (_hn : -9223372036854775808 ≤ n ∧ n ≤ 9223372036854775807) :
    Calls Try.prog 15 #[.int .u32 v, .int .i64 n] w fun e w' => e = .returned (.bool true) ∧ Ext w w' := by
  go_enter Try.func15, Try.ntmps15
  go_wp2_with (first
    | (go_at_call 28; refine (lsb_ralign_nil _).mono ?_; rintro e w' ⟨rfl, rfl⟩)
    | (go_at_call 20; refine (lsb_get_nil _ _).mono ?_; rintro e w' ⟨rfl, rfl⟩)
    | (go_at_call 17; refine (lsb_put_nil _ _ _).mono ?_; rintro e w' ⟨rfl, rfl⟩)
    | (go_at_call 38; refine (lsb_align_nil _).mono ?_; rintro e w' ⟨rfl, rfl⟩)
    | (go_at_call_of 41 (Value.pointer none); first | (with_reducible refine (lsb_add_nil _ _).mono ?_; rintro e w' ⟨rfl, rfl⟩) | (with_reducible refine (lsb_add_nil2 _ _).mono ?_; rintro e w' ⟨rfl, rfl⟩))
    | (go_at_call 37; refine (lsb_len_nil _).mono ?_; rintro e w' ⟨rfl, rfl⟩)
    | (go_at_call 19; refine (lsb_bytes_nil _).mono ?_; rintro e w' ⟨rfl, rfl⟩)
    | (go_at_call 30; refine (lsb_at_nil _).mono ?_; rintro e w' ⟨rfl, rfl⟩)
    | (go_at_call 31; refine (lsb_left_nil _).mono ?_; rintro e w' ⟨rfl, rfl⟩)
    | (go_at_call 21; refine (lsb_lays _).mono ?_; rintro e wl ⟨rfl, hx⟩; have HX := Lib.hid hx; clear hx))
  go_ret
  exact ⟨rfl, ((Ext.refl w).alloc _).trans HX.out⟩
end Go.Proofs.Ytnmibfdpaamlgaa
