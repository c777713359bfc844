/- pressworklaw02.MsbNil: its walk. -/
import Derived.Test.YtnmibfdpaamlgaaMsbAdd
import Derived.Test.YtnmibfdpaamlgaaMsbLays
import Derived.Deep.RegionWith
namespace Go.Proofs.Ytnmibfdpaamlgaa
open Go.RowKit

set_option maxHeartbeats 1000000 in
theorem msb_nil (v : Nat) (n : Int) (w : World) (_hv : v < 2 ^ 32) (_hn : -9223372036854775808 ≤ n ∧ n ≤ 9223372036854775807) :
    Calls Try.prog 16 #[.int .u32 v, .int .i64 n] w fun e w' => e = .returned (.bool true) ∧ Ext w w' := by
  go_enter Try.func16, Try.ntmps16
  go_wp2_with (first
    | (go_at_call 33; refine (msb_ralign_nil _).mono ?_; rintro e w' ⟨rfl, rfl⟩)
    | (go_at_call 25; refine (msb_get_nil _ _).mono ?_; rintro e w' ⟨rfl, rfl⟩)
    | (go_at_call 22; refine (msb_put_nil _ _ _).mono ?_; rintro e w' ⟨rfl, rfl⟩)
    | (go_at_call 40; refine (msb_align_nil _).mono ?_; rintro e w' ⟨rfl, rfl⟩)
    | (go_at_call_of 42 (Value.pointer none); first | (with_reducible refine (msb_add_nil _ _).mono ?_; rintro e w' ⟨rfl, rfl⟩) | (with_reducible refine (msb_add_nil2 _ _).mono ?_; rintro e w' ⟨rfl, rfl⟩))
    | (go_at_call 39; refine (msb_len_nil _).mono ?_; rintro e w' ⟨rfl, rfl⟩)
    | (go_at_call 24; refine (msb_bytes_nil _).mono ?_; rintro e w' ⟨rfl, rfl⟩)
    | (go_at_call 35; refine (msb_at_nil _).mono ?_; rintro e w' ⟨rfl, rfl⟩)
    | (go_at_call 36; refine (msb_left_nil _).mono ?_; rintro e w' ⟨rfl, rfl⟩)
    | (go_at_call 26; refine (msb_lays _).mono ?_; rintro e wl ⟨rfl, hx⟩; have HX := Lib.hid hx; clear hx))
  go_ret
  exact ⟨rfl, ((Ext.refl w).alloc _).trans HX.out⟩
end Go.Proofs.Ytnmibfdpaamlgaa
