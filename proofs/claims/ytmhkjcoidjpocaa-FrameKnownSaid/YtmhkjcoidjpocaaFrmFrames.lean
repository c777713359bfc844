/- The law's example (frames): its walk. -/
import Derived.Test.YtmhkjcoidjpocaaFrmGet
import Derived.Test.YtmhkjcoidjpocaaFrmSame
import Derived.Test.YtmhkjcoidjpocaaFrmRefPut
import Derived.Test.YtmhkjcoidjpocaaFrmPlain
import Derived.Lib.SlBytesConst
namespace Go.Proofs.Ytmhkjcoidjpocaa
open Go.RowKit
set_option linter.unusedVariables false
set_option linter.unusedSimpArgs false

def hdA : Hd := { text := false, time := 0, xfl := 0, os := 3, extra := [], name := ⟨#[97]⟩, comment := ⟨#[]⟩, has := 2, sum := false }
theorem hdA_ok : HOk hdA := ⟨by decide, by decide, by decide, by decide, by simp [hdA]⟩
theorem hdA_may : MayH hdA := by decide +kernel
theorem hdA_put : putH hdA = [31, 139, 8, 8, 0, 0, 0, 0, 0, 3, 97, 0] := by decide +kernel
theorem hdA_get : getH [31, 139, 8, 8, 0, 0, 0, 0, 0, 3, 97, 0, 109, 111, 114, 101] = some (hdA, 12, false) := by
  have := getH_putH hdA hdA_ok hdA_may [109, 111, 114, 101]
  rw [hdA_put] at this
  exact this
theorem tail_nine : tailL [49, 50, 51, 52, 53, 54, 55, 56, 57] = [38, 57, 244, 203, 9, 0, 0, 0] := by decide +kernel
theorem viewL_nil8 (w : World) : ViewL w (.slice none 0 0) (u8s []) := ⟨none, 0, rfl, Nat.le_refl _, fun _ => rfl, fun h => by simp [u8s] at h⟩
set_option maxHeartbeats 8000000 in
theorem frm_frames (w : World) : Calls Try.prog 14 #[] w fun e w' => e = .returned (.bool true) ∧ Ext w w' := by
  have hput : ∀ wx, Calls Try.prog 11 #[.agg #[.bool false, .int .u32 0, .int .u8 0, .int .u8 3, .slice none 0 0, .string ⟨#[97]⟩, .string ⟨#[]⟩, .int .u8 2, .bool false]] wx fun e w' => ∃ v, e = .returned (.tuple #[v, .int .i64 0]) ∧ CloneOf wx [31, 139, 8, 8, 0, 0, 0, 0, 0, 3, 97, 0] (.returned v) w' := fun wx => by
    have h := frm_put hdA none 0 wx hdA_ok (viewL_nil8 wx) (by decide)
    simp only [if_pos hdA_may, hdA_put] at h
    exact h
  have HPUT := Lib.hid hput
  have hget : ∀ wx, Calls Try.prog 15 #[.slice (some ⟨wx.heap.size, 0, none⟩) 16 16] (wx.alloc (.cells #[.int .u8 31, .int .u8 139, .int .u8 8, .int .u8 8, .int .u8 0, .int .u8 0, .int .u8 0, .int .u8 0, .int .u8 0, .int .u8 3, .int .u8 97, .int .u8 0, .int .u8 109, .int .u8 111, .int .u8 114, .int .u8 101] 5 (16, 17))) fun e w' => ∃ so sc, e = .returned (.tuple #[.agg #[.bool false, .int .u32 0, .int .u8 0, .int .u8 3, .slice so 0 sc, .string ⟨#[97]⟩, .string ⟨#[]⟩, .int .u8 2, .bool false], .int .i64 12, .bool false, .int .i64 0]) ∧ Ext wx w' := fun wx => by
    refine (frm_get _ [31, 139, 8, 8, 0, 0, 0, 0, 0, 3, 97, 0, 109, 111, 114, 101] _ ((view_new wx _ 5 (16, 17)).viewL (fun a n c e => by cases e; exact Nat.le_refl _)) (by decide) (by decide)).mono ?_
    intro e w' h
    unfold GotH at h
    rw [hdA_get] at h
    obtain ⟨ev, og, rfl, h1, h2, h3⟩ := h
    obtain ⟨so, sc, rfl⟩ := h1.shape
    exact ⟨so, sc, rfl, Touch.alloc_l h3⟩
  have HGET := Lib.hid hget
  clear hput hget
  go_enter Try.func14, Try.ntmps14
  go_wp2_with fail
  refine (HPUT.out _).mono ?_
  rintro e w1 ⟨v1, rfl, hc1⟩
  have HC1 := Lib.hid hc1
  clear hc1
  have kc := Go.Lib.run_convert_bytes_const (P := Try.prog) w1 23 5 #[.int .u8 31, .int .u8 139, .int .u8 8, .int .u8 8, .int .u8 0, .int .u8 0, .int .u8 0, .int .u8 0, .int .u8 0, .int .u8 3, .int .u8 97, .int .u8 0, .int .u8 109, .int .u8 111, .int .u8 114, .int .u8 101] 16 16 Try.underlying23 Try.underlying5
  go_wp2_with fail
  refine (HGET.out _).mono ?_
  rintro e w2 ⟨so, sc, rfl, hx2⟩
  clear kc
  have HX2 := Lib.hid hx2
  have hc2 := CloneOf.ext' HC1.out hx2
  obtain ⟨_, og1, e1, k1, _, _⟩ := hc2
  cases e1
  have hs1 := run_string_view (P := Try.prog) 23 9 5 (viewL_view8 (k1.viewL.ext ((Ext.refl w2).alloc (.cells #[.bool false, .int .u32 0, .int .u8 0, .int .u8 3, .slice so 0 sc, .string ⟨#[97]⟩, .string ⟨#[]⟩, .int .u8 2, .bool false] 25)))) Try.underlying23 Try.underlying5 Try.underlying9
  have hq1 : ((strOf [31, 139, 8, 8, 0, 0, 0, 0, 0, 3, 97, 0]).toList == [31, 139, 8, 8, 0, 0, 0, 0, 0, 3, 97, 0]) = true := by rw [strOf_toList]; decide
  have HXA := Lib.hid ((ext_of HC1.out).trans hx2)
  have kc := Go.Lib.run_convert_bytes_const (P := Try.prog) (w2.alloc (.cells #[.bool false, .int .u32 0, .int .u8 0, .int .u8 3, .slice so 0 sc, .string ⟨#[97]⟩, .string ⟨#[]⟩, .int .u8 2, .bool false] 25)) 23 5 #[.int .u8 49, .int .u8 50, .int .u8 51, .int .u8 52, .int .u8 53, .int .u8 54, .int .u8 55, .int .u8 56, .int .u8 57] 9 9 Try.underlying23 Try.underlying5
  rw [World.size_alloc] at kc
  have htl : ∀ wx : World, Calls Try.prog 19 #[.slice (some ⟨wx.heap.size, 0, none⟩) 9 9] (wx.alloc (.cells #[.int .u8 49, .int .u8 50, .int .u8 51, .int .u8 52, .int .u8 53, .int .u8 54, .int .u8 55, .int .u8 56, .int .u8 57] 5 (9, 10))) fun e w' => ∃ v, e = .returned v ∧ CloneOf wx [38, 57, 244, 203, 9, 0, 0, 0] (.returned v) w' := fun wx => by
    have h := frm_tail _ [49, 50, 51, 52, 53, 54, 55, 56, 57] _ ((view_new wx [49, 50, 51, 52, 53, 54, 55, 56, 57] 5 (9, 10)).viewL (fun a n c e => by cases e; exact Nat.le_refl _)) (by decide) (by decide)
    rw [tail_nine] at h
    refine h.mono fun e w' hc => ?_
    obtain ⟨v, og, rfl, q1, q2, q3⟩ := hc
    exact ⟨v, rfl, clone_up ⟨v, og, rfl, q1, q2, q3⟩ ((Ext.refl wx).alloc _)⟩
  have HTL := Lib.hid (htl (w2.alloc (.cells #[.bool false, .int .u32 0, .int .u8 0, .int .u8 3, .slice so 0 sc, .string ⟨#[97]⟩, .string ⟨#[]⟩, .int .u8 2, .bool false] 25)))
  clear k1 htl hx2
  go_wp2_with fail
  rw [World.size_alloc] at HTL
  refine HTL.out.mono ?_
  rintro e w3 ⟨v3, rfl, hc3⟩
  have HX3 := Lib.hid (HXA.out.trans (((Ext.refl w2).alloc _).trans (ext_of hc3)))
  have hs3 := run_string_view (P := Try.prog) 23 9 5 (viewL_view8 (CloneOf.viewL hc3)) Try.underlying23 Try.underlying5 Try.underlying9
  have hq3 : ((strOf [38, 57, 244, 203, 9, 0, 0, 0]).toList == [38, 57, 244, 203, 9, 0, 0, 0]) = true := by rw [strOf_toList]; decide
  clear hc3
  go_wp2_with fail
  go_ret
  exact ⟨rfl, HX3.out⟩
end Go.Proofs.Ytmhkjcoidjpocaa
