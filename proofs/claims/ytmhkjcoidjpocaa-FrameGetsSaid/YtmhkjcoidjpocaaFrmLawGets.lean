/- FrameGets: the law's walk. -/
import Derived.Test.YtmhkjcoidjpocaaFrmRes
namespace Go.Proofs.Ytmhkjcoidjpocaa
open Go.RowKit
set_option linter.unusedVariables false
set_option linter.unusedSimpArgs false

set_option maxHeartbeats 4000000 in
theorem frm_law_gets (v : Value) (bs : List Nat) (w : World) (hv : View w v bs ∧ ViewL w v (u8s bs)) (hb : ∀ b ∈ bs, b < 256) (hbl : bs.length ≤ 140737488351232) :
    Calls Try.prog 4 #[v] w fun e w' => e = .returned (.bool true) ∧ Ext w w' := by
  obtain ⟨i0, hi, hz0, hz1, hz2⟩ := info_parts info_u8
  obtain ⟨bo, bcap, rfl⟩ := hv.2.shape
  simp only [length_u8s] at *
  have HV := Lib.hid hv.2
  have HB := Lib.hid hb
  clear hv hb
  by_cases h1 : bs.length ≤ 2000
  · have h1i : ¬ (2000 : Int) < (bs.length : Int) := by omega
    have HOWN := Lib.hid (show (w.alloc (.cells #[] 5)).ownsRow w.heap.size 5 1 (.slice (some ⟨w.heap.size, 0, none⟩) 0 0) 0 [] from World.ownsRow_made w #[] 0 (Nat.le_refl _) (by decide) rfl)
    have HVE := Lib.hid (HV.out.ext ((Ext.refl w).alloc (.cells #[] 5)))
    go_enter Try.func4, Try.ntmps4
    go_wp2_with (at_builtin; go_must (refine wpList_append_view _ rfl (.tmp 15) (.tmp 16) 23 rfl w.heap.size 5 i0 (.int .u8 0) 1 Try.underlying23 hi hz0 hz1 hz2 rfl _ 0 [] rfl HOWN.out _ (u8s bs) rfl HVE.out (u8s_one _) (by rw [length_u8s]; unfold maxLen; omega) (by rw [length_u8s]; omega) (by rw [World.size_alloc]; omega) ?_))
    intro v' w2 hown' hgrow hat
    have hc := copy_bo (Ext.refl w) hown' hgrow
    have HX2 := Lib.hid (ext_of hc)
    have hv2 := CloneOf.viewL hc
    obtain ⟨ao, ac, e2⟩ := hv2.shape
    rw [length_u8s] at e2
    subst e2
    have HV2 := Lib.hid hv2
    clear hown' hgrow hat hc hv2 HOWN HVE
    have HOKR := Lib.hid (res_ok bs HB.out)
    obtain ⟨R, hR⟩ : ∃ R, R = resH bs := ⟨_, rfl⟩
    have HG1 := Lib.hid (fun wx (hx : Ext w2 wx) => frm_get_res (.slice ao bs.length ac) bs wx (HV2.out.ext hx) (by omega) HB.out)
    have HG2 := Lib.hid (fun wx (hx : Ext w wx) => frm_ref_get_res (.slice bo bs.length bcap) bs wx (HV.out.ext hx) (by omega) HB.out)
    rw [← hR] at HG1 HG2 HOKR
    clear hR
    go_wp2_with fail
    refine (HG1.out _ (Ext.refl _)).mono ?_
    rintro e w3 ⟨so, sc, og, rfl, k1, k2, k3⟩
    have HK1 := Lib.hid k1.viewL
    have HX3 := Lib.hid k3
    clear k1 k2 k3
    go_wp2_with fail
    refine (HG2.out _ (HX2.out.trans (HX3.out.alloc _))).mono ?_
    rintro e w4 ⟨ro, rc, og4, rfl, k1, k2, k3⟩
    have HK2 := Lib.hid k1.viewL
    have hbx : IsBox w4 w3.heap.size R.h (.slice so R.h.extra.length sc) := head_box k3
    have HX4 := Lib.hid ((Ext.refl w3).alloc (.cells (hcells R.h (.slice so R.h.extra.length sc)) 25) |>.trans k3)
    obtain ⟨c0, c1, c2, c3, c4, c5, c6, c7, c8⟩ := head_cells hbx
    have hlt := block_lt hbx
    clear k1 k2 k3 hbx
    go_wp2_with fail
    refine (frm_same R.h R.h so ro sc rc _ ((HK1.out.ext HX4.out).ext ((Ext.refl w4).alloc _)) (HK2.out.ext ((Ext.refl w4).alloc _)) HOKR.out HOKR.out).mono ?_
    rintro e w5 ⟨rfl, hx5⟩
    rw [decide_eq_true (rfl : R.h = R.h)]
    have HX5 := Lib.hid ((((HX2.out.trans HX3.out).trans HX4.out).trans ((Ext.refl w4).alloc _)).trans hx5)
    have HX25 := Lib.hid (((HX3.out.trans HX4.out).trans ((Ext.refl w4).alloc _)).trans hx5)
    have hs1 := run_string_view (P := Try.prog) 23 9 5 (viewL_view8 (HV2.out.ext HX25.out)) Try.underlying23 Try.underlying5 Try.underlying9
    have hs2 := run_string_view (P := Try.prog) 23 9 5 (viewL_view8 (HV.out.ext HX5.out)) Try.underlying23 Try.underlying5 Try.underlying9
    have hq : ((strOf bs).toList == (strOf bs).toList) = true := by simp
    clear hx5 c0 c1 c2 c3 c4 c5 c6 c7 c8
    go_wp2_with fail
    refine (frm_frames _).mono ?_
    rintro e w6 ⟨rfl, hx6⟩
    have HX6 := Lib.hid (HX5.out.trans hx6)
    clear hx6 hs1 hs2
    go_wp2_with fail
    go_ret
    exact ⟨rfl, HX6.out⟩
  · have h1i : (2000 : Int) < (bs.length : Int) := by omega
    go_enter Try.func4, Try.ntmps4
    go_wp2_with fail
    go_ret
    exact ⟨rfl, Ext.refl _⟩
end Go.Proofs.Ytmhkjcoidjpocaa
