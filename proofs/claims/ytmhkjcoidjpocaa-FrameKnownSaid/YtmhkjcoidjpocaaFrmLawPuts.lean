/- FramePuts: the law's walk. -/
import Derived.Test.YtmhkjcoidjpocaaFrmRes
import Derived.Test.YtmhkjcoidjpocaaFrmLong
namespace Go.Proofs.Ytmhkjcoidjpocaa
open Go.RowKit
set_option linter.unusedVariables false
set_option linter.unusedSimpArgs false

theorem longB_no {h : Hd} (hl : longB h = false) : h.extra.length ≤ 70000 ∧ h.name.size ≤ 1000 ∧ h.comment.size ≤ 1000 := by
  have := of_decide_eq_false hl
  omega
theorem box_set4 {w : World} {B : Nat} {h : Hd} {ev ev2 : Value} (hb : IsBox w B h ev) : IsBox (w.setCell ⟨B, 4, none⟩ ev2) B h ev2 := by
  show _ = _
  rw [heap_setCell_at (w := w) (a := ⟨B, 4, none⟩) (u := ev2) hb rfl]; rfl
set_option maxHeartbeats 8000000 in
theorem frm_law_puts (h : Hd) (eo : Option Addr) (ec : Nat) (w : World) (ok : HOk h) (hv : ViewL w (.slice eo h.extra.length ec) (u8s h.extra)) :
    Calls Try.prog 3 #[.agg (hcells h (.slice eo h.extra.length ec))] w fun e w' => e = .returned (.bool true) ∧ Ext w w' := by
  obtain ⟨i0, hi, hz0, hz1, hz2⟩ := info_parts info_u8
  have HV := Lib.hid hv
  clear hv
  have hbw : IsBox (w.alloc (.cells (hcells h (.slice eo h.extra.length ec)) 25)) w.heap.size h (.slice eo h.extra.length ec) := heap_alloc_new w _
  have HC1 := Lib.hid (fun wx (hx : Ext (w.alloc (.cells (hcells h (.slice eo h.extra.length ec)) 25)) wx) => head_cells (hbw.touch hx (fun f => f)))
  have HL := Lib.hid (frm_long h eo ec (w.alloc (.cells (hcells h (.slice eo h.extra.length ec)) 25)))
  simp only [hcells] at HL HC1 ⊢
  clear hbw
  cases hlb : longB h with
  | true =>
    rw [hlb] at HL
    go_enter Try.func3, Try.ntmps3
    go_wp2_with fail
    refine HL.out.mono ?_
    rintro e w1 ⟨rfl, hx1⟩
    have HX1 := Lib.hid (((Ext.refl w).alloc _).trans hx1)
    clear hx1
    go_wp2_with fail
    go_ret
    exact ⟨rfl, HX1.out⟩
  | false =>
    rw [hlb] at HL
    obtain ⟨l1, l2, l3⟩ := longB_no hlb
    clear hlb
    go_enter Try.func3, Try.ntmps3
    go_wp2_with fail
    refine HL.out.mono ?_
    rintro e w1 ⟨rfl, hx1⟩
    have HX1 := Lib.hid hx1
    clear hx1
    obtain ⟨d0, d1, d2, d3, d4, d5, d6, d7, d8⟩ := HC1.out w1 HX1.out
    have dd4 := (HC1.out ((w1.alloc (.cells #[.bool h.text, .int .u32 h.time, .int .u8 h.xfl, .int .u8 h.os, .slice eo h.extra.length ec, .string h.name, .string h.comment, .int .u8 h.has, .bool h.sum] 25)).alloc (.cells #[] 5)) ((HX1.out.alloc _).alloc _)).2.2.2.2.1
    have HN2 := Lib.hid (heap_alloc_new w1 (.cells (hcells h (.slice eo h.extra.length ec)) 25))
    have HW2 := Lib.hid ((((Ext.refl w).alloc (.cells (hcells h (.slice eo h.extra.length ec)) 25)).trans HX1.out).alloc (.cells (hcells h (.slice eo h.extra.length ec)) 25))
    obtain ⟨w2, hw2⟩ : ∃ w2, w2 = w1.alloc (.cells (hcells h (.slice eo h.extra.length ec)) 25) := ⟨_, rfl⟩
    have hz2s : w2.heap.size = w1.heap.size + 1 := by rw [hw2]; simp
    have HOWN := Lib.hid (show (w2.alloc (.cells #[] 5)).ownsRow w2.heap.size 5 1 (.slice (some ⟨w2.heap.size, 0, none⟩) 0 0) 0 [] from World.ownsRow_made w2 #[] 0 (Nat.le_refl _) (by decide) rfl)
    have HVE := Lib.hid (show ViewL (w2.alloc (.cells #[] 5)) (.slice eo h.extra.length ec) (u8s h.extra) by rw [hw2]; exact HV.out.ext (HW2.out.alloc _))
    rw [hz2s] at HOWN
    have hne : w1.heap.size ≠ w.heap.size := by have := HX1.out.size; rw [World.size_alloc] at this; omega
    have hne2 : w.heap.size ≠ w1.heap.size := by omega
    have HWD := Lib.hid hw2
    simp only [hcells] at hw2
    rw [hw2] at HOWN HVE
    go_wp2_with (at_builtin; go_must (refine wpList_append_view _ rfl (.tmp 11) (.tmp 13) 23 rfl (w1.heap.size + 1) 5 i0 (.int .u8 0) 1 Try.underlying23 hi hz0 hz1 hz2 rfl _ 0 [] rfl HOWN.out _ (u8s h.extra) rfl HVE.out (u8s_one _) (by rw [length_u8s]; unfold maxLen; omega) (by rw [length_u8s]; omega) (by rw [World.size_alloc, World.size_alloc]; omega) ?_))
    intro v' w3 hown' hgrow hat
    rw [← hw2] at hgrow
    have hx3 : Ext w2 w3 := Touch.grown ((Ext.refl w2).alloc _) hgrow (fun k e => Or.inr (by cases e; rw [hz2s]; exact Nat.le_refl _))
    have hb2 : IsBox w2 w1.heap.size h (.slice eo h.extra.length ec) := by rw [HWD.out]; exact HN2.out
    have hb3 := hb2.touch hx3 (fun f => f)
    have ho3 : Owns w3 5 1 v' v'.ownBlock h.extra.length (u8s h.extra) := ⟨by simpa [length_u8s] using ownsRow_zero hown', rfl⟩
    have hog := own_block_ge hown'
    obtain ⟨ao, ac, rfl⟩ := ho3.shape
    have e4 : w3.cell? ⟨w1.heap.size, 4, none⟩ = some (.slice eo h.extra.length ec) := hb3.cell 4
    have y4 : w3.frozen? ⟨w1.heap.size, 4, none⟩ = false := Lib.frozen_of_heap hb3 _
    have ht4 : Touch (fun k => k = w1.heap.size) w3 (w3.setCell ⟨w1.heap.size, 4, none⟩ (.slice ao h.extra.length ac)) := (Touch.refl (fun k => k = w1.heap.size) w3).setCell (Or.inl rfl) _
    have HBX := Lib.hid (box_set4 (ev2 := .slice ao h.extra.length ac) hb3)
    have HVN := Lib.hid (ho3.keep ht4 (fun g e k => by have := hog g e; omega)).viewL
    have hx13 : Ext w1 w3 := by rw [HWD.out] at hx3; exact ((Ext.refl w1).alloc _).trans hx3
    have HX14 := Lib.hid ((HX1.out.trans hx13).touch ht4 (fun i hi e => by have := HX1.out.size; omega))
    have HX4 := Lib.hid (((Ext.refl w).alloc _).trans HX14.out)
    clear hw2 hown' hgrow hat hx3 hb2 hb3 ho3 hog ht4 hx13 HOWN HVE HWD HN2 HW2 hz2s dd4 d0 d1 d2 d3 d4 d5 d6 d7 d8
    go_upto_region 5 with fail
    obtain ⟨w4, hw4⟩ : ∃ w4, w4 = w3.setCell ⟨w1.heap.size, 4, none⟩ (.slice ao h.extra.length ac) := ⟨_, rfl⟩
    rw [← hw4] at HBX HVN HX14 HX4 ⊢
    clear hw4 e4 y4
    have HC3 := Lib.hid (fun wx (hx : Ext w4 wx) => head_cells (HBX.out.touch hx (fun f => f)))
    by_cases hm : MayH h
    · skip
      have HP1 := Lib.hid (frm_put h ao ac w4 ok HVN.out ⟨by omega, by omega, by omega⟩)
      have HP2 := Lib.hid (fun wx (hx : Ext w wx) => frm_ref_put h eo ec wx ok (HV.out.ext hx) ⟨by omega, by omega, by omega⟩)
      simp only [if_pos hm, hcells] at HP1 HP2
      obtain ⟨c0, c1, c2, c3, c4, c5, c6, c7, c8⟩ := HC3.out w4 (Ext.refl _)
      go_wp2_with fail
      refine HP1.out.mono ?_
      rintro e w5 ⟨pv, rfl, hc⟩
      have HS1 := Lib.hid (CloneOf.viewL hc)
      have HX5 := Lib.hid (ext_of hc)
      clear hc
      clear c0 c1 c2 c3 c4 c5 c6 c7 c8
      obtain ⟨d0, d1, d2, d3, d4, d5, d6, d7, d8⟩ := HC1.out w5 (HX14.out.trans HX5.out)
      go_wp2_with fail
      refine (HP2.out _ (HX4.out.trans HX5.out)).mono ?_
      rintro e w6 ⟨qv, rfl, hc⟩
      have hx6 : Ext w5 w6 := ext_of hc
      have hs1 := run_string_view (P := Try.prog) 23 9 5 (viewL_view8 (HS1.out.ext hx6)) Try.underlying23 Try.underlying5 Try.underlying9
      have hs2 := run_string_view (P := Try.prog) 23 9 5 (viewL_view8 (CloneOf.viewL hc)) Try.underlying23 Try.underlying5 Try.underlying9
      have hq : ((strOf (putH h)).toList == (strOf (putH h)).toList) = true := by simp
      clear hc
      have HX6 := Lib.hid (HX5.out.trans hx6)
      clear d0 d1 d2 d3 d4 d5 d6 d7 d8 hx6
      obtain ⟨c0, c1, c2, c3, c4, c5, c6, c7, c8⟩ := HC3.out w6 HX6.out
      obtain ⟨d0, d1, d2, d3, d4, d5, d6, d7, d8⟩ := HC1.out w6 (HX14.out.trans HX6.out)
      have HSM := Lib.hid (frm_same h h ao eo ac ec w6 (HVN.out.ext HX6.out) (HV.out.ext (HX4.out.trans HX6.out)) ok ok)
      simp only [hcells] at HSM
      go_wp2_with fail
      refine HSM.out.mono ?_
      rintro e w7 ⟨rfl, hx7⟩
      rw [decide_eq_true trivial]
      have HX7 := Lib.hid ((HX4.out.trans HX6.out).trans hx7)
      clear hx7 c0 c1 c2 c3 c4 c5 c6 c7 c8 d0 d1 d2 d3 d4 d5 d6 d7 d8 hs1 hs2
      go_wp2_with fail
      refine (frm_frames _).mono ?_
      rintro e w8 ⟨rfl, hx8⟩
      have HX8 := Lib.hid (HX7.out.trans hx8)
      clear hx8
      go_wp2_with fail
      go_ret
      exact ⟨rfl, HX8.out⟩
    · skip
      have HP1 := Lib.hid (frm_put h ao ac w4 ok HVN.out ⟨by omega, by omega, by omega⟩)
      have HP2 := Lib.hid (fun wx (hx : Ext w wx) => frm_ref_put h eo ec wx ok (HV.out.ext hx) ⟨by omega, by omega, by omega⟩)
      simp only [if_neg hm, hcells] at HP1 HP2
      obtain ⟨c0, c1, c2, c3, c4, c5, c6, c7, c8⟩ := HC3.out w4 (Ext.refl _)
      go_wp2_with fail
      refine HP1.out.mono ?_
      rintro e w5 ⟨rfl, hx⟩
      have HX5 := Lib.hid hx
      clear hx
      clear c0 c1 c2 c3 c4 c5 c6 c7 c8
      obtain ⟨d0, d1, d2, d3, d4, d5, d6, d7, d8⟩ := HC1.out w5 (HX14.out.trans HX5.out)
      go_wp2_with fail
      refine (HP2.out _ (HX4.out.trans HX5.out)).mono ?_
      rintro e w6 ⟨rfl, hx6⟩
      have hs1 := run_string_view (P := Try.prog) 23 9 5 ((Or.inl ⟨rfl, rfl⟩ : View w6 (.slice none 0 0) [])) Try.underlying23 Try.underlying5 Try.underlying9
      have hq : ((strOf []).toList == (strOf []).toList) = true := by simp
      have HX6 := Lib.hid (HX5.out.trans hx6)
      clear d0 d1 d2 d3 d4 d5 d6 d7 d8 hx6
      obtain ⟨c0, c1, c2, c3, c4, c5, c6, c7, c8⟩ := HC3.out w6 HX6.out
      obtain ⟨d0, d1, d2, d3, d4, d5, d6, d7, d8⟩ := HC1.out w6 (HX14.out.trans HX6.out)
      have HSM := Lib.hid (frm_same h h ao eo ac ec w6 (HVN.out.ext HX6.out) (HV.out.ext (HX4.out.trans HX6.out)) ok ok)
      simp only [hcells] at HSM
      go_wp2_with fail
      refine HSM.out.mono ?_
      rintro e w7 ⟨rfl, hx7⟩
      rw [decide_eq_true trivial]
      have HX7 := Lib.hid ((HX4.out.trans HX6.out).trans hx7)
      clear hx7 c0 c1 c2 c3 c4 c5 c6 c7 c8 d0 d1 d2 d3 d4 d5 d6 d7 d8 hs1
      go_wp2_with fail
      refine (frm_frames _).mono ?_
      rintro e w8 ⟨rfl, hx8⟩
      have HX8 := Lib.hid (HX7.out.trans hx8)
      clear hx8
      go_wp2_with fail
      go_ret
      exact ⟨rfl, HX8.out⟩
end Go.Proofs.Ytmhkjcoidjpocaa
