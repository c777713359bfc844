/- FrameBack: the law's walk. -/
import Derived.Test.YtmhkjcoidjpocaaFrmRes
import Derived.Test.YtmhkjcoidjpocaaFrmLong
import Derived.Test.YtmhkjcoidjpocaaFrmLawPuts
namespace Go.Proofs.Ytmhkjcoidjpocaa
open Go.RowKit
set_option linter.unusedVariables false
set_option linter.unusedSimpArgs false

theorem putH_ge (h : Hd) (ok : HOk h) (may : MayH h) : 10 ≤ (putH h).length := by
  apply Classical.byContradiction
  intro hn
  have := getH_putH h ok may []
  rw [List.append_nil, getH, if_neg (fun k => hn k.1)] at this
  cases this
theorem putH_lt2 (h : Hd) (ok : HOk h) (may : MayH h) : ∀ b ∈ putH h, b < 256 := by
  intro b hb
  rw [putH] at hb
  split at hb
  · rcases List.mem_append.1 hb with k | k
    · exact putH_lt h ok may.1 b k
    · exact leN_lt _ _ b k
  · exact putH_lt h ok may.1 b hb
theorem putH_le (h : Hd) : (putH h).length ≤ 16 + h.extra.length + h.name.size + h.comment.size := by
  have := pc_len h
  rw [putH]; split
  · rw [List.length_append, length_leN]; omega
  · omega
set_option maxHeartbeats 8000000 in
theorem frm_law_back (h : Hd) (eo : Option Addr) (ec : Nat) (u : Value) (ts : List Nat) (w : World) (ok : HOk h) (hv : ViewL w (.slice eo h.extra.length ec) (u8s h.extra)) (hu : View w u ts ∧ ViewL w u (u8s ts)) (hub : ∀ b ∈ ts, b < 256) (hul : ts.length ≤ 140737488351232) :
    Calls Try.prog 5 #[.agg (hcells h (.slice eo h.extra.length ec)), u] w fun e w' => e = .returned (.bool true) ∧ Ext w w' := by
  obtain ⟨i0, hi, hz0, hz1, hz2⟩ := info_parts info_u8
  obtain ⟨ta, tcap, rfl⟩ := hu.2.shape
  have HV := Lib.hid hv
  have HU := Lib.hid hu.2
  rw [length_u8s] at HU ⊢
  have HUB := Lib.hid hub
  clear hv hu hub
  have hbw : IsBox (w.alloc (.cells (hcells h (.slice eo h.extra.length ec)) 25)) w.heap.size h (.slice eo h.extra.length ec) := heap_alloc_new w _
  have HC1 := Lib.hid (fun wx (hx : Ext (w.alloc (.cells (hcells h (.slice eo h.extra.length ec)) 25)) wx) => head_cells (hbw.touch hx (fun f => f)))
  have HL := Lib.hid (frm_long h eo ec (w.alloc (.cells (hcells h (.slice eo h.extra.length ec)) 25)))
  simp only [hcells] at HL HC1 ⊢
  clear hbw
  cases hlb : longB h with
  | true =>
    rw [hlb] at HL
    go_enter Try.func5, Try.ntmps5
    go_wp2_with fail
    refine HL.out.mono ?_
    rintro e w1 ⟨rfl, hx1⟩
    have HX1 := Lib.hid (((Ext.refl w).alloc _).trans hx1)
    clear hx1
    go_wp2_with fail
    go_ret
    exact ⟨rfl, HX1.out⟩
  | false =>
    rw [hlb] at HL
    obtain ⟨l1, l2, l3⟩ := longB_no hlb
    clear hlb
    by_cases ht : 100 < ts.length
    · have hti : (100 : Int) < (ts.length : Int) := by omega
      go_enter Try.func5, Try.ntmps5
      go_wp2_with fail
      refine HL.out.mono ?_
      rintro e w1 ⟨rfl, hx1⟩
      have HX1 := Lib.hid (((Ext.refl w).alloc _).trans hx1)
      clear hx1
      go_wp2_with fail
      go_ret
      exact ⟨rfl, HX1.out⟩
    · have hti : ¬ (100 : Int) < (ts.length : Int) := by omega
      have HP := Lib.hid (fun wx (hx : Ext w wx) => frm_put h eo ec wx ok (HV.out.ext hx) ⟨by omega, by omega, by omega⟩)
      have HM := Lib.hid (fun wx => frm_ref_may h eo ec wx ⟨by omega, by omega, by omega, ok.has⟩)
      simp only [hcells] at HP HM
      by_cases hm : MayH h
      · simp only [if_pos hm] at HP
        rw [decide_eq_true hm] at HM
        have hge := putH_ge h ok hm
        have hle := putH_le h
        have HB := Lib.hid (putH_lt2 h ok hm)
        have HGB := Lib.hid (getH_putH h ok hm ts)
        have HGS := Lib.hid (getH_short h ok hm HB.out)
        generalize putH h = P at *
        go_enter Try.func5, Try.ntmps5
        go_wp2_with fail
        refine HL.out.mono ?_
        rintro e w1 ⟨rfl, hx1⟩
        have HX1 := Lib.hid hx1
        obtain ⟨d0, d1, d2, d3, d4, d5, d6, d7, d8⟩ := HC1.out w1 hx1
        clear hx1
        go_wp2_with fail
        refine (HP.out _ (((Ext.refl w).alloc _).trans HX1.out)).mono ?_
        rintro e w2 ⟨pv, rfl, hc⟩
        have hpv := CloneOf.viewL hc
        have HX2 := Lib.hid (HX1.out.trans (ext_of hc))
        obtain ⟨po, pcap, e2⟩ := hpv.shape
        rw [length_u8s] at e2
        subst e2
        have hpc : P.length ≤ pcap := by obtain ⟨ao', cap', e, h1, _⟩ := hpv; rw [length_u8s] at e h1; cases e; exact h1
        have HPV := Lib.hid hpv
        clear hc hpv d0 d1 d2 d3 d4 d5 d6 d7 d8
        obtain ⟨d0, d1, d2, d3, d4, d5, d6, d7, d8⟩ := HC1.out w2 HX2.out
        have g1 : ((P.length : Int) == 0) = false := beq_eq_false_iff_ne.2 (by omega)
        go_wp2_with fail
        refine (HM.out _).mono ?_
        rintro e w3 ⟨rfl, hx3⟩
        have HX3 := Lib.hid (HX2.out.trans hx3)
        have HX23 := Lib.hid hx3
        have HOWN := Lib.hid (show (w3.alloc (.cells #[] 5)).ownsRow w3.heap.size 5 1 (.slice (some ⟨w3.heap.size, 0, none⟩) 0 0) 0 [] from World.ownsRow_made w3 #[] 0 (Nat.le_refl _) (by decide) rfl)
        have HVE := Lib.hid (HPV.out.ext (hx3.alloc (.cells #[] 5)))
        clear d0 d1 d2 d3 d4 d5 d6 d7 d8 hx3
        go_wp2_with (at_builtin; go_must (refine wpList_append_view _ rfl (.tmp 44) (.tmp 45) 23 rfl w3.heap.size 5 i0 (.int .u8 0) 1 Try.underlying23 hi hz0 hz1 hz2 rfl _ 0 [] rfl HOWN.out _ (u8s P) rfl HVE.out (u8s_one _) (by rw [length_u8s]; unfold maxLen; omega) (by rw [length_u8s]; omega) (by rw [World.size_alloc]; omega) ?_))
        intro v4 w4 hown4 hgrow4 hat4
        have hx4 : Ext w3 w4 := Touch.grown ((Ext.refl w3).alloc _) hgrow4 (fun k e => Or.inr (by cases e; exact Nat.le_refl _))
        have HX4 := Lib.hid hx4
        have hog4 := own_block_ge hown4
        have HOWN4 := Lib.hid hown4
        rw [length_u8s] at HOWN4
        have HUV := Lib.hid (HU.out.ext ((((Ext.refl w).alloc _).trans HX3.out).trans hx4))
        have hsz4 := hx4.size
        clear hown4 hgrow4 hat4 hx4
        go_wp2_with (at_builtin; go_must (refine wpList_append_view _ rfl (.tmp 46) (.tmp 47) 23 rfl w3.heap.size 5 i0 (.int .u8 0) 1 Try.underlying23 hi hz0 hz1 hz2 rfl _ P.length (u8s P) rfl HOWN4.out _ (u8s ts) rfl HUV.out (u8s_one _) (by rw [length_u8s]; unfold maxLen; omega) (by rw [length_u8s]; omega) hsz4 ?_))
        intro v5 w5 hown5 hgrow5 hat5
        have hx5 : Ext w3 w5 := Touch.grown HX4.out hgrow5 (fun k e => Or.inr (hog4 k e))
        have HV5 := Lib.hid (show ViewL w5 v5 (u8s (P ++ ts)) by
          have ho : Owns w5 5 1 v5 v5.ownBlock (P ++ ts).length (u8s (P ++ ts)) := ⟨by rw [u8s_append, List.length_append]; rw [length_u8s] at hown5; exact ownsRow_zero hown5, rfl⟩
          exact ho.viewL)
        have HX5 := Lib.hid (HX3.out.trans hx5)
        have HX25 := Lib.hid (HX23.out.trans hx5)
        clear hown5 hgrow5 hat5 hx5 hog4 HOWN HVE HOWN4 HUV
        go_wp2_with fail
        refine (frm_get v5 (P ++ ts) w5 HV5.out (by rw [List.length_append]; omega) (fun b k => by rcases List.mem_append.1 k with k | k; exact HB.out b k; exact HUB.out b k)).mono ?_
        rintro e w6 hq
        unfold GotH at hq
        rw [HGB.out] at hq
        obtain ⟨ev, og, rfl, k1, k2, k3⟩ := hq
        obtain ⟨so, sc, rfl⟩ := k1.shape
        have HK := Lib.hid k1.viewL
        have HX6 := Lib.hid (HX5.out.trans k3)
        have HX26 := Lib.hid ((HX25.out.trans k3).alloc (.cells (hcells h (.slice so h.extra.length sc)) 25))
        simp only [hcells]
        clear k1 k2 k3
        have j1 : (P.length : Int) - 1 ≤ (pcap : Int) := by omega
        obtain ⟨M, hM⟩ : ∃ M, M = P.length - 1 := ⟨_, rfl⟩
        have j2 : (P.length : Int) - 1 = (M : Int) := by omega
        have j3 : (M : Int) ≤ (pcap : Int) := by omega
        have HGM := Lib.hid (show ∀ wx, Ext w2 wx → Calls Try.prog 15 #[.slice po M pcap] wx (GotH wx (P.take M)) from fun wx hx => by
          refine frm_get _ _ wx ?_ (by rw [List.length_take]; omega) (fun b k => HB.out b (List.mem_of_mem_take k))
          have := (HPV.out.ext hx).front M (by omega)
          rw [show (u8s P).take M = u8s (P.take M) by simp [u8s, List.map_take]] at this
          exact this)
        rw [← hM] at HGS
        clear hM j1
        go_wp2_with fail
        refine (HGM.out _ HX26.out).mono ?_
        rintro e w7 hq
        unfold GotH at hq
        rw [HGS.out] at hq
        obtain ⟨rfl, hx7⟩ := hq
        have hbx : IsBox w7 w6.heap.size h (.slice so h.extra.length sc) := head_box hx7
        have HX7 := Lib.hid ((HX6.out.alloc _).trans hx7)
        have HBX := Lib.hid (fun wx (hx : Ext w7 wx) => head_cells (hbx.touch hx (fun f => f)))
        have HKV := Lib.hid (HK.out.ext (((Ext.refl w6).alloc _).trans hx7))
        simp only [hdZ, hcells]
        obtain ⟨w8, hw8⟩ : ∃ w8, w8 = w7.alloc (.cells #[.bool false, .int .u32 0, .int .u8 0, .int .u8 0, .slice none 0 0, .string ⟨#[]⟩, .string ⟨#[]⟩, .int .u8 0, .bool false] 25) := ⟨_, rfl⟩
        have hx8 : Ext w7 w8 := by rw [hw8]; exact (Ext.refl _).alloc _
        have HX8 := Lib.hid (HX7.out.trans hx8)
        obtain ⟨c0, c1, c2, c3, c4, c5, c6, c7, c8⟩ := HBX.out w8 hx8
        obtain ⟨d0, d1, d2, d3, d4, d5, d6, d7, d8⟩ := HC1.out w8 HX8.out
        have HSM := Lib.hid (frm_same h h so eo sc ec w8 (HKV.out.ext hx8) (HV.out.ext (((Ext.refl w).alloc _).trans HX8.out)) ok ok)
        simp only [hcells] at HSM
        rw [hw8] at c0 c1 c2 c3 c4 c5 c6 c7 c8 d0 d1 d2 d3 d4 d5 d6 d7 d8 HSM
        have HW8 := Lib.hid hw8
        clear hbx hx7 hx8 hw8
        go_wp2_with fail
        refine HSM.out.mono ?_
        rintro e w9 ⟨rfl, hx9⟩
        rw [decide_eq_true trivial]
        rw [← HW8.out] at hx9
        have HX9 := Lib.hid (((Ext.refl w).alloc _).trans (HX8.out.trans hx9))
        clear hx9 c0 c1 c2 c3 c4 c5 c6 c7 c8 d0 d1 d2 d3 d4 d5 d6 d7 d8
        go_wp2_with fail
        refine (frm_frames _).mono ?_
        rintro e w10 ⟨rfl, hx10⟩
        have HX10 := Lib.hid (HX9.out.trans hx10)
        clear hx10
        go_wp2_with fail
        go_ret
        exact ⟨rfl, HX10.out⟩
      · simp only [if_neg hm] at HP
        rw [decide_eq_false hm] at HM
        go_enter Try.func5, Try.ntmps5
        go_wp2_with fail
        refine HL.out.mono ?_
        rintro e w1 ⟨rfl, hx1⟩
        have HX1 := Lib.hid hx1
        obtain ⟨d0, d1, d2, d3, d4, d5, d6, d7, d8⟩ := HC1.out w1 hx1
        clear hx1
        go_wp2_with fail
        refine (HP.out _ (((Ext.refl w).alloc _).trans HX1.out)).mono ?_
        rintro e w2 ⟨rfl, hx2⟩
        have HX2 := Lib.hid (HX1.out.trans hx2)
        clear hx2 d0 d1 d2 d3 d4 d5 d6 d7 d8
        obtain ⟨d0, d1, d2, d3, d4, d5, d6, d7, d8⟩ := HC1.out w2 HX2.out
        go_wp2_with fail
        refine (HM.out _).mono ?_
        rintro e w3 ⟨rfl, hx3⟩
        have HX3 := Lib.hid (((Ext.refl w).alloc _).trans (HX2.out.trans hx3))
        clear hx3 d0 d1 d2 d3 d4 d5 d6 d7 d8
        go_wp2_with fail
        refine (frm_frames _).mono ?_
        rintro e w4 ⟨rfl, hx4⟩
        have HX4 := Lib.hid (HX3.out.trans hx4)
        clear hx4
        go_wp2_with fail
        go_ret
        exact ⟨rfl, HX4.out⟩
end Go.Proofs.Ytmhkjcoidjpocaa
