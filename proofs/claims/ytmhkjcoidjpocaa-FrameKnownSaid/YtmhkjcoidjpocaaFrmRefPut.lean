/- pressworkref11.Put: its walk. -/
import Derived.Deep.DeepCutAuto
import Derived.Test.YtmhkjcoidjpocaaFrmRefMay
import Derived.Test.YtmhkjcoidjpocaaFrmTail
namespace Go.Proofs.Ytmhkjcoidjpocaa
open Go.RowKit
set_option linter.unusedVariables false
set_option linter.unusedSimpArgs false

/-- what reads as a list is appended to a row in new memory. -/
theorem clone_view {w w1 w2 : World} {l xs : List Nat} {ov v' : Value} {n : Nat} (h : CloneOf w l (.returned ov) w1) (hn : l.length = n) (hown' : w2.ownsRow w.heap.size 5 1 v' (n + (u8s xs).length) (u8s l ++ u8s xs))
    (hgrow : w1.grownBy w2 ov.ownBlock) : CloneOf w (l ++ xs) (.returned v') w2 := by
  subst hn
  obtain ⟨u, og, e, h1, h2, h3⟩ := h
  cases e
  have h3 : Ext w w1 := h3
  rw [length_u8s] at hown'
  exact ⟨v', v'.ownBlock, rfl, ⟨by rw [u8s_append, List.length_append]; exact ownsRow_zero hown', rfl⟩, own_block_ge hown', Touch.grown h3 hgrow (fun i e => Or.inr (h2 i (by rw [← h1.2]; exact e)))⟩
theorem view_two (w : World) (a b : Value) (e : TypeId) : ∀ j u, ([a, b] : List Value)[j]? = some u → (w.alloc (.cells #[a, b] e)).cell? ((⟨w.heap.size, 0, none⟩ : Addr).add j) = some u := by
  intro j u hu
  rw [add_lit, World.cell?, heap_alloc_new]
  simpa using hu
theorem CloneOf.ext' {w w1 w2 : World} {l : List Nat} {v : Value} (h : CloneOf w l (.returned v) w1) (he : Ext w1 w2) : CloneOf w l (.returned v) w2 := by
  obtain ⟨u, og, e, h1, h2, h3⟩ := h
  cases e
  have h3 : Ext w w1 := h3
  exact ⟨v, og, rfl, h1.ext' he, h2, h3.trans he⟩
theorem CloneOf.viewL {w w1 : World} {l : List Nat} {v : Value} (h : CloneOf w l (.returned v) w1) : ViewL w1 v (u8s l) := by
  obtain ⟨u, og, e, h1, h2, h3⟩ := h
  cases e
  exact h1.viewL
set_option maxHeartbeats 8000000 in
set_option maxRecDepth 100000 in
theorem frm_ref_put (h : Hd) (eo : Option Addr) (ecap : Nat) (w : World) (ok : HOk h) (hv : ViewL w (.slice eo h.extra.length ecap) (u8s h.extra)) (hsz : h.extra.length ≤ 2 ^ 40 ∧ h.name.size ≤ 2 ^ 37 ∧ h.comment.size ≤ 2 ^ 37) :
    Calls Try.prog 12 #[.agg (hcells h (.slice eo h.extra.length ecap))] w fun e w' =>
      if MayH h then ∃ v, e = .returned (.tuple #[v, .int .i64 0]) ∧ CloneOf w (putH h) (.returned v) w' else e = .returned (.tuple #[.slice none 0 0, .int .i64 5]) ∧ Ext w w' := by
  obtain ⟨i0, hi, hz0, hz1, hz2⟩ := info_parts info_u8
  by_cases hm : MayH h
  · simp only [if_pos hm]
    have HD := Lib.hid (show decide (MayH h) = true from decide_eq_true hm)
    obtain ⟨h8, hx16, _⟩ := hm
    have hbw : IsBox (w.alloc (.cells (hcells h (.slice eo h.extra.length ecap)) 25)) w.heap.size h (.slice eo h.extra.length ecap) := ext_box
    have q0 : (w.alloc (.cells (hcells h (.slice eo h.extra.length ecap)) 25)).cell? ⟨w.heap.size, 0, none⟩ = some (.bool h.text) := hbw.cell 0
    have q1 : (w.alloc (.cells (hcells h (.slice eo h.extra.length ecap)) 25)).cell? ⟨w.heap.size, 1, none⟩ = some (.int .u32 h.time) := hbw.cell 1
    have q2 : (w.alloc (.cells (hcells h (.slice eo h.extra.length ecap)) 25)).cell? ⟨w.heap.size, 2, none⟩ = some (.int .u8 h.xfl) := hbw.cell 2
    have q3 : (w.alloc (.cells (hcells h (.slice eo h.extra.length ecap)) 25)).cell? ⟨w.heap.size, 3, none⟩ = some (.int .u8 h.os) := hbw.cell 3
    have q4 : (w.alloc (.cells (hcells h (.slice eo h.extra.length ecap)) 25)).cell? ⟨w.heap.size, 4, none⟩ = some (.slice eo h.extra.length ecap) := hbw.cell 4
    have q5 : (w.alloc (.cells (hcells h (.slice eo h.extra.length ecap)) 25)).cell? ⟨w.heap.size, 5, none⟩ = some (.string h.name) := hbw.cell 5
    have q6 : (w.alloc (.cells (hcells h (.slice eo h.extra.length ecap)) 25)).cell? ⟨w.heap.size, 6, none⟩ = some (.string h.comment) := hbw.cell 6
    have q7 : (w.alloc (.cells (hcells h (.slice eo h.extra.length ecap)) 25)).cell? ⟨w.heap.size, 7, none⟩ = some (.int .u8 h.has) := hbw.cell 7
    have q8 : (w.alloc (.cells (hcells h (.slice eo h.extra.length ecap)) 25)).cell? ⟨w.heap.size, 8, none⟩ = some (.bool h.sum) := hbw.cell 8
    have HBW := Lib.hid hbw
    have HV := Lib.hid hv
    clear hbw
    have HI := Lib.hid (frm_ref_may h eo ecap (w.alloc (.cells (hcells h (.slice eo h.extra.length ecap)) 25)) ⟨hsz.1, by omega, by omega, ok.has⟩)
    have hnm := hsz.2.1
    have hcm := hsz.2.2
    clear hsz hv
    go_enter Try.func12, Try.ntmps12
    go_wp2_with fail
    refine (HI.out).mono ?_
    rintro e wm ⟨rfl, hext⟩
    rw [HD.out]
    have hb1 := HBW.out.touch hext (fun f => f)
    have hE : Ext w wm := ((Ext.refl w).alloc _).trans hext
    have HVM := Lib.hid (HV.out.ext hE)
    have HEM := Lib.hid hE
    clear q0 q1 q2 q3 q4 q5 q6 q7 q8 HBW HI HD HV hext hE
    have q0 : wm.cell? ⟨w.heap.size, 0, none⟩ = some (.bool h.text) := hb1.cell 0
    have q7 : wm.cell? ⟨w.heap.size, 7, none⟩ = some (.int .u8 h.has) := hb1.cell 7
    have q8 : wm.cell? ⟨w.heap.size, 8, none⟩ = some (.bool h.sum) := hb1.cell 8
    have HB := Lib.hid hb1
    clear hb1
    go_upto_if 13 with fail
    go_cut [4] (fun fv wx => fv = .int .u8 (fl0 h) ∧ wx = wm)
    case first =>
      cases ht : h.text with
      | true =>
        rw [ht] at q0
        have HT := Lib.hid ht
        clear ht
        go_wp2_with fail
        go_meet
        exact ⟨by rw [show fl0 h = h.has * 4 + 1 by unfold fl0; rw [HT.out]; rfl]; try (congr 1 <;> (have := fl0_lt h h8; simp <;> omega)), rfl⟩
      | false =>
        rw [ht] at q0
        have HT := Lib.hid ht
        clear ht
        go_wp2_with fail
        go_meet
        exact ⟨by rw [show fl0 h = h.has * 4 by unfold fl0; rw [HT.out]; rfl]; try (congr 1 <;> (have := fl0_lt h h8; simp <;> omega)), rfl⟩
    case rest =>
    obtain ⟨rfl, rfl⟩ := hcut
    clear q0 q7
    have hfl0 := (fl0_lt h h8).1
    go_upto_if 17 with fail
    go_cut [4] (fun fv wx => fv = .int .u8 (flH h) ∧ wx = wc)
    case first =>
      cases ht : h.sum with
      | true =>
        rw [ht] at q8
        have HT := Lib.hid ht
        clear ht
        go_wp2_with fail
        go_meet
        exact ⟨by rw [show flH h = fl0 h + 2 by unfold flH; rw [HT.out]; rfl]; try (congr 1 <;> (have := fl0_lt h h8; simp <;> omega)), rfl⟩
      | false =>
        rw [ht] at q8
        have HT := Lib.hid ht
        clear ht
        go_wp2_with fail
        go_meet
        exact ⟨by rw [show flH h = fl0 h by unfold flH; rw [HT.out]; rfl]; try (congr 1 <;> (have := fl0_lt h h8; simp <;> omega)), rfl⟩
    case rest =>
    obtain ⟨rfl, rfl⟩ := hcut
    clear q8
    obtain ⟨wm, hwm⟩ : ∃ x, x = wc := ⟨_, rfl⟩
    subst hwm
    have c1 : (wm.alloc (.cells #[.int .u8 31, .int .u8 139, .int .u8 8, .int .u8 (flH h : Nat)] 5)).cell? ⟨w.heap.size, 1, none⟩ = some (.int .u32 h.time) := cell_alloc _ (HB.out.cell 1)
    go_wp2_with fail
    refine (frm_number h.time 4 _ ok.time (by decide)).mono ?_
    rintro e w2 ⟨v2, og, rfl, k1, k2, k3⟩
    have k3 : Ext (wm.alloc (.cells #[.int .u8 31, .int .u8 139, .int .u8 8, .int .u8 (flH h : Nat)] 5)) w2 := k3
    have HA := Lib.hid (show CloneOf wm [31, 139, 8, flH h] (.returned (.slice (some ⟨wm.heap.size, 0, none⟩) 4 4)) w2 from CloneOf.ext' ⟨_, some wm.heap.size, rfl, ⟨World.ownsRow_lit wm #[.int .u8 31, .int .u8 139, .int .u8 8, .int .u8 (flH h : Nat)] 4 (Nat.zero_le _) (by decide) rfl, rfl⟩, fun g e => by cases e; exact Nat.le_refl _, (Touch.refl _ wm).alloc _⟩ k3)
    have HV2 := Lib.hid k1.viewL
    have hbase := (ext_of HA.out).size
    clear k1 k2 k3 c1
    go_wp2_with (at_builtin; go_must (refine wpList_append_view _ rfl (.tmp 22) (.tmp 25) 23 rfl wm.heap.size 5 i0 (.int .u8 0) 1 Try.underlying23 hi hz0 hz1 hz2 rfl _ (4) (u8s ([31, 139, 8, flH h])) rfl (HA.out.own_at rfl) _ (u8s (leN 4 h.time)) rfl HV2.out (u8s_one _) (by rw [length_u8s, length_leN]; unfold maxLen; omega) (by rw [length_u8s, length_leN]; omega) hbase ?_))
    intro v3 w3 hown' hgrow hat
    have HS := Lib.hid (clone_view HA.out rfl hown' hgrow)
    clear hown' hgrow hat HA HV2 hbase
    have c2 : w3.cell? ⟨w.heap.size, 2, none⟩ = some (.int .u8 h.xfl) := (HB.out.touch (ext_of HS.out) (fun f => f)).cell 2
    have c3 : w3.cell? ⟨w.heap.size, 3, none⟩ = some (.int .u8 h.os) := (HB.out.touch (ext_of HS.out) (fun f => f)).cell 3
    have HL := Lib.hid (show ([31, 139, 8, flH h] ++ leN 4 h.time).length = 8 by simp [length_leN])
    go_wp2_with (at_builtin; go_must (refine wpList_append_own_at _ rfl (.tmp 27) (.tmp 32) 23 rfl 0 5 i0 (.int .u8 0) 1 1 Try.underlying23 hi hz0 hz1 hz2 rfl (by decide) _ 8 (u8s ([31, 139, 8, flH h] ++ leN 4 h.time)) rfl ((HS.out.own HL.out).alloc _) ⟨w3.heap.size, 0, none⟩ 2 2 [_, _] rfl rfl (view_two w3 _ _ _) (by simp [Value.oneCell']) (by decide) (by decide) (Nat.zero_le _) ?_))
    intro v4 wc hown' hgrow _ hat
    have hcut := clone_app (xs := [h.xfl, h.os]) HS.out HL.out hown' hgrow hat
    have HC := Lib.hid (show CloneOf wm (fx8 h (flH h)) (.returned v4) wc from hcut)
    clear hcut hown' hgrow hat HS HL c2 c3
    have c7 : wc.cell? ⟨w.heap.size, 7, none⟩ = some (.int .u8 h.has) := (HB.out.touch (ext_of HC.out) (fun f => f)).cell 7
    go_upto_if 37 with fail
    go_cut [5] (fun v wx => CloneOf wm (px h) (.returned v) wx)
    case first =>
      by_cases hx : h.has % 2 = 1
      · have HP := Lib.hid (show px h = (fx8 h (flH h) ++ leN 2 h.extra.length) ++ h.extra by unfold px; rw [if_pos hx])
        have hb := (show (((h.has : Int) % 2) == 1) = true by exact beq_iff_eq.2 (by omega))
        clear hx
        have c4 : wc.cell? ⟨w.heap.size, 4, none⟩ = some (.slice eo h.extra.length ecap) := (HB.out.touch (ext_of HC.out) (fun f => f)).cell 4
        have hpl : (fx8 h (flH h)).length = 10 := by simp [fx8, length_leN]
        generalize fx8 h (flH h) = p at *
        go_wp2_with fail
        refine (frm_number h.extra.length 2 _ (by omega) (by decide)).mono ?_
        rintro e w5 ⟨v5, og, rfl, k1, k2, k3⟩
        have k3 : Ext wc w5 := k3
        have HC5 := Lib.hid (CloneOf.ext' HC.out k3)
        have HV5 := Lib.hid k1.viewL
        have hbase := (ext_of HC5.out).size
        clear k1 k2 k3 HC c7 c4
        go_wp2_with (at_builtin; go_must (refine wpList_append_view _ rfl (.tmp 38) (.tmp 43) 23 rfl wm.heap.size 5 i0 (.int .u8 0) 1 Try.underlying23 hi hz0 hz1 hz2 rfl _ (10) (u8s (p)) rfl (HC5.out.own_at hpl) _ (u8s (leN 2 h.extra.length)) rfl HV5.out (u8s_one _) (by rw [length_u8s, length_leN]; unfold maxLen; omega) (by rw [length_u8s, length_leN]; omega) hbase ?_))
        intro v6 w6 hown' hgrow hat
        have HS := Lib.hid (clone_view HC5.out hpl hown' hgrow)
        clear hown' hgrow hat HC5 HV5 hbase
        have c4 : w6.cell? ⟨w.heap.size, 4, none⟩ = some (.slice eo h.extra.length ecap) := (HB.out.touch (ext_of HS.out) (fun f => f)).cell 4
        have HVX := Lib.hid (HVM.out.ext (ext_of HS.out))
        have hbase := (ext_of HS.out).size
        have HL := Lib.hid (show (p ++ leN 2 h.extra.length).length = 12 by rw [List.length_append, hpl, length_leN])
        go_wp2_with (at_builtin; go_must (refine wpList_append_view _ rfl (.tmp 45) (.tmp 47) 23 rfl wm.heap.size 5 i0 (.int .u8 0) 1 Try.underlying23 hi hz0 hz1 hz2 rfl _ (12) (u8s (p ++ leN 2 h.extra.length)) rfl (HS.out.own_at HL.out) _ (u8s (h.extra)) rfl HVX.out (u8s_one _) (by rw [length_u8s]; unfold maxLen; omega) (by rw [length_u8s]; omega) hbase ?_))
        intro v7 w7 hown' hgrow hat
        have HF := Lib.hid (clone_view HS.out HL.out hown' hgrow)
        clear hown' hgrow hat HS HVX hbase c4
        go_wp2_with fail
        go_meet
        rw [HP.out]
        exact HF.out
      · have HP := Lib.hid (show px h = fx8 h (flH h) by unfold px; rw [if_neg hx])
        have hb := (show (((h.has : Int) % 2) == 1) = false by exact beq_eq_false_iff_ne.2 (by omega))
        clear hx
        go_wp2_with fail
        go_meet
        rw [HP.out]
        exact HC.out
    case rest =>
    clear HC c7
    have HC := Lib.hid hcut
    clear hcut
    have c7 : wc.cell? ⟨w.heap.size, 7, none⟩ = some (.int .u8 h.has) := (HB.out.touch (ext_of HC.out) (fun f => f)).cell 7
    go_upto_if 53 with fail
    go_cut [5] (fun v wx => CloneOf wm (pn h) (.returned v) wx)
    case first =>
      by_cases hx : h.has / 2 % 2 = 1
      · have HP := Lib.hid (show pn h = (px h ++ sb h.name) ++ [0] by unfold pn; rw [if_pos hx])
        have hb := (show (((h.has : Int) / 2 % 2) == 1) = true by exact beq_iff_eq.2 (by omega))
        have hL : (px h).length ≤ 12 + h.extra.length := px_len h
        have c5 : wc.cell? ⟨w.heap.size, 5, none⟩ = some (.string h.name) := (HB.out.touch (ext_of HC.out) (fun f => f)).cell 5
        have hbase := (ext_of HC.out).size
        clear hx
        go_wp2_with (at_builtin; first | go_must (refine Lib.wpList_append_own_string _ rfl (.tmp 54) (.tmp 56) 23 9 rfl wm.heap.size 5 i0 Try.underlying23 Try.underlying9 hi hz0 hz1 hz2 _ _ _ rfl (HC.out.own_at rfl) h.name rfl (by unfold maxLen; omega) (by omega) hbase ?_))
        intro v' w3 hown' hgrow _
        have HS := Lib.hid (clone_str HC.out rfl hown' hgrow)
        clear hown' hgrow
        have HL := Lib.hid (show (px h ++ sb h.name).length = (px h).length + h.name.size by rw [List.length_append, length_sb])
        go_wp2_with (at_builtin; go_must (refine wpList_append_own_at _ rfl (.tmp 58) (.tmp 59) 23 rfl 0 5 i0 (.int .u8 0) 1 1 Try.underlying23 hi hz0 hz1 hz2 rfl (by decide) _ ((px h).length + h.name.size) (u8s (px h ++ sb h.name)) rfl ((HS.out.own HL.out).alloc _) ⟨w3.heap.size, 0, none⟩ 1 1 [_] rfl rfl (cell_one_new _ _ _) (by simp [Value.oneCell']) (by unfold maxLen; omega) (by omega) (Nat.zero_le _) ?_))
        intro v2 w4 hown' hgrow _ hat
        have HF := Lib.hid (clone_app (xs := [0]) HS.out HL.out hown' hgrow hat)
        clear hown' hgrow hat
        go_wp2_with fail
        go_meet
        rw [HP.out]
        exact HF.out
      · have HP := Lib.hid (show pn h = px h by unfold pn; rw [if_neg hx])
        have hb := (show (((h.has : Int) / 2 % 2) == 1) = false by exact beq_eq_false_iff_ne.2 (by omega))
        clear hx
        go_wp2_with fail
        go_meet
        rw [HP.out]
        exact HC.out
    case rest =>
    clear HC c7
    have HC := Lib.hid hcut
    clear hcut
    have c7 : wc.cell? ⟨w.heap.size, 7, none⟩ = some (.int .u8 h.has) := (HB.out.touch (ext_of HC.out) (fun f => f)).cell 7
    go_upto_if 64 with fail
    go_cut [5] (fun v wx => CloneOf wm (pc h) (.returned v) wx)
    case first =>
      by_cases hx : h.has / 4 % 2 = 1
      · have HP := Lib.hid (show pc h = (pn h ++ sb h.comment) ++ [0] by unfold pc; rw [if_pos hx])
        have hb := (show (((h.has : Int) / 4) == 1) = true by exact beq_iff_eq.2 (by omega))
        have hL : (pn h).length ≤ 13 + h.extra.length + h.name.size := pn_len h
        have c5 : wc.cell? ⟨w.heap.size, 6, none⟩ = some (.string h.comment) := (HB.out.touch (ext_of HC.out) (fun f => f)).cell 6
        have hbase := (ext_of HC.out).size
        clear hx
        go_wp2_with (at_builtin; first | go_must (refine Lib.wpList_append_own_string _ rfl (.tmp 65) (.tmp 67) 23 9 rfl wm.heap.size 5 i0 Try.underlying23 Try.underlying9 hi hz0 hz1 hz2 _ _ _ rfl (HC.out.own_at rfl) h.comment rfl (by unfold maxLen; omega) (by omega) hbase ?_))
        intro v' w3 hown' hgrow _
        have HS := Lib.hid (clone_str HC.out rfl hown' hgrow)
        clear hown' hgrow
        have HL := Lib.hid (show (pn h ++ sb h.comment).length = (pn h).length + h.comment.size by rw [List.length_append, length_sb])
        go_wp2_with (at_builtin; go_must (refine wpList_append_own_at _ rfl (.tmp 69) (.tmp 70) 23 rfl 0 5 i0 (.int .u8 0) 1 1 Try.underlying23 hi hz0 hz1 hz2 rfl (by decide) _ ((pn h).length + h.comment.size) (u8s (pn h ++ sb h.comment)) rfl ((HS.out.own HL.out).alloc _) ⟨w3.heap.size, 0, none⟩ 1 1 [_] rfl rfl (cell_one_new _ _ _) (by simp [Value.oneCell']) (by unfold maxLen; omega) (by omega) (Nat.zero_le _) ?_))
        intro v2 w4 hown' hgrow _ hat
        have HF := Lib.hid (clone_app (xs := [0]) HS.out HL.out hown' hgrow hat)
        clear hown' hgrow hat
        go_wp2_with fail
        go_meet
        rw [HP.out]
        exact HF.out
      · have HP := Lib.hid (show pc h = pn h by unfold pc; rw [if_neg hx])
        have hb := (show (((h.has : Int) / 4) == 1) = false by exact beq_eq_false_iff_ne.2 (by omega))
        clear hx
        go_wp2_with fail
        go_meet
        rw [HP.out]
        exact HC.out
    case rest =>
    clear HC c7
    have HC := Lib.hid hcut
    clear hcut
    have c8 : wc.cell? ⟨w.heap.size, 8, none⟩ = some (.bool h.sum) := (HB.out.touch (ext_of HC.out) (fun f => f)).cell 8
    have hpl := pc_len h
    have hlt := putH_lt h ok h8
    have HLOW := Lib.hid (crc_ref_low _ (pc h) wc HC.out.viewL hlt (by omega))
    clear hlt
    cases hs : h.sum with
    | true =>
      rw [hs] at c8
      have HP := Lib.hid (show putH h = pc h ++ leN 2 (crcL (pc h)) by unfold putH; rw [hs]; rfl)
      clear hs
      go_wp2_with fail
      refine HLOW.out.mono ?_
      rintro e w5 ⟨rfl, rfl⟩
      go_wp2_with fail
      refine (frm_number (crcL (pc h)) 2 _ (crcL_lt _) (by decide)).mono ?_
      rintro e w6 ⟨v6, og, rfl, k1, k2, k3⟩
      have k3 : Ext wc w6 := k3
      have HC5 := Lib.hid (CloneOf.ext' HC.out k3)
      have HV5 := Lib.hid k1.viewL
      have hbase := (ext_of HC5.out).size
      clear k1 k2 k3 HC c8 HLOW
      go_wp2_with (at_builtin; go_must (refine wpList_append_view _ rfl (.tmp 74) (.tmp 77) 23 rfl wm.heap.size 5 i0 (.int .u8 0) 1 Try.underlying23 hi hz0 hz1 hz2 rfl _ ((pc h).length) (u8s (pc h)) rfl (HC5.out.own_at rfl) _ (u8s (leN 2 (crcL (pc h)))) rfl HV5.out (u8s_one _) (by rw [length_u8s, length_leN]; unfold maxLen; omega) (by rw [length_u8s, length_leN]; omega) hbase ?_))
      intro v7 w7 hown' hgrow hat
      have HF := Lib.hid (clone_up (clone_view HC5.out rfl hown' hgrow) HEM.out)
      clear hown' hgrow hat HC5 HV5 hbase
      go_wp2_with fail
      go_ret2
      exact ⟨_, rfl, by rw [HP.out]; exact HF.out⟩
    | false =>
      rw [hs] at c8
      have HP := Lib.hid (show putH h = pc h by unfold putH; rw [hs]; rfl)
      clear hs
      have HF := Lib.hid (clone_up HC.out HEM.out)
      go_wp2_with fail
      go_ret2
      exact ⟨_, rfl, by rw [HP.out]; exact HF.out⟩
  · simp only [if_neg hm]
    have HD := Lib.hid (show decide (MayH h) = false from decide_eq_false hm)
    have hbw : IsBox (w.alloc (.cells (hcells h (.slice eo h.extra.length ecap)) 25)) w.heap.size h (.slice eo h.extra.length ecap) := ext_box
    have q0 : (w.alloc (.cells (hcells h (.slice eo h.extra.length ecap)) 25)).cell? ⟨w.heap.size, 0, none⟩ = some (.bool h.text) := hbw.cell 0
    have q1 : (w.alloc (.cells (hcells h (.slice eo h.extra.length ecap)) 25)).cell? ⟨w.heap.size, 1, none⟩ = some (.int .u32 h.time) := hbw.cell 1
    have q2 : (w.alloc (.cells (hcells h (.slice eo h.extra.length ecap)) 25)).cell? ⟨w.heap.size, 2, none⟩ = some (.int .u8 h.xfl) := hbw.cell 2
    have q3 : (w.alloc (.cells (hcells h (.slice eo h.extra.length ecap)) 25)).cell? ⟨w.heap.size, 3, none⟩ = some (.int .u8 h.os) := hbw.cell 3
    have q4 : (w.alloc (.cells (hcells h (.slice eo h.extra.length ecap)) 25)).cell? ⟨w.heap.size, 4, none⟩ = some (.slice eo h.extra.length ecap) := hbw.cell 4
    have q5 : (w.alloc (.cells (hcells h (.slice eo h.extra.length ecap)) 25)).cell? ⟨w.heap.size, 5, none⟩ = some (.string h.name) := hbw.cell 5
    have q6 : (w.alloc (.cells (hcells h (.slice eo h.extra.length ecap)) 25)).cell? ⟨w.heap.size, 6, none⟩ = some (.string h.comment) := hbw.cell 6
    have q7 : (w.alloc (.cells (hcells h (.slice eo h.extra.length ecap)) 25)).cell? ⟨w.heap.size, 7, none⟩ = some (.int .u8 h.has) := hbw.cell 7
    have q8 : (w.alloc (.cells (hcells h (.slice eo h.extra.length ecap)) 25)).cell? ⟨w.heap.size, 8, none⟩ = some (.bool h.sum) := hbw.cell 8
    have HI := Lib.hid (frm_ref_may h eo ecap (w.alloc (.cells (hcells h (.slice eo h.extra.length ecap)) 25)) ⟨hsz.1, by omega, by omega, ok.has⟩)
    clear hbw hsz hv
    go_enter Try.func12, Try.ntmps12
    go_wp2_with fail
    refine (HI.out).mono ?_
    rintro e wm ⟨rfl, hext⟩
    rw [HD.out]
    have HE := Lib.hid (((Ext.refl w).alloc _).trans hext)
    clear hext
    go_wp2_with fail
    go_ret2
    exact ⟨rfl, HE.out⟩
end Go.Proofs.Ytmhkjcoidjpocaa
