/- FrameBits: the law's walk. -/
import Derived.Test.YtmhkjcoidjpocaaFrmLawBack
namespace Go.Proofs.Ytmhkjcoidjpocaa
open Go.RowKit
set_option linter.unusedVariables false
set_option linter.unusedSimpArgs false

theorem putH_sum {h : Hd} (hs : h.sum = true) : putH h = pc h ++ [crcL (pc h) % 256, crcL (pc h) / 256 % 256] := by
  rw [putH, hs, if_pos rfl, leN2_form]
theorem xor_bit : ∀ x : Fin 256, ∀ j : Fin 8, x.val ^^^ 2 ^ j.val ≠ x.val ∧ x.val ^^^ 2 ^ j.val < 256 := by decide +kernel
theorem xor_bits : ∀ x : Fin 256, ∀ j : Fin 8, bits .xor .u8 ((x.val : Nat) : Int) ((2 ^ j.val : Nat) : Int) = ((x.val ^^^ 2 ^ j.val : Nat) : Int) := by decide +kernel
theorem pow_bit : ∀ j : Fin 8, (2 : Int) ^ j.val % 256 = ((2 ^ j.val : Nat) : Int) := by decide +kernel
/-- a bit of the sum's bytes that turned. -/
theorem getH_bit {h : Hd} (ok : HOk h) (may : MayH h) (hs : h.sum = true) (b j : Nat) (hb : b < 2) (hj : j < 8) (k : Nat) (hk : k = (putH h).length - 1 - b) :
    getH ((putH h).set k ((putH h).getD k 0 ^^^ 2 ^ j)) = some (h, (putH h).length, true) := by
  have hC := crcL_lt (pc h)
  rw [putH_sum hs] at hk ⊢
  generalize hc : crcL (pc h) = C at *
  have hl : (pc h ++ [C % 256, C / 256 % 256]).length = (pc h).length + 2 := by simp
  rw [hl] at hk ⊢
  have b0 : b = 0 ∨ b = 1 := by omega
  rcases b0 with rfl | rfl
  · obtain rfl : k = (pc h).length + 1 := by omega
    obtain ⟨g1, g2⟩ := xor_bit ⟨C / 256 % 256, by omega⟩ ⟨j, hj⟩
    have e : (pc h ++ [C % 256, C / 256 % 256]).set ((pc h).length + 1) ((pc h ++ [C % 256, C / 256 % 256]).getD ((pc h).length + 1) 0 ^^^ 2 ^ j) = pc h ++ (C % 256 :: (C / 256 % 256 ^^^ 2 ^ j) :: []) := by
      rw [List.set_append_right _ _ (by omega)]
      simp [List.getD, List.getElem?_append_right]
    rw [e, getH_sum h ok may hs, hc]
    simp only at g1 g2
    generalize C / 256 % 256 ^^^ 2 ^ j = y at *
    rw [decide_eq_true (by omega)]
  · obtain rfl : k = (pc h).length := by omega
    obtain ⟨g1, g2⟩ := xor_bit ⟨C % 256, by omega⟩ ⟨j, hj⟩
    have e : (pc h ++ [C % 256, C / 256 % 256]).set (pc h).length ((pc h ++ [C % 256, C / 256 % 256]).getD (pc h).length 0 ^^^ 2 ^ j) = pc h ++ ((C % 256 ^^^ 2 ^ j) :: (C / 256 % 256) :: []) := by
      rw [List.set_append_right _ _ (by omega)]
      simp [List.getD, List.getElem?_append_right]
    rw [e, getH_sum h ok may hs, hc]
    simp only at g1 g2
    generalize C % 256 ^^^ 2 ^ j = y at *
    rw [decide_eq_true (by omega)]
theorem pc_ge (h : Hd) (ok : HOk h) (may : MayH h) : 10 ≤ (pc h).length := by
  have h1 := putH_ge { h with sum := false } ⟨ok.time, ok.xfl, ok.os, ok.has, ok.extra⟩ may
  have e : (putH { h with sum := false }).length = (pc h).length := by
    rw [putH]
    simp only [Bool.false_eq_true, if_false, pc, pn, px, fx8]
    split <;> split <;> split <;> simp [length_leN]
  omega
set_option maxHeartbeats 8000000 in
theorem frm_law_bits (h0 : Hd) (eo : Option Addr) (ec : Nat) (a : Nat) (w : World) (ok0 : HOk h0) (hv : ViewL w (.slice eo h0.extra.length ec) (u8s h0.extra)) (ha : a < 65536) :
    Calls Try.prog 7 #[.agg (hcells h0 (.slice eo h0.extra.length ec)), .int .u16 a] w fun e w' => e = .returned (.bool true) ∧ Ext w w' := by
  obtain ⟨i0, hi, hz0, hz1, hz2⟩ := info_parts info_u8
  obtain ⟨h, hh⟩ : ∃ h : Hd, h = { h0 with sum := true } := ⟨_, rfl⟩
  have ok : HOk h := by rw [hh]; exact ⟨ok0.time, ok0.xfl, ok0.os, ok0.has, ok0.extra⟩
  have hs : h.sum = true := by rw [hh]
  have HV := Lib.hid (show ViewL w (.slice eo h.extra.length ec) (u8s h.extra) by rw [hh]; exact hv)
  obtain ⟨q1, q2, q3, q4, q5, q6, q7, q8⟩ : h0.text = h.text ∧ h0.time = h.time ∧ h0.xfl = h.xfl ∧ h0.os = h.os ∧ h0.extra = h.extra ∧ h0.name = h.name ∧ h0.comment = h.comment ∧ h0.has = h.has := by rw [hh]; simp
  have HSUM := Lib.hid hs
  simp only [hcells, q1, q2, q3, q4, q5, q6, q7, q8]
  generalize h0.sum = s0
  clear hv ok0 hh q1 q2 q3 q4 q5 q6 q7 q8 hs
  have hbw : IsBox (w.alloc (.cells (hcells h (.slice eo h.extra.length ec)) 25)) w.heap.size h (.slice eo h.extra.length ec) := heap_alloc_new w _
  have HC1 := Lib.hid (fun wx (hx : Ext (w.alloc (.cells (hcells h (.slice eo h.extra.length ec)) 25)) wx) => head_cells (hbw.touch hx (fun f => f)))
  have HL := Lib.hid (frm_long h eo ec (w.alloc (.cells (hcells h (.slice eo h.extra.length ec)) 25)))
  simp only [hcells, HSUM.out] at HL HC1
  clear hbw
  cases hlb : longB h with
  | true =>
    rw [hlb] at HL
    go_enter Try.func7, Try.ntmps7
    go_wp2_with fail
    refine HL.out.mono ?_
    rintro e w1 ⟨rfl, hx1⟩
    have HX1 := Lib.hid (((Ext.refl w).alloc _).trans hx1)
    clear hx1
    go_wp2_with fail
    refine (frm_frames _).mono ?_
    rintro e w2 ⟨rfl, hx2⟩
    have HX2 := Lib.hid (HX1.out.trans hx2)
    clear hx2
    go_wp2_with fail
    go_ret
    exact ⟨rfl, HX2.out⟩
  | false =>
    rw [hlb] at HL
    obtain ⟨l1, l2, l3⟩ := longB_no hlb
    clear hlb
    have HM := Lib.hid (fun wx => frm_ref_may h eo ec wx ⟨by omega, by omega, by omega, ok.has⟩)
    simp only [hcells, HSUM.out] at HM
    by_cases hm : MayH h
    · rw [decide_eq_true hm] at HM
      have HP := Lib.hid (fun wx (hx : Ext w wx) => frm_put h eo ec wx ok (HV.out.ext hx) ⟨by omega, by omega, by omega⟩)
      simp only [if_pos hm, hcells, HSUM.out] at HP
      have hge : 12 ≤ (putH h).length := by have := pc_ge h ok hm; rw [putH_sum HSUM.out]; simp; omega
      have hle := putH_le h
      have HB := Lib.hid (putH_lt2 h ok hm)
      have HGB := Lib.hid (fun b j (hb : b < 2) (hj : j < 8) k hk => getH_bit ok hm HSUM.out b j hb hj k hk)
      generalize putH h = P at *
      have hgi : ¬ (P.length : Int) < 12 := by omega
      go_enter Try.func7, Try.ntmps7
      go_wp2_with fail
      refine HL.out.mono ?_
      rintro e w1 ⟨rfl, hx1⟩
      have HX1 := Lib.hid hx1
      obtain ⟨d0, d1, d2, d3, d4, d5, d6, d7, d8⟩ := HC1.out w1 hx1
      clear hx1
      go_wp2_with fail
      refine (HM.out _).mono ?_
      rintro e w2 ⟨rfl, hx2⟩
      have HX2 := Lib.hid (HX1.out.trans hx2)
      clear hx2 d0 d1 d2 d3 d4 d5 d6 d7 d8
      obtain ⟨d0, d1, d2, d3, d4, d5, d6, d7, d8⟩ := HC1.out w2 HX2.out
      go_wp2_with fail
      refine (HP.out _ (((Ext.refl w).alloc _).trans HX2.out)).mono ?_
      rintro e w3 ⟨pv, rfl, hc⟩
      have hpv := CloneOf.viewL hc
      have HX3 := Lib.hid (HX2.out.trans (ext_of hc))
      obtain ⟨po, pcap, e2⟩ := hpv.shape
      rw [length_u8s] at e2
      subst e2
      have HPV := Lib.hid hpv
      clear hc hpv d0 d1 d2 d3 d4 d5 d6 d7 d8
      have HOWN := Lib.hid (show (w3.alloc (.cells #[] 5)).ownsRow w3.heap.size 5 1 (.slice (some ⟨w3.heap.size, 0, none⟩) 0 0) 0 [] from World.ownsRow_made w3 #[] 0 (Nat.le_refl _) (by decide) rfl)
      have HVE := Lib.hid (HPV.out.ext ((Ext.refl w3).alloc (.cells #[] 5)))
      obtain ⟨K, hK⟩ : ∃ K, K = P.length - 1 - a % 2 := ⟨_, rfl⟩
      have kK : (P.length : Int) - 1 - (a : Int) % 2 = (K : Int) := by omega
      have hKl : K < P.length := by omega
      have HKD := Lib.hid hK
      clear hK
      go_wp2_with (at_builtin; go_must (refine wpList_append_view _ rfl (.tmp 37) (.tmp 38) 23 rfl w3.heap.size 5 i0 (.int .u8 0) 1 Try.underlying23 hi hz0 hz1 hz2 rfl _ 0 [] rfl HOWN.out _ (u8s P) rfl HVE.out (u8s_one _) (by rw [length_u8s]; unfold maxLen; omega) (by rw [length_u8s]; omega) (by rw [World.size_alloc]; omega) ?_))
      intro v4 w4 hown4 hgrow4 hat4
      have hx4 : Ext w3 w4 := Touch.grown ((Ext.refl w3).alloc _) hgrow4 (fun k e => Or.inr (by cases e; exact Nat.le_refl _))
      have hog4 := own_block_ge hown4
      rw [length_u8s] at hown4
      obtain ⟨g, gcap, rfl⟩ := ownsRow_form hown4 (by omega)
      have ho4 : Owns w4 5 1 (.slice (some ⟨g, 0, none⟩) P.length gcap) (some g) P.length (u8s P) := ⟨ownsRow_zero hown4, rfl⟩
      have hgg := hog4 g rfl
      obtain ⟨X0, hX0⟩ : ∃ x, x = P.getD K 0 := ⟨_, rfl⟩
      have hPK : P[K]? = some X0 := by rw [hX0, List.getD_eq_getElem?_getD, List.getElem?_eq_getElem hKl]; rfl
      have cK := ho4.cell K (.int .u8 X0) (by simp [u8s, hPK])
      have fK := ho4.free K
      have hX0l : X0 < 256 := HB.out X0 (List.mem_of_getElem? hPK)
      have hKi : (K : Int) < (P.length : Int) := by omega
      have hK0 : (0 : Int) ≤ (K : Int) := by omega
      have HO4 := Lib.hid ho4
      have HX4 := Lib.hid (HX3.out.trans hx4)
      have HX0 := Lib.hid hX0
      have hw3g := hx4.size
      obtain ⟨J, hJ⟩ : ∃ J, J = a / 2 % 8 := ⟨_, rfl⟩
      have hJ8 : J < 8 := by omega
      have HKX := Lib.hid (show bits .xor .u8 (X0 : Int) (2 ^ (a / 2 % 8) % 256) = ((X0 ^^^ 2 ^ J : Nat) : Int) by
        rw [← hJ, pow_bit ⟨J, hJ8⟩]
        exact xor_bits ⟨X0, hX0l⟩ ⟨J, hJ8⟩)
      have hY := (xor_bit ⟨X0, hX0l⟩ ⟨J, hJ8⟩).2
      have HG := Lib.hid (HGB.out (a % 2) J (by omega) hJ8 K HKD.out)
      rw [← hX0] at HG
      have hsz3 := HX3.out.size
      clear hown4 hgrow4 hat4 hx4 hog4 ho4 hX0 hPK HOWN HVE kK hJ
      go_wp2_with fail
      simp only [HKX.out]
      generalize X0 ^^^ 2 ^ J = Y at *
      obtain ⟨w5, hw5⟩ : ∃ w5, w5 = w4.setCell ⟨g, K, none⟩ (.int .u8 Y) := ⟨_, rfl⟩
      rw [← hw5]
      have ht5 : Touch (fun k => k = g) w4 w5 := by rw [hw5]; exact (Touch.refl (fun k => k = g) w4).setCell (Or.inl rfl) _
      have HX5 := Lib.hid (HX4.out.touch ht5 (fun i hi e => by omega))
      have HV5 := Lib.hid (show ViewL w5 (.slice (some ⟨g, 0, none⟩) P.length gcap) (u8s (P.set K Y)) by
        have ho : Owns w5 5 1 (.slice (some ⟨g, 0, none⟩) P.length gcap) (some g) P.length (u8s (P.set K Y)) := by
          rw [hw5]
          have := HO4.out.set K (.int .u8 Y) hKl
          rw [show (u8s P).set K (.int .u8 Y) = u8s (P.set K Y) by simp [u8s, List.map_set]] at this
          exact this
        exact ho.viewL)
      clear hw5 ht5 cK fK HO4 HKX
      refine (frm_get _ (P.set K Y) w5 HV5.out (by rw [List.length_set]; omega) (fun b k => by rcases List.mem_or_eq_of_mem_set k with k | k; exact HB.out b k; omega)).mono ?_
      rintro e w6 hq
      unfold GotH at hq
      rw [HG.out] at hq
      obtain ⟨ev, og, rfl, k1, k2, k3⟩ := hq
      obtain ⟨so, sc, rfl⟩ := k1.shape
      have HX6 := Lib.hid (HX5.out.trans k3)
      simp only [hcells, HSUM.out]
      obtain ⟨w8, hw8⟩ : ∃ w8, w8 = w6.alloc (.cells #[.bool h.text, .int .u32 h.time, .int .u8 h.xfl, .int .u8 h.os, .slice so h.extra.length sc, .string h.name, .string h.comment, .int .u8 h.has, .bool true] 25) := ⟨_, rfl⟩
      have hx8 : Ext w6 w8 := by rw [hw8]; exact (Ext.refl _).alloc _
      have HX8 := Lib.hid (HX6.out.trans hx8)
      obtain ⟨d0, d1, d2, d3, d4, d5, d6, d7, d8⟩ := HC1.out w8 HX8.out
      have HSM := Lib.hid (frm_same h h so eo sc ec w8 (k1.viewL.ext hx8) (HV.out.ext (((Ext.refl w).alloc _).trans HX8.out)) ok ok)
      simp only [hcells, HSUM.out] at HSM
      rw [hw8] at d0 d1 d2 d3 d4 d5 d6 d7 d8 HSM
      have HW8 := Lib.hid hw8
      clear hx8 hw8 k1 k2 k3
      go_wp2_with fail
      refine HSM.out.mono ?_
      rintro e w9 ⟨rfl, hx9⟩
      rw [decide_eq_true trivial]
      rw [← HW8.out] at hx9
      have HX9 := Lib.hid (((Ext.refl w).alloc _).trans (HX8.out.trans hx9))
      clear hx9 d0 d1 d2 d3 d4 d5 d6 d7 d8
      go_wp2_with fail
      refine (frm_frames _).mono ?_
      rintro e w10 ⟨rfl, hx10⟩
      have HX10 := Lib.hid (HX9.out.trans hx10)
      clear hx10
      go_wp2_with fail
      go_ret
      exact ⟨rfl, HX10.out⟩
    · rw [decide_eq_false hm] at HM
      go_enter Try.func7, Try.ntmps7
      go_wp2_with fail
      refine HL.out.mono ?_
      rintro e w1 ⟨rfl, hx1⟩
      have HX1 := Lib.hid hx1
      obtain ⟨d0, d1, d2, d3, d4, d5, d6, d7, d8⟩ := HC1.out w1 hx1
      clear hx1
      go_wp2_with fail
      refine (HM.out _).mono ?_
      rintro e w2 ⟨rfl, hx2⟩
      have HX2 := Lib.hid (((Ext.refl w).alloc _).trans (HX1.out.trans hx2))
      clear hx2 d0 d1 d2 d3 d4 d5 d6 d7 d8
      go_wp2_with fail
      refine (frm_frames _).mono ?_
      rintro e w3 ⟨rfl, hx3⟩
      have HX3 := Lib.hid (HX2.out.trans hx3)
      clear hx3
      go_wp2_with fail
      go_ret
      exact ⟨rfl, HX3.out⟩
end Go.Proofs.Ytmhkjcoidjpocaa
