/- pressworklaw23.PickPuts: its walk (its last region is laid by gen_pickputs.py). -/
import Derived.Test.YteabjmebnbaonaaPickSame
import Derived.Test.YteabjmebnbaonaaPickRefRow
import Derived.Test.YteabjmebnbaonaaPickRises
import Derived.Test.YteabjmebnbaonaaMsbRefBytes
import Derived.Test.YteabjmebnbaonaaGrowOn
namespace Go.Proofs.Yteabjmebnbaonaa
open Go.RowKit
set_option linter.unusedVariables false

theorem bitsOf_zeros (k : Nat) : bitsOf true 0 k = List.replicate k false := by
  apply List.ext_getElem
  · simp [bitsOf]
  · intro i h1 h2
    simp [bitsOf]
set_option maxHeartbeats 4000000 in
set_option maxRecDepth 100000 in
theorem pick_puts_some (v : Value) (bs : List Nat) (n K : Nat) (w : World) (hv : View w v bs ∧ ViewL w v (u8s bs)) (hb : ∀ b ∈ bs, b < 256) (hbl : bs.length ≤ 300) (hn : n < 256) (hK : (n : Int) % 16 = (K : Int)) (hK16 : K < 16) (hwK : wrap64 (K : Int) = (K : Int)) :
    Calls Try.prog 4 #[v, .int .u8 n] w fun e w' => e = .returned (.bool true) ∧ Ext w w' := by
  obtain ⟨i0, hi, hz0, hz1, hz2⟩ := info_parts msb_infoB
  obtain ⟨j0, hj, hj0, hj1, hj2⟩ := info_parts info_u8
  obtain ⟨ao, cap, rfl⟩ := hv.2.shape
  rw [length_u8s] at *
  have HV := Lib.hid hv
  have HB := Lib.hid hb
  clear hv hb
  have h1 : ¬ (300 : Int) < (bs.length : Int) := by omega
  go_enter Try.func4, Try.ntmps4
  go_wp2_with (at_builtin; go_must (refine wpList_append_view _ rfl (.tmp 13) (.tmp 14) 22 rfl w.heap.size 5 j0 (.int .u8 0) 1 Try.underlying22 hj hj0 hj1 hj2 rfl (.slice (some ⟨w.heap.size, 0, none⟩) 0 0) 0 [] rfl (World.ownsRow_made w #[] 0 (Nat.le_refl _) (by decide) rfl) _ (u8s bs) rfl (HV.out.2.ext ((Ext.refl w).alloc _)) (u8s_one bs) (by rw [length_u8s]; unfold maxLen; omega) (by rw [length_u8s]; omega) (by simp) ?_))
  intro inv w2 hown2 hgrow2 hat2
  have hx2 : Ext w w2 := Touch.grown ((Ext.refl w).alloc _) hgrow2 (fun k e => Or.inr (by cases e; exact Nat.le_refl _))
  simp only [length_u8s] at hown2
  have ho2 : Owns w2 5 1 inv inv.ownBlock bs.length (u8s bs) := ⟨ownsRow_zero hown2, rfl⟩
  obtain ⟨ai, icap, rfl⟩ := ho2.shape
  have HX2 := Lib.hid hx2
  have HVI := Lib.hid ho2.view
  have HVL := Lib.hid ho2.viewL
  have HOB := Lib.hid (show ∀ b o n c, Value.slice ai bs.length icap = .slice (some ⟨b, o, none⟩) n c → b < w2.heap.size from fun b o n c e => ho2.lt b (by rw [e]; rfl))
  clear hx2 hown2 hgrow2 hat2 ho2
  go_wp2_with fail
  obtain ⟨BW, hBW⟩ : ∃ BW, BW = w2.heap.size := ⟨_, rfl⟩
  have x23 : Ext w2 (w2.alloc (.cells #[.slice none 0 0, .int .i64 0] 30)) := (Ext.refl w2).alloc _
  have hpow : (0 : Nat) < 2 ^ K := Nat.two_pow_pos K
  refine (msb_put_ok w2.heap.size 0 K none [] _ (pick_zero w2) (by decide) (by omega) (by decide) hpow).mono ?_
  rw [← hBW]
  rintro e w3 ⟨rfl, og3, a3, n3, t3⟩
  rw [List.nil_append, bitsOf_zeros] at a3
  have n3' : Near none og3 w2 := (Near.refl _ _).trans n3 (by simp)
  have X23 : Ext w2 w3 := x23.touch t3 (fun i hi h => by rw [hBW] at h; exact fp_new w2 none (Near.refl _ _) i hi h)
  have HX23 := Lib.hid X23
  have HA3 := Lib.hid a3
  have HN3 := Lib.hid n3'
  have HBW := Lib.hid hBW
  have HFP := Lib.hid (show ∀ i, i < w2.heap.size → ¬ FP BW og3 i from fun i hi h => by rw [hBW] at h; exact fp_new w2 og3 n3' i hi h)
  clear x23 hpow a3 n3 n3' t3 X23 hBW
  go_wp2_with fail
  refine (pick_put BW og3 _ _ bs _ HA3.out (HVL.out.ext HX23.out) (fun b o n c e => HFP.out b (HOB.out b o n c e)) (by rw [List.length_replicate]; omega) (by omega)).mono ?_
  rintro e w4 (⟨rfl, hr, og4, a4, n4, t4⟩ | ⟨rfl, hr, x4⟩)
  · have X4 : Ext w2 w4 := HX23.out.touch t4 (fun i hi h => HFP.out i hi h)
    have HA4 := Lib.hid a4
    have HX4 := Lib.hid (HX2.out.trans X4)
    have HVI4 := Lib.hid (HVI.out.ext X4)
    have HRI := Lib.hid hr
    have hpl := putOf_len bs
    clear X4 a4 n4 t4 hr
    go_wp2_with (at_make; go_must (refine wpList_make_full _ rfl (.tmp 23) (.tmp 23) 38 rfl w4.heap.size 4 i0 (.bool false) 1 Try.underlying38 hi hz0 hz1 .i64 .i64 K K K rfl rfl rfl rfl (by rw [hz2]; omega) (by unfold maxLen; omega) (Nat.le_refl _) ?_))
    intro w5 hown5 hgrow5
    have ho5 : Owns w5 4 1 (.slice (some ⟨w4.heap.size, 0, none⟩) K K) (some w4.heap.size) K (bls (List.replicate K false)) := by
      refine ⟨?_, rfl⟩
      have e : (madeCells #[Value.bool false] K).toList = bls (List.replicate K false) := by rw [made_one]; simp [bls]
      rw [← e]; exact ownsRow_zero hown5
    have x5 : Ext w4 w5 := (Touch.refl _ w4).grown hgrow5 (fun k e => by cases e)
    have HO5 := Lib.hid ho5
    have HX5 := Lib.hid (HX4.out.trans x5)
    have HA5 := Lib.hid (HA4.out.ext x5)
    have H45 := Lib.hid (show Ext w4 w5 from x5)
    clear hown5 hgrow5 ho5 x5
    go_wp2_with fail
    refine (pick_rises _ bs _ (HV.out.2.ext HX5.out) (by omega)).mono ?_
    rintro e w6 ⟨hdis, x6⟩
    obtain rfl : e = .returned (.bool true) := hdis.elim (fun h => h.1) (fun h => absurd HRI.out h.2)
    have HX6 := Lib.hid (HX5.out.trans x6)
    have H46 := Lib.hid (H45.out.trans x6)
    have HO6 := Lib.hid (HO5.out.ext' x6)
    clear hdis x6
    go_wp2_with fail
    refine (pick_ref_row _ bs _ (HV.out.2.ext HX6.out) (by omega) HB.out).mono ?_
    rintro e w7 ⟨v7, og7, rfl, o7, g7, x7⟩
    obtain ⟨a7, cap7, rfl⟩ := o7.shape
    have HX7 := Lib.hid (HX6.out.trans x7)
    have H47 := Lib.hid (H46.out.trans x7)
    have HO7 := Lib.hid (HO6.out.ext' x7)
    have HR7 := Lib.hid o7.viewL
    clear x7 o7 g7
    go_wp2_with (at_builtin; go_must (refine wpList_append_view _ rfl (.tmp 38) (.tmp 40) 38 rfl 0 4 i0 (.bool false) 1 Try.underlying38 hi hz0 hz1 hz2 rfl (.slice (some ⟨w4.heap.size, 0, none⟩) K K) K (bls (List.replicate K false)) rfl HO7.out.1 _ (bls (putOf bs)) rfl HR7.out (bls_one _) (by rw [length_bls]; unfold maxLen; omega) (by rw [length_bls]; omega) (Nat.zero_le _) ?_))
    intro v8 w8 hown8 hgrow8 hat8
    have t8 : Touch (fun k => k = w4.heap.size) w7 w8 := Touch.grown (Touch.refl _ _) hgrow8 (fun k e => Or.inl (by cases e; rfl))
    have x48 : Ext w4 w8 := H47.out.touch t8 (fun i hi e => by omega)
    obtain ⟨M, hM⟩ : ∃ M, M = List.replicate K false ++ putOf bs := ⟨_, rfl⟩
    have hMl : M.length = K + (putOf bs).length := by rw [hM, List.length_append, List.length_replicate]
    rw [length_bls, ← hMl, ← bls_append, ← hM] at hown8
    have ho8 : Owns w8 4 1 v8 v8.ownBlock M.length (bls M) := ⟨hown8, rfl⟩
    obtain ⟨ra, rcap, rfl⟩ := ho8.shape
    have HR := Lib.hid ho8.viewL
    have HW := Lib.hid (show IsW 30 true w8 BW og4 M from by rw [hM]; exact HA4.out.ext x48)
    have HX8 := Lib.hid (HX4.out.trans x48)
    have HIN := Lib.hid (HVI4.out.ext x48)
    have HUS := Lib.hid (HV.out.1.ext HX8.out)
    have hq : ((strOf (packs true M)).toList == (strOf (packs true M)).toList) = true := by simp
    have hq2 : ((strOf bs).toList == (strOf bs).toList) = true := by simp
    clear hown8 hgrow8 hat8 t8 x48 hM ho8
    go_wp2_with fail
    have hst : Stab (Phi [(8, .int .i64 0), (6, .pointer (some ⟨BW, 0, none⟩)), (9, .slice ra M.length rcap), (5, .slice ai bs.length icap), (0, .slice ao bs.length cap), (42, .int .i64 0), (43, .bool true), (44, .bool true), (45, .int .i64 M.length), (46, .slice ra M.length rcap), (47, .int .i64 M.length), (48, .bool true), (49, .bool true), (50, .bool true), (52, .string (strOf (packs true M))), (53, .slice ra M.length rcap), (55, .string (strOf (packs true M))), (56, .bool true), (57, .bool true), (58, .bool true), (59, .slice ai bs.length icap), (60, .string (strOf bs)), (61, .slice ao bs.length cap), (62, .string (strOf bs)), (63, .bool true), (64, .bool true), (65, .bool true), (66, .bool true), (67, .bool true), (4, .bool true)] [(51, fun v w => View w v (packs true M)), (54, fun v w => View w v (packs true M))]) := Phi.stable (by
        intro x hx v w1 w2 he hp
        simp only [List.mem_cons, List.not_mem_nil, or_false] at hx
        rcases hx with rfl | rfl
        · exact View.ext hp he
        · exact View.ext hp he)
    refine wp_region_grow 68 [8, 6, 9, 5, 0] (by kernel_rfl) _ hst (by kernel_rfl) rfl (fun _ => ⟨rfl, rfl, rfl, rfl, rfl, trivial⟩) ⟨?_, ?_, ?_, ?_, ?_, ?_, ?_, ?_, ?_, ?_, ?_, ?_, ?_, ?_, ?_, ?_, ?_, ?_, ?_, ?_, ?_, ?_, ?_, ?_, ?_, ?_, ?_, trivial⟩ ?fin
    · refine Obl.val (.int .i64 0) (fun ev w1 hc hf hg hev => ?_) (fun d hd w1 => by cases hd; rfl)
      have h0 : ev (.tmp 8) = .int .i64 0 := hev.1
      exact ⟨rfl, by (clear hev; go_simp)⟩
    · refine Obl.val (.bool true) (fun ev w1 hc hf hg hev => ?_) (fun d hd w1 => by cases hd; rfl)
      have h0 : ev (.tmp 42) = .int .i64 0 := hev.1
      exact ⟨rfl, by (clear hev; go_simp)⟩
    · refine Obl.val (.bool true) (fun ev w1 hc hf hg hev => ?_) (fun d hd w1 => by cases hd; rfl)
      have h0 : ev (.tmp 43) = .bool true := hev.1
      exact ⟨rfl, by (clear hev; go_simp)⟩
    · refine Obl.call 21 #[.pointer (some ⟨BW, 0, none⟩)] (fun ev w1 hI hc hf hg hev => ?_)
      have h0 : ev (.tmp 44) = .bool true := hev.1; have h1 : ev (.tmp 6) = .pointer (some ⟨BW, 0, none⟩) := hev.2.1
      refine ⟨wanted_of rfl rfl h0, by (clear hev; go_simp), ?_⟩
      refine (msb_len _ _ M w1 (HW.out.ext hI)).mono ?_
      rintro e w2 ⟨rfl, rfl⟩
      exact ⟨_, rfl, Ext.refl _, fun d hd => by cases hd; rfl⟩
    · refine Obl.val (.slice ra M.length rcap) (fun ev w1 hc hf hg hev => ?_) (fun d hd w1 => by cases hd; rfl)
      have h0 : ev (.tmp 44) = .bool true := hev.1; have h1 : ev (.tmp 9) = .slice ra M.length rcap := hev.2.1
      exact ⟨wanted_of rfl rfl h0, by (clear hev; go_simp)⟩
    · refine Obl.val (.int .i64 M.length) (fun ev w1 hc hf hg hev => ?_) (fun d hd w1 => by cases hd; rfl)
      have h0 : ev (.tmp 44) = .bool true := hev.1; have h1 : ev (.tmp 46) = .slice ra M.length rcap := hev.2.1
      exact ⟨wanted_of rfl rfl h0, by (clear hev; go_simp)⟩
    · refine Obl.val (.bool true) (fun ev w1 hc hf hg hev => ?_) (fun d hd w1 => by cases hd; rfl)
      have h0 : ev (.tmp 44) = .bool true := hev.1; have h1 : ev (.tmp 45) = .int .i64 M.length := hev.2.1; have h2 : ev (.tmp 47) = .int .i64 M.length := hev.2.2.1
      exact ⟨wanted_of rfl rfl h0, by (clear hev; go_simp)⟩
    · refine Obl.val (.bool true) (fun ev w1 hc hf hg hev => ?_) (fun d hd w1 => by cases hd; rfl)
      have h0 : ev (.tmp 44) = .bool true := hev.1; have h1 : ev (.tmp 48) = .bool true := hev.2.1
      exact ⟨rfl, by (clear hev; go_simp)⟩
    · refine Obl.val (.bool true) (fun ev w1 hc hf hg hev => ?_) (fun d hd w1 => by cases hd; rfl)
      have h0 : ev (.tmp 49) = .bool true := hev.1
      exact ⟨rfl, by (clear hev; go_simp)⟩
    · refine Obl.call 18 #[.pointer (some ⟨BW, 0, none⟩)] (fun ev w1 hI hc hf hg hev => ?_)
      have h0 : ev (.tmp 50) = .bool true := hev.1; have h1 : ev (.tmp 6) = .pointer (some ⟨BW, 0, none⟩) := hev.2.1
      refine ⟨wanted_of rfl rfl h0, by (clear hev; go_simp), ?_⟩
      refine (msb_bytes _ _ M w1 (HW.out.ext hI) (by omega)).mono ?_
      rintro e w2 ⟨v, og', rfl, c1, _, c3⟩
      exact ⟨v, rfl, c3, fun d hd => by cases hd; exact c1.view⟩
    · refine Obl.val (.string (strOf (packs true M))) (fun ev w1 hc hf hg hev => ?_) (fun d hd w1 => by cases hd; rfl)
      have h0 : ev (.tmp 50) = .bool true := hev.1; have h1 : (fun v w => View w v (packs true M)) (ev (.tmp 51)) w1 := hev.2.1
      clear hev
      have hs := run_string_view (P := Try.prog) 22 9 5 (h1) Try.underlying22 Try.underlying5 Try.underlying9
      exact ⟨wanted_of rfl rfl h0, by go_simp⟩
    · refine Obl.val (.slice ra M.length rcap) (fun ev w1 hc hf hg hev => ?_) (fun d hd w1 => by cases hd; rfl)
      have h0 : ev (.tmp 50) = .bool true := hev.1; have h1 : ev (.tmp 9) = .slice ra M.length rcap := hev.2.1
      exact ⟨wanted_of rfl rfl h0, by (clear hev; go_simp)⟩
    · refine Obl.call 23 #[.slice ra M.length rcap] (fun ev w1 hI hc hf hg hev => ?_)
      have h0 : ev (.tmp 50) = .bool true := hev.1; have h1 : ev (.tmp 53) = .slice ra M.length rcap := hev.2.1
      refine ⟨wanted_of rfl rfl h0, by (clear hev; go_simp), ?_⟩
      refine (msb_ref_bytes _ M w1 (HR.out.ext hI) (by omega)).mono ?_
      rintro e w2 ⟨v, og', rfl, c1, _, c3⟩
      exact ⟨v, rfl, c3, fun d hd => by cases hd; exact c1.view⟩
    · refine Obl.val (.string (strOf (packs true M))) (fun ev w1 hc hf hg hev => ?_) (fun d hd w1 => by cases hd; rfl)
      have h0 : ev (.tmp 50) = .bool true := hev.1; have h1 : (fun v w => View w v (packs true M)) (ev (.tmp 54)) w1 := hev.2.1
      clear hev
      have hs := run_string_view (P := Try.prog) 22 9 5 (h1) Try.underlying22 Try.underlying5 Try.underlying9
      exact ⟨wanted_of rfl rfl h0, by go_simp⟩
    · refine Obl.val (.bool true) (fun ev w1 hc hf hg hev => ?_) (fun d hd w1 => by cases hd; rfl)
      have h0 : ev (.tmp 50) = .bool true := hev.1; have h1 : ev (.tmp 52) = .string (strOf (packs true M)) := hev.2.1; have h2 : ev (.tmp 55) = .string (strOf (packs true M)) := hev.2.2.1
      exact ⟨wanted_of rfl rfl h0, by (clear hev; go_simp)⟩
    · refine Obl.val (.bool true) (fun ev w1 hc hf hg hev => ?_) (fun d hd w1 => by cases hd; rfl)
      have h0 : ev (.tmp 50) = .bool true := hev.1; have h1 : ev (.tmp 56) = .bool true := hev.2.1
      exact ⟨rfl, by (clear hev; go_simp)⟩
    · refine Obl.val (.bool true) (fun ev w1 hc hf hg hev => ?_) (fun d hd w1 => by cases hd; rfl)
      have h0 : ev (.tmp 57) = .bool true := hev.1
      exact ⟨rfl, by (clear hev; go_simp)⟩
    · refine Obl.val (.slice ai bs.length icap) (fun ev w1 hc hf hg hev => ?_) (fun d hd w1 => by cases hd; rfl)
      have h0 : ev (.tmp 58) = .bool true := hev.1; have h1 : ev (.tmp 5) = .slice ai bs.length icap := hev.2.1
      exact ⟨wanted_of rfl rfl h0, by (clear hev; go_simp)⟩
    · refine Obl.some (fun ev w1 hI hc hf hg hev => ?_)
      have h0 : ev (.tmp 58) = .bool true := hev.1; have h1 : ev (.tmp 59) = .slice ai bs.length icap := hev.2.1
      clear hev
      have hs := run_string_view (P := Try.prog) 22 9 5 (HIN.out.ext hI) Try.underlying22 Try.underlying5 Try.underlying9
      exact ⟨wanted_of rfl rfl h0, .string (strOf bs), by go_simp, fun d hd => by cases hd; rfl⟩
    · refine Obl.val (.slice ao bs.length cap) (fun ev w1 hc hf hg hev => ?_) (fun d hd w1 => by cases hd; rfl)
      have h0 : ev (.tmp 58) = .bool true := hev.1; have h1 : ev (.tmp 0) = .slice ao bs.length cap := hev.2.1
      exact ⟨wanted_of rfl rfl h0, by (clear hev; go_simp)⟩
    · refine Obl.some (fun ev w1 hI hc hf hg hev => ?_)
      have h0 : ev (.tmp 58) = .bool true := hev.1; have h1 : ev (.tmp 61) = .slice ao bs.length cap := hev.2.1
      clear hev
      have hs := run_string_view (P := Try.prog) 22 9 5 (HUS.out.ext hI) Try.underlying22 Try.underlying5 Try.underlying9
      exact ⟨wanted_of rfl rfl h0, .string (strOf bs), by go_simp, fun d hd => by cases hd; rfl⟩
    · refine Obl.val (.bool true) (fun ev w1 hc hf hg hev => ?_) (fun d hd w1 => by cases hd; rfl)
      have h0 : ev (.tmp 58) = .bool true := hev.1; have h1 : ev (.tmp 60) = .string (strOf bs) := hev.2.1; have h2 : ev (.tmp 62) = .string (strOf bs) := hev.2.2.1
      exact ⟨wanted_of rfl rfl h0, by (clear hev; go_simp)⟩
    · refine Obl.val (.bool true) (fun ev w1 hc hf hg hev => ?_) (fun d hd w1 => by cases hd; rfl)
      have h0 : ev (.tmp 58) = .bool true := hev.1; have h1 : ev (.tmp 63) = .bool true := hev.2.1
      exact ⟨rfl, by (clear hev; go_simp)⟩
    · refine Obl.val (.bool true) (fun ev w1 hc hf hg hev => ?_) (fun d hd w1 => by cases hd; rfl)
      have h0 : ev (.tmp 64) = .bool true := hev.1
      exact ⟨rfl, by (clear hev; go_simp)⟩
    · refine Obl.call 16 #[] (fun ev w1 hI hc hf hg hev => ?_)
      have h0 : ev (.tmp 65) = .bool true := hev.1
      refine ⟨wanted_of rfl rfl h0, by (clear hev; go_simp), ?_⟩
      refine (pick_picks w1).mono ?_
      rintro e w2 ⟨rfl, c3⟩
      exact ⟨_, rfl, c3, fun d hd => by cases hd; rfl⟩
    · refine Obl.val (.bool true) (fun ev w1 hc hf hg hev => ?_) (fun d hd w1 => by cases hd; rfl)
      have h0 : ev (.tmp 65) = .bool true := hev.1; have h1 : ev (.tmp 66) = .bool true := hev.2.1
      exact ⟨rfl, by (clear hev; go_simp)⟩
    · refine Obl.val (.bool true) (fun ev w1 hc hf hg hev => ?_) (fun d hd w1 => by cases hd; rfl)
      have h0 : ev (.tmp 67) = .bool true := hev.1
      exact ⟨rfl, by (clear hev; go_simp)⟩
    case fin =>
      intro a' w' he hd hf
      go_wp2_with fail
      have h4 : a'.tmps.getD 4 undef = .bool true := hf 4 (by decide)
      exact bodyPost_ret (by rw [results_tmp rfl, h4]) hd ⟨rfl, HX8.out.trans he⟩
  · have HX4 := Lib.hid (HX2.out.trans (HX23.out.trans x4))
    have HA4 := Lib.hid (HA3.out.ext x4)
    have HRI := Lib.hid hr
    clear x4 hr
    go_wp2_with (at_make; go_must (refine wpList_make_full _ rfl (.tmp 23) (.tmp 23) 38 rfl w4.heap.size 4 i0 (.bool false) 1 Try.underlying38 hi hz0 hz1 .i64 .i64 K K K rfl rfl rfl rfl (by rw [hz2]; omega) (by unfold maxLen; omega) (Nat.le_refl _) ?_))
    intro w5 hown5 hgrow5
    have ho5 : Owns w5 4 1 (.slice (some ⟨w4.heap.size, 0, none⟩) K K) (some w4.heap.size) K (bls (List.replicate K false)) := by
      refine ⟨?_, rfl⟩
      have e : (madeCells #[Value.bool false] K).toList = bls (List.replicate K false) := by rw [made_one]; simp [bls]
      rw [← e]; exact ownsRow_zero hown5
    have x5 : Ext w4 w5 := (Touch.refl _ w4).grown hgrow5 (fun k e => by cases e)
    have HO5 := Lib.hid ho5
    have HX5 := Lib.hid (HX4.out.trans x5)
    have HA5 := Lib.hid (HA4.out.ext x5)
    clear hown5 hgrow5 ho5 x5 HO5
    go_wp2_with fail
    refine (pick_rises _ bs _ (HV.out.2.ext HX5.out) (by omega)).mono ?_
    rintro e w6 ⟨hdis, x6⟩
    obtain rfl : e = .returned (.bool false) := hdis.elim (fun h => absurd h.2 HRI.out) (fun h => h.1)
    have HX6 := Lib.hid (HX5.out.trans x6)
    have HA6 := Lib.hid (HA5.out.ext x6)
    clear hdis x6
    go_wp2_with fail
    refine (msb_len BW og3 _ _ HA6.out).mono ?_
    rw [List.length_replicate]
    rintro e w7 ⟨rfl, rfl⟩
    go_wp2_with fail
    refine (pick_picks _).mono ?_
    rintro e w8 ⟨rfl, x8⟩
    have HX8 := Lib.hid (HX6.out.trans x8)
    clear x8
    go_wp2_with fail
    go_ret
    exact ⟨rfl, HX8.out⟩
theorem pick_puts (v : Value) (bs : List Nat) (n : Nat) (w : World) (hv : View w v bs ∧ ViewL w v (u8s bs)) (hb : ∀ b ∈ bs, b < 256) (hbm : bs.length ≤ 140737488351232) (hn : n < 256) :
    Calls Try.prog 4 #[v, .int .u8 n] w fun e w' => e = .returned (.bool true) ∧ Ext w w' := by
  by_cases hbl : 300 < bs.length
  · obtain ⟨ao, cap, rfl⟩ := hv.2.shape
    rw [length_u8s] at *
    clear hv hb
    have h1 : (300 : Int) < (bs.length : Int) := by omega
    go_enter Try.func4, Try.ntmps4
    go_wp2_with fail
    go_ret
    exact ⟨rfl, Ext.refl w⟩
  · exact pick_puts_some v bs n (n % 16) w hv hb (by omega) hn (by omega) (by omega) (by rw [wrap64]; omega)
end Go.Proofs.Yteabjmebnbaonaa
