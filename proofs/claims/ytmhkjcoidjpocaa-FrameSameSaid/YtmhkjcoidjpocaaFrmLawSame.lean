/- FrameSame: the law's walk. -/
import Derived.Test.YtmhkjcoidjpocaaFrmRes
import Derived.Test.YtmhkjcoidjpocaaGrowOn
namespace Go.Proofs.Ytmhkjcoidjpocaa
open Go.RowKit
set_option linter.unusedVariables false
set_option linter.unusedSimpArgs false

theorem name_le (h : Hd) (may : MayH h) : h.name.size ≤ (pc h).length ∧ h.comment.size ≤ (pc h).length := by
  have h1 := may.2.2.2.1
  have h2 := may.2.2.2.2.1
  have hp : (pn h).length ≤ (pc h).length := by unfold pc; split <;> simp
  constructor
  · refine Nat.le_trans ?_ hp
    by_cases hx : h.has / 2 % 2 = 1
    · unfold pn; rw [if_pos hx]; simp [length_sb]; omega
    · omega
  · by_cases hx : h.has / 4 % 2 = 1
    · unfold pc; rw [if_pos hx]; simp [length_sb]; omega
    · omega
structure SameF (bs : List Nat) (h : Hd) (n : Nat) (wr : Bool) : Prop where
  ok : HOk h
  may : MayH h
  len : (putH h).length = n
  le : n ≤ bs.length
  small : h.name.size ≤ bs.length ∧ h.comment.size ≤ bs.length
  lt : ∀ b ∈ putH h, b < 256
  plain : h.sum = false → wr = false ∧ putH h = bs.take n
  sum : h.sum = true → 12 ≤ n ∧ (putH h).take (n - 2) = bs.take (n - 2) ∧ (decide (putH h = bs.take n) == !wr) = true
theorem sameF {bs : List Nat} {h : Hd} {n : Nat} {wr : Bool} (hb : ∀ b ∈ bs, b < 256) (hg : getH bs = some (h, n, wr)) : SameF bs h n wr := by
  have I := getH_inv hb hg
  have hle := I.le
  have hnl := name_le h I.may
  have hpl := putH_lt h I.ok I.may.1
  cases hs : h.sum with
  | false =>
    obtain ⟨hw, hp⟩ := I.plain hs
    have e : putH h = bs.take n := by rw [putH, hs]; exact hp
    have hl : (bs.take n).length = n := by rw [List.length_take]; omega
    refine ⟨I.ok, I.may, by rw [e, hl], hle, ⟨?_, ?_⟩, fun b hbm => hb b (List.mem_of_mem_take (by rw [← e]; exact hbm)), fun _ => ⟨hw, e⟩, fun k => by rw [hs] at k; cases k⟩
    · have := hnl.1; rw [hp, hl] at this; omega
    · have := hnl.2; rw [hp, hl] at this; omega
  | true =>
    obtain ⟨h12, hp, hw⟩ := I.sum hs
    have e : putH h = bs.take (n - 2) ++ leN 2 (crcL (bs.take (n - 2))) := by rw [putH, hs, if_pos rfl, hp]
    have hl : (bs.take (n - 2)).length = n - 2 := by rw [List.length_take]; omega
    have h2 : ((bs.drop (n - 2)).take 2).length = 2 := by rw [List.length_take, List.length_drop]; omega
    have hb2 : ∀ b ∈ (bs.drop (n - 2)).take 2, b < 256 := fun b k => hb b (List.mem_of_mem_drop (List.mem_of_mem_take k))
    have hv := leN_valL _ hb2
    rw [h2] at hv
    have en : bs.take n = bs.take (n - 2) ++ (bs.drop (n - 2)).take 2 := by
      rw [← List.take_add]; congr 1; omega
    refine ⟨I.ok, I.may, by rw [e, List.length_append, hl, length_leN]; omega, hle, ⟨?_, ?_⟩, ?_, fun k => by (rw [hs] at k; cases k), fun _ => ⟨h12, ?_, ?_⟩⟩
    · have := hnl.1; rw [hp, hl] at this; omega
    · have := hnl.2; rw [hp, hl] at this; omega
    · intro b hbm
      rw [e] at hbm
      rcases List.mem_append.1 hbm with k | k
      · exact hb b (List.mem_of_mem_take k)
      · exact leN_lt _ _ b k
    · rw [e]; exact take_app hl
    · rw [e, en, hw]
      generalize (bs.drop (n - 2)).take 2 = xy at *
      generalize crcL (bs.take (n - 2)) = C at *
      have hlt : valL xy < 65536 := by have := valL_lt xy hb2; rw [h2] at this; exact this
      have hC : leN 2 C = leN 2 (C % 65536) := by rw [leN2_form, leN2_form, show C % 65536 % 256 = C % 256 by omega, show C % 65536 / 256 % 256 = C / 256 % 256 by omega]
      have hCC : valL (leN 2 C) = C % 65536 := by rw [valL_leN]
      by_cases he : valL xy = C % 65536
      · have : leN 2 C = xy := by rw [hC, ← he, hv]
        simp [this, he]
      · have : leN 2 C ≠ xy := fun k => he (by rw [← k, hCC])
        simp [this, he]
set_option maxHeartbeats 8000000 in
theorem frm_law_same (v : Value) (bs : List Nat) (w : World) (hv : View w v bs ∧ ViewL w v (u8s bs)) (hb : ∀ b ∈ bs, b < 256) (hbl : bs.length ≤ 140737488351232) :
    Calls Try.prog 6 #[v] w fun e w' => e = .returned (.bool true) ∧ Ext w w' := by
  obtain ⟨bo, bcap, rfl⟩ := hv.2.shape
  simp only [length_u8s] at *
  have HV := Lib.hid hv.2
  have HB := Lib.hid hb
  have hbc : bs.length ≤ bcap := by obtain ⟨ao', cap', e, h1, _⟩ := hv.2; rw [length_u8s] at e h1; cases e; exact h1
  clear hv hb
  by_cases h1 : bs.length ≤ 2000
  · have h1i : ¬ (2000 : Int) < (bs.length : Int) := by omega
    have HG := Lib.hid (frm_get (.slice bo bs.length bcap) bs w HV.out (by omega) HB.out)
    cases hg : getH bs with
    | none =>
      go_enter Try.func6, Try.ntmps6
      go_wp2_with fail
      refine (HG.out).mono ?_
      rintro e w1 hq
      unfold GotH at hq
      rw [hg] at hq
      obtain ⟨rfl, hx1⟩ := hq
      have HX1 := Lib.hid hx1
      have HSM := Lib.hid (show ∀ wx, Calls Try.prog 13 #[.agg #[.bool false, .int .u32 0, .int .u8 0, .int .u8 0, .slice none 0 0, .string ⟨#[]⟩, .string ⟨#[]⟩, .int .u8 0, .bool false], .agg #[.bool false, .int .u32 0, .int .u8 0, .int .u8 0, .slice none 0 0, .string ⟨#[]⟩, .string ⟨#[]⟩, .int .u8 0, .bool false]] wx fun e w' => e = .returned (.bool (decide (hdZ = hdZ))) ∧ Ext wx w' from fun wx => frm_same hdZ hdZ none none 0 0 wx (viewL_nil8 wx) (viewL_nil8 wx) hdZ_ok hdZ_ok)
      simp only [hcells, hdZ]
      clear hx1
      go_wp2_with fail
      refine (HSM.out _).mono ?_
      rintro e w2 ⟨rfl, hx2⟩
      rw [decide_eq_true trivial]
      have HX2 := Lib.hid ((HX1.out.trans ((Ext.refl w1).alloc _)).trans hx2)
      clear hx2
      go_wp2_with fail
      refine (frm_frames _).mono ?_
      rintro e w3 ⟨rfl, hx3⟩
      have HX3 := Lib.hid (HX2.out.trans hx3)
      clear hx3
      go_wp2_with fail
      go_ret
      exact ⟨rfl, HX3.out⟩
    | some r =>
      obtain ⟨h, n, wr⟩ := r
      have F := Lib.hid (sameF HB.out hg)
      go_enter Try.func6, Try.ntmps6
      go_wp2_with fail
      refine (HG.out).mono ?_
      rintro e w1 hq
      unfold GotH at hq
      rw [hg] at hq
      obtain ⟨ev, og, rfl, k1, k2, k3⟩ := hq
      obtain ⟨so, sc, rfl⟩ := k1.shape
      have HK := Lib.hid k1.viewL
      have HX1 := Lib.hid k3
      have hm := F.out.may
      have hsm := F.out.small
      have hlen := F.out.len
      have hnle := F.out.le
      have HPUT := Lib.hid (fun wx (hx : Ext w1 wx) => frm_put h so sc wx F.out.ok (HK.out.ext hx) ⟨by have := hm.2.1; omega, by omega, by omega⟩)
      simp only [if_pos hm] at HPUT
      simp only [hcells] at HPUT ⊢
      clear k1 k2 k3 hm hsm hg
      go_wp2_with fail
      refine (HPUT.out _ ((Ext.refl w1).alloc _)).mono ?_
      rintro e w2 ⟨pv, rfl, hc⟩
      have hbx : IsBox w2 w1.heap.size h (.slice so h.extra.length sc) := head_box (ext_of hc)
      obtain ⟨c0, c1, c2, c3, c4, c5, c6, c7, c8⟩ := head_cells hbx
      have hpv := CloneOf.viewL hc
      obtain ⟨po, pcap, e2⟩ := hpv.shape
      rw [length_u8s, hlen] at e2
      subst e2
      have hpc : n ≤ pcap := by obtain ⟨ao', cap', e, h1, _⟩ := hpv; rw [length_u8s, hlen] at e h1; cases e; exact h1
      obtain ⟨P, hP⟩ : ∃ P, P = putH h := ⟨_, rfl⟩
      rw [← hP] at hpv
      have HPV := Lib.hid hpv
      have HX := Lib.hid ((HX1.out.trans ((Ext.refl w1).alloc _)).trans (ext_of hc))
      have HBV := Lib.hid (HV.out.ext HX.out)
      have HBN := Lib.hid (show ViewL w2 (.slice bo n bcap) (u8s (bs.take n)) by
        have := HBV.out.front n hnle
        rw [show (u8s bs).take n = u8s (bs.take n) by simp [u8s, List.map_take]] at this
        exact this)
      have q1 : (n : Int) ≤ (bs.length : Int) := by omega
      have q2 : ¬ (bs.length : Int) < (n : Int) := by omega
      have q3 : (n : Int) ≤ (bcap : Int) := by omega
      have q4 : (n : Int) ≤ (pcap : Int) := by omega
      have q5 : (0 : Int) ≤ (n : Int) := by omega
      have HPB := Lib.hid (show ∀ b ∈ P, b < 256 by rw [hP]; exact F.out.lt)
      have HNB := Lib.hid (show ∀ b ∈ bs.take n, b < 256 from fun b k => HB.out b (List.mem_of_mem_take k))
      have HPD := Lib.hid hP
      clear hc hbx hpv hP hlen hnle c0 c1 c2 c3 c4 c5 c6 c7
      cases hs : h.sum with
      | true =>
        rw [hs] at c8
        obtain ⟨h12, ht, hq⟩ := F.out.sum hs
        obtain ⟨M, hM⟩ : ∃ M, M = n - 2 := ⟨_, rfl⟩
        rw [← HPD.out, ← hM] at ht
        rw [← HPD.out] at hq
        have kM : IntKind.i64.wrap ((n : Int) - 2) = (M : Int) := by rw [IntWalk.i64_in _ (by omega)]; omega
        have hMp : (M : Int) ≤ (pcap : Int) := by omega
        have hMb : (M : Int) ≤ (bcap : Int) := by omega
        have HPM := Lib.hid (show ViewL w2 (.slice po M pcap) (u8s (bs.take M)) by
          have := HPV.out.front M (by omega)
          rw [show (u8s P).take M = u8s (P.take M) by simp [u8s, List.map_take], ht] at this
          exact this)
        have HBM := Lib.hid (show ViewL w2 (.slice bo M bcap) (u8s (bs.take M)) by
          have := HBV.out.front M (by omega)
          rw [show (u8s bs).take M = u8s (bs.take M) by simp [u8s, List.map_take]] at this
          exact this)
        have HKM := Lib.hid kM
        clear ht hM kM h12
        go_wp2_with fail
        have kM := HKM.out
        have hst : Stab (Phi [(7, .slice po n pcap), (4, .int .i64 n), (0, .slice bo bs.length bcap), (5, .bool wr), (56, .slice po n pcap), (57, .int .i64 n), (58, .int .i64 M), (59, .slice po M pcap), (60, .string (strOf (bs.take M))), (61, .slice bo bs.length bcap), (62, .int .i64 n), (63, .int .i64 M), (64, .slice bo M bcap), (65, .string (strOf (bs.take M))), (66, .bool true), (67, .bool true), (68, .slice po n pcap), (69, .string (strOf P)), (70, .slice bo bs.length bcap), (71, .int .i64 n), (72, .slice bo n bcap), (73, .string (strOf (bs.take n))), (74, .bool (decide (P = bs.take n))), (75, .bool wr), (76, .bool (!wr)), (77, .bool true), (78, .bool true), (79, .bool true), (80, .bool true), (81, .bool true), (2, .bool true)] []) := Phi.stable (fun x hx => by cases hx)
        refine wp_region_grow 96 [7, 4, 0, 5] (by kernel_rfl) _ hst (by kernel_rfl) rfl (fun _ => ⟨rfl, rfl, rfl, rfl, trivial⟩) ⟨?_, ?_, ?_, ?_, ?_, ?_, ?_, ?_, ?_, ?_, ?_, ?_, ?_, ?_, ?_, ?_, ?_, ?_, ?_, ?_, ?_, ?_, ?_, ?_, ?_, ?_, ?_, trivial⟩ ?fin
        · refine Obl.val (.slice po n pcap) (fun ev w1 hc hf hg hev => ?_) (fun d hd w1 => by cases hd; rfl)
          have h0 : ev (.tmp 7) = .slice po n pcap := hev.1
          exact ⟨rfl, by (clear hev; go_simp)⟩
        · refine Obl.val (.int .i64 n) (fun ev w1 hc hf hg hev => ?_) (fun d hd w1 => by cases hd; rfl)
          have h0 : ev (.tmp 4) = .int .i64 n := hev.1
          exact ⟨rfl, by (clear hev; go_simp)⟩
        · refine Obl.val (.int .i64 M) (fun ev w1 hc hf hg hev => ?_) (fun d hd w1 => by cases hd; rfl)
          have h0 : ev (.tmp 57) = .int .i64 n := hev.1
          exact ⟨rfl, by (clear hev; go_simp)⟩
        · refine Obl.val (.slice po M pcap) (fun ev w1 hc hf hg hev => ?_) (fun d hd w1 => by cases hd; rfl)
          have h0 : ev (.tmp 56) = .slice po n pcap := hev.1; have h1 : ev (.tmp 58) = .int .i64 M := hev.2.1
          exact ⟨rfl, by (clear hev; go_simp)⟩
        · refine Obl.some (fun ev w1 hI hc hf hg hev => ?_)
          have h0 : ev (.tmp 59) = .slice po M pcap := hev.1
          clear hev
          have hs := run_string_view (P := Try.prog) 23 9 5 (viewL_view8 (HPM.out.ext hI)) Try.underlying23 Try.underlying5 Try.underlying9
          exact ⟨rfl, .string (strOf (bs.take M)), by go_simp, fun d hd => by cases hd; rfl⟩
        · refine Obl.val (.slice bo bs.length bcap) (fun ev w1 hc hf hg hev => ?_) (fun d hd w1 => by cases hd; rfl)
          have h0 : ev (.tmp 0) = .slice bo bs.length bcap := hev.1
          exact ⟨rfl, by (clear hev; go_simp)⟩
        · refine Obl.val (.int .i64 n) (fun ev w1 hc hf hg hev => ?_) (fun d hd w1 => by cases hd; rfl)
          have h0 : ev (.tmp 4) = .int .i64 n := hev.1
          exact ⟨rfl, by (clear hev; go_simp)⟩
        · refine Obl.val (.int .i64 M) (fun ev w1 hc hf hg hev => ?_) (fun d hd w1 => by cases hd; rfl)
          have h0 : ev (.tmp 62) = .int .i64 n := hev.1
          exact ⟨rfl, by (clear hev; go_simp)⟩
        · refine Obl.val (.slice bo M bcap) (fun ev w1 hc hf hg hev => ?_) (fun d hd w1 => by cases hd; rfl)
          have h0 : ev (.tmp 61) = .slice bo bs.length bcap := hev.1; have h1 : ev (.tmp 63) = .int .i64 M := hev.2.1
          exact ⟨rfl, by (clear hev; go_simp)⟩
        · refine Obl.some (fun ev w1 hI hc hf hg hev => ?_)
          have h0 : ev (.tmp 64) = .slice bo M bcap := hev.1
          clear hev
          have hs := run_string_view (P := Try.prog) 23 9 5 (viewL_view8 (HBM.out.ext hI)) Try.underlying23 Try.underlying5 Try.underlying9
          exact ⟨rfl, .string (strOf (bs.take M)), by go_simp, fun d hd => by cases hd; rfl⟩
        · refine Obl.val (.bool true) (fun ev w1 hc hf hg hev => ?_) (fun d hd w1 => by cases hd; rfl)
          have h0 : ev (.tmp 60) = .string (strOf (bs.take M)) := hev.1; have h1 : ev (.tmp 65) = .string (strOf (bs.take M)) := hev.2.1
          exact ⟨rfl, by (clear hev; go_simp)⟩
        · refine Obl.val (.bool true) (fun ev w1 hc hf hg hev => ?_) (fun d hd w1 => by cases hd; rfl)
          have h0 : ev (.tmp 66) = .bool true := hev.1
          exact ⟨rfl, by (clear hev; go_simp)⟩
        · refine Obl.val (.slice po n pcap) (fun ev w1 hc hf hg hev => ?_) (fun d hd w1 => by cases hd; rfl)
          have h0 : ev (.tmp 67) = .bool true := hev.1; have h1 : ev (.tmp 7) = .slice po n pcap := hev.2.1
          exact ⟨wanted_of rfl rfl h0, by (clear hev; go_simp)⟩
        · refine Obl.some (fun ev w1 hI hc hf hg hev => ?_)
          have h0 : ev (.tmp 67) = .bool true := hev.1; have h1 : ev (.tmp 68) = .slice po n pcap := hev.2.1
          clear hev
          have hs := run_string_view (P := Try.prog) 23 9 5 (viewL_view8 (HPV.out.ext hI)) Try.underlying23 Try.underlying5 Try.underlying9
          exact ⟨wanted_of rfl rfl h0, .string (strOf P), by go_simp, fun d hd => by cases hd; rfl⟩
        · refine Obl.val (.slice bo bs.length bcap) (fun ev w1 hc hf hg hev => ?_) (fun d hd w1 => by cases hd; rfl)
          have h0 : ev (.tmp 67) = .bool true := hev.1; have h1 : ev (.tmp 0) = .slice bo bs.length bcap := hev.2.1
          exact ⟨wanted_of rfl rfl h0, by (clear hev; go_simp)⟩
        · refine Obl.val (.int .i64 n) (fun ev w1 hc hf hg hev => ?_) (fun d hd w1 => by cases hd; rfl)
          have h0 : ev (.tmp 67) = .bool true := hev.1; have h1 : ev (.tmp 4) = .int .i64 n := hev.2.1
          exact ⟨wanted_of rfl rfl h0, by (clear hev; go_simp)⟩
        · refine Obl.val (.slice bo n bcap) (fun ev w1 hc hf hg hev => ?_) (fun d hd w1 => by cases hd; rfl)
          have h0 : ev (.tmp 67) = .bool true := hev.1; have h1 : ev (.tmp 70) = .slice bo bs.length bcap := hev.2.1; have h2 : ev (.tmp 71) = .int .i64 n := hev.2.2.1
          exact ⟨wanted_of rfl rfl h0, by (clear hev; go_simp)⟩
        · refine Obl.some (fun ev w1 hI hc hf hg hev => ?_)
          have h0 : ev (.tmp 67) = .bool true := hev.1; have h1 : ev (.tmp 72) = .slice bo n bcap := hev.2.1
          clear hev
          have hs := run_string_view (P := Try.prog) 23 9 5 (viewL_view8 (HBN.out.ext hI)) Try.underlying23 Try.underlying5 Try.underlying9
          exact ⟨wanted_of rfl rfl h0, .string (strOf (bs.take n)), by go_simp, fun d hd => by cases hd; rfl⟩
        · refine Obl.some (fun ev w1 hI hc hf hg hev => ?_)
          have h0 : ev (.tmp 67) = .bool true := hev.1; have h1 : ev (.tmp 69) = .string (strOf P) := hev.2.1; have h2 : ev (.tmp 73) = .string (strOf (bs.take n)) := hev.2.2.1
          clear hev
          have hq := str_eq HPB.out HNB.out
          exact ⟨wanted_of rfl rfl h0, .bool (decide (P = bs.take n)), by rw [← hq]; go_simp, fun d hd => by cases hd; rfl⟩
        · refine Obl.val (.bool wr) (fun ev w1 hc hf hg hev => ?_) (fun d hd w1 => by cases hd; rfl)
          have h0 : ev (.tmp 67) = .bool true := hev.1; have h1 : ev (.tmp 5) = .bool wr := hev.2.1
          exact ⟨wanted_of rfl rfl h0, by (clear hev; go_simp)⟩
        · refine Obl.val (.bool (!wr)) (fun ev w1 hc hf hg hev => ?_) (fun d hd w1 => by cases hd; rfl)
          have h0 : ev (.tmp 67) = .bool true := hev.1; have h1 : ev (.tmp 75) = .bool wr := hev.2.1
          exact ⟨wanted_of rfl rfl h0, by (clear hev; go_simp)⟩
        · refine Obl.val (.bool true) (fun ev w1 hc hf hg hev => ?_) (fun d hd w1 => by cases hd; rfl)
          have h0 : ev (.tmp 67) = .bool true := hev.1; have h1 : ev (.tmp 74) = .bool (decide (P = bs.take n)) := hev.2.1; have h2 : ev (.tmp 76) = .bool (!wr) := hev.2.2.1
          exact ⟨wanted_of rfl rfl h0, by (clear hev; go_simp)⟩
        · refine Obl.val (.bool true) (fun ev w1 hc hf hg hev => ?_) (fun d hd w1 => by cases hd; rfl)
          have h0 : ev (.tmp 67) = .bool true := hev.1; have h1 : ev (.tmp 77) = .bool true := hev.2.1
          exact ⟨rfl, by (clear hev; go_simp)⟩
        · refine Obl.val (.bool true) (fun ev w1 hc hf hg hev => ?_) (fun d hd w1 => by cases hd; rfl)
          have h0 : ev (.tmp 78) = .bool true := hev.1
          exact ⟨rfl, by (clear hev; go_simp)⟩
        · refine Obl.call 14 #[] (fun ev w1 hI hc hf hg hev => ?_)
          have h0 : ev (.tmp 79) = .bool true := hev.1
          refine ⟨wanted_of rfl rfl h0, by (clear hev; go_simp), ?_⟩
          refine (frm_frames w1).mono ?_
          rintro e w2 ⟨rfl, c3⟩
          exact ⟨_, rfl, c3, fun d hd => by cases hd; rfl⟩
        · refine Obl.val (.bool true) (fun ev w1 hc hf hg hev => ?_) (fun d hd w1 => by cases hd; rfl)
          have h0 : ev (.tmp 79) = .bool true := hev.1; have h1 : ev (.tmp 80) = .bool true := hev.2.1
          exact ⟨rfl, by (clear hev; go_simp)⟩
        · refine Obl.val (.bool true) (fun ev w1 hc hf hg hev => ?_) (fun d hd w1 => by cases hd; rfl)
          have h0 : ev (.tmp 81) = .bool true := hev.1
          exact ⟨rfl, by (clear hev; go_simp)⟩
        case fin =>
          intro a' w' he hd hf
          go_wp2_with fail
          have h6 : a'.tmps.getD 2 undef = .bool true := hf 2 (by decide)
          exact bodyPost_ret (by rw [results_tmp rfl, h6]) hd ⟨rfl, HX.out.trans he⟩
      | false =>
        rw [hs] at c8
        obtain ⟨hw, ht⟩ := F.out.plain hs
        subst hw
        rw [← HPD.out] at ht
        have HPN := Lib.hid (show ViewL w2 (.slice po n pcap) (u8s (bs.take n)) by rw [← ht]; exact HPV.out)
        clear ht
        go_wp2_with fail
        have hst : Stab (Phi [(7, .slice po n pcap), (0, .slice bo bs.length bcap), (4, .int .i64 n), (5, .bool false), (82, .slice po n pcap), (83, .string (strOf (bs.take n))), (84, .slice bo bs.length bcap), (85, .int .i64 n), (86, .slice bo n bcap), (87, .string (strOf (bs.take n))), (88, .bool true), (89, .bool true), (90, .bool false), (91, .bool true), (92, .bool true), (93, .bool true), (94, .bool true), (95, .bool true), (2, .bool true)] []) := Phi.stable (fun x hx => by cases hx)
        refine wp_region_grow 96 [7, 0, 4, 5] (by kernel_rfl) _ hst (by kernel_rfl) rfl (fun _ => ⟨rfl, rfl, rfl, rfl, trivial⟩) ⟨?_, ?_, ?_, ?_, ?_, ?_, ?_, ?_, ?_, ?_, ?_, ?_, ?_, ?_, ?_, trivial⟩ ?fin
        · refine Obl.val (.slice po n pcap) (fun ev w1 hc hf hg hev => ?_) (fun d hd w1 => by cases hd; rfl)
          have h0 : ev (.tmp 7) = .slice po n pcap := hev.1
          exact ⟨rfl, by (clear hev; go_simp)⟩
        · refine Obl.some (fun ev w1 hI hc hf hg hev => ?_)
          have h0 : ev (.tmp 82) = .slice po n pcap := hev.1
          clear hev
          have hs := run_string_view (P := Try.prog) 23 9 5 (viewL_view8 (HPN.out.ext hI)) Try.underlying23 Try.underlying5 Try.underlying9
          exact ⟨rfl, .string (strOf (bs.take n)), by go_simp, fun d hd => by cases hd; rfl⟩
        · refine Obl.val (.slice bo bs.length bcap) (fun ev w1 hc hf hg hev => ?_) (fun d hd w1 => by cases hd; rfl)
          have h0 : ev (.tmp 0) = .slice bo bs.length bcap := hev.1
          exact ⟨rfl, by (clear hev; go_simp)⟩
        · refine Obl.val (.int .i64 n) (fun ev w1 hc hf hg hev => ?_) (fun d hd w1 => by cases hd; rfl)
          have h0 : ev (.tmp 4) = .int .i64 n := hev.1
          exact ⟨rfl, by (clear hev; go_simp)⟩
        · refine Obl.val (.slice bo n bcap) (fun ev w1 hc hf hg hev => ?_) (fun d hd w1 => by cases hd; rfl)
          have h0 : ev (.tmp 84) = .slice bo bs.length bcap := hev.1; have h1 : ev (.tmp 85) = .int .i64 n := hev.2.1
          exact ⟨rfl, by (clear hev; go_simp)⟩
        · refine Obl.some (fun ev w1 hI hc hf hg hev => ?_)
          have h0 : ev (.tmp 86) = .slice bo n bcap := hev.1
          clear hev
          have hs := run_string_view (P := Try.prog) 23 9 5 (viewL_view8 (HBN.out.ext hI)) Try.underlying23 Try.underlying5 Try.underlying9
          exact ⟨rfl, .string (strOf (bs.take n)), by go_simp, fun d hd => by cases hd; rfl⟩
        · refine Obl.val (.bool true) (fun ev w1 hc hf hg hev => ?_) (fun d hd w1 => by cases hd; rfl)
          have h0 : ev (.tmp 83) = .string (strOf (bs.take n)) := hev.1; have h1 : ev (.tmp 87) = .string (strOf (bs.take n)) := hev.2.1
          exact ⟨rfl, by (clear hev; go_simp)⟩
        · refine Obl.val (.bool true) (fun ev w1 hc hf hg hev => ?_) (fun d hd w1 => by cases hd; rfl)
          have h0 : ev (.tmp 88) = .bool true := hev.1
          exact ⟨rfl, by (clear hev; go_simp)⟩
        · refine Obl.val (.bool false) (fun ev w1 hc hf hg hev => ?_) (fun d hd w1 => by cases hd; rfl)
          have h0 : ev (.tmp 89) = .bool true := hev.1; have h1 : ev (.tmp 5) = .bool false := hev.2.1
          exact ⟨wanted_of rfl rfl h0, by (clear hev; go_simp)⟩
        · refine Obl.val (.bool true) (fun ev w1 hc hf hg hev => ?_) (fun d hd w1 => by cases hd; rfl)
          have h0 : ev (.tmp 89) = .bool true := hev.1; have h1 : ev (.tmp 90) = .bool false := hev.2.1
          exact ⟨wanted_of rfl rfl h0, by (clear hev; go_simp)⟩
        · refine Obl.val (.bool true) (fun ev w1 hc hf hg hev => ?_) (fun d hd w1 => by cases hd; rfl)
          have h0 : ev (.tmp 89) = .bool true := hev.1; have h1 : ev (.tmp 91) = .bool true := hev.2.1
          exact ⟨rfl, by (clear hev; go_simp)⟩
        · refine Obl.val (.bool true) (fun ev w1 hc hf hg hev => ?_) (fun d hd w1 => by cases hd; rfl)
          have h0 : ev (.tmp 92) = .bool true := hev.1
          exact ⟨rfl, by (clear hev; go_simp)⟩
        · refine Obl.call 14 #[] (fun ev w1 hI hc hf hg hev => ?_)
          have h0 : ev (.tmp 93) = .bool true := hev.1
          refine ⟨wanted_of rfl rfl h0, by (clear hev; go_simp), ?_⟩
          refine (frm_frames w1).mono ?_
          rintro e w2 ⟨rfl, c3⟩
          exact ⟨_, rfl, c3, fun d hd => by cases hd; rfl⟩
        · refine Obl.val (.bool true) (fun ev w1 hc hf hg hev => ?_) (fun d hd w1 => by cases hd; rfl)
          have h0 : ev (.tmp 93) = .bool true := hev.1; have h1 : ev (.tmp 94) = .bool true := hev.2.1
          exact ⟨rfl, by (clear hev; go_simp)⟩
        · refine Obl.val (.bool true) (fun ev w1 hc hf hg hev => ?_) (fun d hd w1 => by cases hd; rfl)
          have h0 : ev (.tmp 95) = .bool true := hev.1
          exact ⟨rfl, by (clear hev; go_simp)⟩
        case fin =>
          intro a' w' he hd hf
          go_wp2_with fail
          have h6 : a'.tmps.getD 2 undef = .bool true := hf 2 (by decide)
          exact bodyPost_ret (by rw [results_tmp rfl, h6]) hd ⟨rfl, HX.out.trans he⟩
  · have h1i : (2000 : Int) < (bs.length : Int) := by omega
    go_enter Try.func6, Try.ntmps6
    go_wp2_with fail
    go_ret
    exact ⟨rfl, Ext.refl _⟩
end Go.Proofs.Ytmhkjcoidjpocaa
