/- FrameTails: the law's walk. -/
import Derived.Test.YtmhkjcoidjpocaaFrmFrames
import Derived.Test.YtmhkjcoidjpocaaGrowOn

namespace Go.Proofs.Ytmhkjcoidjpocaa
open Go.RowKit
set_option linter.unusedVariables false
set_option linter.unusedSimpArgs false

set_option maxHeartbeats 4000000 in
theorem frm_law_tails (v : Value) (bs : List Nat) (u : Value) (ts : List Nat) (w : World) (hv : View w v bs ∧ ViewL w v (u8s bs)) (hb : ∀ b ∈ bs, b < 256) (hbl : bs.length ≤ 140737488351232) (hu : View w u ts ∧ ViewL w u (u8s ts)) (hub : ∀ b ∈ ts, b < 256) (hul : ts.length ≤ 140737488351232) :
    Calls Try.prog 8 #[v, u] w fun e w' => e = .returned (.bool true) ∧ Ext w w' := by
  obtain ⟨bo, bcap, rfl⟩ := hv.2.shape
  obtain ⟨ta, tcap, rfl⟩ := hu.2.shape
  simp only [length_u8s] at *
  have HV0 := Lib.hid hv.2
  have HU0 := Lib.hid hu.2
  have HB := Lib.hid hb
  have HUB := Lib.hid hub
  clear hv hb hu hub
  by_cases h1 : bs.length ≤ 5000
  · have h1i : ¬ (5000 : Int) < (bs.length : Int) := by omega
    go_enter Try.func8, Try.ntmps8
    go_wp2_with fail
    refine (frm_ref_tail _ bs _ HV0.out HB.out (by omega)).mono ?_
    rintro e w1 hc1
    obtain ⟨v1, og1, rfl, k1, k2, k3⟩ := hc1
    obtain ⟨vo, vcap, rfl⟩ := k1.shape
    rw [show (tailL bs).length = 8 by simp [tailL, length_leN]] at k1 ⊢
    have HT := Lib.hid k1.viewL
    have HX := Lib.hid (show Ext w w1 from k3)
    have HV := Lib.hid (HV0.out.ext HX.out)
    have HU := Lib.hid (HU0.out.ext HX.out)
    clear k1 k2 k3 HV0 HU0
    go_wp2_with fail
    have hst : Stab (Phi [(0, .slice bo bs.length bcap), (5, .slice vo 8 vcap), (1, .slice ta ts.length tcap), (11, .slice bo bs.length bcap), (13, .string (strOf (tailL bs))), (14, .slice vo 8 vcap), (15, .string (strOf (tailL bs))), (16, .bool true), (17, .bool true), (18, .slice bo bs.length bcap), (19, .slice vo 8 vcap), (20, .bool true), (21, .bool true), (22, .bool true), (23, .slice bo bs.length bcap), (24, .slice ta ts.length tcap), (25, .bool (decide (ts = tailL bs))), (26, .slice ta ts.length tcap), (27, .string (strOf ts)), (28, .slice vo 8 vcap), (29, .string (strOf (tailL bs))), (30, .bool (decide (ts = tailL bs))), (31, .bool true), (32, .bool true), (33, .bool true), (34, .bool true), (35, .bool true), (4, .bool true)] [(12, fun v w => View w v (tailL bs))]) := Phi.stable (by
        intro x hx v w1 w2 he hp
        simp only [List.mem_cons, List.not_mem_nil, or_false] at hx
        rcases hx with rfl
        · exact View.ext hp he)
    refine wp_region_grow 36 [0, 5, 1] (by kernel_rfl) _ hst (by kernel_rfl) rfl (fun _ => ⟨rfl, rfl, rfl, trivial⟩) ⟨?_, ?_, ?_, ?_, ?_, ?_, ?_, ?_, ?_, ?_, ?_, ?_, ?_, ?_, ?_, ?_, ?_, ?_, ?_, ?_, ?_, ?_, ?_, ?_, ?_, ?_, trivial⟩ ?fin
    · refine Obl.val (.slice bo bs.length bcap) (fun ev w1 hc hf hg hev => ?_) (fun d hd w1 => by cases hd; rfl)
      have h0 : ev (.tmp 0) = .slice bo bs.length bcap := hev.1
      exact ⟨rfl, by (clear hev; go_simp)⟩
    · refine Obl.call 19 #[.slice bo bs.length bcap] (fun ev w1 hI hc hf hg hev => ?_)
      have h0 : ev (.tmp 11) = .slice bo bs.length bcap := hev.1
      refine ⟨rfl, by (clear hev; go_simp), ?_⟩
      refine (frm_tail _ bs w1 (HV.out.ext hI) HB.out (by omega)).mono ?_
      rintro e w2 hc2
      obtain ⟨v2, og2, rfl, q1, q2, q3⟩ := hc2
      exact ⟨v2, rfl, q3, fun d hd => by cases hd; exact q1.view⟩
    · refine Obl.val (.string (strOf (tailL bs))) (fun ev w1 hc hf hg hev => ?_) (fun d hd w1 => by cases hd; rfl)
      have h0 : (fun v w => View w v (tailL bs)) (ev (.tmp 12)) w1 := hev.1
      clear hev
      have hs := run_string_view (P := Try.prog) 23 9 5 h0 Try.underlying23 Try.underlying5 Try.underlying9
      exact ⟨rfl, by go_simp⟩
    · refine Obl.val (.slice vo 8 vcap) (fun ev w1 hc hf hg hev => ?_) (fun d hd w1 => by cases hd; rfl)
      have h0 : ev (.tmp 5) = .slice vo 8 vcap := hev.1
      exact ⟨rfl, by (clear hev; go_simp)⟩
    · refine Obl.some (fun ev w1 hI hc hf hg hev => ?_)
      have h0 : ev (.tmp 14) = .slice vo 8 vcap := hev.1
      clear hev
      have hs := run_string_view (P := Try.prog) 23 9 5 (viewL_view8 (HT.out.ext hI)) Try.underlying23 Try.underlying5 Try.underlying9
      exact ⟨rfl, .string (strOf (tailL bs)), by go_simp, fun d hd => by cases hd; rfl⟩
    · refine Obl.val (.bool true) (fun ev w1 hc hf hg hev => ?_) (fun d hd w1 => by cases hd; rfl)
      have h0 : ev (.tmp 13) = .string (strOf (tailL bs)) := hev.1; have h1 : ev (.tmp 15) = .string (strOf (tailL bs)) := hev.2.1
      exact ⟨rfl, by (clear hev; go_simp)⟩
    · refine Obl.val (.bool true) (fun ev w1 hc hf hg hev => ?_) (fun d hd w1 => by cases hd; rfl)
      have h0 : ev (.tmp 16) = .bool true := hev.1
      exact ⟨rfl, by (clear hev; go_simp)⟩
    · refine Obl.val (.slice bo bs.length bcap) (fun ev w1 hc hf hg hev => ?_) (fun d hd w1 => by cases hd; rfl)
      have h0 : ev (.tmp 17) = .bool true := hev.1; have h1 : ev (.tmp 0) = .slice bo bs.length bcap := hev.2.1
      exact ⟨wanted_of rfl rfl h0, by (clear hev; go_simp)⟩
    · refine Obl.val (.slice vo 8 vcap) (fun ev w1 hc hf hg hev => ?_) (fun d hd w1 => by cases hd; rfl)
      have h0 : ev (.tmp 17) = .bool true := hev.1; have h1 : ev (.tmp 5) = .slice vo 8 vcap := hev.2.1
      exact ⟨wanted_of rfl rfl h0, by (clear hev; go_simp)⟩
    · refine Obl.call 20 #[.slice bo bs.length bcap, .slice vo 8 vcap] (fun ev w1 hI hc hf hg hev => ?_)
      have h0 : ev (.tmp 17) = .bool true := hev.1; have h1 : ev (.tmp 18) = .slice bo bs.length bcap := hev.2.1; have h2 : ev (.tmp 19) = .slice vo 8 vcap := hev.2.2.1
      refine ⟨wanted_of rfl rfl h0, by (clear hev; go_simp), ?_⟩
      refine (frm_ends _ _ bs (tailL bs) w1 (HV.out.ext hI) (HT.out.ext hI) HB.out (tailL_lt bs) (by omega)).mono ?_
      rintro e w2 ⟨rfl, c3⟩
      exact ⟨_, rfl, c3, fun d hd => by cases hd; exact congrArg Value.bool (decide_eq_true rfl)⟩
    · refine Obl.val (.bool true) (fun ev w1 hc hf hg hev => ?_) (fun d hd w1 => by cases hd; rfl)
      have h0 : ev (.tmp 17) = .bool true := hev.1; have h1 : ev (.tmp 20) = .bool true := hev.2.1
      exact ⟨rfl, by (clear hev; go_simp)⟩
    · refine Obl.val (.bool true) (fun ev w1 hc hf hg hev => ?_) (fun d hd w1 => by cases hd; rfl)
      have h0 : ev (.tmp 21) = .bool true := hev.1
      exact ⟨rfl, by (clear hev; go_simp)⟩
    · refine Obl.val (.slice bo bs.length bcap) (fun ev w1 hc hf hg hev => ?_) (fun d hd w1 => by cases hd; rfl)
      have h0 : ev (.tmp 22) = .bool true := hev.1; have h1 : ev (.tmp 0) = .slice bo bs.length bcap := hev.2.1
      exact ⟨wanted_of rfl rfl h0, by (clear hev; go_simp)⟩
    · refine Obl.val (.slice ta ts.length tcap) (fun ev w1 hc hf hg hev => ?_) (fun d hd w1 => by cases hd; rfl)
      have h0 : ev (.tmp 22) = .bool true := hev.1; have h1 : ev (.tmp 1) = .slice ta ts.length tcap := hev.2.1
      exact ⟨wanted_of rfl rfl h0, by (clear hev; go_simp)⟩
    · refine Obl.call 20 #[.slice bo bs.length bcap, .slice ta ts.length tcap] (fun ev w1 hI hc hf hg hev => ?_)
      have h0 : ev (.tmp 22) = .bool true := hev.1; have h1 : ev (.tmp 23) = .slice bo bs.length bcap := hev.2.1; have h2 : ev (.tmp 24) = .slice ta ts.length tcap := hev.2.2.1
      refine ⟨wanted_of rfl rfl h0, by (clear hev; go_simp), ?_⟩
      refine (frm_ends _ _ bs ts w1 (HV.out.ext hI) (HU.out.ext hI) HB.out HUB.out (by omega)).mono ?_
      rintro e w2 ⟨rfl, c3⟩
      exact ⟨_, rfl, c3, fun d hd => by cases hd; rfl⟩
    · refine Obl.val (.slice ta ts.length tcap) (fun ev w1 hc hf hg hev => ?_) (fun d hd w1 => by cases hd; rfl)
      have h0 : ev (.tmp 22) = .bool true := hev.1; have h1 : ev (.tmp 1) = .slice ta ts.length tcap := hev.2.1
      exact ⟨wanted_of rfl rfl h0, by (clear hev; go_simp)⟩
    · refine Obl.some (fun ev w1 hI hc hf hg hev => ?_)
      have h0 : ev (.tmp 22) = .bool true := hev.1; have h1 : ev (.tmp 26) = .slice ta ts.length tcap := hev.2.1
      clear hev
      have hs := run_string_view (P := Try.prog) 23 9 5 (viewL_view8 (HU.out.ext hI)) Try.underlying23 Try.underlying5 Try.underlying9
      exact ⟨wanted_of rfl rfl h0, .string (strOf ts), by go_simp, fun d hd => by cases hd; rfl⟩
    · refine Obl.val (.slice vo 8 vcap) (fun ev w1 hc hf hg hev => ?_) (fun d hd w1 => by cases hd; rfl)
      have h0 : ev (.tmp 22) = .bool true := hev.1; have h1 : ev (.tmp 5) = .slice vo 8 vcap := hev.2.1
      exact ⟨wanted_of rfl rfl h0, by (clear hev; go_simp)⟩
    · refine Obl.some (fun ev w1 hI hc hf hg hev => ?_)
      have h0 : ev (.tmp 22) = .bool true := hev.1; have h1 : ev (.tmp 28) = .slice vo 8 vcap := hev.2.1
      clear hev
      have hs := run_string_view (P := Try.prog) 23 9 5 (viewL_view8 (HT.out.ext hI)) Try.underlying23 Try.underlying5 Try.underlying9
      exact ⟨wanted_of rfl rfl h0, .string (strOf (tailL bs)), by go_simp, fun d hd => by cases hd; rfl⟩
    · refine Obl.some (fun ev w1 hI hc hf hg hev => ?_)
      have h0 : ev (.tmp 22) = .bool true := hev.1; have h1 : ev (.tmp 27) = .string (strOf ts) := hev.2.1; have h2 : ev (.tmp 29) = .string (strOf (tailL bs)) := hev.2.2.1
      clear hev
      have hq := str_eq HUB.out (tailL_lt bs)
      exact ⟨wanted_of rfl rfl h0, .bool (decide (ts = tailL bs)), by rw [← hq]; go_simp, fun d hd => by cases hd; rfl⟩
    · refine Obl.val (.bool true) (fun ev w1 hc hf hg hev => ?_) (fun d hd w1 => by cases hd; rfl)
      have h0 : ev (.tmp 22) = .bool true := hev.1; have h1 : ev (.tmp 25) = .bool (decide (ts = tailL bs)) := hev.2.1; have h2 : ev (.tmp 30) = .bool (decide (ts = tailL bs)) := hev.2.2.1
      exact ⟨wanted_of rfl rfl h0, by (clear hev; go_simp)⟩
    · refine Obl.val (.bool true) (fun ev w1 hc hf hg hev => ?_) (fun d hd w1 => by cases hd; rfl)
      have h0 : ev (.tmp 22) = .bool true := hev.1; have h1 : ev (.tmp 31) = .bool true := hev.2.1
      exact ⟨rfl, by (clear hev; go_simp)⟩
    · refine Obl.val (.bool true) (fun ev w1 hc hf hg hev => ?_) (fun d hd w1 => by cases hd; rfl)
      have h0 : ev (.tmp 32) = .bool true := hev.1
      exact ⟨rfl, by (clear hev; go_simp)⟩
    · refine Obl.call 14 #[] (fun ev w1 hI hc hf hg hev => ?_)
      have h0 : ev (.tmp 33) = .bool true := hev.1
      refine ⟨wanted_of rfl rfl h0, by (clear hev; go_simp), ?_⟩
      refine (frm_frames w1).mono ?_
      rintro e w2 ⟨rfl, c3⟩
      exact ⟨_, rfl, c3, fun d hd => by cases hd; rfl⟩
    · refine Obl.val (.bool true) (fun ev w1 hc hf hg hev => ?_) (fun d hd w1 => by cases hd; rfl)
      have h0 : ev (.tmp 33) = .bool true := hev.1; have h1 : ev (.tmp 34) = .bool true := hev.2.1
      exact ⟨rfl, by (clear hev; go_simp)⟩
    · refine Obl.val (.bool true) (fun ev w1 hc hf hg hev => ?_) (fun d hd w1 => by cases hd; rfl)
      have h0 : ev (.tmp 35) = .bool true := hev.1
      exact ⟨rfl, by (clear hev; go_simp)⟩
    case fin =>
      intro a' w' he hd hf
      go_wp2_with fail
      have h6 : a'.tmps.getD 4 undef = .bool true := hf 4 (by decide)
      exact bodyPost_ret (by rw [results_tmp rfl, h6]) hd ⟨rfl, HX.out.trans he⟩
  · have h1i : (5000 : Int) < (bs.length : Int) := by omega
    go_enter Try.func8, Try.ntmps8
    go_wp2_with fail
    go_ret
    exact ⟨rfl, Ext.refl _⟩
end Go.Proofs.Ytmhkjcoidjpocaa
