/- GunzipKnown: the law's walk. -/
import Derived.Test.YtbbcphloafmldaaGrowTwoZ
import Derived.Test.YtbbcphloafmldaaBnd23
namespace Go.Proofs.Ytbbcphloafmldaa
open Go.RowKit
set_option linter.unusedVariables false
set_option linter.unusedSimpArgs false

theorem heap_alloc_new' (w : World) (o : Obj) : (w.alloc o).heap[w.heap.size]? = some o := heap_alloc_new w o
theorem view_heap {w : World} {q : Nat} {bs : List Nat} {T : TypeId} {fz : Nat × Nat} {n : Nat} (h : w.heap[q]? = some (.cells (u8s bs).toArray T fz)) (hn : bs.length = n) : ViewL w (.slice (some ⟨q, 0, none⟩) n n) (u8s bs) := by
  subst hn
  refine ⟨some ⟨q, 0, none⟩, bs.length, by rw [length_u8s], by rw [length_u8s]; exact Nat.le_refl _, (fun e => by cases e), fun _ => ⟨q, 0, rfl, fun j u hu => ?_⟩⟩
  simp only [World.cell?, h, Nat.zero_add]
  simpa using hu
theorem flow_not_row {w : World} {q : Nat} {v : Value} {a b : Int} {c : Bool} {cur : Array Value} {fz : Nat × Nat} (h : FB w q v a b c) (k : w.heap[q]? = some (.cells cur 5 fz)) : False := by
  have h' : w.heap[q]? = _ := h
  rw [k] at h'
  injection h' with h'
  injection h' with _ h2
  exact absurd h2 (by decide)
set_option maxHeartbeats 16000000 in
set_option maxRecDepth 100000 in
theorem gun_law_known (w : World) : Calls Try.prog 4 #[] w fun e w' => e = .returned (.bool true) ∧ Ext w w' := by
  obtain ⟨i0, hi, hz0, hz1, hz2⟩ := info_parts info_u8
  go_enter Try.func4, Try.ntmps4
  have HX := Lib.hid (Ext.refl w)
  go_wp2_with fail
  refine (gun_small _).mono ?_
  rintro e w1 ⟨rfl, hw⟩
  have hx : Ext w w1 := by rw [hw]; exact (Ext.refl _).alloc _
  have HAqm := Lib.hid (show ViewL w1 (.slice (some ⟨w.heap.size, 0, none⟩) 21 21) (u8s small) from hw ▸ small_view w)
  have HX := Lib.hid (HX.out.trans hx)
  clear hw hx
  generalize w.heap.size = qm at *
  go_wp2_with fail
  refine (gun_small _).mono ?_
  rintro e w2 ⟨rfl, hw⟩
  have hx : Ext w1 w2 := by rw [hw]; exact (Ext.refl _).alloc _
  have HAqa := Lib.hid (show ViewL w2 (.slice (some ⟨w1.heap.size, 0, none⟩) 21 21) (u8s small) from hw ▸ small_view w1)
  have HAqm := Lib.hid (HAqm.out.ext hx)
  have HX := Lib.hid (HX.out.trans hx)
  clear hw hx
  generalize w1.heap.size = qa at *
  go_wp2_with (at_builtin; go_must (refine wpList_append_grows _ rfl (.tmp 25) (.tmp 26) 22 rfl 5 i0 (.int .u8 0) 1 1 Try.underlying22 hi hz0 hz1 hz2 rfl (by decide) (some ⟨qa, 0, none⟩) 21 21 (u8s small) rfl (fun e => by cases e) rfl (fun b e => by cases e; exact view_adds HAqa.out (by decide)) ⟨qm, 0, none⟩ 21 21 (u8s small) rfl rfl (view_adds HAqm.out (by decide)) (u8s_one _) (by decide) (by unfold maxLen; decide) (by decide) ?_))
  intro v w3 hown hgrow
  have hx : Ext w2 w3 := Touch.grown (Ext.refl w2) hgrow (fun k e => by cases e)
  have HC := Lib.hid (show ViewL w3 v (u8s (small ++ small)) from by rw [u8s_append]; exact own_viewL (w := w2) (m := 21) (n := 21) hown)
  have HAqm := Lib.hid (HAqm.out.ext hx)
  have HAqa := Lib.hid (HAqa.out.ext hx)
  have HX := Lib.hid (HX.out.trans hx)
  clear hown hgrow hx
  go_wp2_with fail
  refine (gun_known (keep := 9) (L := [97, 97]) (M := 2) (N := 2) (G := 42) (ex_two 9) rfl rfl rfl rfl HC.out (by decide) (fun x hx => by rcases List.mem_append.1 hx with h | h; exact small_lt x h; exact small_lt x h) (by decide)).mono ?_
  rintro e w4 ⟨of2, cf2, rfl, hv, hx⟩
  have HV2 := Lib.hid hv
  have HAqm := Lib.hid (HAqm.out.ext hx)
  have HX := Lib.hid (HX.out.trans hx)
  clear hv hx
  obtain ⟨w5, hw⟩ : ∃ w5, w5 = w4.alloc (.cells #[.slice of2 2 cf2, .int .i64 2, .int .i64 42, .bool false] 25) := ⟨_, rfl⟩
  obtain ⟨f2, hb⟩ : ∃ f2, f2 = w4.heap.size := ⟨_, rfl⟩
  have hx : Ext w4 w5 := by rw [hw]; exact (Ext.refl _).alloc _
  have Hf2 := Lib.hid (show FB w5 f2 (.slice of2 2 cf2) 2 42 false by rw [hw, hb]; exact FB.new _ _ _ _ _)
  have HAqm := Lib.hid (HAqm.out.ext hx)
  have HV2 := Lib.hid (HV2.out.ext hx)
  have HX := Lib.hid (HX.out.trans hx)
  clear hx
  clear HAqa HC
  go_wp2_with fail
  rw [← hw, ← hb]
  clear hw hb
  refine (gun_small _).mono ?_
  rintro e w6 ⟨rfl, hw⟩
  have hx : Ext w5 w6 := by rw [hw]; exact (Ext.refl _).alloc _
  have HAqb := Lib.hid (show ViewL w6 (.slice (some ⟨w5.heap.size, 0, none⟩) 21 21) (u8s small) from hw ▸ small_view w5)
  have HAqm := Lib.hid (HAqm.out.ext hx)
  have HV2 := Lib.hid (HV2.out.ext hx)
  have Hf2 := Lib.hid (Hf2.out.keep hx (fun f => f))
  have HX := Lib.hid (HX.out.trans hx)
  clear hw hx
  generalize w5.heap.size = qb at *
  obtain ⟨w7, hw⟩ : ∃ w7, w7 = w6.alloc (.cells #[.int .u8 0] 5) := ⟨_, rfl⟩
  have hx : Ext w6 w7 := by rw [hw]; exact (Ext.refl _).alloc _
  have HZ := Lib.hid (show ViewL w7 (.slice (some ⟨w6.heap.size, 0, none⟩) 1 1) (u8s [0]) from hw ▸ (view_new w6 [0] 5 (0, 0)).viewL (fun a n c e => by cases e; exact Nat.le_refl _))
  have hw' := hw.symm
  have HAqm := Lib.hid (HAqm.out.ext hx)
  have HV2 := Lib.hid (HV2.out.ext hx)
  have Hf2 := Lib.hid (Hf2.out.keep hx (fun f => f))
  have HAqb := Lib.hid (HAqb.out.ext hx)
  have HX := Lib.hid (HX.out.trans hx)
  clear hw hx
  go_wp2_with (at_builtin; go_must (refine wpList_append_grows _ rfl (.tmp 32) (.tmp 33) 22 rfl 5 i0 (.int .u8 0) 1 1 Try.underlying22 hi hz0 hz1 hz2 rfl (by decide) (some ⟨qb, 0, none⟩) 21 21 (u8s small) rfl (fun e => by cases e) rfl (fun b e => by cases e; exact view_adds HAqb.out (by decide)) ⟨w6.heap.size, 0, none⟩ 1 1 (u8s [0]) rfl rfl (view_adds HZ.out (by decide)) (u8s_one _) (by decide) (by unfold maxLen; decide) (by decide) ?_))
  intro v w8 hown hgrow
  have hx : Ext w7 w8 := Touch.grown (Ext.refl w7) hgrow (fun k e => by cases e)
  have HC := Lib.hid (show ViewL w8 v (u8s (small ++ [0])) from by rw [u8s_append]; exact own_viewL (w := w7) (m := 21) (n := 1) hown)
  have HAqm := Lib.hid (HAqm.out.ext hx)
  have HV2 := Lib.hid (HV2.out.ext hx)
  have Hf2 := Lib.hid (Hf2.out.keep hx (fun f => f))
  have HX := Lib.hid (HX.out.trans hx)
  clear hown hgrow hx HAqb HZ hw'
  go_wp2_with fail
  refine (gun_no (keep := 9) (ex_more 9) HC.out (by decide) (fun x hx => by rcases List.mem_append.1 hx with h | h; exact small_lt x h; exact by rw [List.mem_singleton.1 h]; decide) (by decide)).mono ?_
  rintro e w9 ⟨rfl, hx⟩
  have HAqm := Lib.hid (HAqm.out.ext hx)
  have HV2 := Lib.hid (HV2.out.ext hx)
  have Hf2 := Lib.hid (Hf2.out.keep hx (fun f => f))
  have HX := Lib.hid (HX.out.trans hx)
  clear hx
  obtain ⟨w10, hw⟩ : ∃ w10, w10 = w9.alloc (.cells #[.slice none 0 0, .int .i64 0, .int .i64 0, .bool false] 25) := ⟨_, rfl⟩
  have hx : Ext w9 w10 := by rw [hw]; exact (Ext.refl _).alloc _
  have HAqm := Lib.hid (HAqm.out.ext hx)
  have HV2 := Lib.hid (HV2.out.ext hx)
  have Hf2 := Lib.hid (Hf2.out.keep hx (fun f => f))
  have HX := Lib.hid (HX.out.trans hx)
  clear hx
  go_wp2_with fail
  rw [← hw]
  clear hw HC
  have HM20 := Lib.hid (show ViewL w10 (.slice (some ⟨qm, 0, none⟩) 20 21) (u8s (small.take 20)) from HAqm.out.front 20 (by decide))
  go_wp2_with fail
  refine (gun_no (keep := 9) (ex_short 9) HM20.out (by decide) (fun x hx => small_lt x (List.mem_of_mem_take hx)) (by decide)).mono ?_
  rintro e w11 ⟨rfl, hx⟩
  have HAqm := Lib.hid (HAqm.out.ext hx)
  have HV2 := Lib.hid (HV2.out.ext hx)
  have Hf2 := Lib.hid (Hf2.out.keep hx (fun f => f))
  have HM20 := Lib.hid (HM20.out.ext hx)
  have HX := Lib.hid (HX.out.trans hx)
  clear hx
  obtain ⟨w12, hw⟩ : ∃ w12, w12 = w11.alloc (.cells #[.slice none 0 0, .int .i64 0, .int .i64 0, .bool false] 25) := ⟨_, rfl⟩
  have hx : Ext w11 w12 := by rw [hw]; exact (Ext.refl _).alloc _
  have HAqm := Lib.hid (HAqm.out.ext hx)
  have HV2 := Lib.hid (HV2.out.ext hx)
  have Hf2 := Lib.hid (Hf2.out.keep hx (fun f => f))
  have HM20 := Lib.hid (HM20.out.ext hx)
  have HX := Lib.hid (HX.out.trans hx)
  clear hx
  go_wp2_with fail
  rw [← hw]
  clear hw
  go_wp2_with fail
  refine (gun_neg (some ⟨qm, 0, none⟩) 21 21 (-1) _ (by decide)).mono ?_
  rintro e w13 ⟨rfl, hx⟩
  have HAqm := Lib.hid (HAqm.out.ext hx)
  have HV2 := Lib.hid (HV2.out.ext hx)
  have Hf2 := Lib.hid (Hf2.out.keep hx (fun f => f))
  have HM20 := Lib.hid (HM20.out.ext hx)
  have HX := Lib.hid (HX.out.trans hx)
  clear hx
  obtain ⟨w14, hw⟩ : ∃ w14, w14 = w13.alloc (.cells #[.slice none 0 0, .int .i64 0, .int .i64 0, .bool false] 25) := ⟨_, rfl⟩
  have hx : Ext w13 w14 := by rw [hw]; exact (Ext.refl _).alloc _
  have HAqm := Lib.hid (HAqm.out.ext hx)
  have HV2 := Lib.hid (HV2.out.ext hx)
  have Hf2 := Lib.hid (Hf2.out.keep hx (fun f => f))
  have HM20 := Lib.hid (HM20.out.ext hx)
  have HX := Lib.hid (HX.out.trans hx)
  clear hx
  go_wp2_with fail
  rw [← hw]
  clear hw
  have hst : Stab (Phi [(1, .slice (some ⟨qm, 0, none⟩) 21 21), (51, .slice (some ⟨qm, 0, none⟩) 21 21), (52, .slice (some ⟨qm, 0, none⟩) 20 21), (54, .tuple #[.agg #[.slice none 0 0, .int .i64 0, .int .i64 0, .bool false], .int .i64 2]), (49, .tuple #[.agg #[.slice none 0 0, .int .i64 0, .int .i64 0, .bool false], .int .i64 2]), (55, .agg #[.slice none 0 0, .int .i64 0, .int .i64 0, .bool false]), (56, .int .i64 2), (11, .int .i64 2)] [(50, fun v w => ∃ q, v = .slice (some ⟨q, 0, none⟩) 21 21 ∧ w.heap[q]? = some (.cells (u8s small).toArray 5 (21, 22))), (53, fun v w => ∃ og, Owns w 5 1 v og 41 (u8s (small ++ small.take 20))), (10, fun v w => ∃ q a b c d, v = .pointer (some ⟨q, 0, none⟩) ∧ w14.heap.size ≤ q ∧ FB w q a b c d)]) := Phi.stable (by
      intro x hx v w1 w2 he hp
      simp only [List.mem_cons, List.not_mem_nil, or_false] at hx
      rcases hx with rfl | rfl | rfl
      · exact (hp.imp fun q h => ⟨h.1, Touch.keep he h.2 (fun f => f)⟩)
      · exact (hp.imp fun q h => h.keep he (fun _ _ f => f))
      · exact (by obtain ⟨q, a, b, c, d, h1, h2, h3⟩ := hp; exact ⟨q, a, b, c, d, h1, h2, h3.keep he (fun f => f)⟩))
  refine wp_region_two 164 [1] [50, 51, 52, 53, 54, 49, 55, 56, 10, 11] 9 [0, 0, 0, 0, 0, 0, 0, 2, 0, 2, 2] (fun w1 => Ext w14 w1) (fun w1 => Ext w14 w1) (by kernel_rfl) _ hst (fun _ _ h k => h.trans k) (fun _ _ h k => h.trans k) (by kernel_rfl) rfl rfl (fun _ => ⟨rfl, trivial⟩) (Ext.refl w14) ⟨?_, ?_, ?_, ?_, ?_, ?_, ?_, ?_, ?_, ?_, ?_, trivial⟩ ?fin
  · refine Obl.call 8 #[] (fun ev w1 hI hc hf hg hev => ?_)
    refine ⟨rfl, by (clear hev; go_simp), ?_⟩
    have hI2 : Ext w14 w1 := hI
    refine (gun_small w1).mono ?_
    rintro e w2 ⟨rfl, hw⟩
    exact ⟨_, rfl, by rw [hw]; exact (Ext.refl _).alloc _, fun d hd => by cases hd; exact ⟨_, rfl, hw ▸ heap_alloc_new w1 _⟩⟩
  · refine Obl.val (.slice (some ⟨qm, 0, none⟩) 21 21) (fun ev w1 hc hf hg hev => ?_) (fun d hd w1 => by cases hd; rfl)
    have h0 : ev (.tmp 1) = .slice (some ⟨qm, 0, none⟩) 21 21 := hev.1
    exact ⟨rfl, by (clear hev; go_simp)⟩
  · refine Obl.val (.slice (some ⟨qm, 0, none⟩) 20 21) (fun ev w1 hc hf hg hev => ?_) (fun d hd w1 => by cases hd; rfl)
    have h0 : ev (.tmp 51) = .slice (some ⟨qm, 0, none⟩) 21 21 := hev.1
    clear hev
    exact ⟨rfl, by go_simp⟩
  · refine obl_mem (fun ev w1 hI hc hf hg hev => ?_)
    have h0 : (fun v w => ∃ q, v = .slice (some ⟨q, 0, none⟩) 21 21 ∧ w.heap[q]? = some (.cells (u8s small).toArray 5 (21, 22))) (ev (.tmp 50)) w1 := hev.1; have h1 : ev (.tmp 52) = .slice (some ⟨qm, 0, none⟩) 20 21 := hev.2.1
    clear hev
    have hI2 : Ext w14 w1 := hI
    obtain ⟨q, e50, hh⟩ := h0
    have hq := view_heap (n := 21) hh rfl
    obtain ⟨v', w2, r1, r2, r3⟩ := run_append_arg_grows (P := Try.prog) w1 22 22 5 i0 (.int .u8 0) 1 1 Try.underlying22 hi hz0 hz1 hz2 rfl (by decide) ⟨q, 0, none⟩ 21 21 (u8s small) rfl (view_adds hq (by decide)) ⟨qm, 0, none⟩ 20 21 (u8s (small.take 20)) rfl (view_adds (HM20.out.ext hI2) (by decide)) (by decide) (by unfold maxLen; decide) (by decide)
    refine ⟨rfl, v', w2, by simp [execOp, resolve, invoke, builtin, e50, h1, r1, Result.andThen], Touch.grown (Ext.refl w1) r3 (fun k e => by cases e), fun d hd => ?_⟩
    cases hd
    exact ⟨v'.ownBlock, by rw [u8s_append]; exact ownsRow_zero r2, rfl⟩
  · refine obl_callx (fun ev w1 hI hc hf hg hev => ?_)
    have h0 : (fun v w => ∃ og, Owns w 5 1 v og 41 (u8s (small ++ small.take 20))) (ev (.tmp 53)) w1 := hev.1
    have hI2 : Ext w14 w1 := hI
    clear hev
    obtain ⟨og, h0⟩ := h0
    obtain ⟨ao, ac, e53⟩ := Owns.shape h0
    rw [e53] at h0
    have h0 := h0.viewL
    refine ⟨rfl, 5, #[.slice ao 41 ac, .int .i64 9], by go_simp, ?_⟩
    refine (gun_no (keep := 9) (ex_cut 9) h0 (by decide) (fun x hx => by rcases List.mem_append.1 hx with h | h; exact small_lt x h; exact small_lt x (List.mem_of_mem_take h)) (by decide)).mono ?_
    rintro e w2 ⟨rfl, hx⟩
    exact ⟨_, rfl, hx, fun d hd => by cases hd; rfl⟩
  · refine Obl.val (.tuple #[.agg #[.slice none 0 0, .int .i64 0, .int .i64 0, .bool false], .int .i64 2]) (fun ev w1 hc hf hg hev => ?_) (fun d hd w1 => by cases hd; rfl)
    have h0 : ev (.tmp 54) = .tuple #[.agg #[.slice none 0 0, .int .i64 0, .int .i64 0, .bool false], .int .i64 2] := hev.1
    exact ⟨rfl, by (clear hev; go_simp)⟩
  · refine Obl.val (.agg #[.slice none 0 0, .int .i64 0, .int .i64 0, .bool false]) (fun ev w1 hc hf hg hev => ?_) (fun d hd w1 => by cases hd; rfl)
    have h0 : ev (.tmp 49) = .tuple #[.agg #[.slice none 0 0, .int .i64 0, .int .i64 0, .bool false], .int .i64 2] := hev.1
    exact ⟨rfl, by (clear hev; go_simp)⟩
  · refine Obl.val (.int .i64 2) (fun ev w1 hc hf hg hev => ?_) (fun d hd w1 => by cases hd; rfl)
    have h0 : ev (.tmp 49) = .tuple #[.agg #[.slice none 0 0, .int .i64 0, .int .i64 0, .bool false], .int .i64 2] := hev.1
    exact ⟨rfl, by (clear hev; go_simp)⟩
  · refine obl_mem (fun ev w1 hI hc hf hg hev => ?_)
    clear hev
    have hI2 : Ext w14 w1 := hI
    refine ⟨rfl, .pointer (some ⟨w1.heap.size, 0, none⟩), w1.alloc (.cells #[.slice none 0 0, .int .i64 0, .int .i64 0, .bool false] 25), by go_simp, (Ext.refl w1).alloc _, fun d hd => ?_⟩
    cases hd
    exact ⟨_, _, _, _, _, rfl, hI2.size, FB.new _ _ _ _ _⟩
  · refine OblC.skip (fun ev w1 hI hc hf hg hev => ?_)
    have h0 : (fun v w => ∃ q a b c d, v = .pointer (some ⟨q, 0, none⟩) ∧ w14.heap.size ≤ q ∧ FB w q a b c d) (ev (.tmp 10)) w1 := hev.1; have h1 : ev (.tmp 55) = .agg #[.slice none 0 0, .int .i64 0, .int .i64 0, .bool false] := hev.2.1
    obtain ⟨q, a, b, c, d, h0, h2, h3⟩ := h0
    have hI2 : Ext w14 w1 := hI
    have hs := h3.set (.slice none 0 0) 0 0 false
    obtain ⟨⟨c0, c1, c2, c3⟩, fd⟩ := h3.cells
    have f0 := fd 0
    have f1 := fd 1
    have f2 := fd 2
    have f3 := fd 3
    clear hev fd
    refine ⟨rfl, (((w1.setCell ⟨q, 0, none⟩ (.slice none 0 0)).setCell ⟨q, 1, none⟩ (.int .i64 0)).setCell ⟨q, 2, none⟩ (.int .i64 0)).setCell ⟨q, 3, none⟩ (.bool false), by go_simp, Touch.trans (S := fun _ => False) hI2 hs.2 (fun k hk e => by omega), ?_, fun d hd => by cases hd⟩
    intro t u ht hp
    refine Phi.mono ?_ hp
    intro x hx v hp
    simp only [List.mem_cons, List.not_mem_nil, or_false] at hx
    rcases hx with rfl | rfl | rfl
    · obtain ⟨q2, h1, h4⟩ := hp
      exact ⟨q2, h1, hs.2.keep h4 (fun e => flow_not_row h3 (show w1.heap[q]? = _ from e ▸ h4))⟩
    · obtain ⟨og, h4⟩ := hp
      exact ⟨og, h4.keep hs.2 (fun g e e2 => by have e3 := owns_type h4 (e.trans (congrArg some e2)) h3; exact absurd e3 (by decide))⟩
    · obtain ⟨q2, a2, b2, c2, d2, h1, h4, h5⟩ := hp
      by_cases e : q2 = q
      · exact ⟨q2, _, _, _, _, h1, h4, by rw [e]; exact hs.1⟩
      · exact ⟨q2, a2, b2, c2, d2, h1, h4, h5.keep hs.2 e⟩
  · refine Obl.val (.int .i64 2) (fun ev w1 hc hf hg hev => ?_) (fun d hd w1 => by cases hd; rfl)
    have h0 : ev (.tmp 56) = .int .i64 2 := hev.1
    exact ⟨rfl, by (clear hev; go_simp)⟩
  case fin =>
    intro vs w15 he5 hf
    have e51 : vs 51 = .slice (some ⟨qm, 0, none⟩) 21 21 := hf 51 (by decide)
    have e52 : vs 52 = .slice (some ⟨qm, 0, none⟩) 20 21 := hf 52 (by decide)
    have e54 : vs 54 = .tuple #[.agg #[.slice none 0 0, .int .i64 0, .int .i64 0, .bool false], .int .i64 2] := hf 54 (by decide)
    have e49 : vs 49 = .tuple #[.agg #[.slice none 0 0, .int .i64 0, .int .i64 0, .bool false], .int .i64 2] := hf 49 (by decide)
    have e55 : vs 55 = .agg #[.slice none 0 0, .int .i64 0, .int .i64 0, .bool false] := hf 55 (by decide)
    have e56 : vs 56 = .int .i64 2 := hf 56 (by decide)
    have e11 : vs 11 = .int .i64 2 := hf 11 (by decide)
    simp only [List.foldl_cons, List.foldl_nil]
    rw [e51, e52, e54, e49, e55, e56, e11]
    generalize vs 50 = u50
    generalize vs 53 = u53
    generalize vs 10 = u10
    simp only [Act.put, List.setIfInBounds_toArray, List.set_cons_succ, List.set_cons_zero]
    clear hf e51 e52 e54 e49 e55 e56 e11
    have HAqm := Lib.hid (HAqm.out.ext he5)
    have HV2 := Lib.hid (HV2.out.ext he5)
    have Hf2 := Lib.hid (Hf2.out.keep he5 (fun f => f))
    have HM20 := Lib.hid (HM20.out.ext he5)
    have HX := Lib.hid (HX.out.trans he5)
    clear he5 HM20
    go_wp2_with fail
    refine (gun_small _).mono ?_
    rintro e w16 ⟨rfl, hw⟩
    obtain ⟨qd, hqd⟩ : ∃ qd, qd = w15.heap.size := ⟨_, rfl⟩
    have hh := heap_alloc_new' w15 (.cells (u8s small).toArray 5 (21, 22))
    rw [← hw, ← hqd] at hh
    rw [← hqd]
    have hx1 : Ext w15 w16 := by rw [hw]; exact (Ext.refl _).alloc _
    have hc : w16.cell? ⟨qd, 20, none⟩ = some (.int .u8 0) := by simp [World.cell?, hh, u8s, small]
    have hf : w16.frozen? ⟨qd, 20, none⟩ = false := by simp [World.frozen?, hh]
    obtain ⟨w17, hw3⟩ : ∃ w17, w17 = w16.setCell ⟨qd, 20, none⟩ (.int .u8 1) := ⟨_, rfl⟩
    have hx : Ext w15 w17 := by rw [hw3]; exact hx1.setCell (Or.inr (by show _ ≤ qd; rw [hqd]; exact Nat.le_refl _)) _
    have hh3 : w17.heap[qd]? = some (.cells (u8s smallBad).toArray 5 (21, 22)) := by rw [hw3]; exact (heap_setCell_at (a := ⟨qd, 20, none⟩) (u := .int .u8 1) hh rfl).trans (by rfl)
    have HAqd := Lib.hid (show ViewL w17 (.slice (some ⟨qd, 0, none⟩) 21 21) (u8s smallBad) from view_heap hh3 (by decide))
    have HAqm := Lib.hid (HAqm.out.ext hx)
    have HV2 := Lib.hid (HV2.out.ext hx)
    have Hf2 := Lib.hid (Hf2.out.keep hx (fun f => f))
    have HX := Lib.hid (HX.out.trans hx)
    clear hw hqd hh hx1 hx hh3
    go_wp2_with fail
    rw [← hw3]
    clear hw3 hc hf
    go_wp2_with fail
    refine (gun_known (keep := 9) (L := [97]) (M := 1) (N := 1) (G := 21) (ex_bad 9) rfl rfl rfl rfl HAqd.out (by decide) (smallBad_lt) (by decide)).mono ?_
    rintro e w18 ⟨of13, cf13, rfl, hv, hx⟩
    have HAqm := Lib.hid (HAqm.out.ext hx)
    have HV2 := Lib.hid (HV2.out.ext hx)
    have Hf2 := Lib.hid (Hf2.out.keep hx (fun f => f))
    have HAqd := Lib.hid (HAqd.out.ext hx)
    have HX := Lib.hid (HX.out.trans hx)
    clear hv hx
    obtain ⟨w19, hw⟩ : ∃ w19, w19 = w18.alloc (.cells #[.slice of13 1 cf13, .int .i64 1, .int .i64 21, .bool true] 25) := ⟨_, rfl⟩
    obtain ⟨f13, hb⟩ : ∃ f13, f13 = w18.heap.size := ⟨_, rfl⟩
    have hx : Ext w18 w19 := by rw [hw]; exact (Ext.refl _).alloc _
    have Hf13 := Lib.hid (show FB w19 f13 (.slice of13 1 cf13) 1 21 true by rw [hw, hb]; exact FB.new _ _ _ _ _)
    have HAqm := Lib.hid (HAqm.out.ext hx)
    have HV2 := Lib.hid (HV2.out.ext hx)
    have Hf2 := Lib.hid (Hf2.out.keep hx (fun f => f))
    have HAqd := Lib.hid (HAqd.out.ext hx)
    have HX := Lib.hid (HX.out.trans hx)
    clear hx
    go_wp2_with fail
    rw [← hw, ← hb]
    clear hw hb
    go_wp2_with fail
    refine (gun_known (keep := 0) (L := []) (M := 0) (N := 1) (G := 21) (ex_bad 0) rfl rfl rfl rfl HAqd.out (by decide) (smallBad_lt) (by decide)).mono ?_
    rintro e w20 ⟨of15, cf15, rfl, hv, hx⟩
    have HAqm := Lib.hid (HAqm.out.ext hx)
    have HV2 := Lib.hid (HV2.out.ext hx)
    have Hf2 := Lib.hid (Hf2.out.keep hx (fun f => f))
    have HAqd := Lib.hid (HAqd.out.ext hx)
    have Hf13 := Lib.hid (Hf13.out.keep hx (fun f => f))
    have HX := Lib.hid (HX.out.trans hx)
    clear hv hx
    obtain ⟨w21, hw⟩ : ∃ w21, w21 = w20.alloc (.cells #[.slice of15 0 cf15, .int .i64 1, .int .i64 21, .bool false] 25) := ⟨_, rfl⟩
    obtain ⟨f15, hb⟩ : ∃ f15, f15 = w20.heap.size := ⟨_, rfl⟩
    have hx : Ext w20 w21 := by rw [hw]; exact (Ext.refl _).alloc _
    have Hf15 := Lib.hid (show FB w21 f15 (.slice of15 0 cf15) 1 21 false by rw [hw, hb]; exact FB.new _ _ _ _ _)
    have HAqm := Lib.hid (HAqm.out.ext hx)
    have HV2 := Lib.hid (HV2.out.ext hx)
    have Hf2 := Lib.hid (Hf2.out.keep hx (fun f => f))
    have HAqd := Lib.hid (HAqd.out.ext hx)
    have Hf13 := Lib.hid (Hf13.out.keep hx (fun f => f))
    have HX := Lib.hid (HX.out.trans hx)
    clear hx
    go_wp2_with fail
    rw [← hw, ← hb]
    clear hw hb
    refine (gun_small _).mono ?_
    rintro e w22 ⟨rfl, hw⟩
    have hx : Ext w21 w22 := by rw [hw]; exact (Ext.refl _).alloc _
    have HAqe := Lib.hid (show ViewL w22 (.slice (some ⟨w21.heap.size, 0, none⟩) 21 21) (u8s small) from hw ▸ small_view w21)
    have HAqm := Lib.hid (HAqm.out.ext hx)
    have HV2 := Lib.hid (HV2.out.ext hx)
    have Hf2 := Lib.hid (Hf2.out.keep hx (fun f => f))
    have HAqd := Lib.hid (HAqd.out.ext hx)
    have Hf13 := Lib.hid (Hf13.out.keep hx (fun f => f))
    have Hf15 := Lib.hid (Hf15.out.keep hx (fun f => f))
    have HX := Lib.hid (HX.out.trans hx)
    clear hw hx
    generalize w21.heap.size = qe at *
    go_wp2_with (at_builtin; go_must (refine wpList_append_grows _ rfl (.tmp 71) (.tmp 72) 22 rfl 5 i0 (.int .u8 0) 1 1 Try.underlying22 hi hz0 hz1 hz2 rfl (by decide) (some ⟨qe, 0, none⟩) 21 21 (u8s small) rfl (fun e => by cases e) rfl (fun b e => by cases e; exact view_adds HAqe.out (by decide)) ⟨qd, 0, none⟩ 21 21 (u8s smallBad) rfl rfl (view_adds HAqd.out (by decide)) (u8s_one _) (by decide) (by unfold maxLen; decide) (by decide) ?_))
    intro v w23 hown hgrow
    have hx : Ext w22 w23 := Touch.grown (Ext.refl w22) hgrow (fun k e => by cases e)
    have HC := Lib.hid (show ViewL w23 v (u8s (small ++ smallBad)) from by rw [u8s_append]; exact own_viewL (w := w22) (m := 21) (n := 21) hown)
    have HAqm := Lib.hid (HAqm.out.ext hx)
    have HV2 := Lib.hid (HV2.out.ext hx)
    have Hf2 := Lib.hid (Hf2.out.keep hx (fun f => f))
    have HAqd := Lib.hid (HAqd.out.ext hx)
    have Hf13 := Lib.hid (Hf13.out.keep hx (fun f => f))
    have Hf15 := Lib.hid (Hf15.out.keep hx (fun f => f))
    have HAqe := Lib.hid (HAqe.out.ext hx)
    have HX := Lib.hid (HX.out.trans hx)
    clear hown hgrow hx
    go_wp2_with fail
    refine (gun_known (keep := 1) (L := [97]) (M := 1) (N := 2) (G := 42) (ex_then 1) rfl rfl rfl rfl HC.out (by decide) (fun x hx => by rcases List.mem_append.1 hx with h | h; exact small_lt x h; exact smallBad_lt x h) (by decide)).mono ?_
    rintro e w24 ⟨of17, cf17, rfl, hv, hx⟩
    have HAqm := Lib.hid (HAqm.out.ext hx)
    have HV2 := Lib.hid (HV2.out.ext hx)
    have Hf2 := Lib.hid (Hf2.out.keep hx (fun f => f))
    have HAqd := Lib.hid (HAqd.out.ext hx)
    have Hf13 := Lib.hid (Hf13.out.keep hx (fun f => f))
    have Hf15 := Lib.hid (Hf15.out.keep hx (fun f => f))
    have HX := Lib.hid (HX.out.trans hx)
    clear hv hx
    obtain ⟨w25, hw⟩ : ∃ w25, w25 = w24.alloc (.cells #[.slice of17 1 cf17, .int .i64 2, .int .i64 42, .bool false] 25) := ⟨_, rfl⟩
    obtain ⟨f17, hb⟩ : ∃ f17, f17 = w24.heap.size := ⟨_, rfl⟩
    have hx : Ext w24 w25 := by rw [hw]; exact (Ext.refl _).alloc _
    have Hf17 := Lib.hid (show FB w25 f17 (.slice of17 1 cf17) 2 42 false by rw [hw, hb]; exact FB.new _ _ _ _ _)
    have HAqm := Lib.hid (HAqm.out.ext hx)
    have HV2 := Lib.hid (HV2.out.ext hx)
    have Hf2 := Lib.hid (Hf2.out.keep hx (fun f => f))
    have HAqd := Lib.hid (HAqd.out.ext hx)
    have Hf13 := Lib.hid (Hf13.out.keep hx (fun f => f))
    have Hf15 := Lib.hid (Hf15.out.keep hx (fun f => f))
    have HX := Lib.hid (HX.out.trans hx)
    clear hx
    clear HAqe HC
    go_wp2_with (at_builtin; rw [← hw, ← hb]; go_must (refine wpList_append_grows _ rfl (.tmp 78) (.tmp 79) 22 rfl 5 i0 (.int .u8 0) 1 1 Try.underlying22 hi hz0 hz1 hz2 rfl (by decide) (some ⟨qd, 0, none⟩) 21 21 (u8s smallBad) rfl (fun e => by cases e) rfl (fun b e => by cases e; exact view_adds HAqd.out (by decide)) ⟨qm, 0, none⟩ 21 21 (u8s small) rfl rfl (view_adds HAqm.out (by decide)) (u8s_one _) (by decide) (by unfold maxLen; decide) (by decide) ?_))
    intro v w26 hown hgrow
    rw [← hw] at hgrow
    have hx : Ext w25 w26 := Touch.grown (Ext.refl w25) hgrow (fun k e => by cases e)
    have HC := Lib.hid (show ViewL w26 v (u8s (smallBad ++ small)) from by rw [u8s_append]; exact own_viewL (w := w25) (m := 21) (n := 21) hown)
    have HAqm := Lib.hid (HAqm.out.ext hx)
    have HV2 := Lib.hid (HV2.out.ext hx)
    have Hf2 := Lib.hid (Hf2.out.keep hx (fun f => f))
    have HAqd := Lib.hid (HAqd.out.ext hx)
    have Hf13 := Lib.hid (Hf13.out.keep hx (fun f => f))
    have Hf15 := Lib.hid (Hf15.out.keep hx (fun f => f))
    have Hf17 := Lib.hid (Hf17.out.keep hx (fun f => f))
    have HX := Lib.hid (HX.out.trans hx)
    clear hown hgrow hx
    rw [← hb]
    clear hw hb
    go_wp2_with fail
    refine (gun_known (keep := 1) (L := [97]) (M := 1) (N := 2) (G := 42) (ex_first 1) rfl rfl rfl rfl HC.out (by decide) (fun x hx => by rcases List.mem_append.1 hx with h | h; exact smallBad_lt x h; exact small_lt x h) (by decide)).mono ?_
    rintro e w27 ⟨of19, cf19, rfl, hv, hx⟩
    have HV2 := Lib.hid (HV2.out.ext hx)
    have Hf2 := Lib.hid (Hf2.out.keep hx (fun f => f))
    have Hf13 := Lib.hid (Hf13.out.keep hx (fun f => f))
    have Hf15 := Lib.hid (Hf15.out.keep hx (fun f => f))
    have Hf17 := Lib.hid (Hf17.out.keep hx (fun f => f))
    have HX := Lib.hid (HX.out.trans hx)
    clear hv hx
    obtain ⟨w28, hw⟩ : ∃ w28, w28 = w27.alloc (.cells #[.slice of19 1 cf19, .int .i64 2, .int .i64 42, .bool true] 25) := ⟨_, rfl⟩
    obtain ⟨f19, hb⟩ : ∃ f19, f19 = w27.heap.size := ⟨_, rfl⟩
    have hx : Ext w27 w28 := by rw [hw]; exact (Ext.refl _).alloc _
    have Hf19 := Lib.hid (show FB w28 f19 (.slice of19 1 cf19) 2 42 true by rw [hw, hb]; exact FB.new _ _ _ _ _)
    have HV2 := Lib.hid (HV2.out.ext hx)
    have Hf2 := Lib.hid (Hf2.out.keep hx (fun f => f))
    have Hf13 := Lib.hid (Hf13.out.keep hx (fun f => f))
    have Hf15 := Lib.hid (Hf15.out.keep hx (fun f => f))
    have Hf17 := Lib.hid (Hf17.out.keep hx (fun f => f))
    have HX := Lib.hid (HX.out.trans hx)
    clear hx
    clear HAqd HAqm HC
    obtain ⟨w29, hw2⟩ : ∃ w29, w29 = w28.alloc (.cells #[.int .u8 31, .int .u8 139, .int .u8 8, .int .u8 2, .int .u8 0, .int .u8 0, .int .u8 0, .int .u8 0, .int .u8 0, .int .u8 255, .int .u8 0, .int .u8 0, .int .u8 75, .int .u8 4, .int .u8 0, .int .u8 67, .int .u8 190, .int .u8 183, .int .u8 232, .int .u8 1, .int .u8 0, .int .u8 0, .int .u8 0] 5 (23, 24)) := ⟨_, rfl⟩
    have hx : Ext w28 w29 := by rw [hw2]; exact (Ext.refl _).alloc _
    have HS := Lib.hid (show ViewL w29 (.slice (some ⟨w27.heap.size + 1, 0, none⟩) 23 23) (u8s smallSum) from by
      have h := (view_new w28 smallSum 5 (23, 24)).viewL (fun a n c e => by cases e; exact Nat.le_refl _)
      rw [show w28.heap.size = w27.heap.size + 1 by rw [hw, World.size_alloc]] at h
      rw [hw2]; exact h)
    have kc : (convert 22 22 (.slice (some ⟨w27.heap.size + 1, 0, none⟩) 23 23)).run Try.prog ((w27.alloc (.cells #[.slice of19 1 cf19, .int .i64 2, .int .i64 42, .bool true] 25)).alloc (.cells #[.int .u8 31, .int .u8 139, .int .u8 8, .int .u8 2, .int .u8 0, .int .u8 0, .int .u8 0, .int .u8 0, .int .u8 0, .int .u8 255, .int .u8 0, .int .u8 0, .int .u8 75, .int .u8 4, .int .u8 0, .int .u8 67, .int .u8 190, .int .u8 183, .int .u8 232, .int .u8 1, .int .u8 0, .int .u8 0, .int .u8 0] 5)) = .ok (.slice (some ⟨w27.heap.size + 1, 0, none⟩) 23 23) w29 := by
      have h := Go.Lib.run_convert_bytes_const (P := Try.prog) w28 22 5 #[.int .u8 31, .int .u8 139, .int .u8 8, .int .u8 2, .int .u8 0, .int .u8 0, .int .u8 0, .int .u8 0, .int .u8 0, .int .u8 255, .int .u8 0, .int .u8 0, .int .u8 75, .int .u8 4, .int .u8 0, .int .u8 67, .int .u8 190, .int .u8 183, .int .u8 232, .int .u8 1, .int .u8 0, .int .u8 0, .int .u8 0] 23 23 Try.underlying22 Try.underlying5
      rw [hw, World.size_alloc] at h
      rw [hw2, hw]
      exact h
    subst hb
    have HV2 := Lib.hid (HV2.out.ext hx)
    have Hf2 := Lib.hid (Hf2.out.keep hx (fun f => f))
    have Hf13 := Lib.hid (Hf13.out.keep hx (fun f => f))
    have Hf15 := Lib.hid (Hf15.out.keep hx (fun f => f))
    have Hf17 := Lib.hid (Hf17.out.keep hx (fun f => f))
    have Hf19 := Lib.hid (Hf19.out.keep hx (fun f => f))
    have HX := Lib.hid (HX.out.trans hx)
    clear hx
    have HW := Lib.hid (And.intro hw hw2)
    clear hw hw2
    go_wp2_with fail
    refine (gun_known (keep := 0) (L := []) (M := 0) (N := 1) (G := 23) (ex_sum 0) rfl rfl rfl rfl HS.out (by decide) (by decide) (by decide)).mono ?_
    rintro e w30 ⟨of21, cf21, rfl, hv, hx⟩
    have HV2 := Lib.hid (HV2.out.ext hx)
    have Hf2 := Lib.hid (Hf2.out.keep hx (fun f => f))
    have Hf13 := Lib.hid (Hf13.out.keep hx (fun f => f))
    have Hf15 := Lib.hid (Hf15.out.keep hx (fun f => f))
    have Hf17 := Lib.hid (Hf17.out.keep hx (fun f => f))
    have Hf19 := Lib.hid (Hf19.out.keep hx (fun f => f))
    have HX := Lib.hid (HX.out.trans hx)
    clear hv hx
    obtain ⟨w31, hw⟩ : ∃ w31, w31 = w30.alloc (.cells #[.slice of21 0 cf21, .int .i64 1, .int .i64 23, .bool true] 25) := ⟨_, rfl⟩
    obtain ⟨f21, hb⟩ : ∃ f21, f21 = w30.heap.size := ⟨_, rfl⟩
    have hx : Ext w30 w31 := by rw [hw]; exact (Ext.refl _).alloc _
    have Hf21 := Lib.hid (show FB w31 f21 (.slice of21 0 cf21) 1 23 true by rw [hw, hb]; exact FB.new _ _ _ _ _)
    have HV2 := Lib.hid (HV2.out.ext hx)
    have Hf2 := Lib.hid (Hf2.out.keep hx (fun f => f))
    have Hf13 := Lib.hid (Hf13.out.keep hx (fun f => f))
    have Hf15 := Lib.hid (Hf15.out.keep hx (fun f => f))
    have Hf17 := Lib.hid (Hf17.out.keep hx (fun f => f))
    have Hf19 := Lib.hid (Hf19.out.keep hx (fun f => f))
    have HX := Lib.hid (HX.out.trans hx)
    clear hx
    obtain ⟨⟨a0, a1, a2, a3⟩, _⟩ := Hf2.out.cells
    obtain ⟨⟨b0, b1, b2, b3⟩, _⟩ := Hf13.out.cells
    obtain ⟨⟨c0, c1, c2, c3⟩, _⟩ := Hf15.out.cells
    obtain ⟨⟨d0, d1, d2, d3⟩, _⟩ := Hf17.out.cells
    obtain ⟨⟨e0, e1, e2, e3⟩, _⟩ := Hf19.out.cells
    have hs := run_string_view (P := Try.prog) 22 9 5 (viewL_view8 HV2.out) Try.underlying22 Try.underlying5 Try.underlying9
    clear a1 a2 a3 b0 b1 b2 c0 c2 d0 d1 d2 e0 e1 e2 kc
    rw [hw] at a0 b3 c1 c3 d3 e3 hs
    have hq : ((strOf [97, 97]).toList == [97, 97]) = true := by rw [strOf_toList]; decide
    go_wp2_with fail
    rw [← hw]
    refine (gun_opens _).mono ?_
    rintro e wz ⟨rfl, hx⟩
    have HX := Lib.hid (HX.out.trans hx)
    clear hx hs a0 b3 c1 c3 d3 e3
    go_wp2_with fail
    go_ret
    exact ⟨rfl, HX.out⟩
end Go.Proofs.Ytbbcphloafmldaa
