/- TablesPuts: the law's walk (written by gen_tabputs.py). -/
import Derived.Test.YteabjmebnbaonaaTabPuts
import Derived.Test.YteabjmebnbaonaaTabRefS
import Derived.Test.YteabjmebnbaonaaMsbRefBytes
import Derived.Test.YteabjmebnbaonaaGrowOn
namespace Go.Proofs.Yteabjmebnbaonaa
open Go.RowKit
set_option linter.unusedVariables false

theorem ints_one (l : List Int) : ∀ u ∈ ints l, u.oneCell' = true := fun u hu => by
  obtain ⟨x, _, rfl⟩ := List.mem_map.1 hu; rfl
set_option maxHeartbeats 8000000 in
set_option maxRecDepth 100000 in
theorem tab_law_puts_some (v u : Value) (bs : List Nat) (xs : List Int) (n : Int) (w : World) (hv : View w v bs ∧ ViewL w v (u8s bs)) (hu : ViewL w u (ints xs)) (hb : ∀ b ∈ bs, b < 256) (hbl : bs.length ≤ 300) (hxl : xs.length ≤ 400) :
    Calls Try.prog 8 #[v, u, .int .i64 n] w fun e w' => e = .returned (.bool true) ∧ Ext w w' := by
  obtain ⟨i0, hi, hz0, hz1, hz2⟩ := info_parts info_int
  obtain ⟨j0, hj, hj0, hj1, hj2⟩ := info_parts info_u8
  obtain ⟨ao, cap, rfl⟩ := hv.2.shape
  obtain ⟨bo, ucap, rfl⟩ := hu.shape
  rw [length_u8s] at *
  rw [length_ints] at *
  have HV := Lib.hid hv
  have HU := Lib.hid hu
  have HB := Lib.hid hb
  clear hv hu hb
  have h1 : ¬ (300 : Int) < (bs.length : Int) := by omega
  have h2 : ¬ (400 : Int) < (xs.length : Int) := by omega
  go_enter Try.func8, Try.ntmps8
  go_wp2_with (at_builtin; go_must (refine wpList_append_view _ rfl (.tmp 24) (.tmp 25) 22 rfl w.heap.size 5 j0 (.int .u8 0) 1 Try.underlying22 hj hj0 hj1 hj2 rfl (.slice (some ⟨w.heap.size, 0, none⟩) 0 0) 0 [] rfl (World.ownsRow_made w #[] 0 (Nat.le_refl _) (by decide) rfl) _ (u8s bs) rfl (HV.out.2.ext ((Ext.refl w).alloc _)) (u8s_one bs) (by rw [length_u8s]; unfold maxLen; omega) (by rw [length_u8s]; omega) (by simp) ?_))
  intro inv w2 hown2 hgrow2 hat2
  have hx2 : Ext w w2 := Touch.grown ((Ext.refl w).alloc _) hgrow2 (fun k e => Or.inr (by cases e; exact Nat.le_refl _))
  simp only [length_u8s] at hown2
  have hs2 : ∀ g, inv.ownBlock = some g → w.heap.size ≤ g := fun g e => by
    rcases hat2 with h | h
    · rw [h] at e; cases e; exact Nat.le_refl _
    · rw [h] at e; cases e; simp
  have ho2 : Owns w2 5 1 inv inv.ownBlock (u8s bs).length (u8s bs) := ⟨by rw [length_u8s]; simpa using ownsRow_zero hown2, rfl⟩
  have h2s : St w w2 ([] ++ [oB inv bs]) := (St.of (Ext.refl w)).new hx2 ho2 hs2
  obtain ⟨ia, icap, rfl⟩ := h2s.shapeB 0 rfl rfl
  have HS2 := Lib.hid (show St w w2 [oB (.slice ia bs.length icap) bs] from h2s)
  clear hx2 hown2 hgrow2 hat2 ho2 hs2 h2s
  go_wp2_with (at_builtin; go_must (refine wpList_append_view _ rfl (.tmp 27) (.tmp 28) 48 rfl w2.heap.size 3 i0 (.int .i64 0) 8 Try.underlying48 hi hz0 hz1 hz2 rfl (.slice (some ⟨w2.heap.size, 0, none⟩) 0 0) 0 [] rfl (World.ownsRow_made w2 #[] 0 (Nat.le_refl _) (by decide) rfl) _ (ints xs) rfl (HU.out.ext (HS2.out.ext.alloc _)) (ints_one xs) (by rw [length_ints]; unfold maxLen; omega) (by rw [length_ints]; omega) (by simp) ?_))
  intro inv w3 hown2 hgrow2 hat2
  have hx2 : Ext w2 w3 := Touch.grown ((Ext.refl w2).alloc _) hgrow2 (fun k e => Or.inr (by cases e; exact Nat.le_refl _))
  simp only [length_ints] at hown2
  have hs2 : ∀ g, inv.ownBlock = some g → w2.heap.size ≤ g := fun g e => by
    rcases hat2 with h | h
    · rw [h] at e; cases e; exact Nat.le_refl _
    · rw [h] at e; cases e; simp
  have ho2 : Owns w3 3 1 inv inv.ownBlock (ints xs).length (ints xs) := ⟨by rw [length_ints]; simpa using ownsRow_zero hown2, rfl⟩
  have h3s : St w w3 ([oB (.slice ia bs.length icap) bs] ++ [oI inv xs]) := HS2.out.new hx2 ho2 hs2
  obtain ⟨ma, mcap, e3⟩ := h3s.shape 1 rfl
  rw [length_ints] at e3
  subst e3
  have h4s := h3s.newW.newW
  rw [World.size_alloc] at h4s
  have HS3 := Lib.hid (show St w ((w3.alloc (.cells #[.slice none 0 0, .int .i64 0] 30)).alloc (.cells #[.slice none 0 0, .int .i64 0] 30)) [oB (.slice ia bs.length icap) bs, oI (.slice ma xs.length mcap) xs, mW w3.heap.size [], mW (w3.heap.size + 1) []] from h4s)
  clear hx2 hown2 hgrow2 hat2 ho2 hs2 h3s h4s HS2
  go_wp2_with fail
  obtain ⟨BV, hBV⟩ : ∃ BV, BV = w3.heap.size := ⟨_, rfl⟩
  obtain ⟨BW, hBW⟩ : ∃ BW, BW = w3.heap.size + 1 := ⟨_, rfl⟩
  obtain ⟨W3, hW3⟩ : ∃ W3, W3 = (w3.alloc (.cells #[.slice none 0 0, .int .i64 0] 30)).alloc (.cells #[.slice none 0 0, .int .i64 0] 30) := ⟨_, rfl⟩
  rw [← hW3, ← hBW, ← hBV] at HS3
  rw [← hW3, ← hBW, ← hBV]
  clear hW3 hBV hBW
  refine (HS3.out.putL 2 rfl _ bs (HS3.out.viewL 0 rfl) (fun _ => Or.inl ⟨0, _, _, by decide, rfl⟩) (by decide) (by omega)).mono ?_
  have s3 := HS3.out
  clear HS3
  rintro e w4 (⟨rfl, hml, s4⟩ | ⟨rfl, hml, rfl⟩)
  · obtain ⟨M, hM⟩ : ∃ M, M = lenBits bs := ⟨_, rfl⟩
    have hMl : M.length ≤ 30000 := hM ▸ lenBits_len bs hml
    rw [← hM, List.nil_append] at s4
    have HM := Lib.hid hM
    have HML := Lib.hid hml
    have HS4 := Lib.hid s4
    clear hM hml s4
    go_wp2_with fail
    refine (tab_size _ bs _ (HS4.out.viewL 0 rfl) (by omega)).mono ?_
    rw [← HM.out]
    rintro e w5 ⟨⟨rfl, -⟩ | ⟨rfl, hm⟩, x5⟩
    · have HS5 := Lib.hid (HS4.out.step x5)
      clear x5
      go_wp2_with fail
      refine (HS5.out.putS 3 rfl _ xs n (HS5.out.viewL 1 rfl) (Or.inl ⟨1, _, _, by decide, rfl⟩) (by decide) (by omega)).mono ?_
      rintro e w6 (⟨rfl, hms, s6⟩ | ⟨rfl, hms, rfl⟩)
      · obtain ⟨K, hK⟩ : ∃ K, K = selBits (xs.map Int.toNat) := ⟨_, rfl⟩
        have hKl : K.length ≤ 3000 := by have := selBits_len _ _ (may_nat hms).1; rw [← hK, List.length_map] at this; omega
        rw [← hK, List.nil_append] at s6
        have HK := Lib.hid hK
        have HMS := Lib.hid hms
        clear hK hms
        have HS := Lib.hid (show St w w6 [oB (.slice ia bs.length icap) bs, oI (.slice ma xs.length mcap) xs, mW BV M, mW BW K] from s6)
        clear s6
        have hs1 := run_string_view (P := Try.prog) 22 9 5 (HS.out.view 0 rfl rfl) Try.underlying22 Try.underlying5 Try.underlying9
        have hs2 := run_string_view (P := Try.prog) 22 9 5 (HV.out.1.ext HS.out.ext) Try.underlying22 Try.underlying5 Try.underlying9
        have hne : ((strOf bs).toList != (strOf bs).toList) = false := by simp
        go_wp2_with fail
        refine (ref_same _ _ xs xs _ (HS.out.viewL 1 rfl) (HU.out.ext HS.out.ext) (by omega) (by omega)).mono ?_
        rw [decide_eq_true rfl]
        rintro e w7 ⟨rfl, x7⟩
        have HS := Lib.hid (HS.out.step x7)
        clear x7 hs1 hs2 hne
        go_wp2_with fail
        refine (tab_ref_may _ bs _ (HV.out.2.ext HS.out.ext) (by omega)).mono ?_
        rintro e w' ⟨⟨rfl, -⟩ | ⟨rfl, hm⟩, rfl⟩
        · go_wp2_with fail
          refine (tab_ref_lengths _ bs _ (HV.out.2.ext HS.out.ext) HML.out).mono ?_
          rw [← HM.out]
          rintro e w8 ⟨rv, ro, rfl, r8, _, x8⟩
          obtain ⟨ra, rcap, rfl⟩ := r8.shape
          have HR := Lib.hid r8.viewL
          have HS := Lib.hid (HS.out.step x8)
          clear r8 x8
          have hq : ((strOf (packs true M)).toList != (strOf (packs true M)).toList) = false := by simp
          go_wp2_with fail
          have hst : Stab (Phi [(11, .int .i64 0), (9, .pointer (some ⟨BV, 0, none⟩)), (14, .slice ra M.length rcap), (12, .int .i64 M.length), (63, .int .i64 0), (64, .bool false), (65, .bool false), (66, .int .i64 M.length), (67, .slice ra M.length rcap), (68, .int .i64 M.length), (69, .bool false), (70, .bool false), (71, .bool false), (72, .int .i64 M.length), (73, .slice ra M.length rcap), (74, .int .i64 M.length), (75, .bool false), (76, .bool false), (77, .bool false), (79, .string (strOf (packs true M))), (80, .slice ra M.length rcap), (82, .string (strOf (packs true M))), (83, .bool false), (84, .bool false)] [(78, fun v w => View w v (packs true M)), (81, fun v w => View w v (packs true M))]) := Phi.stable (by
              intro x hx v w1 w2 he hp
              simp only [List.mem_cons, List.not_mem_nil, or_false] at hx
              rcases hx with rfl | rfl
              · exact View.ext hp he
              · exact View.ext hp he)
          refine wp_region_grow_on 119 [11, 9, 14, 12] [63, 64, 65, 66, 67, 68, 69, 70, 71, 72, 73, 74, 75, 76, 77, 78, 79, 80, 81, 82, 83, 84] (by kernel_rfl) _ hst (by kernel_rfl) rfl rfl (fun _ => ⟨rfl, rfl, rfl, rfl, trivial⟩) ⟨?_, ?_, ?_, ?_, ?_, ?_, ?_, ?_, ?_, ?_, ?_, ?_, ?_, ?_, ?_, ?_, ?_, ?_, ?_, ?_, ?_, ?_, trivial⟩ ?fin
          · refine Obl.val (.int .i64 0) (fun ev w1 hc hf hg hev => ?_) (fun d hd w1 => by cases hd; rfl)
            have h0 : ev (.tmp 11) = .int .i64 0 := hev.1
            exact ⟨rfl, by (clear hev; go_simp)⟩
          · refine Obl.val (.bool false) (fun ev w1 hc hf hg hev => ?_) (fun d hd w1 => by cases hd; rfl)
            have h0 : ev (.tmp 63) = .int .i64 0 := hev.1
            exact ⟨rfl, by (clear hev; go_simp)⟩
          · refine Obl.val (.bool false) (fun ev w1 hc hf hg hev => ?_) (fun d hd w1 => by cases hd; rfl)
            have h0 : ev (.tmp 64) = .bool false := hev.1
            exact ⟨rfl, by (clear hev; go_simp)⟩
          · refine Obl.call 21 #[.pointer (some ⟨BV, 0, none⟩)] (fun ev w1 hI hc hf hg hev => ?_)
            have h0 : ev (.tmp 65) = .bool false := hev.1; have h1 : ev (.tmp 9) = .pointer (some ⟨BV, 0, none⟩) := hev.2.1
            refine ⟨wanted_of rfl rfl h0, by (clear hev; go_simp), ?_⟩
            refine ((HS.out.step hI).mlen 2 rfl).mono ?_
            rintro e w2 ⟨rfl, rfl⟩
            exact ⟨_, rfl, Ext.refl _, fun d hd => by cases hd; rfl⟩
          · refine Obl.val (.slice ra M.length rcap) (fun ev w1 hc hf hg hev => ?_) (fun d hd w1 => by cases hd; rfl)
            have h0 : ev (.tmp 65) = .bool false := hev.1; have h1 : ev (.tmp 14) = .slice ra M.length rcap := hev.2.1
            exact ⟨wanted_of rfl rfl h0, by (clear hev; go_simp)⟩
          · refine Obl.val (.int .i64 M.length) (fun ev w1 hc hf hg hev => ?_) (fun d hd w1 => by cases hd; rfl)
            have h0 : ev (.tmp 65) = .bool false := hev.1; have h1 : ev (.tmp 67) = .slice ra M.length rcap := hev.2.1
            exact ⟨wanted_of rfl rfl h0, by (clear hev; go_simp)⟩
          · refine Obl.val (.bool false) (fun ev w1 hc hf hg hev => ?_) (fun d hd w1 => by cases hd; rfl)
            have h0 : ev (.tmp 65) = .bool false := hev.1; have h1 : ev (.tmp 66) = .int .i64 M.length := hev.2.1; have h2 : ev (.tmp 68) = .int .i64 M.length := hev.2.2.1
            exact ⟨wanted_of rfl rfl h0, by (clear hev; go_simp)⟩
          · refine Obl.val (.bool false) (fun ev w1 hc hf hg hev => ?_) (fun d hd w1 => by cases hd; rfl)
            have h0 : ev (.tmp 65) = .bool false := hev.1; have h1 : ev (.tmp 69) = .bool false := hev.2.1
            exact ⟨rfl, by (clear hev; go_simp)⟩
          · refine Obl.val (.bool false) (fun ev w1 hc hf hg hev => ?_) (fun d hd w1 => by cases hd; rfl)
            have h0 : ev (.tmp 70) = .bool false := hev.1
            exact ⟨rfl, by (clear hev; go_simp)⟩
          · refine Obl.val (.int .i64 M.length) (fun ev w1 hc hf hg hev => ?_) (fun d hd w1 => by cases hd; rfl)
            have h0 : ev (.tmp 71) = .bool false := hev.1; have h1 : ev (.tmp 12) = .int .i64 M.length := hev.2.1
            exact ⟨wanted_of rfl rfl h0, by (clear hev; go_simp)⟩
          · refine Obl.val (.slice ra M.length rcap) (fun ev w1 hc hf hg hev => ?_) (fun d hd w1 => by cases hd; rfl)
            have h0 : ev (.tmp 71) = .bool false := hev.1; have h1 : ev (.tmp 14) = .slice ra M.length rcap := hev.2.1
            exact ⟨wanted_of rfl rfl h0, by (clear hev; go_simp)⟩
          · refine Obl.val (.int .i64 M.length) (fun ev w1 hc hf hg hev => ?_) (fun d hd w1 => by cases hd; rfl)
            have h0 : ev (.tmp 71) = .bool false := hev.1; have h1 : ev (.tmp 73) = .slice ra M.length rcap := hev.2.1
            exact ⟨wanted_of rfl rfl h0, by (clear hev; go_simp)⟩
          · refine Obl.val (.bool false) (fun ev w1 hc hf hg hev => ?_) (fun d hd w1 => by cases hd; rfl)
            have h0 : ev (.tmp 71) = .bool false := hev.1; have h1 : ev (.tmp 72) = .int .i64 M.length := hev.2.1; have h2 : ev (.tmp 74) = .int .i64 M.length := hev.2.2.1
            exact ⟨wanted_of rfl rfl h0, by (clear hev; go_simp)⟩
          · refine Obl.val (.bool false) (fun ev w1 hc hf hg hev => ?_) (fun d hd w1 => by cases hd; rfl)
            have h0 : ev (.tmp 71) = .bool false := hev.1; have h1 : ev (.tmp 75) = .bool false := hev.2.1
            exact ⟨rfl, by (clear hev; go_simp)⟩
          · refine Obl.val (.bool false) (fun ev w1 hc hf hg hev => ?_) (fun d hd w1 => by cases hd; rfl)
            have h0 : ev (.tmp 76) = .bool false := hev.1
            exact ⟨rfl, by (clear hev; go_simp)⟩
          · refine Obl.call 18 #[.pointer (some ⟨BV, 0, none⟩)] (fun ev w1 hI hc hf hg hev => ?_)
            have h0 : ev (.tmp 77) = .bool false := hev.1; have h1 : ev (.tmp 9) = .pointer (some ⟨BV, 0, none⟩) := hev.2.1
            refine ⟨wanted_of rfl rfl h0, by (clear hev; go_simp), ?_⟩
            obtain ⟨ogw, hw, _⟩ := (HS.out.step hI).writer 2 rfl
            refine (msb_bytes _ _ M w1 hw (by omega)).mono ?_
            rintro e w2 ⟨v, og', rfl, c1, _, c3⟩
            exact ⟨v, rfl, c3, fun d hd => by cases hd; exact c1.view⟩
          · refine Obl.val (.string (strOf (packs true M))) (fun ev w1 hc hf hg hev => ?_) (fun d hd w1 => by cases hd; rfl)
            have h0 : ev (.tmp 77) = .bool false := hev.1; have h1 : (fun v w => View w v (packs true M)) (ev (.tmp 78)) w1 := hev.2.1
            clear hev
            have hs := run_string_view (P := Try.prog) 22 9 5 (h1) Try.underlying22 Try.underlying5 Try.underlying9
            exact ⟨wanted_of rfl rfl h0, by go_simp⟩
          · refine Obl.val (.slice ra M.length rcap) (fun ev w1 hc hf hg hev => ?_) (fun d hd w1 => by cases hd; rfl)
            have h0 : ev (.tmp 77) = .bool false := hev.1; have h1 : ev (.tmp 14) = .slice ra M.length rcap := hev.2.1
            exact ⟨wanted_of rfl rfl h0, by (clear hev; go_simp)⟩
          · refine Obl.call 23 #[.slice ra M.length rcap] (fun ev w1 hI hc hf hg hev => ?_)
            have h0 : ev (.tmp 77) = .bool false := hev.1; have h1 : ev (.tmp 80) = .slice ra M.length rcap := hev.2.1
            refine ⟨wanted_of rfl rfl h0, by (clear hev; go_simp), ?_⟩
            refine (msb_ref_bytes _ M w1 (HR.out.ext hI) (by omega)).mono ?_
            rintro e w2 ⟨v, og', rfl, c1, _, c3⟩
            exact ⟨v, rfl, c3, fun d hd => by cases hd; exact c1.view⟩
          · refine Obl.val (.string (strOf (packs true M))) (fun ev w1 hc hf hg hev => ?_) (fun d hd w1 => by cases hd; rfl)
            have h0 : ev (.tmp 77) = .bool false := hev.1; have h1 : (fun v w => View w v (packs true M)) (ev (.tmp 81)) w1 := hev.2.1
            clear hev
            have hs := run_string_view (P := Try.prog) 22 9 5 (h1) Try.underlying22 Try.underlying5 Try.underlying9
            exact ⟨wanted_of rfl rfl h0, by go_simp⟩
          · refine Obl.val (.bool false) (fun ev w1 hc hf hg hev => ?_) (fun d hd w1 => by cases hd; rfl)
            have h0 : ev (.tmp 77) = .bool false := hev.1; have h1 : ev (.tmp 79) = .string (strOf (packs true M)) := hev.2.1; have h2 : ev (.tmp 82) = .string (strOf (packs true M)) := hev.2.2.1
            exact ⟨wanted_of rfl rfl h0, by (clear hev; go_simp)⟩
          · refine Obl.val (.bool false) (fun ev w1 hc hf hg hev => ?_) (fun d hd w1 => by cases hd; rfl)
            have h0 : ev (.tmp 77) = .bool false := hev.1; have h1 : ev (.tmp 83) = .bool false := hev.2.1
            exact ⟨rfl, by (clear hev; go_simp)⟩
          case fin =>
            intro vs w5 he5 hf
            have e63 : vs 63 = .int .i64 0 := hf 63 (by decide)
            have e64 : vs 64 = .bool false := hf 64 (by decide)
            have e65 : vs 65 = .bool false := hf 65 (by decide)
            have e66 : vs 66 = .int .i64 M.length := hf 66 (by decide)
            have e67 : vs 67 = .slice ra M.length rcap := hf 67 (by decide)
            have e68 : vs 68 = .int .i64 M.length := hf 68 (by decide)
            have e69 : vs 69 = .bool false := hf 69 (by decide)
            have e70 : vs 70 = .bool false := hf 70 (by decide)
            have e71 : vs 71 = .bool false := hf 71 (by decide)
            have e72 : vs 72 = .int .i64 M.length := hf 72 (by decide)
            have e73 : vs 73 = .slice ra M.length rcap := hf 73 (by decide)
            have e74 : vs 74 = .int .i64 M.length := hf 74 (by decide)
            have e75 : vs 75 = .bool false := hf 75 (by decide)
            have e76 : vs 76 = .bool false := hf 76 (by decide)
            have e77 : vs 77 = .bool false := hf 77 (by decide)
            have e79 : vs 79 = .string (strOf (packs true M)) := hf 79 (by decide)
            have e80 : vs 80 = .slice ra M.length rcap := hf 80 (by decide)
            have e82 : vs 82 = .string (strOf (packs true M)) := hf 82 (by decide)
            have e83 : vs 83 = .bool false := hf 83 (by decide)
            have e84 : vs 84 = .bool false := hf 84 (by decide)
            simp only [List.foldl_cons, List.foldl_nil]
            rw [e63, e64, e65, e66, e67, e68, e69, e70, e71, e72, e73, e74, e75, e76, e77, e79, e80, e82, e83, e84]
            generalize vs 78 = u78
            generalize vs 81 = u81
            simp only [Act.put, List.setIfInBounds_toArray, List.set_cons_succ, List.set_cons_zero]
            clear hf e63 e64 e65 e66 e67 e68 e69 e70 e71 e72 e73 e74 e75 e76 e77 e79 e80 e82 e83 e84
            have HX5 := Lib.hid he5
            clear he5
            go_wp2_with fail
            have HS := Lib.hid (HS.out.step HX5.out)
            refine (tab_ref_mays _ xs n _ (HU.out.ext HS.out.ext) (by omega)).mono ?_
            rintro e w' ⟨⟨rfl, -⟩ | ⟨rfl, hm⟩, rfl⟩
            · go_wp2_with fail
              refine (tab_ref_sel _ (xs.map Int.toNat) n.toNat _ (by rw [i64s_ints, ← (may_nat HMS.out).2]; exact HU.out.ext HS.out.ext) (may_nat HMS.out).1).mono ?_
              rw [← HK.out]
              rintro e w9 ⟨rv, ro, rfl, r9, _, x9⟩
              obtain ⟨ra, rcap, rfl⟩ := r9.shape
              have HR := Lib.hid r9.viewL
              have HS := Lib.hid (HS.out.step x9)
              clear r9 x9
              have hq : ((strOf (packs true K)).toList == (strOf (packs true K)).toList) = true := by simp
              go_wp2_with fail
              have hst : Stab (Phi [(13, .int .i64 0), (10, .pointer (some ⟨BW, 0, none⟩)), (15, .slice ra K.length rcap), (100, .int .i64 0), (101, .bool true), (102, .bool true), (103, .int .i64 K.length), (104, .slice ra K.length rcap), (105, .int .i64 K.length), (106, .bool true), (107, .bool true), (108, .bool true), (110, .string (strOf (packs true K))), (111, .slice ra K.length rcap), (113, .string (strOf (packs true K))), (114, .bool true), (115, .bool true), (116, .bool true), (117, .bool true), (118, .bool true), (6, .bool true)] [(109, fun v w => View w v (packs true K)), (112, fun v w => View w v (packs true K))]) := Phi.stable (by
                  intro x hx v w1 w2 he hp
                  simp only [List.mem_cons, List.not_mem_nil, or_false] at hx
                  rcases hx with rfl | rfl
                  · exact View.ext hp he
                  · exact View.ext hp he)
              refine wp_region_grow 119 [13, 10, 15] (by kernel_rfl) _ hst (by kernel_rfl) rfl (fun _ => ⟨rfl, rfl, rfl, trivial⟩) ⟨?_, ?_, ?_, ?_, ?_, ?_, ?_, ?_, ?_, ?_, ?_, ?_, ?_, ?_, ?_, ?_, ?_, ?_, ?_, ?_, trivial⟩ ?fin
              · refine Obl.val (.int .i64 0) (fun ev w1 hc hf hg hev => ?_) (fun d hd w1 => by cases hd; rfl)
                have h0 : ev (.tmp 13) = .int .i64 0 := hev.1
                exact ⟨rfl, by (clear hev; go_simp)⟩
              · refine Obl.val (.bool true) (fun ev w1 hc hf hg hev => ?_) (fun d hd w1 => by cases hd; rfl)
                have h0 : ev (.tmp 100) = .int .i64 0 := hev.1
                exact ⟨rfl, by (clear hev; go_simp)⟩
              · refine Obl.val (.bool true) (fun ev w1 hc hf hg hev => ?_) (fun d hd w1 => by cases hd; rfl)
                have h0 : ev (.tmp 101) = .bool true := hev.1
                exact ⟨rfl, by (clear hev; go_simp)⟩
              · refine Obl.call 21 #[.pointer (some ⟨BW, 0, none⟩)] (fun ev w1 hI hc hf hg hev => ?_)
                have h0 : ev (.tmp 102) = .bool true := hev.1; have h1 : ev (.tmp 10) = .pointer (some ⟨BW, 0, none⟩) := hev.2.1
                refine ⟨wanted_of rfl rfl h0, by (clear hev; go_simp), ?_⟩
                refine ((HS.out.step hI).mlen 3 rfl).mono ?_
                rintro e w2 ⟨rfl, rfl⟩
                exact ⟨_, rfl, Ext.refl _, fun d hd => by cases hd; rfl⟩
              · refine Obl.val (.slice ra K.length rcap) (fun ev w1 hc hf hg hev => ?_) (fun d hd w1 => by cases hd; rfl)
                have h0 : ev (.tmp 102) = .bool true := hev.1; have h1 : ev (.tmp 15) = .slice ra K.length rcap := hev.2.1
                exact ⟨wanted_of rfl rfl h0, by (clear hev; go_simp)⟩
              · refine Obl.val (.int .i64 K.length) (fun ev w1 hc hf hg hev => ?_) (fun d hd w1 => by cases hd; rfl)
                have h0 : ev (.tmp 102) = .bool true := hev.1; have h1 : ev (.tmp 104) = .slice ra K.length rcap := hev.2.1
                exact ⟨wanted_of rfl rfl h0, by (clear hev; go_simp)⟩
              · refine Obl.val (.bool true) (fun ev w1 hc hf hg hev => ?_) (fun d hd w1 => by cases hd; rfl)
                have h0 : ev (.tmp 102) = .bool true := hev.1; have h1 : ev (.tmp 103) = .int .i64 K.length := hev.2.1; have h2 : ev (.tmp 105) = .int .i64 K.length := hev.2.2.1
                exact ⟨wanted_of rfl rfl h0, by (clear hev; go_simp)⟩
              · refine Obl.val (.bool true) (fun ev w1 hc hf hg hev => ?_) (fun d hd w1 => by cases hd; rfl)
                have h0 : ev (.tmp 102) = .bool true := hev.1; have h1 : ev (.tmp 106) = .bool true := hev.2.1
                exact ⟨rfl, by (clear hev; go_simp)⟩
              · refine Obl.val (.bool true) (fun ev w1 hc hf hg hev => ?_) (fun d hd w1 => by cases hd; rfl)
                have h0 : ev (.tmp 107) = .bool true := hev.1
                exact ⟨rfl, by (clear hev; go_simp)⟩
              · refine Obl.call 18 #[.pointer (some ⟨BW, 0, none⟩)] (fun ev w1 hI hc hf hg hev => ?_)
                have h0 : ev (.tmp 108) = .bool true := hev.1; have h1 : ev (.tmp 10) = .pointer (some ⟨BW, 0, none⟩) := hev.2.1
                refine ⟨wanted_of rfl rfl h0, by (clear hev; go_simp), ?_⟩
                obtain ⟨ogw, hw, _⟩ := (HS.out.step hI).writer 3 rfl
                refine (msb_bytes _ _ K w1 hw (by omega)).mono ?_
                rintro e w2 ⟨v, og', rfl, c1, _, c3⟩
                exact ⟨v, rfl, c3, fun d hd => by cases hd; exact c1.view⟩
              · refine Obl.val (.string (strOf (packs true K))) (fun ev w1 hc hf hg hev => ?_) (fun d hd w1 => by cases hd; rfl)
                have h0 : ev (.tmp 108) = .bool true := hev.1; have h1 : (fun v w => View w v (packs true K)) (ev (.tmp 109)) w1 := hev.2.1
                clear hev
                have hs := run_string_view (P := Try.prog) 22 9 5 (h1) Try.underlying22 Try.underlying5 Try.underlying9
                exact ⟨wanted_of rfl rfl h0, by go_simp⟩
              · refine Obl.val (.slice ra K.length rcap) (fun ev w1 hc hf hg hev => ?_) (fun d hd w1 => by cases hd; rfl)
                have h0 : ev (.tmp 108) = .bool true := hev.1; have h1 : ev (.tmp 15) = .slice ra K.length rcap := hev.2.1
                exact ⟨wanted_of rfl rfl h0, by (clear hev; go_simp)⟩
              · refine Obl.call 23 #[.slice ra K.length rcap] (fun ev w1 hI hc hf hg hev => ?_)
                have h0 : ev (.tmp 108) = .bool true := hev.1; have h1 : ev (.tmp 111) = .slice ra K.length rcap := hev.2.1
                refine ⟨wanted_of rfl rfl h0, by (clear hev; go_simp), ?_⟩
                refine (msb_ref_bytes _ K w1 (HR.out.ext hI) (by omega)).mono ?_
                rintro e w2 ⟨v, og', rfl, c1, _, c3⟩
                exact ⟨v, rfl, c3, fun d hd => by cases hd; exact c1.view⟩
              · refine Obl.val (.string (strOf (packs true K))) (fun ev w1 hc hf hg hev => ?_) (fun d hd w1 => by cases hd; rfl)
                have h0 : ev (.tmp 108) = .bool true := hev.1; have h1 : (fun v w => View w v (packs true K)) (ev (.tmp 112)) w1 := hev.2.1
                clear hev
                have hs := run_string_view (P := Try.prog) 22 9 5 (h1) Try.underlying22 Try.underlying5 Try.underlying9
                exact ⟨wanted_of rfl rfl h0, by go_simp⟩
              · refine Obl.val (.bool true) (fun ev w1 hc hf hg hev => ?_) (fun d hd w1 => by cases hd; rfl)
                have h0 : ev (.tmp 108) = .bool true := hev.1; have h1 : ev (.tmp 110) = .string (strOf (packs true K)) := hev.2.1; have h2 : ev (.tmp 113) = .string (strOf (packs true K)) := hev.2.2.1
                exact ⟨wanted_of rfl rfl h0, by (clear hev; go_simp)⟩
              · refine Obl.val (.bool true) (fun ev w1 hc hf hg hev => ?_) (fun d hd w1 => by cases hd; rfl)
                have h0 : ev (.tmp 108) = .bool true := hev.1; have h1 : ev (.tmp 114) = .bool true := hev.2.1
                exact ⟨rfl, by (clear hev; go_simp)⟩
              · refine Obl.val (.bool true) (fun ev w1 hc hf hg hev => ?_) (fun d hd w1 => by cases hd; rfl)
                have h0 : ev (.tmp 115) = .bool true := hev.1
                exact ⟨rfl, by (clear hev; go_simp)⟩
              · refine Obl.call 35 #[] (fun ev w1 hI hc hf hg hev => ?_)
                have h0 : ev (.tmp 116) = .bool true := hev.1
                refine ⟨wanted_of rfl rfl h0, by (clear hev; go_simp), ?_⟩
                refine (tab_example w1).mono ?_
                rintro e w2 ⟨rfl, c3⟩
                exact ⟨_, rfl, c3, fun d hd => by cases hd; rfl⟩
              · refine Obl.val (.bool true) (fun ev w1 hc hf hg hev => ?_) (fun d hd w1 => by cases hd; rfl)
                have h0 : ev (.tmp 116) = .bool true := hev.1; have h1 : ev (.tmp 117) = .bool true := hev.2.1
                exact ⟨rfl, by (clear hev; go_simp)⟩
              · refine Obl.val (.bool true) (fun ev w1 hc hf hg hev => ?_) (fun d hd w1 => by cases hd; rfl)
                have h0 : ev (.tmp 118) = .bool true := hev.1
                exact ⟨rfl, by (clear hev; go_simp)⟩
              case fin =>
                intro a' w' he hd hf
                go_wp2_with fail
                have h6 : a'.tmps.getD 6 undef = .bool true := hf 6 (by decide)
                exact bodyPost_ret (by rw [results_tmp rfl, h6]) hd ⟨rfl, HS.out.ext.trans he⟩
            · exact absurd HMS.out hm
        · exact absurd HML.out hm
      · have HMS := Lib.hid hms
        have s6 := HS5.out
        clear hms
        have HS := Lib.hid (show St w w5 [oB (.slice ia bs.length icap) bs, oI (.slice ma xs.length mcap) xs, mW BV M, mW BW []] from s6)
        clear s6
        have hs1 := run_string_view (P := Try.prog) 22 9 5 (HS.out.view 0 rfl rfl) Try.underlying22 Try.underlying5 Try.underlying9
        have hs2 := run_string_view (P := Try.prog) 22 9 5 (HV.out.1.ext HS.out.ext) Try.underlying22 Try.underlying5 Try.underlying9
        have hne : ((strOf bs).toList != (strOf bs).toList) = false := by simp
        go_wp2_with fail
        refine (ref_same _ _ xs xs _ (HS.out.viewL 1 rfl) (HU.out.ext HS.out.ext) (by omega) (by omega)).mono ?_
        rw [decide_eq_true rfl]
        rintro e w7 ⟨rfl, x7⟩
        have HS := Lib.hid (HS.out.step x7)
        clear x7 hs1 hs2 hne
        go_wp2_with fail
        refine (tab_ref_may _ bs _ (HV.out.2.ext HS.out.ext) (by omega)).mono ?_
        rintro e w' ⟨⟨rfl, -⟩ | ⟨rfl, hm⟩, rfl⟩
        · go_wp2_with fail
          refine (tab_ref_lengths _ bs _ (HV.out.2.ext HS.out.ext) HML.out).mono ?_
          rw [← HM.out]
          rintro e w8 ⟨rv, ro, rfl, r8, _, x8⟩
          obtain ⟨ra, rcap, rfl⟩ := r8.shape
          have HR := Lib.hid r8.viewL
          have HS := Lib.hid (HS.out.step x8)
          clear r8 x8
          have hq : ((strOf (packs true M)).toList != (strOf (packs true M)).toList) = false := by simp
          go_wp2_with fail
          have hst : Stab (Phi [(11, .int .i64 0), (9, .pointer (some ⟨BV, 0, none⟩)), (14, .slice ra M.length rcap), (12, .int .i64 M.length), (63, .int .i64 0), (64, .bool false), (65, .bool false), (66, .int .i64 M.length), (67, .slice ra M.length rcap), (68, .int .i64 M.length), (69, .bool false), (70, .bool false), (71, .bool false), (72, .int .i64 M.length), (73, .slice ra M.length rcap), (74, .int .i64 M.length), (75, .bool false), (76, .bool false), (77, .bool false), (79, .string (strOf (packs true M))), (80, .slice ra M.length rcap), (82, .string (strOf (packs true M))), (83, .bool false), (84, .bool false)] [(78, fun v w => View w v (packs true M)), (81, fun v w => View w v (packs true M))]) := Phi.stable (by
              intro x hx v w1 w2 he hp
              simp only [List.mem_cons, List.not_mem_nil, or_false] at hx
              rcases hx with rfl | rfl
              · exact View.ext hp he
              · exact View.ext hp he)
          refine wp_region_grow_on 119 [11, 9, 14, 12] [63, 64, 65, 66, 67, 68, 69, 70, 71, 72, 73, 74, 75, 76, 77, 78, 79, 80, 81, 82, 83, 84] (by kernel_rfl) _ hst (by kernel_rfl) rfl rfl (fun _ => ⟨rfl, rfl, rfl, rfl, trivial⟩) ⟨?_, ?_, ?_, ?_, ?_, ?_, ?_, ?_, ?_, ?_, ?_, ?_, ?_, ?_, ?_, ?_, ?_, ?_, ?_, ?_, ?_, ?_, trivial⟩ ?fin
          · refine Obl.val (.int .i64 0) (fun ev w1 hc hf hg hev => ?_) (fun d hd w1 => by cases hd; rfl)
            have h0 : ev (.tmp 11) = .int .i64 0 := hev.1
            exact ⟨rfl, by (clear hev; go_simp)⟩
          · refine Obl.val (.bool false) (fun ev w1 hc hf hg hev => ?_) (fun d hd w1 => by cases hd; rfl)
            have h0 : ev (.tmp 63) = .int .i64 0 := hev.1
            exact ⟨rfl, by (clear hev; go_simp)⟩
          · refine Obl.val (.bool false) (fun ev w1 hc hf hg hev => ?_) (fun d hd w1 => by cases hd; rfl)
            have h0 : ev (.tmp 64) = .bool false := hev.1
            exact ⟨rfl, by (clear hev; go_simp)⟩
          · refine Obl.call 21 #[.pointer (some ⟨BV, 0, none⟩)] (fun ev w1 hI hc hf hg hev => ?_)
            have h0 : ev (.tmp 65) = .bool false := hev.1; have h1 : ev (.tmp 9) = .pointer (some ⟨BV, 0, none⟩) := hev.2.1
            refine ⟨wanted_of rfl rfl h0, by (clear hev; go_simp), ?_⟩
            refine ((HS.out.step hI).mlen 2 rfl).mono ?_
            rintro e w2 ⟨rfl, rfl⟩
            exact ⟨_, rfl, Ext.refl _, fun d hd => by cases hd; rfl⟩
          · refine Obl.val (.slice ra M.length rcap) (fun ev w1 hc hf hg hev => ?_) (fun d hd w1 => by cases hd; rfl)
            have h0 : ev (.tmp 65) = .bool false := hev.1; have h1 : ev (.tmp 14) = .slice ra M.length rcap := hev.2.1
            exact ⟨wanted_of rfl rfl h0, by (clear hev; go_simp)⟩
          · refine Obl.val (.int .i64 M.length) (fun ev w1 hc hf hg hev => ?_) (fun d hd w1 => by cases hd; rfl)
            have h0 : ev (.tmp 65) = .bool false := hev.1; have h1 : ev (.tmp 67) = .slice ra M.length rcap := hev.2.1
            exact ⟨wanted_of rfl rfl h0, by (clear hev; go_simp)⟩
          · refine Obl.val (.bool false) (fun ev w1 hc hf hg hev => ?_) (fun d hd w1 => by cases hd; rfl)
            have h0 : ev (.tmp 65) = .bool false := hev.1; have h1 : ev (.tmp 66) = .int .i64 M.length := hev.2.1; have h2 : ev (.tmp 68) = .int .i64 M.length := hev.2.2.1
            exact ⟨wanted_of rfl rfl h0, by (clear hev; go_simp)⟩
          · refine Obl.val (.bool false) (fun ev w1 hc hf hg hev => ?_) (fun d hd w1 => by cases hd; rfl)
            have h0 : ev (.tmp 65) = .bool false := hev.1; have h1 : ev (.tmp 69) = .bool false := hev.2.1
            exact ⟨rfl, by (clear hev; go_simp)⟩
          · refine Obl.val (.bool false) (fun ev w1 hc hf hg hev => ?_) (fun d hd w1 => by cases hd; rfl)
            have h0 : ev (.tmp 70) = .bool false := hev.1
            exact ⟨rfl, by (clear hev; go_simp)⟩
          · refine Obl.val (.int .i64 M.length) (fun ev w1 hc hf hg hev => ?_) (fun d hd w1 => by cases hd; rfl)
            have h0 : ev (.tmp 71) = .bool false := hev.1; have h1 : ev (.tmp 12) = .int .i64 M.length := hev.2.1
            exact ⟨wanted_of rfl rfl h0, by (clear hev; go_simp)⟩
          · refine Obl.val (.slice ra M.length rcap) (fun ev w1 hc hf hg hev => ?_) (fun d hd w1 => by cases hd; rfl)
            have h0 : ev (.tmp 71) = .bool false := hev.1; have h1 : ev (.tmp 14) = .slice ra M.length rcap := hev.2.1
            exact ⟨wanted_of rfl rfl h0, by (clear hev; go_simp)⟩
          · refine Obl.val (.int .i64 M.length) (fun ev w1 hc hf hg hev => ?_) (fun d hd w1 => by cases hd; rfl)
            have h0 : ev (.tmp 71) = .bool false := hev.1; have h1 : ev (.tmp 73) = .slice ra M.length rcap := hev.2.1
            exact ⟨wanted_of rfl rfl h0, by (clear hev; go_simp)⟩
          · refine Obl.val (.bool false) (fun ev w1 hc hf hg hev => ?_) (fun d hd w1 => by cases hd; rfl)
            have h0 : ev (.tmp 71) = .bool false := hev.1; have h1 : ev (.tmp 72) = .int .i64 M.length := hev.2.1; have h2 : ev (.tmp 74) = .int .i64 M.length := hev.2.2.1
            exact ⟨wanted_of rfl rfl h0, by (clear hev; go_simp)⟩
          · refine Obl.val (.bool false) (fun ev w1 hc hf hg hev => ?_) (fun d hd w1 => by cases hd; rfl)
            have h0 : ev (.tmp 71) = .bool false := hev.1; have h1 : ev (.tmp 75) = .bool false := hev.2.1
            exact ⟨rfl, by (clear hev; go_simp)⟩
          · refine Obl.val (.bool false) (fun ev w1 hc hf hg hev => ?_) (fun d hd w1 => by cases hd; rfl)
            have h0 : ev (.tmp 76) = .bool false := hev.1
            exact ⟨rfl, by (clear hev; go_simp)⟩
          · refine Obl.call 18 #[.pointer (some ⟨BV, 0, none⟩)] (fun ev w1 hI hc hf hg hev => ?_)
            have h0 : ev (.tmp 77) = .bool false := hev.1; have h1 : ev (.tmp 9) = .pointer (some ⟨BV, 0, none⟩) := hev.2.1
            refine ⟨wanted_of rfl rfl h0, by (clear hev; go_simp), ?_⟩
            obtain ⟨ogw, hw, _⟩ := (HS.out.step hI).writer 2 rfl
            refine (msb_bytes _ _ M w1 hw (by omega)).mono ?_
            rintro e w2 ⟨v, og', rfl, c1, _, c3⟩
            exact ⟨v, rfl, c3, fun d hd => by cases hd; exact c1.view⟩
          · refine Obl.val (.string (strOf (packs true M))) (fun ev w1 hc hf hg hev => ?_) (fun d hd w1 => by cases hd; rfl)
            have h0 : ev (.tmp 77) = .bool false := hev.1; have h1 : (fun v w => View w v (packs true M)) (ev (.tmp 78)) w1 := hev.2.1
            clear hev
            have hs := run_string_view (P := Try.prog) 22 9 5 (h1) Try.underlying22 Try.underlying5 Try.underlying9
            exact ⟨wanted_of rfl rfl h0, by go_simp⟩
          · refine Obl.val (.slice ra M.length rcap) (fun ev w1 hc hf hg hev => ?_) (fun d hd w1 => by cases hd; rfl)
            have h0 : ev (.tmp 77) = .bool false := hev.1; have h1 : ev (.tmp 14) = .slice ra M.length rcap := hev.2.1
            exact ⟨wanted_of rfl rfl h0, by (clear hev; go_simp)⟩
          · refine Obl.call 23 #[.slice ra M.length rcap] (fun ev w1 hI hc hf hg hev => ?_)
            have h0 : ev (.tmp 77) = .bool false := hev.1; have h1 : ev (.tmp 80) = .slice ra M.length rcap := hev.2.1
            refine ⟨wanted_of rfl rfl h0, by (clear hev; go_simp), ?_⟩
            refine (msb_ref_bytes _ M w1 (HR.out.ext hI) (by omega)).mono ?_
            rintro e w2 ⟨v, og', rfl, c1, _, c3⟩
            exact ⟨v, rfl, c3, fun d hd => by cases hd; exact c1.view⟩
          · refine Obl.val (.string (strOf (packs true M))) (fun ev w1 hc hf hg hev => ?_) (fun d hd w1 => by cases hd; rfl)
            have h0 : ev (.tmp 77) = .bool false := hev.1; have h1 : (fun v w => View w v (packs true M)) (ev (.tmp 81)) w1 := hev.2.1
            clear hev
            have hs := run_string_view (P := Try.prog) 22 9 5 (h1) Try.underlying22 Try.underlying5 Try.underlying9
            exact ⟨wanted_of rfl rfl h0, by go_simp⟩
          · refine Obl.val (.bool false) (fun ev w1 hc hf hg hev => ?_) (fun d hd w1 => by cases hd; rfl)
            have h0 : ev (.tmp 77) = .bool false := hev.1; have h1 : ev (.tmp 79) = .string (strOf (packs true M)) := hev.2.1; have h2 : ev (.tmp 82) = .string (strOf (packs true M)) := hev.2.2.1
            exact ⟨wanted_of rfl rfl h0, by (clear hev; go_simp)⟩
          · refine Obl.val (.bool false) (fun ev w1 hc hf hg hev => ?_) (fun d hd w1 => by cases hd; rfl)
            have h0 : ev (.tmp 77) = .bool false := hev.1; have h1 : ev (.tmp 83) = .bool false := hev.2.1
            exact ⟨rfl, by (clear hev; go_simp)⟩
          case fin =>
            intro vs w5 he5 hf
            have e63 : vs 63 = .int .i64 0 := hf 63 (by decide)
            have e64 : vs 64 = .bool false := hf 64 (by decide)
            have e65 : vs 65 = .bool false := hf 65 (by decide)
            have e66 : vs 66 = .int .i64 M.length := hf 66 (by decide)
            have e67 : vs 67 = .slice ra M.length rcap := hf 67 (by decide)
            have e68 : vs 68 = .int .i64 M.length := hf 68 (by decide)
            have e69 : vs 69 = .bool false := hf 69 (by decide)
            have e70 : vs 70 = .bool false := hf 70 (by decide)
            have e71 : vs 71 = .bool false := hf 71 (by decide)
            have e72 : vs 72 = .int .i64 M.length := hf 72 (by decide)
            have e73 : vs 73 = .slice ra M.length rcap := hf 73 (by decide)
            have e74 : vs 74 = .int .i64 M.length := hf 74 (by decide)
            have e75 : vs 75 = .bool false := hf 75 (by decide)
            have e76 : vs 76 = .bool false := hf 76 (by decide)
            have e77 : vs 77 = .bool false := hf 77 (by decide)
            have e79 : vs 79 = .string (strOf (packs true M)) := hf 79 (by decide)
            have e80 : vs 80 = .slice ra M.length rcap := hf 80 (by decide)
            have e82 : vs 82 = .string (strOf (packs true M)) := hf 82 (by decide)
            have e83 : vs 83 = .bool false := hf 83 (by decide)
            have e84 : vs 84 = .bool false := hf 84 (by decide)
            simp only [List.foldl_cons, List.foldl_nil]
            rw [e63, e64, e65, e66, e67, e68, e69, e70, e71, e72, e73, e74, e75, e76, e77, e79, e80, e82, e83, e84]
            generalize vs 78 = u78
            generalize vs 81 = u81
            simp only [Act.put, List.setIfInBounds_toArray, List.set_cons_succ, List.set_cons_zero]
            clear hf e63 e64 e65 e66 e67 e68 e69 e70 e71 e72 e73 e74 e75 e76 e77 e79 e80 e82 e83 e84
            have HX5 := Lib.hid he5
            clear he5
            go_wp2_with fail
            have HS := Lib.hid (HS.out.step HX5.out)
            refine (tab_ref_mays _ xs n _ (HU.out.ext HS.out.ext) (by omega)).mono ?_
            rintro e w' ⟨⟨rfl, hm⟩ | ⟨rfl, -⟩, rfl⟩
            · exact absurd hm HMS.out
            · go_wp2_with fail
              refine (HS.out.mlen 3 rfl).mono ?_
              rintro e w' ⟨rfl, rfl⟩
              go_wp2_with fail
              refine (tab_example _).mono ?_
              rintro e w9 ⟨rfl, x9⟩
              have HX9 := Lib.hid (HS.out.ext.trans x9)
              clear x9
              go_wp2_with fail
              go_ret
              exact ⟨rfl, HX9.out⟩
        · exact absurd HML.out hm
    · exact absurd HML.out hm
  · have HML := Lib.hid hml
    have HS4 := Lib.hid s3
    clear hml s3
    go_wp2_with fail
    refine (tab_size _ bs _ (HS4.out.viewL 0 rfl) (by omega)).mono ?_
    rintro e w5 ⟨⟨rfl, hm⟩ | ⟨rfl, -⟩, x5⟩
    · exact absurd hm HML.out
    · have HS5 := Lib.hid (HS4.out.step x5)
      clear x5
      go_wp2_with fail
      refine (HS5.out.putS 3 rfl _ xs n (HS5.out.viewL 1 rfl) (Or.inl ⟨1, _, _, by decide, rfl⟩) (by decide) (by omega)).mono ?_
      rintro e w6 (⟨rfl, hms, s6⟩ | ⟨rfl, hms, rfl⟩)
      · obtain ⟨K, hK⟩ : ∃ K, K = selBits (xs.map Int.toNat) := ⟨_, rfl⟩
        have hKl : K.length ≤ 3000 := by have := selBits_len _ _ (may_nat hms).1; rw [← hK, List.length_map] at this; omega
        rw [← hK, List.nil_append] at s6
        have HK := Lib.hid hK
        have HMS := Lib.hid hms
        clear hK hms
        have HS := Lib.hid (show St w w6 [oB (.slice ia bs.length icap) bs, oI (.slice ma xs.length mcap) xs, mW BV [], mW BW K] from s6)
        clear s6
        have hs1 := run_string_view (P := Try.prog) 22 9 5 (HS.out.view 0 rfl rfl) Try.underlying22 Try.underlying5 Try.underlying9
        have hs2 := run_string_view (P := Try.prog) 22 9 5 (HV.out.1.ext HS.out.ext) Try.underlying22 Try.underlying5 Try.underlying9
        have hne : ((strOf bs).toList != (strOf bs).toList) = false := by simp
        go_wp2_with fail
        refine (ref_same _ _ xs xs _ (HS.out.viewL 1 rfl) (HU.out.ext HS.out.ext) (by omega) (by omega)).mono ?_
        rw [decide_eq_true rfl]
        rintro e w7 ⟨rfl, x7⟩
        have HS := Lib.hid (HS.out.step x7)
        clear x7 hs1 hs2 hne
        go_wp2_with fail
        refine (tab_ref_may _ bs _ (HV.out.2.ext HS.out.ext) (by omega)).mono ?_
        rintro e w' ⟨⟨rfl, hm⟩ | ⟨rfl, -⟩, rfl⟩
        · exact absurd hm HML.out
        · go_wp2_with fail
          refine (HS.out.mlen 2 rfl).mono ?_
          rintro e w' ⟨rfl, rfl⟩
          go_wp2_with fail
          refine (tab_ref_mays _ xs n _ (HU.out.ext HS.out.ext) (by omega)).mono ?_
          rintro e w' ⟨⟨rfl, -⟩ | ⟨rfl, hm⟩, rfl⟩
          · go_wp2_with fail
            refine (tab_ref_sel _ (xs.map Int.toNat) n.toNat _ (by rw [i64s_ints, ← (may_nat HMS.out).2]; exact HU.out.ext HS.out.ext) (may_nat HMS.out).1).mono ?_
            rw [← HK.out]
            rintro e w9 ⟨rv, ro, rfl, r9, _, x9⟩
            obtain ⟨ra, rcap, rfl⟩ := r9.shape
            have HR := Lib.hid r9.viewL
            have HS := Lib.hid (HS.out.step x9)
            clear r9 x9
            have hq : ((strOf (packs true K)).toList == (strOf (packs true K)).toList) = true := by simp
            go_wp2_with fail
            have hst : Stab (Phi [(13, .int .i64 0), (10, .pointer (some ⟨BW, 0, none⟩)), (15, .slice ra K.length rcap), (100, .int .i64 0), (101, .bool true), (102, .bool true), (103, .int .i64 K.length), (104, .slice ra K.length rcap), (105, .int .i64 K.length), (106, .bool true), (107, .bool true), (108, .bool true), (110, .string (strOf (packs true K))), (111, .slice ra K.length rcap), (113, .string (strOf (packs true K))), (114, .bool true), (115, .bool true), (116, .bool true), (117, .bool true), (118, .bool true), (6, .bool true)] [(109, fun v w => View w v (packs true K)), (112, fun v w => View w v (packs true K))]) := Phi.stable (by
                intro x hx v w1 w2 he hp
                simp only [List.mem_cons, List.not_mem_nil, or_false] at hx
                rcases hx with rfl | rfl
                · exact View.ext hp he
                · exact View.ext hp he)
            refine wp_region_grow 119 [13, 10, 15] (by kernel_rfl) _ hst (by kernel_rfl) rfl (fun _ => ⟨rfl, rfl, rfl, trivial⟩) ⟨?_, ?_, ?_, ?_, ?_, ?_, ?_, ?_, ?_, ?_, ?_, ?_, ?_, ?_, ?_, ?_, ?_, ?_, ?_, ?_, trivial⟩ ?fin
            · refine Obl.val (.int .i64 0) (fun ev w1 hc hf hg hev => ?_) (fun d hd w1 => by cases hd; rfl)
              have h0 : ev (.tmp 13) = .int .i64 0 := hev.1
              exact ⟨rfl, by (clear hev; go_simp)⟩
            · refine Obl.val (.bool true) (fun ev w1 hc hf hg hev => ?_) (fun d hd w1 => by cases hd; rfl)
              have h0 : ev (.tmp 100) = .int .i64 0 := hev.1
              exact ⟨rfl, by (clear hev; go_simp)⟩
            · refine Obl.val (.bool true) (fun ev w1 hc hf hg hev => ?_) (fun d hd w1 => by cases hd; rfl)
              have h0 : ev (.tmp 101) = .bool true := hev.1
              exact ⟨rfl, by (clear hev; go_simp)⟩
            · refine Obl.call 21 #[.pointer (some ⟨BW, 0, none⟩)] (fun ev w1 hI hc hf hg hev => ?_)
              have h0 : ev (.tmp 102) = .bool true := hev.1; have h1 : ev (.tmp 10) = .pointer (some ⟨BW, 0, none⟩) := hev.2.1
              refine ⟨wanted_of rfl rfl h0, by (clear hev; go_simp), ?_⟩
              refine ((HS.out.step hI).mlen 3 rfl).mono ?_
              rintro e w2 ⟨rfl, rfl⟩
              exact ⟨_, rfl, Ext.refl _, fun d hd => by cases hd; rfl⟩
            · refine Obl.val (.slice ra K.length rcap) (fun ev w1 hc hf hg hev => ?_) (fun d hd w1 => by cases hd; rfl)
              have h0 : ev (.tmp 102) = .bool true := hev.1; have h1 : ev (.tmp 15) = .slice ra K.length rcap := hev.2.1
              exact ⟨wanted_of rfl rfl h0, by (clear hev; go_simp)⟩
            · refine Obl.val (.int .i64 K.length) (fun ev w1 hc hf hg hev => ?_) (fun d hd w1 => by cases hd; rfl)
              have h0 : ev (.tmp 102) = .bool true := hev.1; have h1 : ev (.tmp 104) = .slice ra K.length rcap := hev.2.1
              exact ⟨wanted_of rfl rfl h0, by (clear hev; go_simp)⟩
            · refine Obl.val (.bool true) (fun ev w1 hc hf hg hev => ?_) (fun d hd w1 => by cases hd; rfl)
              have h0 : ev (.tmp 102) = .bool true := hev.1; have h1 : ev (.tmp 103) = .int .i64 K.length := hev.2.1; have h2 : ev (.tmp 105) = .int .i64 K.length := hev.2.2.1
              exact ⟨wanted_of rfl rfl h0, by (clear hev; go_simp)⟩
            · refine Obl.val (.bool true) (fun ev w1 hc hf hg hev => ?_) (fun d hd w1 => by cases hd; rfl)
              have h0 : ev (.tmp 102) = .bool true := hev.1; have h1 : ev (.tmp 106) = .bool true := hev.2.1
              exact ⟨rfl, by (clear hev; go_simp)⟩
            · refine Obl.val (.bool true) (fun ev w1 hc hf hg hev => ?_) (fun d hd w1 => by cases hd; rfl)
              have h0 : ev (.tmp 107) = .bool true := hev.1
              exact ⟨rfl, by (clear hev; go_simp)⟩
            · refine Obl.call 18 #[.pointer (some ⟨BW, 0, none⟩)] (fun ev w1 hI hc hf hg hev => ?_)
              have h0 : ev (.tmp 108) = .bool true := hev.1; have h1 : ev (.tmp 10) = .pointer (some ⟨BW, 0, none⟩) := hev.2.1
              refine ⟨wanted_of rfl rfl h0, by (clear hev; go_simp), ?_⟩
              obtain ⟨ogw, hw, _⟩ := (HS.out.step hI).writer 3 rfl
              refine (msb_bytes _ _ K w1 hw (by omega)).mono ?_
              rintro e w2 ⟨v, og', rfl, c1, _, c3⟩
              exact ⟨v, rfl, c3, fun d hd => by cases hd; exact c1.view⟩
            · refine Obl.val (.string (strOf (packs true K))) (fun ev w1 hc hf hg hev => ?_) (fun d hd w1 => by cases hd; rfl)
              have h0 : ev (.tmp 108) = .bool true := hev.1; have h1 : (fun v w => View w v (packs true K)) (ev (.tmp 109)) w1 := hev.2.1
              clear hev
              have hs := run_string_view (P := Try.prog) 22 9 5 (h1) Try.underlying22 Try.underlying5 Try.underlying9
              exact ⟨wanted_of rfl rfl h0, by go_simp⟩
            · refine Obl.val (.slice ra K.length rcap) (fun ev w1 hc hf hg hev => ?_) (fun d hd w1 => by cases hd; rfl)
              have h0 : ev (.tmp 108) = .bool true := hev.1; have h1 : ev (.tmp 15) = .slice ra K.length rcap := hev.2.1
              exact ⟨wanted_of rfl rfl h0, by (clear hev; go_simp)⟩
            · refine Obl.call 23 #[.slice ra K.length rcap] (fun ev w1 hI hc hf hg hev => ?_)
              have h0 : ev (.tmp 108) = .bool true := hev.1; have h1 : ev (.tmp 111) = .slice ra K.length rcap := hev.2.1
              refine ⟨wanted_of rfl rfl h0, by (clear hev; go_simp), ?_⟩
              refine (msb_ref_bytes _ K w1 (HR.out.ext hI) (by omega)).mono ?_
              rintro e w2 ⟨v, og', rfl, c1, _, c3⟩
              exact ⟨v, rfl, c3, fun d hd => by cases hd; exact c1.view⟩
            · refine Obl.val (.string (strOf (packs true K))) (fun ev w1 hc hf hg hev => ?_) (fun d hd w1 => by cases hd; rfl)
              have h0 : ev (.tmp 108) = .bool true := hev.1; have h1 : (fun v w => View w v (packs true K)) (ev (.tmp 112)) w1 := hev.2.1
              clear hev
              have hs := run_string_view (P := Try.prog) 22 9 5 (h1) Try.underlying22 Try.underlying5 Try.underlying9
              exact ⟨wanted_of rfl rfl h0, by go_simp⟩
            · refine Obl.val (.bool true) (fun ev w1 hc hf hg hev => ?_) (fun d hd w1 => by cases hd; rfl)
              have h0 : ev (.tmp 108) = .bool true := hev.1; have h1 : ev (.tmp 110) = .string (strOf (packs true K)) := hev.2.1; have h2 : ev (.tmp 113) = .string (strOf (packs true K)) := hev.2.2.1
              exact ⟨wanted_of rfl rfl h0, by (clear hev; go_simp)⟩
            · refine Obl.val (.bool true) (fun ev w1 hc hf hg hev => ?_) (fun d hd w1 => by cases hd; rfl)
              have h0 : ev (.tmp 108) = .bool true := hev.1; have h1 : ev (.tmp 114) = .bool true := hev.2.1
              exact ⟨rfl, by (clear hev; go_simp)⟩
            · refine Obl.val (.bool true) (fun ev w1 hc hf hg hev => ?_) (fun d hd w1 => by cases hd; rfl)
              have h0 : ev (.tmp 115) = .bool true := hev.1
              exact ⟨rfl, by (clear hev; go_simp)⟩
            · refine Obl.call 35 #[] (fun ev w1 hI hc hf hg hev => ?_)
              have h0 : ev (.tmp 116) = .bool true := hev.1
              refine ⟨wanted_of rfl rfl h0, by (clear hev; go_simp), ?_⟩
              refine (tab_example w1).mono ?_
              rintro e w2 ⟨rfl, c3⟩
              exact ⟨_, rfl, c3, fun d hd => by cases hd; rfl⟩
            · refine Obl.val (.bool true) (fun ev w1 hc hf hg hev => ?_) (fun d hd w1 => by cases hd; rfl)
              have h0 : ev (.tmp 116) = .bool true := hev.1; have h1 : ev (.tmp 117) = .bool true := hev.2.1
              exact ⟨rfl, by (clear hev; go_simp)⟩
            · refine Obl.val (.bool true) (fun ev w1 hc hf hg hev => ?_) (fun d hd w1 => by cases hd; rfl)
              have h0 : ev (.tmp 118) = .bool true := hev.1
              exact ⟨rfl, by (clear hev; go_simp)⟩
            case fin =>
              intro a' w' he hd hf
              go_wp2_with fail
              have h6 : a'.tmps.getD 6 undef = .bool true := hf 6 (by decide)
              exact bodyPost_ret (by rw [results_tmp rfl, h6]) hd ⟨rfl, HS.out.ext.trans he⟩
          · exact absurd HMS.out hm
      · have HMS := Lib.hid hms
        have s6 := HS5.out
        clear hms
        have HS := Lib.hid (show St w w5 [oB (.slice ia bs.length icap) bs, oI (.slice ma xs.length mcap) xs, mW BV [], mW BW []] from s6)
        clear s6
        have hs1 := run_string_view (P := Try.prog) 22 9 5 (HS.out.view 0 rfl rfl) Try.underlying22 Try.underlying5 Try.underlying9
        have hs2 := run_string_view (P := Try.prog) 22 9 5 (HV.out.1.ext HS.out.ext) Try.underlying22 Try.underlying5 Try.underlying9
        have hne : ((strOf bs).toList != (strOf bs).toList) = false := by simp
        go_wp2_with fail
        refine (ref_same _ _ xs xs _ (HS.out.viewL 1 rfl) (HU.out.ext HS.out.ext) (by omega) (by omega)).mono ?_
        rw [decide_eq_true rfl]
        rintro e w7 ⟨rfl, x7⟩
        have HS := Lib.hid (HS.out.step x7)
        clear x7 hs1 hs2 hne
        go_wp2_with fail
        refine (tab_ref_may _ bs _ (HV.out.2.ext HS.out.ext) (by omega)).mono ?_
        rintro e w' ⟨⟨rfl, hm⟩ | ⟨rfl, -⟩, rfl⟩
        · exact absurd hm HML.out
        · go_wp2_with fail
          refine (HS.out.mlen 2 rfl).mono ?_
          rintro e w' ⟨rfl, rfl⟩
          go_wp2_with fail
          refine (tab_ref_mays _ xs n _ (HU.out.ext HS.out.ext) (by omega)).mono ?_
          rintro e w' ⟨⟨rfl, hm⟩ | ⟨rfl, -⟩, rfl⟩
          · exact absurd hm HMS.out
          · go_wp2_with fail
            refine (HS.out.mlen 3 rfl).mono ?_
            rintro e w' ⟨rfl, rfl⟩
            go_wp2_with fail
            refine (tab_example _).mono ?_
            rintro e w9 ⟨rfl, x9⟩
            have HX9 := Lib.hid (HS.out.ext.trans x9)
            clear x9
            go_wp2_with fail
            go_ret
            exact ⟨rfl, HX9.out⟩
theorem tab_law_puts (v : Value) (bs : List Nat) (u : Value) (xs : List Int) (n : Int) (w : World) (hv : View w v bs ∧ ViewL w v (u8s bs)) (hb : ∀ b ∈ bs, b < 256) (hbm : bs.length ≤ 140737488351232) (hu : ViewL w u (ints xs)) (hul : xs.length ≤ 140737488351232) (hn : -9223372036854775808 ≤ n ∧ n ≤ 9223372036854775807) :
    Calls Try.prog 8 #[v, u, .int .i64 n] w fun e w' => e = .returned (.bool true) ∧ Ext w w' := by
  by_cases h1 : 300 < bs.length
  · obtain ⟨ao, cap, rfl⟩ := hv.2.shape
    obtain ⟨bo, ucap, rfl⟩ := hu.shape
    rw [length_u8s] at *
    clear hv hb hu
    have h1 : (300 : Int) < (bs.length : Int) := by omega
    go_enter Try.func8, Try.ntmps8
    go_wp2_with fail
    go_ret
    exact ⟨rfl, Ext.refl w⟩
  · by_cases h2 : 400 < xs.length
    · obtain ⟨ao, cap, rfl⟩ := hv.2.shape
      obtain ⟨bo, ucap, rfl⟩ := hu.shape
      rw [length_u8s] at *
      rw [length_ints] at *
      clear hv hb hu
      have h1 : ¬ (300 : Int) < (bs.length : Int) := by omega
      have h2 : (400 : Int) < (xs.length : Int) := by omega
      go_enter Try.func8, Try.ntmps8
      go_wp2_with fail
      go_ret
      exact ⟨rfl, Ext.refl w⟩
    · exact tab_law_puts_some v u bs xs n w hv hu hb (by omega) (by omega)
end Go.Proofs.Yteabjmebnbaonaa
