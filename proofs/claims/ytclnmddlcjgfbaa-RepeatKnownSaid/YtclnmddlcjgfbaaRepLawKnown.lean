/- pressworklaw07.RepeatKnown: its walk. -/
import Derived.Test.YtclnmddlcjgfbaaRepLawRuns
namespace Go.Proofs.Ytclnmddlcjgfbaa
open Go.RowKit
set_option linter.unusedVariables false

theorem rest_more {k n : Nat} (s : Nat × Nat) (m : Nat) (hk : k ≤ 15) (hn : 0 < n) (hs : signAt k n = s) (hm : n - timesOf s = m) : restOf k n = s :: restOf k m := by
  subst hs; subst hm; exact restOf_step hk hn
theorem known_a : packR (List.replicate 139 0) = ([(18, 127), (0, 0)], 0) := by
  rw [packR, if_pos (okLens_rep 0 139 (by decide)), packL_rep, if_neg (by decide), signsOf, if_pos rfl, rest_more (18, 127) 1 (by decide) (by decide) (by decide) (by decide), rest_more (0, 0) 0 (by decide) (by decide) (by decide) (by decide), restOf_zero]
theorem known_b : packR [16] = ([], 5) := by rw [packR, if_neg (by decide)]
theorem known_c : packR [4, 4, 4] = ([(4, 0), (4, 0), (4, 0)], 0) := by
  rw [show [4, 4, 4] = List.replicate 3 4 from rfl, packR, if_pos (okLens_rep 4 3 (by decide)), packL_rep, if_neg (by decide), signsOf, if_neg (by decide), rest_more (4, 0) 1 (by decide) (by decide) (by decide) (by decide), rest_more (4, 0) 0 (by decide) (by decide) (by decide) (by decide), restOf_zero]
theorem known_d : packR [4, 4, 4, 4, 4, 4, 4, 4, 4, 4] = ([(4, 0), (16, 3), (16, 0)], 0) := by
  rw [show [4, 4, 4, 4, 4, 4, 4, 4, 4, 4] = List.replicate 10 4 from rfl, packR, if_pos (okLens_rep 4 10 (by decide)), packL_rep, if_neg (by decide), signsOf, if_neg (by decide), rest_more (16, 3) 3 (by decide) (by decide) (by decide) (by decide), rest_more (16, 0) 0 (by decide) (by decide) (by decide) (by decide), restOf_zero]
theorem viewS_nil (w : World) : ViewS w (.slice none 0 0) [] := ⟨none, 0, rfl, fun h => absurd h (by decide)⟩
/-- the cells of signs that are owned. -/
theorem RO.cells {e : TypeId} {w wr : World} {s : Nat × Nat} {l : List (Nat × Nat)} {v : Value} (h : RO e w (s :: l) v wr) : ∃ g cap, v = .slice (some ⟨g, 0, none⟩) (s :: l).length cap ∧ ∀ j u, (scells (s :: l))[j]? = some u → wr.cell? ⟨g, j, none⟩ = some u := by
  obtain ⟨og, h1, _, _⟩ := h
  rcases h1.form with ⟨_, _, h0, _⟩ | ⟨g, cap, cur, rfl, rfl, _⟩
  · simp at h0
  · refine ⟨g, cap, rfl, fun j u hj => ?_⟩
    have hc := h1.1.cells (g := g) rfl j u hj
    rwa [add_lit] at hc
set_option maxHeartbeats 4000000 in
set_option maxRecDepth 100000 in
theorem rep_law_known (w : World) : Calls Try.prog 8 #[] w fun e w' => e = .returned (.bool true) ∧ Ext w w' := by
  obtain ⟨i0, hi, hz0, hz1, hz2⟩ := info_parts info_u8
  go_enter Try.func8, Try.ntmps8
  go_wp2_with (at_make; go_must (refine wpList_make_full _ rfl (.const (.int .i64 139)) (.const (.int .i64 139)) 22 rfl 0 5 i0 (.int .u8 0) 1 Try.underlying22 hi hz0 hz1 .i64 .i64 139 139 139 rfl rfl rfl rfl (by rw [hz2]; decide) (by unfold maxLen; decide) (Nat.zero_le _) ?_))
  intro w0 hown hgrow
  have hr0 := rep_made (k := 0) hown hgrow
  have hr1 : RepRow w w.heap.size 0 139 139 w0 := ⟨by rw [hr0.1]; rfl, hr0.2⟩
  have how := rep_ownN hr1 (by decide)
  have HV0 : Hid (ViewL w0 (.slice (some ⟨w.heap.size, 0, none⟩) 139 139) (u8s (List.replicate 139 0))) := Lib.hid how.viewL
  have HX0 := Lib.hid hr1.2
  clear hown hgrow hr0 hr1 how hi hz0 hz1 hz2
  go_wp2_with fail
  refine (rep_pack _ (List.replicate 139 0) _ HV0.out (okLens_256 (okLens_rep 0 139 (by decide))) (by rw [List.length_replicate]; decide)).mono ?_
  rw [known_a]
  rintro e w1 ⟨v1, rfl, h1⟩
  obtain ⟨ga, ca, rfl, hga⟩ := h1.cells
  have HA := Lib.hid hga
  have HX1 := Lib.hid (HX0.out.trans h1.toExt)
  have HE1 := Lib.hid (Ext.refl w1)
  clear h1 hga HV0 HX0
  go_wp2_with fail
  refine (rep_unpack _ [(16, 0)] 3 _ (viewS_new w1 [(16, 0)] 31 (0, 0)) (by decide) (by decide) (by decide) (by decide)).mono ?_
  rw [show unpR [(16, 0)] 3 = ([], 2) from by first | decide | rfl]
  rintro e w2 ⟨v2, rfl, h2⟩
  have HX2 := Lib.hid (HX1.out.trans (Touch.alloc_l h2.toExt))
  have HE2 := Lib.hid (HE1.out.trans (Touch.alloc_l h2.toExt))
  clear h2 HX1 HE1
  go_wp2_with fail
  refine (rep_unpack _ [(17, 0)] 4 _ (viewS_new w2 [(17, 0)] 31 (0, 0)) (by decide) (by decide) (by decide) (by decide)).mono ?_
  rw [show unpR [(17, 0)] 4 = ([], 2) from by first | decide | rfl]
  rintro e w3 ⟨v3, rfl, h3⟩
  have HX3 := Lib.hid (HX2.out.trans (Touch.alloc_l h3.toExt))
  have HE3 := Lib.hid (HE2.out.trans (Touch.alloc_l h3.toExt))
  clear h3 HX2 HE2
  go_wp2_with fail
  refine (rep_unpack _ [(19, 0)] 1 _ (viewS_new w3 [(19, 0)] 31 (0, 0)) (by decide) (by decide) (by decide) (by decide)).mono ?_
  rw [show unpR [(19, 0)] 1 = ([], 5) from by first | decide | rfl]
  rintro e w4 ⟨v4, rfl, h4⟩
  have HX4 := Lib.hid (HX3.out.trans (Touch.alloc_l h4.toExt))
  have HE4 := Lib.hid (HE3.out.trans (Touch.alloc_l h4.toExt))
  clear h4 HX3 HE3
  go_wp2_with fail
  refine (rep_unpack _ [(3, 1)] 1 _ (viewS_new w4 [(3, 1)] 31 (0, 0)) (by decide) (by decide) (by decide) (by decide)).mono ?_
  rw [show unpR [(3, 1)] 1 = ([], 5) from by first | decide | rfl]
  rintro e w5 ⟨v5, rfl, h5⟩
  have HX5 := Lib.hid (HX4.out.trans (Touch.alloc_l h5.toExt))
  have HE5 := Lib.hid (HE4.out.trans (Touch.alloc_l h5.toExt))
  clear h5 HX4 HE4
  go_wp2_with fail
  refine (rep_unpack _ [(3, 0), (16, 4)] 8 _ (viewS_new w5 [(3, 0), (16, 4)] 31 (0, 0)) (by decide) (by decide) (by decide) (by decide)).mono ?_
  rw [show unpR [(3, 0), (16, 4)] 8 = ([], 5) from by first | decide | rfl]
  rintro e w6 ⟨v6, rfl, h6⟩
  have HX6 := Lib.hid (HX5.out.trans (Touch.alloc_l h6.toExt))
  have HE6 := Lib.hid (HE5.out.trans (Touch.alloc_l h6.toExt))
  clear h6 HX5 HE5
  go_wp2_with fail
  refine (rep_unpack _ [(17, 8)] 11 _ (viewS_new w6 [(17, 8)] 31 (0, 0)) (by decide) (by decide) (by decide) (by decide)).mono ?_
  rw [show unpR [(17, 8)] 11 = ([], 5) from by first | decide | rfl]
  rintro e w7 ⟨v7, rfl, h7⟩
  have HX7 := Lib.hid (HX6.out.trans (Touch.alloc_l h7.toExt))
  have HE7 := Lib.hid (HE6.out.trans (Touch.alloc_l h7.toExt))
  clear h7 HX6 HE6
  go_wp2_with fail
  refine (rep_unpack _ [(18, 128)] 139 _ (viewS_new w7 [(18, 128)] 31 (0, 0)) (by decide) (by decide) (by decide) (by decide)).mono ?_
  rw [show unpR [(18, 128)] 139 = ([], 5) from by first | decide | rfl]
  rintro e w8 ⟨v8, rfl, h8⟩
  have HX8 := Lib.hid (HX7.out.trans (Touch.alloc_l h8.toExt))
  have HE8 := Lib.hid (HE7.out.trans (Touch.alloc_l h8.toExt))
  clear h8 HX7 HE7
  go_wp2_with fail
  refine (rep_unpack _ [(18, 127)] 138 _ (viewS_new w8 [(18, 127)] 31 (0, 0)) (by decide) (by decide) (by decide) (by decide)).mono ?_
  rw [show unpR [(18, 127)] 138 = (List.replicate 138 0, 0) from by first | decide | rfl]
  rintro e w9 ⟨v9, rfl, h9⟩
  obtain ⟨oa9, oc9, rfl⟩ := h9.view.shape
  have HX9 := Lib.hid (HX8.out.trans (Touch.alloc_l h9.toExt))
  have HE9 := Lib.hid (HE8.out.trans (Touch.alloc_l h9.toExt))
  clear h9 HX8 HE8
  go_wp2_with fail
  refine (rep_unpack _ [] 0 _ (viewS_nil w9) (by decide) (by decide) (by decide) (by decide)).mono ?_
  rw [show unpR [] 0 = ([], 0) from by first | decide | rfl]
  rintro e w10 ⟨v10, rfl, h10⟩
  obtain ⟨oa10, oc10, rfl⟩ := h10.view.shape
  have HX10 := Lib.hid (HX9.out.trans h10.toExt)
  have HE10 := Lib.hid (HE9.out.trans h10.toExt)
  clear h10 HX9 HE9
  go_wp2_with fail
  refine (rep_unpack _ [] (-1) _ (viewS_nil w10) (by decide) (by decide) (by decide) (by decide)).mono ?_
  rw [show unpR [] (-1) = ([], 2) from by first | decide | rfl]
  rintro e w11 ⟨v11, rfl, h11⟩
  have HX11 := Lib.hid (HX10.out.trans h11.toExt)
  have HE11 := Lib.hid (HE10.out.trans h11.toExt)
  clear h11 HX10 HE10
  go_wp2_with fail
  refine (rep_pack _ [16] _ (viewL_new w11 [16] 5 (0, 0)) (by decide) (by decide)).mono ?_
  rw [known_b]
  rintro e w12 ⟨v12, rfl, h12⟩
  have HX12 := Lib.hid (HX11.out.trans (Touch.alloc_l h12.toExt))
  have HE12 := Lib.hid (HE11.out.trans (Touch.alloc_l h12.toExt))
  clear h12 HX11 HE11
  go_wp2_with fail
  refine (rep_pack _ [4, 4, 4] _ (viewL_new w12 [4, 4, 4] 5 (0, 0)) (by decide) (by decide)).mono ?_
  rw [known_c]
  rintro e w13 ⟨v13, rfl, h13⟩
  obtain ⟨oa13, oc13, rfl⟩ := h13.viewS.shape
  have HX13 := Lib.hid (HX12.out.trans (Touch.alloc_l h13.toExt))
  have HE13 := Lib.hid (HE12.out.trans (Touch.alloc_l h13.toExt))
  clear h13 HX12 HE12
  go_wp2_with fail
  refine (rep_pack _ [4, 4, 4, 4, 4, 4, 4, 4, 4, 4] _ (viewL_new w13 [4, 4, 4, 4, 4, 4, 4, 4, 4, 4] 5 (0, 0)) (by decide) (by decide)).mono ?_
  rw [known_d]
  rintro e w14 ⟨v14, rfl, h14⟩
  obtain ⟨gd, cd, rfl, hgd⟩ := h14.cells
  have HX14 := Lib.hid (HX13.out.trans (Touch.alloc_l h14.toExt))
  have HE14 := Lib.hid (HE13.out.trans (Touch.alloc_l h14.toExt))
  clear h14 HX13 HE13
  have a0 := cell_touch HE14.out (HA.out 0 _ rfl) (fun f => f)
  have a1 := cell_touch HE14.out (HA.out 1 _ rfl) (fun f => f)
  have a2 := cell_touch HE14.out (HA.out 2 _ rfl) (fun f => f)
  have a3 := cell_touch HE14.out (HA.out 3 _ rfl) (fun f => f)
  have d2 := hgd 2 _ rfl
  have d3 := hgd 3 _ rfl
  have d4 := hgd 4 _ rfl
  have d5 := hgd 5 _ rfl
  clear HA hgd
  go_wp2_with fail
  refine (rep_packs _).mono ?_
  rintro e w6 ⟨rfl, hx6⟩
  have HXZ := Lib.hid (HX14.out.trans hx6)
  clear hx6 a0 a1 a2 a3 d2 d3 d4 d5
  go_wp2_with fail
  go_ret
  exact ⟨rfl, HXZ.out⟩
end Go.Proofs.Ytclnmddlcjgfbaa
