/- pressworklaw07.RepeatRuns: its walk. -/
import Derived.Test.YtclnmddlcjgfbaaRepLawBack
namespace Go.Proofs.Ytclnmddlcjgfbaa
open Go.RowKit
set_option linter.unusedVariables false

theorem rep_store {w w' : World} {N k t f : Nat} (h : RepRow w N k t f w') (hN : w.heap.size ≤ N) (hf : f < t) : RepRow w N k t (f + 1) (w'.setCell ⟨N, f, none⟩ (.int .u8 k)) := by
  refine ⟨?_, h.2.setCell (Or.inr hN) _⟩
  rw [heap_setCell_at (a := ⟨N, f, none⟩) h.1 rfl]
  congr 2
  simp only [u8s_append, u8s_rep]
  apply Array.toList_inj.1
  simp only [Array.toList_setIfInBounds]
  rw [List.set_append_right _ _ (by simp), List.length_replicate, Nat.sub_self, show t - f = (t - (f + 1)) + 1 by omega, List.replicate_succ, List.set_cons_zero, List.replicate_succ', List.append_assoc]
  rfl
theorem rep_ownN {w w' : World} {N k t : Nat} (h : RepRow w N k t t w') (ht : t ≤ 100000) : Owns w' 5 1 (.slice (some ⟨N, 0, none⟩) t t) (some N) t (u8s (List.replicate t k)) := by
  refine ⟨⟨by simp [length_u8s], Or.inr ⟨N, t, _, rfl, Nat.zero_le _, h.1, Nat.le_refl _, by unfold maxLen; omega, by simp [length_u8s], ?_⟩⟩, rfl⟩
  simp [u8s]
theorem rep_made {w w1 : World} {k t : Nat} (hown : w1.ownsRow 0 5 1 (.slice (some ⟨w.heap.size, 0, none⟩) t t) t (madeCells #[Value.int .u8 0] t).toList) (hgrow : w.grownBy w1 none) : RepRow w w.heap.size k t 0 w1 := by
  refine ⟨?_, (Touch.refl _ w).grown hgrow (fun k e => by cases e)⟩
  obtain ⟨_, h3⟩ := hown
  rcases h3 with ⟨h3, _⟩ | ⟨g', cap, cur, h3, _, h4, _, _, h5, h6⟩
  · cases h3
  · injection h3 with a1 a2 a3
    injection a1 with a1
    injection a1 with a1 _
    subst a1
    subst a3
    rw [h4]
    rw [made_one, Nat.mul_one, List.take_of_length_le (by simp [h5])] at h6
    simp only [List.replicate_zero, List.nil_append, Nat.sub_zero, u8s_rep]
    congr 2
    apply Array.toList_inj.1
    rw [h6]; rfl
set_option maxHeartbeats 2000000 in
set_option maxRecDepth 100000 in
theorem rep_law_runs (k n : Nat) (w : World) (hk : k < 256) (hn : n < 65536) :
    Calls Try.prog 6 #[.int .u8 k, .int .u16 n] w fun e w' => e = .returned (.bool true) ∧ Ext w w' := by
  obtain ⟨i0, hi, hz0, hz1, hz2⟩ := info_parts info_u8
  obtain ⟨M, hM⟩ : ∃ M, M = n % 5001 := ⟨_, rfl⟩
  obtain ⟨K, hK⟩ : ∃ K, K = k % 16 := ⟨_, rfl⟩
  have hM5 : M ≤ 5000 := by omega
  have hK15 : K ≤ 15 := by omega
  have k1 : (n : Int).tmod 5001 = (M : Int) := by rw [Int.tmod_eq_emod_of_nonneg (by omega)]; omega
  have k2 : (k : Int).tmod 16 = (K : Int) := by rw [Int.tmod_eq_emod_of_nonneg (by omega)]; omega
  have k3 : IntKind.u8.wrap (K : Int) = (K : Int) := IntWalk.u8_in _ (by omega)
  have k4 : (M : Int).tdiv 138 = ((M / 138 : Nat) : Int) := by rw [Int.tdiv_eq_ediv_of_nonneg (by omega)]; omega
  have k5 : (M : Int).tdiv 6 = ((M / 6 : Nat) : Int) := by rw [Int.tdiv_eq_ediv_of_nonneg (by omega)]; omega
  clear hM hK
  go_enter Try.func6, Try.ntmps6
  go_wp2_with (at_make; go_must (refine wpList_make_full _ rfl (.tmp 16) (.tmp 16) 22 rfl 0 5 i0 (.int .u8 0) 1 Try.underlying22 hi hz0 hz1 .i64 .i64 M M M rfl rfl rfl rfl (by rw [hz2]; omega) (by unfold maxLen; omega) (Nat.zero_le _) ?_))
  intro w1 hown hgrow
  have HR0 := Lib.hid (rep_made (k := K) hown hgrow)
  clear hown hgrow hi hz0 hz1 hz2
  go_wp2_with fail
  go_loopw [7] (fun iv wr => ∃ f : Nat, iv = .int .i64 f ∧ f ≤ M ∧ RepRow w w.heap.size K M f wr) (fun iv _ => M - (intOf iv).toNat)
  case atStart => exact ⟨0, rfl, Nat.zero_le _, HR0.out⟩
  case round =>
    obtain ⟨f, rfl, hf, hrow⟩ := hrel
    by_cases hlt : f < M
    · have hlti : (f : Int) < (M : Int) := by omega
      have hrow2 := rep_store hrow (Nat.le_refl _) hlt
      have hcell : ∃ u, wr.cell? ⟨w.heap.size, f, none⟩ = some u := by
        rw [World.cell?, hrow.1]
        exact ⟨_, Array.getElem?_eq_getElem (by simp [length_u8s]; omega)⟩
      obtain ⟨u, hcell⟩ := hcell
      have hfree : wr.frozen? ⟨w.heap.size, f, none⟩ = false := by (rw [World.frozen?, hrow.1]; rfl)
      have HR2 := Lib.hid hrow2
      clear hrow hrow2
      go_wp2_with fail
      go_roundw
      case rel => exact ⟨f + 1, by go_num, by omega, HR2.out⟩
      case measure => simp [intOf]; omega
    · obtain rfl : f = M := by omega
      obtain ⟨wo, rfl⟩ : ∃ wo : World, wo = wr := ⟨_, rfl⟩
      obtain ⟨L, hL⟩ : ∃ L, L = List.replicate f K := ⟨_, rfl⟩
      have hok : okLens L = true := hL ▸ okLens_rep K f hK15
      have hLl : L.length = f := by rw [hL, List.length_replicate]
      have hpk : packR L = (packL L, 0) := by rw [packR, if_pos hok]
      have hall := ok_pack _ L (Nat.le_refl _) hok
      have hpl := len_pack _ L (Nat.le_refl _) hok
      have hu1 := unpR_pack L hok (L.length : Int)
      rw [if_pos rfl, hLl] at hu1
      have hrun := len_run K f hK15
      rw [← hL] at hrun
      have how := rep_ownN hrow (by omega)
      rw [← hL] at how
      have HOW : Hid (Owns wo 5 1 (.slice (some ⟨w.heap.size, 0, none⟩) L.length f) (some w.heap.size) L.length (u8s L) ∧ Ext w wo) := Lib.hid (by rw [hLl]; exact ⟨how, hrow.2⟩)
      have HOW2 := Lib.hid how
      have HPK := Lib.hid hpk
      have HALL := Lib.hid hall
      have HU1 := Lib.hid hu1
      have HLM := Lib.hid hLl
      have HOK := Lib.hid hok
      have hplf : (packL L).length ≤ 5000 := by omega
      clear hok hpk hall hu1 hL how hrow hpl hLl
      go_wp2_with fail
      refine (rep_pack _ L _ HOW2.out.viewL (okLens_256 HOK.out) (by have := HLM.out; omega)).mono ?_
      rw [HPK.out]
      rintro e w2 ⟨s, rfl, hs⟩
      obtain ⟨sa, scap, rfl⟩ := hs.viewS.shape
      have HS := Lib.hid hs
      clear hs
      simp only at HS ⊢
      by_cases hK0 : 0 < K
      · have hKi : (0 : Int) < (K : Int) := by omega
        rw [if_pos hK0] at hrun
        have hle : ((packL L).length : Int) ≤ ((f / 6 : Nat) : Int) + 3 := by omega
        go_wp2_with fail
        refine (rep_unpack _ (packL L) _ _ HS.out.viewS (ok256 HALL.out) (by omega) (by omega) (by omega)).mono ?_
        rw [HU1.out]
        rintro e w3 ⟨u, rfl, hu⟩
        obtain ⟨ua, ucap, rfl⟩ := hu.view.shape
        have hx3 := hu.toExt
        have HX4 := Lib.hid (HOW.out.2.trans (HS.out.toExt.trans hx3))
        have hs1 := run_string_view (P := Try.prog) 22 9 5 hu.view Try.underlying22 Try.underlying5 Try.underlying9
        have hs2 := run_string_view (P := Try.prog) (bs := L) 22 9 5 ((HOW.out.1.view).ext (HS.out.toExt.trans hx3)) Try.underlying22 Try.underlying5 Try.underlying9
        have he : ((strOf L).toList == (strOf L).toList) = true := by simp
        rw [HLM.out] at hs1 hs2 ⊢
        clear hu hx3
        simp only
        go_wp2_with fail
        refine (rep_packs _).mono ?_
        rintro e w6 ⟨rfl, hx6⟩
        have HX6 := Lib.hid (HX4.out.trans hx6)
        clear hx6 hs1 hs2
        go_wp2_with fail
        go_ret
        exact ⟨rfl, HX6.out⟩
      · have hKi : ¬ (0 : Int) < (K : Int) := by omega
        rw [if_neg hK0] at hrun
        have hle : ((packL L).length : Int) ≤ ((f / 138 : Nat) : Int) + 2 := by omega
        go_wp2_with fail
        refine (rep_unpack _ (packL L) _ _ HS.out.viewS (ok256 HALL.out) (by omega) (by omega) (by omega)).mono ?_
        rw [HU1.out]
        rintro e w3 ⟨u, rfl, hu⟩
        obtain ⟨ua, ucap, rfl⟩ := hu.view.shape
        have hx3 := hu.toExt
        have HX4 := Lib.hid (HOW.out.2.trans (HS.out.toExt.trans hx3))
        have hs1 := run_string_view (P := Try.prog) 22 9 5 hu.view Try.underlying22 Try.underlying5 Try.underlying9
        have hs2 := run_string_view (P := Try.prog) (bs := L) 22 9 5 ((HOW.out.1.view).ext (HS.out.toExt.trans hx3)) Try.underlying22 Try.underlying5 Try.underlying9
        have he : ((strOf L).toList == (strOf L).toList) = true := by simp
        rw [HLM.out] at hs1 hs2 ⊢
        clear hu hx3
        simp only
        go_wp2_with fail
        refine (rep_packs _).mono ?_
        rintro e w6 ⟨rfl, hx6⟩
        have HX6 := Lib.hid (HX4.out.trans hx6)
        clear hx6 hs1 hs2
        go_wp2_with fail
        go_ret
        exact ⟨rfl, HX6.out⟩
end Go.Proofs.Ytclnmddlcjgfbaa
