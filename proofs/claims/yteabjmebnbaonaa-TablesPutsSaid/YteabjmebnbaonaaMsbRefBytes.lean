/- pressworkref02: Align, Bytes. -/
import Derived.Test.YteabjmebnbaonaaMsbRefNum
import Derived.Test.YteabjmebnbaonaaMsbRefBits
import Derived.Test.YteabjmebnbaonaaAppend
import Derived.Test.YteabjmebnbaonaaClone
namespace Go.Proofs.Yteabjmebnbaonaa
open Go.RowKit
set_option linter.unusedVariables false

theorem msb_padrow (l : List Bool) (k : Nat) : bls (l ++ List.replicate (k + 1) false) = bls (l ++ List.replicate k false) ++ [Value.bool false] := by
  rw [List.replicate_succ', ← List.append_assoc, bls_append]; rfl
set_option maxHeartbeats 800000 in
theorem msb_ref_align (rv : Value) (l : List Bool) (w : World) (hr : ViewL w rv (bls l)) (hl : l.length ≤ 2 ^ 40) :
    Calls Try.prog 48 #[rv] w (NewRow w (alignB l)) := by
  obtain ⟨i0, hi, hz0, hz1, hz2⟩ := info_parts msb_infoB
  have HR := Lib.hid hr
  clear hr
  go_enter Try.func48, Try.ntmps48
  go_wp2_with (at_builtin; go_must (refine wpList_append_view _ rfl (.tmp 4) (.tmp 5) 38 rfl w.heap.size 4 i0 (.bool false) 1 Try.underlying38 hi hz0 hz1 hz2 rfl (.slice (some ⟨w.heap.size, 0, none⟩) 0 0) 0 [] rfl (World.ownsRow_made w #[] 0 (Nat.le_refl _) (by decide) rfl) rv (bls l) rfl (HR.out.ext ((Ext.refl w).alloc _)) (bls_one l) (by rw [length_bls]; unfold maxLen; omega) (by rw [length_bls]; omega) (by simp) ?_))
  intro inv w1 hown' hgrow hat
  have ho : Owns w1 4 1 inv inv.ownBlock l.length (bls l) := ⟨by have := ownsRow_zero hown'; simpa [length_bls] using this, rfl⟩
  have hx1 : Ext w w1 := Touch.grown ((Ext.refl w).alloc _) hgrow (fun k e => Or.inr (by cases e; exact Nat.le_refl _))
  have hn1 : ∀ g, inv.ownBlock = some g → w.heap.size ≤ g := fun g e => (hown'.lt g e).1
  have HO := Lib.hid ho
  have HX1 := Lib.hid hx1
  have HN1 := Lib.hid hn1
  clear hown' hgrow hat ho hx1 hn1
  go_wp2_with fail
  go_loopw [3] (fun ov wr => ∃ k : Nat, l.length + k ≤ 8 * ((l.length + 7) / 8) ∧ ∃ og, Owns wr 4 1 ov og (l.length + k) (bls (l ++ List.replicate k false)) ∧ (∀ g, og = some g → w.heap.size ≤ g) ∧ Ext w wr) (fun ov _ => 8 * ((l.length + 7) / 8) - (match ov with | .slice _ n _ => n | _ => 0))
  case atStart => exact ⟨0, by omega, _, by simpa using HO.out, HN1.out, HX1.out⟩
  case round =>
    obtain ⟨k, hk, og, ho, hn, hx⟩ := hrel
    obtain ⟨oa, ocap, rfl⟩ := ho.shape
    obtain ⟨L, hL⟩ : ∃ L, L = l.length + k := ⟨_, rfl⟩
    rw [← hL] at ho hk ⊢
    have k5 : (L : Int).tmod 8 = (L : Int) % 8 := Int.tmod_eq_emod_of_nonneg (by omega)
    have HO := Lib.hid ho
    have HN := Lib.hid hn
    have HX := Lib.hid hx
    have HL := Lib.hid hL
    clear ho hn hx hL
    by_cases hlt : L < 8 * ((l.length + 7) / 8)
    · have h8 : ((L : Int) % 8 != 0) = true := by
        have := HL.out
        rw [bne_iff_ne]; omega
      go_wp2_with (at_builtin; go_must (refine wpList_append_own_at _ rfl (.tmp 11) (.tmp 12) 38 rfl 0 4 i0 (.bool false) 1 1 Try.underlying38 hi hz0 hz1 hz2 rfl (by decide) _ L (bls (l ++ List.replicate k false)) rfl (HO.out.1.alloc _) ⟨wr.heap.size, 0, none⟩ 1 1 [.bool false] rfl rfl (cell_one_new _ _ _) (by simp [Value.oneCell']) (by unfold maxLen; omega) (by omega) (Nat.zero_le _) ?_))
      intro v' w2 hown' hgrow _ hat2
      rw [← msb_padrow] at hown'
      have hx3 : Ext w w2 := Touch.grown (HX.out.alloc _) hgrow (fun i e => Or.inr (HN.out i (by rw [← HO.out.2]; exact e)))
      have hn3 : ∀ g', v'.ownBlock = some g' → w.heap.size ≤ g' := by
        intro g' e
        rcases hat2 with h | h
        · rw [h, HO.out.2] at e; exact HN.out g' e
        · rw [h] at e; cases e; have := HX.out.size; simp; omega
      obtain ⟨va, vcap, rfl⟩ := ownsRow_form hown' (by omega)
      have e3 : l.length + (k + 1) = L + 1 := by have := HL.out; omega
      have HF := Lib.hid (show Owns w2 4 1 (.slice (some ⟨va, 0, none⟩) (L + 1) vcap) (Value.slice (some ⟨va, 0, none⟩) (L + 1) vcap).ownBlock (l.length + (k + 1)) (bls (l ++ List.replicate (k + 1) false)) from ⟨by rw [e3]; exact hown', rfl⟩)
      have HX3 := Lib.hid hx3
      have HN3 := Lib.hid hn3
      clear hown' hgrow hat2 hx3 hn3
      go_wp2_with fail
      go_roundw
      case rel => exact ⟨k + 1, by omega, _, HF.out, HN3.out, HX3.out⟩
      case measure => show 8 * ((l.length + 7) / 8) - (L + 1) < 8 * ((l.length + 7) / 8) - L; omega
    · have h8 : ((L : Int) % 8 != 0) = false := by
        have := HL.out
        rw [bne_eq_false_iff_eq]; omega
      go_wp2_with fail
      go_ret
      have ek : k = 8 * ((l.length + 7) / 8) - l.length := by have := HL.out; omega
      have el : (alignB l).length = L := by rw [length_alignB]; have := HL.out; omega
      exact ⟨_, og, rfl, by rw [el]; rw [alignB, ← ek]; exact HO.out, HN.out, HX.out⟩

set_option maxHeartbeats 800000 in
theorem msb_ref_bytes (rv : Value) (l : List Bool) (w : World) (hr : ViewL w rv (bls l)) (hl : l.length ≤ 2 ^ 40) :
    Calls Try.prog 23 #[rv] w fun e w' => ∃ v og, e = .returned v ∧ Owns w' 5 1 v og (packs true l).length (u8s (packs true l)) ∧ (∀ g, og = some g → w.heap.size ≤ g) ∧ Ext w w' := by
  obtain ⟨i0, hi, hz0, hz1, hz2⟩ := info_parts info_u8
  have HR := Lib.hid hr
  clear hr
  go_enter Try.func23, Try.ntmps23
  go_wp2_with fail
  refine (msb_ref_align rv l _ HR.out hl).mono ?_
  rintro e w1 ⟨av, oa, rfl, c1, c2, c3⟩
  obtain ⟨aa, acap, rfl⟩ := c1.shape
  have HA := Lib.hid c1
  have HX1 := Lib.hid c3
  have hAL := length_alignB l
  obtain ⟨N, hN⟩ : ∃ N, N = (l.length + 7) / 8 := ⟨_, rfl⟩
  have HPL := Lib.hid (show (packs true l).length = N by rw [length_packs, hN])
  rw [hAL, ← hN]
  have HAL := Lib.hid (show (alignB l).length = 8 * N by rw [hAL, hN])
  have hN40 : N ≤ 2 ^ 40 := by omega
  clear c1 c2 c3 hAL hN
  go_wp2_with fail
  go_loopw [4, 5] (fun ov i wr => ∃ k : Nat, k ≤ N ∧ i = .int .i64 (8 * k : Nat) ∧ ∃ og, Owns wr 5 1 ov og k (u8s ((packs true l).take k)) ∧ (∀ g, og = some g → w1.heap.size ≤ g) ∧ Ext w1 wr) (fun _ i _ => 8 * N - (intOf i).toNat)
  case atStart => exact ⟨0, Nat.zero_le _, rfl, none, Owns.nil _ _ _, fun g e => (by cases e), Ext.refl _⟩
  case round =>
    obtain ⟨k, hk, rfl, og, ho, hn, hx⟩ := hrel
    by_cases hlt : k < N
    · have hk1 : (8 * k : Nat) < 8 * N := by omega
      have hlb : (bls (alignB l)).length = 8 * N := by rw [length_bls, HAL.out]
      have hv : ViewL wr (.slice aa (8 * N) acap) (bls (alignB l)) := by have := HA.out.viewL.ext hx; rw [HAL.out] at this; exact this
      have hcap : 8 * N ≤ acap := by
        obtain ⟨ao', cap', e, h1, _⟩ := hv
        injection e with e1 e2 e3
        omega
      have hp := ViewL.piece (w := wr) (ao := aa) (cap := acap) (xs := bls (alignB l)) (by rw [hlb]; exact hv) (8 * k) 8 (by rw [hlb]; omega) (by omega)
      have e3 : ((bls (alignB l)).drop (8 * k)).take 8 = bls (((alignB l).drop (8 * k)).take 8) := by simp [bls, List.map_drop, List.map_take]
      rw [e3] at hp
      have hnum := num_byte true l k (by rw [HAL.out]; exact hk1)
      have hb := packs_lt true l
      have hsn : u8s ((packs true l).take (k + 1)) = u8s ((packs true l).take k) ++ [.int .u8 ((packs true l).getD k 0 : Nat)] := by
        have hk2 : k < (packs true l).length := by rw [HPL.out]; exact hlt
        rw [List.take_succ_eq_append_getElem hk2, u8s_append]
        simp [u8s, List.getD, hk2]
      have hb2 := getD_lt hb k
      obtain ⟨b, hbk⟩ : ∃ b, (packs true l).getD k 0 = b := ⟨_, rfl⟩
      rw [hbk] at hnum hsn hb2
      have hlen8 : (((alignB l).drop (8 * k)).take 8).length ≤ 32 := by rw [List.length_take]; omega
      have HP := Lib.hid hp
      have HNUM := Lib.hid hnum
      have HSN := Lib.hid hsn
      have HO := Lib.hid ho
      have HN := Lib.hid hn
      have HX := Lib.hid hx
      have HV := Lib.hid hv
      clear hp hnum hsn ho hn hx hv hb hbk hlb e3
      go_wp2_with fail
      refine (msb_number _ _ _ HP.out hlen8).mono ?_
      rintro e w2 ⟨rfl, rfl⟩
      rw [HNUM.out]
      go_wp2_with (at_builtin; go_must (refine wpList_append_own_at _ rfl (.tmp 14) (.tmp 22) 22 rfl 0 5 i0 (.int .u8 0) 1 1 Try.underlying22 hi hz0 hz1 hz2 rfl (by decide) _ k (u8s ((packs true l).take k)) rfl (HO.out.1.alloc _) ⟨wr.heap.size, 0, none⟩ 1 1 [.int .u8 b] rfl rfl (cell_one_new _ _ _) (by simp [Value.oneCell']) (by unfold maxLen; omega) (by omega) (Nat.zero_le _) ?_))
      intro v' w2 hown' hgrow _ hat2
      rw [← HSN.out] at hown'
      have hx3 : Ext w1 w2 := Touch.grown (HX.out.alloc _) hgrow (fun i e => Or.inr (HN.out i (by rw [← HO.out.2]; exact e)))
      have hn3 : ∀ g', v'.ownBlock = some g' → w1.heap.size ≤ g' := by
        intro g' e
        rcases hat2 with h | h
        · rw [h, HO.out.2] at e; exact HN.out g' e
        · rw [h] at e; cases e; have := HX.out.size; simp; omega
      have HF := Lib.hid (show Owns w2 5 1 v' v'.ownBlock (k + 1) (u8s ((packs true l).take (k + 1))) from ⟨hown', rfl⟩)
      have HX3 := Lib.hid hx3
      have HN3 := Lib.hid hn3
      clear hown' hgrow hat2 hx3 hn3
      go_wp2_with fail
      go_roundw
      case rel => exact ⟨k + 1, by omega, by go_num, _, HF.out, HN3.out, HX3.out⟩
      case measure => simp [intOf]; omega
    · obtain rfl : k = N := by omega
      rw [← HPL.out, List.take_length, HPL.out] at ho
      have HO := Lib.hid ho
      have HN := Lib.hid hn
      have HX := Lib.hid hx
      clear ho hn hx
      go_wp2_with fail
      go_ret
      exact ⟨_, og, rfl, by rw [HPL.out]; exact HO.out, fun g e => Nat.le_trans HX1.out.size (HN.out g e), HX1.out.trans HX.out⟩
end Go.Proofs.Yteabjmebnbaonaa
