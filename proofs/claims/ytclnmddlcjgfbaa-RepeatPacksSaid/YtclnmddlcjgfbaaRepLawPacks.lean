/- pressworklaw07.RepeatPacks: its walk. -/
import Derived.Test.YtclnmddlcjgfbaaRepPacks
namespace Go.Proofs.Ytclnmddlcjgfbaa
open Go.RowKit
set_option linter.unusedVariables false

set_option maxHeartbeats 2000000 in
set_option maxRecDepth 100000 in
theorem rep_packs_some (v : Value) (bs : List Nat) (code : Nat) (w : World) (hbv : View w v bs) (hb : ViewL w v (u8s bs)) (h256 : ∀ b ∈ bs, b < 256) (hbl : bs.length ≤ 1000) (hcode : code < 256) :
    Calls Try.prog 3 #[v, .int .u8 code] w fun e w' => e = .returned (.bool true) ∧ Ext w w' := by
  obtain ⟨i0, hi, hz0, hz1, hz2⟩ := info_parts info_u8
  obtain ⟨bo, bcap, rfl⟩ := hb.shape
  have hlb := length_u8s bs
  have h1 : ¬ (1000 : Int) < (bs.length : Int) := by omega
  have HB := Lib.hid hb
  have H256 := Lib.hid h256
  have HBW : Hid (View w (.slice bo bs.length bcap) bs) := Lib.hid (hlb ▸ hbv)
  have HLB := Lib.hid hlb
  rw [hlb]
  clear hb hbv h256 hlb
  go_enter Try.func3, Try.ntmps3
  go_wp2_with (at_builtin; go_must (refine wpList_append_view _ rfl (.tmp 15) (.tmp 16) 22 rfl w.heap.size 5 i0 (.int .u8 0) 1 Try.underlying22 hi hz0 hz1 hz2 rfl (.slice (some ⟨w.heap.size, 0, none⟩) 0 0) 0 [] rfl (World.ownsRow_made w #[] 0 (Nat.le_refl _) (by decide) rfl) (.slice bo bs.length bcap) (u8s bs) rfl (HLB.out ▸ HB.out.ext ((Ext.refl w).alloc _)) (u8s_one bs) (by rw [HLB.out]; unfold maxLen; omega) (by rw [HLB.out]; omega) (by simp) ?_))
  intro inv w1 hown' hgrow hat
  have ho : Owns w1 5 1 inv inv.ownBlock bs.length (u8s bs) := ⟨by have := ownsRow_zero hown'; simpa [HLB.out] using this, rfl⟩
  have hx1 : Ext w w1 := Touch.grown ((Ext.refl w).alloc _) hgrow (fun k e => Or.inr (by cases e; exact Nat.le_refl _))
  obtain ⟨ia, icap, rfl⟩ := ho.shape
  have HO := Lib.hid ho
  have HX1 := Lib.hid hx1
  clear hown' hgrow hat ho hx1 hi hz0 hz1 hz2
  go_wp2_with fail
  refine (rep_pack _ bs _ HO.out.viewL H256.out (by omega)).mono ?_
  rintro e w2 ⟨a, rfl, hra⟩
  have HRA := Lib.hid hra
  have HBV := Lib.hid (HB.out.ext (HX1.out.trans hra.toExt))
  have HXA := Lib.hid (HX1.out.trans hra.toExt)
  obtain ⟨aa, acap, rfl⟩ := hra.viewS.shape
  clear hra
  go_wp2_with fail
  refine (rep_ref_pack _ bs _ (HLB.out ▸ HBV.out) H256.out (by omega)).mono ?_
  rintro e w3 ⟨b, rfl, hrb⟩
  obtain ⟨ba, bcap2, rfl⟩ := hrb.viewS.shape
  have HSA := Lib.hid (HRA.out.viewS.ext hrb.toExt)
  have HSB := Lib.hid hrb.viewS
  have HX3 := Lib.hid (HXA.out.trans hrb.toExt)
  have hs1 := run_string_view (P := Try.prog) 22 9 5 ((HO.out.ext' (HRA.out.toExt.trans hrb.toExt)).view) Try.underlying22 Try.underlying5 Try.underlying9
  have hs2 := run_string_view (P := Try.prog) (w := w3) (v := .slice bo bs.length bcap) (bs := bs) 22 9 5 (HBW.out.ext HX3.out) Try.underlying22 Try.underlying5 Try.underlying9
  have hne : ((strOf bs).toList != (strOf bs).toList) = false := by simp
  obtain ⟨pl, pe⟩ : ∃ p, p = packR bs := ⟨_, rfl⟩
  obtain ⟨pL, pE⟩ := pl
  rw [← pe] at HSA HSB ⊢
  have hpl : pL.length ≤ 1000 := by
    have : pL = (packR bs).1 := by rw [← pe]
    rw [this, packR]
    split
    · rename_i h
      have := len_pack _ bs (Nat.le_refl _) h
      simp only; omega
    · simp
  clear hrb pe
  simp only at HSA HSB ⊢
  go_wp2_with fail
  clear hs1 hs2 hne
  go_loopw [10] (fun i wr => ∃ k q : Nat, i = .int .i64 k ∧ k ≤ pL.length ∧ wr = w3.drewN q) (fun i _ => pL.length - (intOf i).toNat)
  case atStart => exact ⟨0, 0, rfl, Nat.zero_le _, rfl⟩
  case round =>
    obtain ⟨k, q, rfl, hk, rfl⟩ := hrel
    by_cases hlt : k < pL.length
    · have hlti : (k : Int) < (pL.length : Int) := by omega
      obtain ⟨b1, o1, rfl, hc1⟩ := HSA.out.cells (by omega)
      obtain ⟨b2, o2, rfl, hc2⟩ := HSB.out.cells (by omega)
      obtain ⟨s, hsk⟩ : ∃ s, pL[k]? = some s := ⟨_, List.getElem?_eq_getElem hlt⟩
      have c1 := (hc1 k s hsk).1
      have c2 := (hc1 k s hsk).2
      have c3 := (hc2 k s hsk).1
      have c4 := (hc2 k s hsk).2
      have k1 : (k : Int).toNat = k := by omega
      have k2 : (0 : Int) ≤ (k : Int) := by omega
      clear hc1 hc2 hsk
      go_wp2_with fail
      go_quiet (fail)
      clear c1 c2 c3 c4
      go_wp2_with fail
      go_roundw
      case rel => exact ⟨k + 1, _, by go_num, by omega, rfl⟩
      case measure => simp [intOf]; omega
    · have hge : ¬ (k : Int) < (pL.length : Int) := by omega
      have HXR := Lib.hid (HX3.out.drewN q)
      by_cases h16 : code = 16
      · subst h16
        have HCB := Lib.hid (show bitsOfCode 16 = 2 from rfl)
        go_wp2_with fail
        refine (rep_bits 16 _ (by omega)).mono ?_
        rintro e w5 ⟨rfl, rfl⟩
        rw [HCB.out]
        go_wp2_with fail
        refine (rep_packs _).mono ?_
        rintro e w6 ⟨rfl, hx6⟩
        have HX6 := Lib.hid (HXR.out.trans hx6)
        clear hx6
        go_wp2_with fail
        go_ret
        exact ⟨rfl, HX6.out⟩
      · by_cases h17 : code = 17
        · subst h17
          have HCB := Lib.hid (show bitsOfCode 17 = 3 from rfl)
          go_wp2_with fail
          refine (rep_bits 17 _ (by omega)).mono ?_
          rintro e w5 ⟨rfl, rfl⟩
          rw [HCB.out]
          go_wp2_with fail
          refine (rep_packs _).mono ?_
          rintro e w6 ⟨rfl, hx6⟩
          have HX6 := Lib.hid (HXR.out.trans hx6)
          clear hx6
          go_wp2_with fail
          go_ret
          exact ⟨rfl, HX6.out⟩
        · by_cases h18 : code = 18
          · subst h18
            have HCB := Lib.hid (show bitsOfCode 18 = 7 from rfl)
            go_wp2_with fail
            refine (rep_bits 18 _ (by omega)).mono ?_
            rintro e w5 ⟨rfl, rfl⟩
            rw [HCB.out]
            go_wp2_with fail
            refine (rep_packs _).mono ?_
            rintro e w6 ⟨rfl, hx6⟩
            have HX6 := Lib.hid (HXR.out.trans hx6)
            clear hx6
            go_wp2_with fail
            go_ret
            exact ⟨rfl, HX6.out⟩
          · have k1 : ¬ (code : Int) = 16 := by omega
            have k2 : ¬ (code : Int) = 17 := by omega
            have k3 : ¬ (code : Int) = 18 := by omega
            have HCB := Lib.hid (show bitsOfCode code = 0 by simp [bitsOfCode, h16, h17, h18])
            go_wp2_with fail
            refine (rep_bits code _ (by omega)).mono ?_
            rintro e w5 ⟨rfl, rfl⟩
            rw [HCB.out]
            go_wp2_with fail
            refine (rep_packs _).mono ?_
            rintro e w6 ⟨rfl, hx6⟩
            have HX6 := Lib.hid (HXR.out.trans hx6)
            clear hx6
            go_wp2_with fail
            go_ret
            exact ⟨rfl, HX6.out⟩
theorem rep_packs_long (v : Value) (bs : List Nat) (code : Nat) (w : World) (hb : ViewL w v (u8s bs)) (hbm : bs.length ≤ 2 ^ 50) (hbl : 1000 < bs.length) :
    Calls Try.prog 3 #[v, .int .u8 code] w fun e w' => e = .returned (.bool true) ∧ Ext w w' := by
  obtain ⟨bo, bcap, rfl⟩ := hb.shape
  rw [length_u8s]
  clear hb
  have h1 : (1000 : Int) < (bs.length : Int) := by omega
  go_enter Try.func3, Try.ntmps3
  go_wp2_with fail
  go_ret
  exact ⟨rfl, Ext.refl _⟩
theorem rep_law_packs (v : Value) (bs : List Nat) (code : Nat) (w : World) (hb : View w v bs ∧ ViewL w v (u8s bs)) (h256 : ∀ b ∈ bs, b < 256) (hbm : bs.length ≤ 140737488351232) (hcode : code < 256) :
    Calls Try.prog 3 #[v, .int .u8 code] w fun e w' => e = .returned (.bool true) ∧ Ext w w' := by
  by_cases h : bs.length ≤ 1000
  · exact rep_packs_some v bs code w hb.1 hb.2 h256 h hcode
  · exact rep_packs_long v bs code w hb.2 (by omega) (by omega)
end Go.Proofs.Ytclnmddlcjgfbaa
