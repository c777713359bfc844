/- pressworklaw02.MsbReads: its walk. -/
import Derived.Test.YtnmibfdpaamlgaaMsbLays
import Derived.Test.YtnmibfdpaamlgaaMsbActs
import Derived.Test.YtnmibfdpaamlgaaActRow
import Derived.Test.YtnmibfdpaamlgaaMsbRefOf
import Derived.Test.YtnmibfdpaamlgaaAppend
namespace Go.Proofs.Ytnmibfdpaamlgaa
open Go.RowKit
set_option linter.unusedVariables false

theorem msb_at_range (hi : Bool) (bs : List Nat) (i : Nat) (n : Int) (h : i ≤ 8 * bs.length) : (getR hi bs i n).2.1 ≤ 8 * bs.length := by
  unfold getR
  split
  · exact h
  · split
    · exact h
    · show i + n.toNat ≤ _; omega
set_option maxHeartbeats 2000000 in
set_option maxRecDepth 100000 in
theorem msb_reads_some (bv lv : Value) (bs : List Nat) (l : List ActV) (w : World) (hb : ViewL w bv (u8s bs)) (h256 : ∀ b ∈ bs, b < 256) (hv : ViewA w lv l) (hbl : bs.length ≤ 100) (hll : l.length ≤ 60) :
    Calls Try.prog 6 #[bv, lv] w fun e w' => e = .returned (.bool true) ∧ Ext w w' := by
  obtain ⟨i0, hi, hz0, hz1, hz2⟩ := info_parts info_u8
  obtain ⟨bo, bcap, rfl⟩ := hb.shape
  have hlb := length_u8s bs
  obtain ⟨lo, lcap, rfl, hlx⟩ := hv
  have h1 : ¬ (100 : Int) < (bs.length : Int) := by omega
  have h2 : ¬ (60 : Int) < (l.length : Int) := by omega
  have HB := Lib.hid hb
  have HLX := Lib.hid hlx
  have H256 := Lib.hid h256
  have HLB := Lib.hid hlb
  rw [hlb]
  clear hb hlx h256 hlb
  go_enter Try.func6, Try.ntmps6
  go_wp2_with (at_builtin; go_must (refine wpList_append_view _ rfl (.tmp 24) (.tmp 25) 23 rfl w.heap.size 5 i0 (.int .u8 0) 1 Try.underlying23 hi hz0 hz1 hz2 rfl (.slice (some ⟨w.heap.size, 0, none⟩) 0 0) 0 [] rfl (World.ownsRow_made w #[] 0 (Nat.le_refl _) (by decide) rfl) (.slice bo bs.length bcap) (u8s bs) rfl (HLB.out ▸ HB.out.ext ((Ext.refl w).alloc _)) (u8s_one bs) (by rw [HLB.out]; unfold maxLen; omega) (by rw [HLB.out]; omega) (by simp) ?_))
  intro inv w1 hown' hgrow hat
  have ho : Owns w1 5 1 inv inv.ownBlock bs.length (u8s bs) := ⟨by have := ownsRow_zero hown'; simpa [HLB.out] using this, rfl⟩
  have hx1 : Ext w w1 := Touch.grown ((Ext.refl w).alloc _) hgrow (fun k e => Or.inr (by cases e; exact Nat.le_refl _))
  have hn : ∀ g, inv.ownBlock = some g → w.heap.size ≤ g := fun g e => (hown'.lt g e).1
  obtain ⟨ia, icap, rfl⟩ := ho.shape
  generalize hog : (Value.slice ia bs.length icap).ownBlock = og at ho hn
  have HO := Lib.hid ho
  have HX1 := Lib.hid hx1
  have HN := Lib.hid hn
  clear hown' hgrow hat ho hx1 hn hog hi hz0 hz1 hz2
  go_wp2_with fail
  refine (msb_new _ bs _ HO.out.view (by omega)).mono ?_
  rintro e w2 ⟨R, orr, rfl, b1, b2, b3, b4⟩
  have HO2 := Lib.hid (HO.out.ext' b4)
  have HX2 := Lib.hid (HX1.out.trans b4)
  have R2 := Lib.hid b1
  have RN := Lib.hid b2
  have RG := Lib.hid b3
  have HOL := Lib.hid HO.out.lt
  clear b1 b2 b3 b4
  go_wp2_with fail
  go_loopw [7] (fun i wr => ∃ (k : Nat) (xs : List Value), k ≤ bs.length ∧ i = .int .i64 k ∧ Owns wr 5 1 (.slice ia bs.length icap) og bs.length xs ∧ Touch (fun b => og = some b) w2 wr) (fun i _ => bs.length - (intOf i).toNat)
  case atStart => exact ⟨0, _, Nat.zero_le _, rfl, HO2.out, Touch.refl _ _⟩
  case round =>
    obtain ⟨k, xs, hk, rfl, hox, htx⟩ := hrel
    by_cases hlt : k < bs.length
    · rcases hox.form with ⟨_, _, hz, _⟩ | ⟨g, cap3, cur, rfl, hsl, _⟩
      · omega
      cases hsl
      have hxl : xs.length = bs.length := by simpa using hox.1.1
      have hcell := hox.cell k (xs[k]'(by omega)) (List.getElem?_eq_getElem (by omega))
      have hfree := hox.free k
      have hset := hox.set k (.int .u8 0) hlt
      have hts : Touch (fun b => some g = some b) w2 (wr.setCell ⟨g, k, none⟩ (.int .u8 0)) := htx.setCell (Or.inl rfl) _
      generalize xs[k]'(by omega) = old at hcell
      have HSET := Lib.hid hset
      have HTS := Lib.hid hts
      clear hset hts hox htx hxl
      go_wp2_with fail
      go_roundw
      case rel => exact ⟨k + 1, _, by omega, by go_num, HSET.out, HTS.out⟩
      case measure => simp [intOf]; omega
    · obtain ⟨wo, rfl⟩ : ∃ wo : World, wo = wr := ⟨_, rfl⟩
      have hne : ∀ b, b = R ∨ orr = some b → ¬ (og = some b) := by
        intro b hb e
        have h1 := HOL.out b e
        rcases hb with rfl | hb
        · have := RN.out; omega
        · have := RG.out b hb; omega
      have R3 := Lib.hid (R2.out.keep htx (hne R (Or.inl rfl)) (fun g e => hne g (Or.inr e)))
      have X3 := Lib.hid (HX2.out.touch htx (fun i hi e => by have := HN.out i e; omega))
      clear hne hox htx
      have BV := Lib.hid (HB.out.ext X3.out)
      go_wp2_with fail
      refine (msb_ref_of _ bs _ (HLB.out ▸ BV.out) (by omega) H256.out).mono ?_
      rintro e w4 ⟨rv, ro, rfl, c1, c2, c3⟩
      rw [length_ofBits] at c1
      obtain ⟨ra, rcap, rfl⟩ := c1.shape
      have R4 := Lib.hid (R3.out.ext c3)
      have X4 := Lib.hid (X3.out.trans c3)
      have ROW := Lib.hid c1
      have hRro : ∀ g, ro = some g → ¬ (g = R) := fun g e e2 => by
        have h1 := c2 g e; have h2 := R3.out.lt; omega
      have HRRO := Lib.hid hRro
      have HRW := Lib.hid (show w.heap.size ≤ R from Nat.le_trans HX1.out.size RN.out)
      clear c1 c2 c3 hRro
      go_wp2_with fail
      go_loopw [9, 10] (fun av i wr => ∃ k pos : Nat, k ≤ l.length ∧ i = .int .i64 k ∧ av = .int .i64 pos ∧ pos ≤ 8 * bs.length ∧ RPost 79 w4 R orr bs pos wr) (fun _ i _ => l.length - (intOf i).toNat)
      case atStart => exact ⟨0, 0, Nat.zero_le _, rfl, rfl, Nat.zero_le _, RPost.refl R4.out⟩
      case round =>
        obtain ⟨j, pos, hj, rfl, rfl, hpos, hp⟩ := hrel
        by_cases hlt2 : j < l.length
        · obtain ⟨b, o, rfl, hx⟩ := HLX.out (by omega)
          obtain ⟨x, hxk⟩ : ∃ x, l[j]? = some x := ⟨_, List.getElem?_eq_getElem hlt2⟩
          obtain ⟨hact, xv, xn⟩ := hx j x hxk
          have HP := Lib.hid hp
          have HA := Lib.hid hact
          clear hp hact hx hxk
          obtain ⟨xV, xN, xA, xD⟩ := x
          have XR := Lib.hid (X4.out.touch HP.out.2 (fun i hi e => by have := HRW.out; omega))
          cases xA with
          | true =>
            obtain ⟨d0, d1, d2, d3⟩ := HA.out.ext XR.out
            simp only [] at d0 d1 d2 d3
            go_wp2_with fail
            refine (msb_ralign R orr _ _ _ HP.out.1 (by omega) hpos).mono ?_
            rintro e w' ⟨rfl, p1⟩
            have HP1 := Lib.hid (RPost.step HP.out p1)
            clear p1 d0 d1 d2 d3
            have hpos2 : (pos + 7) / 8 * 8 ≤ 8 * bs.length := by omega
            go_wp2_with fail
            refine (msb_at R orr _ _ _ HP1.out.1).mono ?_
            rintro e w' ⟨rfl, rfl⟩
            go_wp2_with fail
            refine (msb_left R orr _ _ _ HP1.out.1 (by omega) hpos2).mono ?_
            rintro e w' ⟨rfl, q, rfl⟩
            go_wp2_with fail
            go_roundw
            case rel => exact ⟨j + 1, (pos + 7) / 8 * 8, by omega, by go_num, by go_num, hpos2, HP1.out.drewN q⟩
            case measure => simp [intOf]; omega
          | false =>
            obtain ⟨d0, d1, d2, d3⟩ := HA.out.ext XR.out
            simp only [] at d0 d1 d2 d3
            have ROW2 := Lib.hid ((ROW.out.keep HP.out.2 (fun g e => HRRO.out g e)).viewL)
            have hat2 := msb_at_range true bs pos xN hpos
            go_wp2_with fail
            refine (msb_ref_get _ _ pos xN _ ROW2.out (by rw [length_ofBits]; omega) (by rw [length_ofBits]; exact hpos)).mono ?_
            rw [refR_getR]
            rintro e w' ⟨rfl, rfl⟩
            obtain ⟨gv, hgv⟩ : ∃ gv, getR true bs pos xN = gv := ⟨_, rfl⟩
            obtain ⟨gV, gA, gE⟩ := gv
            rw [hgv] at hat2 ⊢
            simp only [] at hat2 ⊢
            have HGV := Lib.hid hgv
            clear hgv
            go_wp2_with fail
            refine (msb_get R orr _ _ xN _ HP.out.1 (by omega) H256.out hpos).mono ?_
            rw [HGV.out]
            rintro e w5 ⟨rfl, p1⟩
            simp only [] at p1 ⊢
            have HP1 := Lib.hid (RPost.step HP.out p1)
            clear p1 d0 d1 d2 d3
            go_wp2_with fail
            refine (msb_at R orr _ _ _ HP1.out.1).mono ?_
            rintro e w' ⟨rfl, rfl⟩
            go_wp2_with fail
            refine (msb_left R orr _ _ _ HP1.out.1 (by omega) hat2).mono ?_
            rintro e w' ⟨rfl, q, rfl⟩
            go_wp2_with fail
            go_roundw
            case rel => exact ⟨j + 1, gA, by omega, by go_num, rfl, hat2, HP1.out.drewN q⟩
            case measure => simp [intOf]; omega
        · have XR := Lib.hid (X4.out.touch hp.2 (fun i hi e => by have := HRW.out; omega))
          clear hp
          go_wp2_with fail
          refine (msb_lays _).mono ?_
          rintro e w6 ⟨rfl, hx⟩
          have HX := Lib.hid hx
          clear hx
          go_wp2_with fail
          go_ret
          exact ⟨rfl, XR.out.trans HX.out⟩
theorem msb_reads_long (bv lv : Value) (bs : List Nat) (l : List ActV) (w : World) (hb : ViewL w bv (u8s bs)) (hv : ViewA w lv l) (hbm : bs.length ≤ 2 ^ 50) (hlm : l.length ≤ maxLen) (hbl : 100 < bs.length ∨ 60 < l.length) :
    Calls Try.prog 6 #[bv, lv] w fun e w' => e = .returned (.bool true) ∧ Ext w w' := by
  obtain ⟨bo, bcap, rfl⟩ := hb.shape
  obtain ⟨lo, lcap, rfl, _⟩ := hv
  rw [length_u8s]
  clear hb
  unfold maxLen at hlm
  by_cases h : 100 < bs.length
  · have h1 : (100 : Int) < (bs.length : Int) := by omega
    clear hbl
    go_enter Try.func6, Try.ntmps6
    go_wp2_with fail
    go_ret
    exact ⟨rfl, Ext.refl _⟩
  · have h1 : ¬ (100 : Int) < (bs.length : Int) := by omega
    have h2 : (60 : Int) < (l.length : Int) := by omega
    clear hbl
    go_enter Try.func6, Try.ntmps6
    go_wp2_with fail
    go_ret
    exact ⟨rfl, Ext.refl _⟩
theorem msb_reads (bv : Value) (bs : List Nat) (lv : Value) (l : List ActV) (w : World) (hb : View w bv bs ∧ ViewL w bv (u8s bs)) (h256 : ∀ b ∈ bs, b < 256) (hbm : bs.length ≤ 140737488351232) (hv : ViewA w lv l) (hlm : l.length ≤ maxLen) :
    Calls Try.prog 6 #[bv, lv] w fun e w' => e = .returned (.bool true) ∧ Ext w w' := by
  by_cases h : 100 < bs.length ∨ 60 < l.length
  · exact msb_reads_long bv lv bs l w hb.2 hv (by omega) hlm h
  · exact msb_reads_some bv lv bs l w hb.2 h256 hv (by omega) (by omega)
end Go.Proofs.Ytnmibfdpaamlgaa
