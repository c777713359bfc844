/- prefix.New: its walk. -/
import Derived.StillTailTactics
import Derived.Test.YtbbcphloafmldaaBnd7
import Derived.Test.YtbbcphloafmldaaPreWordsZ
import Derived.Test.YtbbcphloafmldaaBnd8
namespace Go.Proofs.Ytbbcphloafmldaa
open Go.RowKit
set_option linter.unusedVariables false

/-- what New leaves. -/
def NewT (w : World) (L : List Nat) (e : Ending) (w' : World) : Prop :=
  (errW L ≠ 0 ∧ e = .returned (.tuple #[.pointer none, .int .i64 (errW L)]) ∧ Ext w w') ∨
  (errW L = 0 ∧ ∃ B og og2 m, e = .returned (.tuple #[.pointer (some ⟨B, 0, none⟩), .int .i64 0]) ∧ IsT w' B og og2 m L ∧ (∀ k, TB B og og2 m k → w.heap.size ≤ k) ∧ Ext w w')
/-- in the midst of New: the table's blocks, the map so far. -/
structure NT (w : World) (B m : Nat) (og og2 : Option Nat) (lv wv : Value) (L : List Nat) (R : Nat → Nat → Int → Prop) (wr : World) : Prop where
  tab : wr.heap[B]? = some (.cells #[lv, wv, .map (some m)] 114 (0, 0))
  lens : Owns wr 5 1 lv og L.length (u8s L)
  words : Owns wr 38 1 wv og2 L.length (u32s (wordsL L))
  map : MapIs wr m R
  new : ∀ k, TB B og og2 m k → w.heap.size ≤ k
  apart : B ≠ m ∧ og ≠ some m ∧ og2 ≠ some m
  ext : Ext w wr
theorem NT.store {w : World} {B m : Nat} {og og2 : Option Nat} {lv wv : Value} {L : List Nat} {R R' : Nat → Nat → Int → Prop} {wr w' : World} (h : NT w B m og og2 lv wv L R wr) (hm : MapIs w' m R') (t : Touch (fun i => i = m) wr w') : NT w B m og og2 lv wv L R' w' :=
  ⟨t.keep h.tab h.apart.1, h.lens.keep t (fun g e e2 => h.apart.2.1 (by rw [e, e2])), h.words.keep t (fun g e e2 => h.apart.2.2 (by rw [e, e2])), hm, h.new, h.apart, h.ext.touch t (fun i hi e => by have := h.new m (Or.inr (Or.inr (Or.inr rfl))); omega)⟩
theorem NT.drew {w : World} {B m : Nat} {og og2 : Option Nat} {lv wv : Value} {L : List Nat} {R : Nat → Nat → Int → Prop} {wr : World} (h : NT w B m og og2 lv wv L R wr) : NT w B m og og2 lv wv L R wr.drew :=
  ⟨h.tab, h.lens.ext' (Ext.refl wr).drew, h.words.ext' (Ext.refl wr).drew, h.map.keep (Ext.refl wr).drew (fun f => f), h.new, h.apart, h.ext.drew⟩
theorem NT.cong {w : World} {B m : Nat} {og og2 : Option Nat} {lv wv : Value} {L : List Nat} {R R' : Nat → Nat → Int → Prop} {wr : World} (h : NT w B m og og2 lv wv L R wr) (e : ∀ v k a, R v k a ↔ R' v k a) : NT w B m og og2 lv wv L R' wr :=
  ⟨h.tab, h.lens, h.words, h.map.cong e, h.new, h.apart, h.ext⟩
set_option maxHeartbeats 4000000 in
set_option maxRecDepth 100000 in
theorem pre_new (v : Value) (bs : List Nat) (w : World) (hv : View w v bs) (hv2 : ViewL w v (u8s bs)) (hvb : ∀ b o n c, v = .slice (some ⟨b, o, none⟩) n c → 0 < bs.length → b < w.heap.size) (hl : bs.length ≤ 2 ^ 40) :
    Calls Try.prog 54 #[v] w (NewT w bs) := by
  obtain ⟨ao, cap, rfl⟩ := hv2.shape
  rw [length_u8s] at *
  have HV := Lib.hid hv
  have HV2 := Lib.hid hv2
  have HVB := Lib.hid hvb
  clear hv hv2 hvb
  go_enter Try.func54, Try.ntmps54
  go_wp2_with fail
  refine (kraft_words _ bs _ HV2.out HVB.out hl).mono ?_
  rintro e w1 (⟨he, rfl, x1⟩ | ⟨he, wv, rfl, og2, o2, g2, x1⟩)
  · have HE := Lib.hid he
    have heb : (errW bs == 0) = false := beq_eq_false_iff_ne.2 he
    have hei : ¬ errW bs = 0 := he
    have HX := Lib.hid x1
    clear x1 he
    go_wp2_with fail
    go_ret2
    exact Or.inl ⟨HE.out, rfl, HX.out⟩
  · have HG := Lib.hid ((good_iff bs).2 he)
    have HE := Lib.hid he
    rw [length_wordsL] at o2
    obtain ⟨ao2, cap2, rfl⟩ := o2.shape
    have HO2 := Lib.hid o2
    have HX1 := Lib.hid x1
    have HG2 := Lib.hid g2
    clear o2 g2 x1 he
    go_wp2_with fail
    refine (clone _ bs _ (HV.out.ext HX1.out) (by omega)).mono ?_
    rintro e w2 ⟨lv, og, rfl, o1, g1, x2⟩
    obtain ⟨ao1, cap1, rfl⟩ := o1.shape
    obtain ⟨m, hm⟩ : ∃ m, m = w2.heap.size := ⟨_, rfl⟩
    obtain ⟨w3, hw3⟩ : ∃ w3, w3 = (w2.alloc (.map #[] 0)).alloc (.cells #[.slice ao1 bs.length cap1, .slice ao2 bs.length cap2, .map (some m)] 114) := ⟨_, rfl⟩
    have x3 : Ext w2 w3 := by rw [hw3]; exact ((Ext.refl w2).alloc _).alloc _
    have nt : NT w (m + 1) m og og2 (.slice ao1 bs.length cap1) (.slice ao2 bs.length cap2) bs (RT ((rowsL bs).take 0)) w3 := by
      refine ⟨?_, o1.ext' x3, HO2.out.ext' ((show Ext w1 w2 from x2).trans x3), ?_, ?_, ⟨by omega, fun e => ?_, fun e => ?_⟩, (HX1.out.trans (show Ext w1 w2 from x2)).trans x3⟩
      · rw [hw3, hm, show w2.heap.size + 1 = (w2.alloc (.map #[] 0)).heap.size by rw [World.size_alloc]]; exact heap_alloc_new _ _
      · rw [hw3, hm]
        exact (MapIs.new w2 (fun v k a => by rw [List.take_zero]; exact rt_nil v k a)).keep ((Ext.refl _).alloc _) (fun f => f)
      · have s1 := HX1.out.size
        have s2 := x2.size
        rintro k (rfl | e | e | rfl)
        · omega
        · have := g1 k e; omega
        · exact HG2.out k e
        · omega
      · have := o1.lt m e; omega
      · have := HO2.out.lt m e; have := x2.size; omega
    have HNT := Lib.hid nt
    have s2 := x2.size
    clear nt x3 o1 g1 x2
    have hmk := @run_makeMap Try.prog
    go_wp2_with fail
    clear hmk
    rw [← hm, ← hw3]
    clear hw3 hm
    go_loopw [26] (fun iv wr => ∃ s : Nat, iv = .int .i64 s ∧ s ≤ bs.length ∧ NT w (m + 1) m og og2 (.slice ao1 bs.length cap1) (.slice ao2 bs.length cap2) bs (RT ((rowsL bs).take s)) wr) (fun iv _ => bs.length - (intOf iv).toNat)
    case atStart => exact ⟨0, rfl, Nat.zero_le _, HNT.out⟩
    case round =>
      obtain ⟨s, rfl, hs, hnt⟩ := hrel
      have HN := Lib.hid hnt
      clear hnt
      by_cases hlt : s < bs.length
      · have hlti : (s : Int) < (bs.length : Int) := by omega
        obtain ⟨b, o, rfl, _, hc⟩ := viewL_cells (HV2.out.ext HN.out.ext) (by rw [length_u8s]; omega)
        obtain ⟨n, hn⟩ : ∃ n, bs.getD s 0 = n := ⟨_, rfl⟩
        have c1 := hc s (.int .u8 n) (by rw [getElem?_u8s _ _ hlt, hn])
        have hn20 : n ≤ 20 := by
          rw [← hn, List.getD, List.getElem?_eq_getElem hlt]; exact HG.out.1 _ (List.getElem_mem _)
        have HRS := Lib.hid (rowsL_get bs s hlt)
        have hrl := length_rowOf bs s
        rw [hn] at hrl
        have HPF := Lib.hid (rows_pf HG.out)
        clear hc
        by_cases hn0 : n = 0
        · have hr0 : rowOf bs s = [] := List.eq_nil_of_length_eq_zero (by omega)
          have HSK := Lib.hid (rt_skip (rowsL bs) s (by rw [HRS.out, hr0]))
          subst hn0
          clear hr0
          go_wp2_with fail
          go_roundw
          case rel => exact ⟨s + 1, by go_num, by omega, HN.out.cong HSK.out⟩
          case measure => simp [intOf]; omega
        · have hni : ¬ (n : Int) = 0 := by omega
          have hnb : ((n : Int) == 0) = false := beq_eq_false_iff_ne.2 hni
          have hr0 : rowOf bs s ≠ [] := fun e => by rw [e] at hrl; simp at hrl; omega
          obtain ⟨X, hX⟩ : ∃ X, (wordsL bs).getD s 0 = X := ⟨_, rfl⟩
          have hX32 : X < 4294967296 := by
            have h1 := words_lt HG.out s hlt (by omega)
            rw [hX, hn] at h1
            have h2 : 2 ^ n ≤ 2 ^ 20 := Nat.pow_le_pow_right (by decide) hn20
            omega
          have HX := Lib.hid (show numOf true (rowOf bs s) = X by rw [num_row HG.out s hlt (by omega), hX])
          have cT0 : wr.cell? ⟨m + 1, 2, none⟩ = some (.map (some m)) := by simp [World.cell?, HN.out.tab]
          obtain ⟨wg, rfl, rfl⟩ : ∃ g, og2 = some g ∧ ao2 = some ⟨g, 0, none⟩ := by
            rcases HN.out.words.form with ⟨_, _, h1, _⟩ | ⟨g, cap, _, h1, h2, _⟩
            · omega
            · cases h2; exact ⟨g, h1, rfl⟩
          have cW := HN.out.words.cell s _ (getElem?_u32s _ s (by rw [length_wordsL]; exact hlt))
          rw [hX] at cW
          have HWX := Lib.hid hX
          clear hX
          go_wp2_with fail
          go_still_tail 11, (by kernel_rfl)
          clear cT0 cW c1
          obtain ⟨r, hrr⟩ : ∃ r, rowOf bs s = r := ⟨_, rfl⟩
          rw [hrr] at HRS hrl hr0 HX
          have hnd := HN.out.drew
          obtain ⟨w4, hrun, hmap, ht4⟩ := hnd.map.store (v := X) (k := n) hX32 (by omega) (s : Int) (fun a' ha' => by
            rw [← HX.out, ← hrl] at ha'
            exact (rt_free HPF.out HRS.out hr0 a' ha').elim)
          have HN4 := Lib.hid ((hnd.store hmap ht4).cong (R' := RN (rowsL bs) s 0) (fun v k a => by rw [← HX.out, ← hrl]; exact rn_zero (rowsL bs) s r HRS.out v k a))
          simp only [wk] at hrun
          have HTK := Lib.hid (show ∀ j, j ≤ n → numOf true (r.take j) = X / 2 ^ (n - j) from fun j hj => by
            rw [← hrr, num_take HG.out s j hlt (by omega) (by omega), hn, ← num_row HG.out s hlt (by omega), hrr, HX.out])
          clear hnd hmap ht4 hrr
          go_wp2_with fail
          clear hrun
          go_loopw [45] (fun jv wi => ∃ j : Nat, jv = .int .u8 j ∧ j ≤ n ∧ NT w (m + 1) m og (some wg) (.slice ao1 bs.length cap1) (.slice (some ⟨wg, 0, none⟩) bs.length cap2) bs (RN (rowsL bs) s j) wi) (fun jv _ => n - (intOf jv).toNat)
          case atStart => exact ⟨0, rfl, Nat.zero_le _, HN4.out⟩
          case round =>
            obtain ⟨j, rfl, hj, hnt⟩ := hrel
            have HI := Lib.hid hnt
            clear hnt
            by_cases hjn : j < n
            · have hji : (j : Int) < (n : Int) := by omega
              have cT0 : wr.cell? ⟨m + 1, 2, none⟩ = some (.map (some m)) := by simp [World.cell?, HI.out.tab]
              have cW := HI.out.words.cell s _ (getElem?_u32s _ s (by rw [length_wordsL]; exact hlt))
              rw [HWX.out] at cW
              obtain ⟨d, hd⟩ : ∃ d, d = n - j := ⟨_, rfl⟩
              have k1 : ((n : Int) - (j : Int)) % 256 = (d : Int) := by omega
              have k2 : (n : Int) - (j : Int) = (d : Int) := by omega
              have hd20 : d ≤ 20 := by omega
              have HD := Lib.hid hd
              clear hd
              go_wp2_with fail
              go_still_tail 14, (by kernel_rfl)
              clear cT0 cW k1 k2
              have hnd := HI.out.drew
              have hxd : X / 2 ^ d < 4294967296 := Nat.lt_of_le_of_lt (Nat.div_le_self _ _) hX32
              have htk : numOf true (r.take j) = X / 2 ^ d := by rw [HTK.out j hj, HD.out]
              obtain ⟨w5, hrun, hmap, ht5⟩ := hnd.map.store (v := X / 2 ^ d) (k := j) hxd (by omega) (-1) (fun a' ha' => by
                rw [← htk] at ha'
                exact rn_same HPF.out HRS.out (by omega) a' ha')
              have HN5 := Lib.hid ((hnd.store hmap ht5).cong (R' := RN (rowsL bs) s (j + 1)) (fun v k a => by rw [← htk]; exact rn_succ (rowsL bs) s j r HRS.out v k a))
              simp only [wk, ← div_part] at hrun
              have hm32 : min d 32 = d := by omega
              rw [← hm32] at hrun
              clear hm32
              clear hnd hmap ht5 htk
              have HRUN := Lib.hid hrun
              clear hrun
              go_wp2_with fail
              rw [HRUN.out]
              go_wp2_with fail
              go_roundw
              case rel => exact ⟨j + 1, by go_num, by omega, HN5.out⟩
              case measure => simp [intOf]; omega
            · obtain rfl : j = n := by omega
              have HE2 := Lib.hid (HI.out.cong (R' := RT ((rowsL bs).take (s + 1))) (fun v k a => by rw [← hrl]; exact rn_end (rowsL bs) s r HRS.out hr0 v k a))
              go_wp2_with fail
              go_roundw
              case rel => exact ⟨s + 1, by go_num, by omega, HE2.out⟩
              case measure => simp [intOf]; omega
      · obtain rfl : s = bs.length := by omega
        have HF := Lib.hid (show NT w (m + 1) m og og2 (.slice ao1 bs.length cap1) (.slice ao2 bs.length cap2) bs (RT (rowsL bs)) wr by have := HN.out; rwa [List.take_of_length_le (by rw [length_rowsL]; exact Nat.le_refl _)] at this)
        go_wp2_with fail
        go_ret2
        exact Or.inr ⟨HE.out, m + 1, og, og2, m, rfl, ⟨_, _, HF.out.tab, HF.out.lens, HF.out.words, HF.out.map⟩, HF.out.new, HF.out.ext⟩
end Go.Proofs.Ytbbcphloafmldaa
