/- TablesSame: the law's walk (written by gen_tabsame.py). -/
import Derived.Test.YteabjmebnbaonaaTabStB
namespace Go.Proofs.Yteabjmebnbaonaa
open Go.RowKit
set_option linter.unusedVariables false

set_option maxHeartbeats 8000000 in
set_option maxRecDepth 100000 in
theorem tab_law_same_some (v : Value) (bs : List Nat) (n m : Nat) (w : World) (hv : View w v bs ∧ ViewL w v (u8s bs)) (hb : ∀ b ∈ bs, b < 256) (hbl : bs.length ≤ 300) (hn : n < 256) (hm : m < 256) :
    Calls Try.prog 13 #[v, .int .u8 n, .int .u8 m] w fun e w' => e = .returned (.bool true) ∧ Ext w w' := by
  obtain ⟨ao, cap, rfl⟩ := hv.2.shape
  rw [length_u8s] at *
  have HV := Lib.hid hv
  have HB := Lib.hid hb
  clear hv hb
  have h1 : ¬ (300 : Int) < (bs.length : Int) := by omega
  obtain ⟨d, hd⟩ : ∃ d, d = 3 + n := ⟨_, rfl⟩
  obtain ⟨t, ht⟩ : ∃ t, t = 2 + m % 5 := ⟨_, rfl⟩
  have hd3 : 3 ≤ d := by omega
  have hd258 : d ≤ 258 := by omega
  have ht2 : 2 ≤ t := by omega
  have ht6 : t ≤ 6 := by omega
  have HDV := Lib.hid (show ((d : Nat) : Int) = 3 + (n : Int) by omega)
  have HTV := Lib.hid (show ((t : Nat) : Int) = 2 + (m : Int) % 5 by omega)
  clear hd ht
  go_enter Try.func13, Try.ntmps13
  go_wp2_with fail
  refine ((St.of (Ext.refl w)).mnew _ bs HV.out.1 (by omega)).mono ?_
  rintro e w1 ⟨B1, rfl, s1⟩
  have HS := Lib.hid s1
  clear s1
  go_wp2_with fail
  cases hg : gLens (rbit true bs) (8 * bs.length) 0 d with
  | none =>
    have hL := HS.out.getLno 0 rfl d (by omega) HB.out (by omega) hd3 hd258 hg
    rw [HDV.out] at hL
    refine hL.mono ?_
    clear hL
    rintro e w2 ⟨q, rfl, s2, -⟩
    have HS := Lib.hid s2
    clear s2 hg
    go_wp2_with fail
    refine (HS.out.mnew _ bs (HV.out.1.ext HS.out.ext) (by omega)).mono ?_
    rintro e w3 ⟨B4, rfl, s3⟩
    have HS := Lib.hid s3
    clear s3
    go_wp2_with fail
    cases hg2 : gSel (rbit true bs) (8 * bs.length) 0 t with
    | none =>
      have hL := HS.out.getSno 1 rfl t (by omega) HB.out (by omega) ht2 ht6 hg2
      rw [HTV.out] at hL
      refine hL.mono ?_
      clear hL
      rintro e w4 ⟨q, rfl, s4, -⟩
      have HS := Lib.hid s4
      clear s4 hg2
      go_wp2_with fail
      refine (tab_example _).mono ?_
      rintro e w9 ⟨rfl, x9⟩
      have HX9 := Lib.hid (HS.out.ext.trans x9)
      clear x9
      go_wp2_with fail
      go_ret
      exact ⟨rfl, HX9.out⟩
    | some x =>
      obtain ⟨l2, q2⟩ := x
      have hL := HS.out.getSok 1 rfl t (by omega) HB.out (by omega) ht2 ht6 l2 q2 hg2
      rw [HTV.out] at hL
      refine hL.mono ?_
      clear hL
      rintro e w4 ⟨v4, rfl, s4⟩
      have HS := Lib.hid s4.newW
      obtain ⟨hmn, hq2, -⟩ := gSel_ok _ _ _ _ ht2 ht6 _ _ hg2
      have HMN := Lib.hid hmn
      have HQ2 := Lib.hid hq2
      clear s4 hg2 hmn hq2
      go_wp2_with fail
      have hP := HS.out.putN 3 rfl v4 l2 t ((HS.out.viewL 2 rfl)) (Or.inl ⟨2, _, _, by decide, rfl⟩) (by decide) HMN.out
      rw [HTV.out] at hP
      refine hP.mono ?_
      clear hP
      rintro e w5 ⟨rfl, s5⟩
      simp only [List.nil_append] at s5
      have HS := Lib.hid s5
      clear s5
      go_wp2_with fail
      refine (HS.out.mlen 3 rfl).mono ?_
      rintro e w' ⟨rfl, rfl⟩
      rw [show (selBits l2).length = q2 by have := HQ2.out; omega]
      go_wp2_with fail
      refine (HS.out.mat 1 rfl).mono ?_
      rintro e w' ⟨rfl, rfl⟩
      go_wp2_with fail
      refine (tab_example _).mono ?_
      rintro e w9 ⟨rfl, x9⟩
      have HX9 := Lib.hid (HS.out.ext.trans x9)
      clear x9
      go_wp2_with fail
      go_ret
      exact ⟨rfl, HX9.out⟩
  | some x =>
    obtain ⟨l, q⟩ := x
    have hL := HS.out.getLok 0 rfl d (by omega) HB.out (by omega) hd3 hd258 l q hg
    rw [HDV.out] at hL
    refine hL.mono ?_
    clear hL
    rintro e w2 ⟨v2, rfl, s2⟩
    obtain ⟨g1, g2, g3, g4⟩ := gLens_size _ _ _ _ _ _ (by omega) hg
    obtain ⟨va, vc, rfl⟩ := s2.shapeB 1 rfl g3
    have HS := Lib.hid s2.newW
    have HM := Lib.hid (show MayP l from ⟨by omega, by omega, g4⟩)
    have HSZ := Lib.hid g1
    have HL3 := Lib.hid g3
    clear s2 hg g4 g1 g3
    go_wp2_with fail
    refine (HS.out.putLok 2 rfl _ l (HS.out.viewL 1 rfl) (Or.inl ⟨1, _, _, by decide, rfl⟩) (by decide) HM.out).mono ?_
    rintro e w3 ⟨rfl, s3⟩
    simp only [List.nil_append, List.set_cons_zero, List.set_cons_succ, List.cons_append] at s3
    have hll := lenBits_len l HM.out
    obtain ⟨M, hMd⟩ : ∃ M, M = lenBits l := ⟨_, rfl⟩
    have HGL := Lib.hid (show gLens (rbit true (packs true M)) (8 * (packs true M).length) 0 d = some (l, M.length) from by
      have h := gLens_app l HM.out [] []
      rwa [List.append_nil, List.append_nil, ← hMd, HL3.out] at h)
    rw [← hMd] at s3 hll
    have hcmp : ¬ (q : Int) + 40 < (M.length : Int) := by have := HSZ.out; rw [← hMd] at this; omega
    have HS := Lib.hid s3
    clear s3 hMd HSZ
    go_wp2_with fail
    refine (HS.out.mbytes 2 rfl (by omega)).mono ?_
    rintro e w4 ⟨v4, rfl, s4⟩
    have HS := Lib.hid s4
    clear s4
    go_wp2_with fail
    refine (HS.out.mnew _ _ (HS.out.view 3 rfl rfl) (by rw [length_packs]; omega)).mono ?_
    rintro e w5 ⟨B5, rfl, s5⟩
    have HS := Lib.hid s5
    clear s5
    go_wp2_with fail
    refine (HS.out.getLok 4 rfl d (by rw [length_packs]; omega) (packs_lt true M) (by omega) (by omega) (by omega) l _ HGL.out).mono ?_
    rintro e w6 ⟨v6, rfl, s6⟩
    have HS := Lib.hid s6
    have hs1 := run_string_view (P := Try.prog) 22 9 5 (HS.out.view 1 rfl rfl) Try.underlying22 Try.underlying5 Try.underlying9
    have hs2 := run_string_view (P := Try.prog) 22 9 5 (HS.out.view 5 rfl rfl) Try.underlying22 Try.underlying5 Try.underlying9
    have hne : ((strOf l).toList != (strOf l).toList) = false := by simp
    clear s6
    go_wp2_with fail
    refine (HS.out.mlen 2 rfl).mono ?_
    rintro e w' ⟨rfl, rfl⟩
    go_wp2_with fail
    refine (HS.out.mat 0 rfl).mono ?_
    rintro e w' ⟨rfl, rfl⟩
    clear hs1 hs2 hne
    go_wp2_with fail
    refine (HS.out.mnew _ bs (HV.out.1.ext HS.out.ext) (by omega)).mono ?_
    rintro e w3 ⟨B4, rfl, s3⟩
    have HS := Lib.hid s3
    clear s3
    go_wp2_with fail
    cases hg2 : gSel (rbit true bs) (8 * bs.length) 0 t with
    | none =>
      have hL := HS.out.getSno 6 rfl t (by omega) HB.out (by omega) ht2 ht6 hg2
      rw [HTV.out] at hL
      refine hL.mono ?_
      clear hL
      rintro e w4 ⟨q, rfl, s4, -⟩
      have HS := Lib.hid s4
      clear s4 hg2
      go_wp2_with fail
      refine (tab_example _).mono ?_
      rintro e w9 ⟨rfl, x9⟩
      have HX9 := Lib.hid (HS.out.ext.trans x9)
      clear x9
      go_wp2_with fail
      go_ret
      exact ⟨rfl, HX9.out⟩
    | some x =>
      obtain ⟨l2, q2⟩ := x
      have hL := HS.out.getSok 6 rfl t (by omega) HB.out (by omega) ht2 ht6 l2 q2 hg2
      rw [HTV.out] at hL
      refine hL.mono ?_
      clear hL
      rintro e w4 ⟨v4, rfl, s4⟩
      have HS := Lib.hid s4.newW
      obtain ⟨hmn, hq2, -⟩ := gSel_ok _ _ _ _ ht2 ht6 _ _ hg2
      have HMN := Lib.hid hmn
      have HQ2 := Lib.hid hq2
      clear s4 hg2 hmn hq2
      go_wp2_with fail
      have hP := HS.out.putN 8 rfl v4 l2 t ((HS.out.viewL 7 rfl)) (Or.inl ⟨7, _, _, by decide, rfl⟩) (by decide) HMN.out
      rw [HTV.out] at hP
      refine hP.mono ?_
      clear hP
      rintro e w5 ⟨rfl, s5⟩
      simp only [List.nil_append] at s5
      have HS := Lib.hid s5
      clear s5
      go_wp2_with fail
      refine (HS.out.mlen 8 rfl).mono ?_
      rintro e w' ⟨rfl, rfl⟩
      rw [show (selBits l2).length = q2 by have := HQ2.out; omega]
      go_wp2_with fail
      refine (HS.out.mat 6 rfl).mono ?_
      rintro e w' ⟨rfl, rfl⟩
      go_wp2_with fail
      refine (tab_example _).mono ?_
      rintro e w9 ⟨rfl, x9⟩
      have HX9 := Lib.hid (HS.out.ext.trans x9)
      clear x9
      go_wp2_with fail
      go_ret
      exact ⟨rfl, HX9.out⟩
theorem tab_law_same (v : Value) (bs : List Nat) (n m : Nat) (w : World) (hv : View w v bs ∧ ViewL w v (u8s bs)) (hb : ∀ b ∈ bs, b < 256) (hbm : bs.length ≤ 140737488351232) (hn : n < 256) (hm : m < 256) :
    Calls Try.prog 13 #[v, .int .u8 n, .int .u8 m] w fun e w' => e = .returned (.bool true) ∧ Ext w w' := by
  by_cases h1 : 300 < bs.length
  · obtain ⟨ao, cap, rfl⟩ := hv.2.shape
    rw [length_u8s] at *
    clear hv hb
    have h1 : (300 : Int) < (bs.length : Int) := by omega
    go_enter Try.func13, Try.ntmps13
    go_wp2_with fail
    go_ret
    exact ⟨rfl, Ext.refl w⟩
  · exact tab_law_same_some v bs n m w hv hb (by omega) hn hm
end Go.Proofs.Yteabjmebnbaonaa
