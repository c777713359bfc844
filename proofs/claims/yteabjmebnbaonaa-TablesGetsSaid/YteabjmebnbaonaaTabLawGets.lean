/- TablesGets: the law's walk (written by gen_tabgets.py). -/
import Derived.Test.YteabjmebnbaonaaTabPuts
import Derived.Test.YteabjmebnbaonaaTabRefH
import Derived.Test.YteabjmebnbaonaaMsbRefOf
namespace Go.Proofs.Yteabjmebnbaonaa
open Go.RowKit
set_option linter.unusedVariables false

theorem viewL_nil (w : World) : ViewL w (.slice none 0 0) (ints []) := ⟨none, 0, rfl, Nat.le_refl _, fun _ => rfl, fun h => by simp [ints] at h⟩
theorem view_nil (w : World) : View w (.slice none 0 0) [] := Or.inl ⟨rfl, rfl⟩
set_option maxHeartbeats 8000000 in
set_option maxRecDepth 100000 in
theorem tab_law_gets_some (v : Value) (bs : List Nat) (c K : Nat) (n m : Int) (w : World) (hv : View w v bs ∧ ViewL w v (u8s bs)) (hb : ∀ b ∈ bs, b < 256) (hbl : bs.length ≤ 300) (hc : c < 256) (hK : (c : Int) % 16 = (K : Int)) (hK16 : K < 16) (hwK : wrap64 (K : Int) = (K : Int)) :
    Calls Try.prog 11 #[v, .int .u8 c, .int .i64 n, .int .i64 m] w fun e w' => e = .returned (.bool true) ∧ Ext w w' := by
  obtain ⟨ao, cap, rfl⟩ := hv.2.shape
  rw [length_u8s] at *
  have HV := Lib.hid hv
  have HB := Lib.hid hb
  clear hv hb
  have h1 : ¬ (300 : Int) < (bs.length : Int) := by omega
  go_enter Try.func11, Try.ntmps11
  go_wp2_with fail
  refine ((St.of (Ext.refl w)).mnew _ bs HV.out.1 (by omega)).mono ?_
  rintro e w1 ⟨B1, rfl, s1⟩
  have HS1 := Lib.hid s1
  clear s1
  go_wp2_with fail
  refine (HS1.out.mnew _ bs (HV.out.1.ext HS1.out.ext) (by omega)).mono ?_
  rintro e w2 ⟨B2, rfl, s2⟩
  have HS2 := Lib.hid (show St w w2 [mR B1 bs 0, mR B2 bs 0] from s2)
  clear s2 HS1
  go_wp2_with fail
  refine (msb_ref_of _ bs _ (HV.out.2.ext HS2.out.ext) (by omega) HB.out).mono ?_
  rintro e w3 ⟨v2, og2, rfl, o2, g2, x3⟩
  obtain ⟨ao2, cap2, rfl⟩ := o2.shape
  rw [length_ofBits] at o2 ⊢
  have HS1 := Lib.hid (show St w w3 [mR B1 bs 0, mR B2 bs 0, tO 4 (.slice ao2 (8 * bs.length) cap2) (bls (ofBits true bs))] from HS2.out.new x3 (by rw [length_bls, length_ofBits]; exact o2) g2)
  clear g2 x3 o2 HS2
  by_cases hcK : 8 * bs.length < K
  · have hci : 8 * (bs.length : Int) < (K : Int) := by omega
    go_wp2_with fail
    refine (HS1.out.mget 0 rfl 0 (by omega) HB.out (by omega) (by omega)).mono ?_
    rintro e w4 ⟨rfl, s4⟩
    have HS4 := Lib.hid (show St w w4 [mR B1 bs 0, mR B2 bs 0, tO 4 (.slice ao2 (8 * bs.length) cap2) (bls (ofBits true bs))] from by have h := s4; rw [Nat.zero_add] at h; exact h)
    clear s4
    go_wp2_with fail
    refine (HS4.out.mget 1 rfl 0 (by omega) HB.out (by omega) (by omega)).mono ?_
    rintro e w5 ⟨rfl, s5⟩
    have HS := Lib.hid (show St w w5 [mR B1 bs 0, mR B2 bs 0, tO 4 (.slice ao2 (8 * bs.length) cap2) (bls (ofBits true bs))] from by have h := s5; rw [Nat.zero_add] at h; exact h)
    clear s5 HS1 HS4
    go_wp2_with fail
    by_cases hn1 : n < 3
    · refine (tab_get_arg B1 n _ (Or.inl hn1)).mono ?_
      rintro e w' ⟨rfl, rfl⟩
      go_wp2_with fail
      by_cases hm1 : m < 2
      · refine (tab_gets_arg B2 m _ (Or.inl hm1)).mono ?_
        rintro e w' ⟨rfl, rfl⟩
        go_wp2_with fail
        refine (tab_example _).mono ?_
        rintro e w9 ⟨rfl, x9⟩
        have HX9 := Lib.hid (HS.out.ext.trans x9)
        clear x9
        go_wp2_with fail
        go_ret
        exact ⟨rfl, HX9.out⟩
      · by_cases hm2 : 6 < m
        · refine (tab_gets_arg B2 m _ (Or.inr hm2)).mono ?_
          rintro e w' ⟨rfl, rfl⟩
          go_wp2_with fail
          refine (tab_example _).mono ?_
          rintro e w9 ⟨rfl, x9⟩
          have HX9 := Lib.hid (HS.out.ext.trans x9)
          clear x9
          go_wp2_with fail
          go_ret
          exact ⟨rfl, HX9.out⟩
        · obtain ⟨t, rfl⟩ := Int.eq_ofNat_of_zero_le (show (0 : Int) ≤ m by omega)
          have ht2 : 2 ≤ t := by omega
          have ht6 : t ≤ 6 := by omega
          refine (HS.out.getS 1 rfl t (by omega) HB.out (by omega) ht2 ht6).mono ?_
          rintro e w5 (⟨l, q, v5, hg, rfl, s5⟩ | ⟨q, hg, rfl, s5, hq⟩)
          · have HS := Lib.hid s5
            have HG := Lib.hid hg
            obtain ⟨va, vc, e5⟩ := HS.out.shape 3 rfl
            rw [length_i64s] at e5
            subst e5
            clear s5 hg
            go_wp2_with fail
            refine (tab_ref_gets _ (ofBits true bs) 0 t _ (HS.out.viewL 2 rfl) (by rw [length_ofBits]; omega) (by rw [length_ofBits]; omega) ht2 ht6).mono ?_
            rw [length_ofBits, rowF_of, HG.out]
            rintro e w6 (⟨l2, q2, v6, e6, rfl, i6⟩ | ⟨q2, e6, _⟩)
            · cases e6
              have hvl := (HS.out.viewL 3 rfl).ext i6.toExt
              have hvm := i6.viewL
              have HS := Lib.hid (HS.out.step i6.toExt)
              rw [i64s_ints] at hvl hvm
              have HV1 := Lib.hid hvl
              have HV2 := Lib.hid hvm
              have hll : l.length ≤ 40000 := by have h1 := (gSel_ok _ _ _ _ ht2 ht6 _ _ HG.out).1.2.2.2.1; omega
              clear hvl hvm i6
              go_wp2_with fail
              refine (ref_same _ _ _ _ _ HV1.out HV2.out (by rw [List.length_map]; omega) (by rw [List.length_map]; omega)).mono ?_
              rw [decide_eq_true rfl]
              rintro e w7 ⟨rfl, x7⟩
              have HS := Lib.hid (HS.out.step x7)
              clear x7
              go_wp2_with fail
              refine (HS.out.mat 1 rfl).mono ?_
              rintro e w' ⟨rfl, rfl⟩
              go_wp2_with fail
              refine (tab_example _).mono ?_
              rintro e w9 ⟨rfl, x9⟩
              have HX9 := Lib.hid (HS.out.ext.trans x9)
              clear x9
              go_wp2_with fail
              go_ret
              exact ⟨rfl, HX9.out⟩
            · cases e6
          · have HS := Lib.hid s5
            have HG := Lib.hid hg
            clear s5 hg
            go_wp2_with fail
            refine (tab_ref_gets _ (ofBits true bs) 0 t _ (HS.out.viewL 2 rfl) (by rw [length_ofBits]; omega) (by rw [length_ofBits]; omega) ht2 ht6).mono ?_
            rw [length_ofBits, rowF_of, HG.out]
            rintro e w6 (⟨l2, q2, v6, e6, _⟩ | ⟨q2, _, rfl, x6⟩)
            · cases e6
            · have HS := Lib.hid (HS.out.step x6)
              clear x6
              go_wp2_with fail
              refine (ref_same _ _ [] [] _ (viewL_nil _) (viewL_nil _) (by decide) (by decide)).mono ?_
              rw [decide_eq_true rfl]
              rintro e w7 ⟨rfl, x7⟩
              have HS := Lib.hid (HS.out.step x7)
              clear x7
              go_wp2_with fail
              refine (tab_example _).mono ?_
              rintro e w9 ⟨rfl, x9⟩
              have HX9 := Lib.hid (HS.out.ext.trans x9)
              clear x9
              go_wp2_with fail
              go_ret
              exact ⟨rfl, HX9.out⟩
    · by_cases hn2 : 258 < n
      · refine (tab_get_arg B1 n _ (Or.inr hn2)).mono ?_
        rintro e w' ⟨rfl, rfl⟩
        go_wp2_with fail
        by_cases hm1 : m < 2
        · refine (tab_gets_arg B2 m _ (Or.inl hm1)).mono ?_
          rintro e w' ⟨rfl, rfl⟩
          go_wp2_with fail
          refine (tab_example _).mono ?_
          rintro e w9 ⟨rfl, x9⟩
          have HX9 := Lib.hid (HS.out.ext.trans x9)
          clear x9
          go_wp2_with fail
          go_ret
          exact ⟨rfl, HX9.out⟩
        · by_cases hm2 : 6 < m
          · refine (tab_gets_arg B2 m _ (Or.inr hm2)).mono ?_
            rintro e w' ⟨rfl, rfl⟩
            go_wp2_with fail
            refine (tab_example _).mono ?_
            rintro e w9 ⟨rfl, x9⟩
            have HX9 := Lib.hid (HS.out.ext.trans x9)
            clear x9
            go_wp2_with fail
            go_ret
            exact ⟨rfl, HX9.out⟩
          · obtain ⟨t, rfl⟩ := Int.eq_ofNat_of_zero_le (show (0 : Int) ≤ m by omega)
            have ht2 : 2 ≤ t := by omega
            have ht6 : t ≤ 6 := by omega
            refine (HS.out.getS 1 rfl t (by omega) HB.out (by omega) ht2 ht6).mono ?_
            rintro e w5 (⟨l, q, v5, hg, rfl, s5⟩ | ⟨q, hg, rfl, s5, hq⟩)
            · have HS := Lib.hid s5
              have HG := Lib.hid hg
              obtain ⟨va, vc, e5⟩ := HS.out.shape 3 rfl
              rw [length_i64s] at e5
              subst e5
              clear s5 hg
              go_wp2_with fail
              refine (tab_ref_gets _ (ofBits true bs) 0 t _ (HS.out.viewL 2 rfl) (by rw [length_ofBits]; omega) (by rw [length_ofBits]; omega) ht2 ht6).mono ?_
              rw [length_ofBits, rowF_of, HG.out]
              rintro e w6 (⟨l2, q2, v6, e6, rfl, i6⟩ | ⟨q2, e6, _⟩)
              · cases e6
                have hvl := (HS.out.viewL 3 rfl).ext i6.toExt
                have hvm := i6.viewL
                have HS := Lib.hid (HS.out.step i6.toExt)
                rw [i64s_ints] at hvl hvm
                have HV1 := Lib.hid hvl
                have HV2 := Lib.hid hvm
                have hll : l.length ≤ 40000 := by have h1 := (gSel_ok _ _ _ _ ht2 ht6 _ _ HG.out).1.2.2.2.1; omega
                clear hvl hvm i6
                go_wp2_with fail
                refine (ref_same _ _ _ _ _ HV1.out HV2.out (by rw [List.length_map]; omega) (by rw [List.length_map]; omega)).mono ?_
                rw [decide_eq_true rfl]
                rintro e w7 ⟨rfl, x7⟩
                have HS := Lib.hid (HS.out.step x7)
                clear x7
                go_wp2_with fail
                refine (HS.out.mat 1 rfl).mono ?_
                rintro e w' ⟨rfl, rfl⟩
                go_wp2_with fail
                refine (tab_example _).mono ?_
                rintro e w9 ⟨rfl, x9⟩
                have HX9 := Lib.hid (HS.out.ext.trans x9)
                clear x9
                go_wp2_with fail
                go_ret
                exact ⟨rfl, HX9.out⟩
              · cases e6
            · have HS := Lib.hid s5
              have HG := Lib.hid hg
              clear s5 hg
              go_wp2_with fail
              refine (tab_ref_gets _ (ofBits true bs) 0 t _ (HS.out.viewL 2 rfl) (by rw [length_ofBits]; omega) (by rw [length_ofBits]; omega) ht2 ht6).mono ?_
              rw [length_ofBits, rowF_of, HG.out]
              rintro e w6 (⟨l2, q2, v6, e6, _⟩ | ⟨q2, _, rfl, x6⟩)
              · cases e6
              · have HS := Lib.hid (HS.out.step x6)
                clear x6
                go_wp2_with fail
                refine (ref_same _ _ [] [] _ (viewL_nil _) (viewL_nil _) (by decide) (by decide)).mono ?_
                rw [decide_eq_true rfl]
                rintro e w7 ⟨rfl, x7⟩
                have HS := Lib.hid (HS.out.step x7)
                clear x7
                go_wp2_with fail
                refine (tab_example _).mono ?_
                rintro e w9 ⟨rfl, x9⟩
                have HX9 := Lib.hid (HS.out.ext.trans x9)
                clear x9
                go_wp2_with fail
                go_ret
                exact ⟨rfl, HX9.out⟩
      · obtain ⟨d, rfl⟩ := Int.eq_ofNat_of_zero_le (show (0 : Int) ≤ n by omega)
        have hd2 : 3 ≤ d := by omega
        have hd6 : d ≤ 258 := by omega
        refine (HS.out.getL 0 rfl d (by omega) HB.out (by omega) hd2 hd6).mono ?_
        rintro e w5 (⟨l, q, v5, hg, rfl, s5⟩ | ⟨q, hg, rfl, s5, hq⟩)
        · have HS := Lib.hid s5
          have HG := Lib.hid hg
          clear s5 hg
          go_wp2_with fail
          refine (tab_ref_get _ (ofBits true bs) 0 d _ (HS.out.viewL 2 rfl) (by rw [length_ofBits]; omega) (by rw [length_ofBits]; omega) (by omega)).mono ?_
          rw [length_ofBits, rowF_of, HG.out]
          rintro e w6 (⟨l2, q2, v6, e6, rfl, i6⟩ | ⟨q2, e6, _⟩)
          · cases e6
            have HS := Lib.hid (HS.out.step i6.toExt)
            have hs1 := run_string_view (P := Try.prog) 22 9 5 (HS.out.view 3 rfl rfl) Try.underlying22 Try.underlying5 Try.underlying9
            have hs2 := run_string_view (P := Try.prog) 22 9 5 (i6.view) Try.underlying22 Try.underlying5 Try.underlying9
            have hne : ((strOf l).toList != (strOf l).toList) = false := by simp
            clear i6
            go_wp2_with fail
            refine (HS.out.mat 0 rfl).mono ?_
            rintro e w' ⟨rfl, rfl⟩
            clear hs1 hs2 hne
            go_wp2_with fail
            by_cases hm1 : m < 2
            · refine (tab_gets_arg B2 m _ (Or.inl hm1)).mono ?_
              rintro e w' ⟨rfl, rfl⟩
              go_wp2_with fail
              refine (tab_example _).mono ?_
              rintro e w9 ⟨rfl, x9⟩
              have HX9 := Lib.hid (HS.out.ext.trans x9)
              clear x9
              go_wp2_with fail
              go_ret
              exact ⟨rfl, HX9.out⟩
            · by_cases hm2 : 6 < m
              · refine (tab_gets_arg B2 m _ (Or.inr hm2)).mono ?_
                rintro e w' ⟨rfl, rfl⟩
                go_wp2_with fail
                refine (tab_example _).mono ?_
                rintro e w9 ⟨rfl, x9⟩
                have HX9 := Lib.hid (HS.out.ext.trans x9)
                clear x9
                go_wp2_with fail
                go_ret
                exact ⟨rfl, HX9.out⟩
              · obtain ⟨t, rfl⟩ := Int.eq_ofNat_of_zero_le (show (0 : Int) ≤ m by omega)
                have ht2 : 2 ≤ t := by omega
                have ht6 : t ≤ 6 := by omega
                refine (HS.out.getS 1 rfl t (by omega) HB.out (by omega) ht2 ht6).mono ?_
                rintro e w5 (⟨l, q, v5, hg, rfl, s5⟩ | ⟨q, hg, rfl, s5, hq⟩)
                · have HS := Lib.hid s5
                  have HG := Lib.hid hg
                  obtain ⟨va, vc, e5⟩ := HS.out.shape 4 rfl
                  rw [length_i64s] at e5
                  subst e5
                  clear s5 hg
                  go_wp2_with fail
                  refine (tab_ref_gets _ (ofBits true bs) 0 t _ (HS.out.viewL 2 rfl) (by rw [length_ofBits]; omega) (by rw [length_ofBits]; omega) ht2 ht6).mono ?_
                  rw [length_ofBits, rowF_of, HG.out]
                  rintro e w6 (⟨l2, q2, v6, e6, rfl, i6⟩ | ⟨q2, e6, _⟩)
                  · cases e6
                    have hvl := (HS.out.viewL 4 rfl).ext i6.toExt
                    have hvm := i6.viewL
                    have HS := Lib.hid (HS.out.step i6.toExt)
                    rw [i64s_ints] at hvl hvm
                    have HV1 := Lib.hid hvl
                    have HV2 := Lib.hid hvm
                    have hll : l.length ≤ 40000 := by have h1 := (gSel_ok _ _ _ _ ht2 ht6 _ _ HG.out).1.2.2.2.1; omega
                    clear hvl hvm i6
                    go_wp2_with fail
                    refine (ref_same _ _ _ _ _ HV1.out HV2.out (by rw [List.length_map]; omega) (by rw [List.length_map]; omega)).mono ?_
                    rw [decide_eq_true rfl]
                    rintro e w7 ⟨rfl, x7⟩
                    have HS := Lib.hid (HS.out.step x7)
                    clear x7
                    go_wp2_with fail
                    refine (HS.out.mat 1 rfl).mono ?_
                    rintro e w' ⟨rfl, rfl⟩
                    go_wp2_with fail
                    refine (tab_example _).mono ?_
                    rintro e w9 ⟨rfl, x9⟩
                    have HX9 := Lib.hid (HS.out.ext.trans x9)
                    clear x9
                    go_wp2_with fail
                    go_ret
                    exact ⟨rfl, HX9.out⟩
                  · cases e6
                · have HS := Lib.hid s5
                  have HG := Lib.hid hg
                  clear s5 hg
                  go_wp2_with fail
                  refine (tab_ref_gets _ (ofBits true bs) 0 t _ (HS.out.viewL 2 rfl) (by rw [length_ofBits]; omega) (by rw [length_ofBits]; omega) ht2 ht6).mono ?_
                  rw [length_ofBits, rowF_of, HG.out]
                  rintro e w6 (⟨l2, q2, v6, e6, _⟩ | ⟨q2, _, rfl, x6⟩)
                  · cases e6
                  · have HS := Lib.hid (HS.out.step x6)
                    clear x6
                    go_wp2_with fail
                    refine (ref_same _ _ [] [] _ (viewL_nil _) (viewL_nil _) (by decide) (by decide)).mono ?_
                    rw [decide_eq_true rfl]
                    rintro e w7 ⟨rfl, x7⟩
                    have HS := Lib.hid (HS.out.step x7)
                    clear x7
                    go_wp2_with fail
                    refine (tab_example _).mono ?_
                    rintro e w9 ⟨rfl, x9⟩
                    have HX9 := Lib.hid (HS.out.ext.trans x9)
                    clear x9
                    go_wp2_with fail
                    go_ret
                    exact ⟨rfl, HX9.out⟩
          · cases e6
        · have HS := Lib.hid s5
          have HG := Lib.hid hg
          clear s5 hg
          go_wp2_with fail
          refine (tab_ref_get _ (ofBits true bs) 0 d _ (HS.out.viewL 2 rfl) (by rw [length_ofBits]; omega) (by rw [length_ofBits]; omega) (by omega)).mono ?_
          rw [length_ofBits, rowF_of, HG.out]
          rintro e w6 (⟨l2, q2, v6, e6, _⟩ | ⟨q2, _, rfl, x6⟩)
          · cases e6
          · have HS := Lib.hid (HS.out.step x6)
            clear x6
            have hs1 := run_string_view (P := Try.prog) 22 9 5 (view_nil w6) Try.underlying22 Try.underlying5 Try.underlying9
            have hne : ((strOf []).toList != (strOf []).toList) = false := by simp
            go_wp2_with fail
            by_cases hm1 : m < 2
            · refine (tab_gets_arg B2 m _ (Or.inl hm1)).mono ?_
              rintro e w' ⟨rfl, rfl⟩
              go_wp2_with fail
              refine (tab_example _).mono ?_
              rintro e w9 ⟨rfl, x9⟩
              have HX9 := Lib.hid (HS.out.ext.trans x9)
              clear x9
              go_wp2_with fail
              go_ret
              exact ⟨rfl, HX9.out⟩
            · by_cases hm2 : 6 < m
              · refine (tab_gets_arg B2 m _ (Or.inr hm2)).mono ?_
                rintro e w' ⟨rfl, rfl⟩
                go_wp2_with fail
                refine (tab_example _).mono ?_
                rintro e w9 ⟨rfl, x9⟩
                have HX9 := Lib.hid (HS.out.ext.trans x9)
                clear x9
                go_wp2_with fail
                go_ret
                exact ⟨rfl, HX9.out⟩
              · obtain ⟨t, rfl⟩ := Int.eq_ofNat_of_zero_le (show (0 : Int) ≤ m by omega)
                have ht2 : 2 ≤ t := by omega
                have ht6 : t ≤ 6 := by omega
                refine (HS.out.getS 1 rfl t (by omega) HB.out (by omega) ht2 ht6).mono ?_
                rintro e w5 (⟨l, q, v5, hg, rfl, s5⟩ | ⟨q, hg, rfl, s5, hq⟩)
                · have HS := Lib.hid s5
                  have HG := Lib.hid hg
                  obtain ⟨va, vc, e5⟩ := HS.out.shape 3 rfl
                  rw [length_i64s] at e5
                  subst e5
                  clear s5 hg
                  go_wp2_with fail
                  refine (tab_ref_gets _ (ofBits true bs) 0 t _ (HS.out.viewL 2 rfl) (by rw [length_ofBits]; omega) (by rw [length_ofBits]; omega) ht2 ht6).mono ?_
                  rw [length_ofBits, rowF_of, HG.out]
                  rintro e w6 (⟨l2, q2, v6, e6, rfl, i6⟩ | ⟨q2, e6, _⟩)
                  · cases e6
                    have hvl := (HS.out.viewL 3 rfl).ext i6.toExt
                    have hvm := i6.viewL
                    have HS := Lib.hid (HS.out.step i6.toExt)
                    rw [i64s_ints] at hvl hvm
                    have HV1 := Lib.hid hvl
                    have HV2 := Lib.hid hvm
                    have hll : l.length ≤ 40000 := by have h1 := (gSel_ok _ _ _ _ ht2 ht6 _ _ HG.out).1.2.2.2.1; omega
                    clear hvl hvm i6
                    go_wp2_with fail
                    refine (ref_same _ _ _ _ _ HV1.out HV2.out (by rw [List.length_map]; omega) (by rw [List.length_map]; omega)).mono ?_
                    rw [decide_eq_true rfl]
                    rintro e w7 ⟨rfl, x7⟩
                    have HS := Lib.hid (HS.out.step x7)
                    clear x7
                    go_wp2_with fail
                    refine (HS.out.mat 1 rfl).mono ?_
                    rintro e w' ⟨rfl, rfl⟩
                    go_wp2_with fail
                    refine (tab_example _).mono ?_
                    rintro e w9 ⟨rfl, x9⟩
                    have HX9 := Lib.hid (HS.out.ext.trans x9)
                    clear x9
                    go_wp2_with fail
                    go_ret
                    exact ⟨rfl, HX9.out⟩
                  · cases e6
                · have HS := Lib.hid s5
                  have HG := Lib.hid hg
                  clear s5 hg
                  go_wp2_with fail
                  refine (tab_ref_gets _ (ofBits true bs) 0 t _ (HS.out.viewL 2 rfl) (by rw [length_ofBits]; omega) (by rw [length_ofBits]; omega) ht2 ht6).mono ?_
                  rw [length_ofBits, rowF_of, HG.out]
                  rintro e w6 (⟨l2, q2, v6, e6, _⟩ | ⟨q2, _, rfl, x6⟩)
                  · cases e6
                  · have HS := Lib.hid (HS.out.step x6)
                    clear x6
                    go_wp2_with fail
                    refine (ref_same _ _ [] [] _ (viewL_nil _) (viewL_nil _) (by decide) (by decide)).mono ?_
                    rw [decide_eq_true rfl]
                    rintro e w7 ⟨rfl, x7⟩
                    have HS := Lib.hid (HS.out.step x7)
                    clear x7
                    go_wp2_with fail
                    refine (tab_example _).mono ?_
                    rintro e w9 ⟨rfl, x9⟩
                    have HX9 := Lib.hid (HS.out.ext.trans x9)
                    clear x9
                    go_wp2_with fail
                    go_ret
                    exact ⟨rfl, HX9.out⟩
  · have hci : ¬ 8 * (bs.length : Int) < (K : Int) := by omega
    go_wp2_with fail
    refine (HS1.out.mget 0 rfl K (by omega) HB.out (by omega) (by omega)).mono ?_
    rintro e w4 ⟨rfl, s4⟩
    have HS4 := Lib.hid (show St w w4 [mR B1 bs K, mR B2 bs 0, tO 4 (.slice ao2 (8 * bs.length) cap2) (bls (ofBits true bs))] from by have h := s4; rw [Nat.zero_add] at h; exact h)
    clear s4
    go_wp2_with fail
    refine (HS4.out.mget 1 rfl K (by omega) HB.out (by omega) (by omega)).mono ?_
    rintro e w5 ⟨rfl, s5⟩
    have HS := Lib.hid (show St w w5 [mR B1 bs K, mR B2 bs K, tO 4 (.slice ao2 (8 * bs.length) cap2) (bls (ofBits true bs))] from by have h := s5; rw [Nat.zero_add] at h; exact h)
    clear s5 HS1 HS4
    go_wp2_with fail
    by_cases hn1 : n < 3
    · refine (tab_get_arg B1 n _ (Or.inl hn1)).mono ?_
      rintro e w' ⟨rfl, rfl⟩
      go_wp2_with fail
      by_cases hm1 : m < 2
      · refine (tab_gets_arg B2 m _ (Or.inl hm1)).mono ?_
        rintro e w' ⟨rfl, rfl⟩
        go_wp2_with fail
        refine (tab_example _).mono ?_
        rintro e w9 ⟨rfl, x9⟩
        have HX9 := Lib.hid (HS.out.ext.trans x9)
        clear x9
        go_wp2_with fail
        go_ret
        exact ⟨rfl, HX9.out⟩
      · by_cases hm2 : 6 < m
        · refine (tab_gets_arg B2 m _ (Or.inr hm2)).mono ?_
          rintro e w' ⟨rfl, rfl⟩
          go_wp2_with fail
          refine (tab_example _).mono ?_
          rintro e w9 ⟨rfl, x9⟩
          have HX9 := Lib.hid (HS.out.ext.trans x9)
          clear x9
          go_wp2_with fail
          go_ret
          exact ⟨rfl, HX9.out⟩
        · obtain ⟨t, rfl⟩ := Int.eq_ofNat_of_zero_le (show (0 : Int) ≤ m by omega)
          have ht2 : 2 ≤ t := by omega
          have ht6 : t ≤ 6 := by omega
          refine (HS.out.getS 1 rfl t (by omega) HB.out (by omega) ht2 ht6).mono ?_
          rintro e w5 (⟨l, q, v5, hg, rfl, s5⟩ | ⟨q, hg, rfl, s5, hq⟩)
          · have HS := Lib.hid s5
            have HG := Lib.hid hg
            obtain ⟨va, vc, e5⟩ := HS.out.shape 3 rfl
            rw [length_i64s] at e5
            subst e5
            clear s5 hg
            go_wp2_with fail
            refine (tab_ref_gets _ (ofBits true bs) K t _ (HS.out.viewL 2 rfl) (by rw [length_ofBits]; omega) (by rw [length_ofBits]; omega) ht2 ht6).mono ?_
            rw [length_ofBits, rowF_of, HG.out]
            rintro e w6 (⟨l2, q2, v6, e6, rfl, i6⟩ | ⟨q2, e6, _⟩)
            · cases e6
              have hvl := (HS.out.viewL 3 rfl).ext i6.toExt
              have hvm := i6.viewL
              have HS := Lib.hid (HS.out.step i6.toExt)
              rw [i64s_ints] at hvl hvm
              have HV1 := Lib.hid hvl
              have HV2 := Lib.hid hvm
              have hll : l.length ≤ 40000 := by have h1 := (gSel_ok _ _ _ _ ht2 ht6 _ _ HG.out).1.2.2.2.1; omega
              clear hvl hvm i6
              go_wp2_with fail
              refine (ref_same _ _ _ _ _ HV1.out HV2.out (by rw [List.length_map]; omega) (by rw [List.length_map]; omega)).mono ?_
              rw [decide_eq_true rfl]
              rintro e w7 ⟨rfl, x7⟩
              have HS := Lib.hid (HS.out.step x7)
              clear x7
              go_wp2_with fail
              refine (HS.out.mat 1 rfl).mono ?_
              rintro e w' ⟨rfl, rfl⟩
              go_wp2_with fail
              refine (tab_example _).mono ?_
              rintro e w9 ⟨rfl, x9⟩
              have HX9 := Lib.hid (HS.out.ext.trans x9)
              clear x9
              go_wp2_with fail
              go_ret
              exact ⟨rfl, HX9.out⟩
            · cases e6
          · have HS := Lib.hid s5
            have HG := Lib.hid hg
            clear s5 hg
            go_wp2_with fail
            refine (tab_ref_gets _ (ofBits true bs) K t _ (HS.out.viewL 2 rfl) (by rw [length_ofBits]; omega) (by rw [length_ofBits]; omega) ht2 ht6).mono ?_
            rw [length_ofBits, rowF_of, HG.out]
            rintro e w6 (⟨l2, q2, v6, e6, _⟩ | ⟨q2, _, rfl, x6⟩)
            · cases e6
            · have HS := Lib.hid (HS.out.step x6)
              clear x6
              go_wp2_with fail
              refine (ref_same _ _ [] [] _ (viewL_nil _) (viewL_nil _) (by decide) (by decide)).mono ?_
              rw [decide_eq_true rfl]
              rintro e w7 ⟨rfl, x7⟩
              have HS := Lib.hid (HS.out.step x7)
              clear x7
              go_wp2_with fail
              refine (tab_example _).mono ?_
              rintro e w9 ⟨rfl, x9⟩
              have HX9 := Lib.hid (HS.out.ext.trans x9)
              clear x9
              go_wp2_with fail
              go_ret
              exact ⟨rfl, HX9.out⟩
    · by_cases hn2 : 258 < n
      · refine (tab_get_arg B1 n _ (Or.inr hn2)).mono ?_
        rintro e w' ⟨rfl, rfl⟩
        go_wp2_with fail
        by_cases hm1 : m < 2
        · refine (tab_gets_arg B2 m _ (Or.inl hm1)).mono ?_
          rintro e w' ⟨rfl, rfl⟩
          go_wp2_with fail
          refine (tab_example _).mono ?_
          rintro e w9 ⟨rfl, x9⟩
          have HX9 := Lib.hid (HS.out.ext.trans x9)
          clear x9
          go_wp2_with fail
          go_ret
          exact ⟨rfl, HX9.out⟩
        · by_cases hm2 : 6 < m
          · refine (tab_gets_arg B2 m _ (Or.inr hm2)).mono ?_
            rintro e w' ⟨rfl, rfl⟩
            go_wp2_with fail
            refine (tab_example _).mono ?_
            rintro e w9 ⟨rfl, x9⟩
            have HX9 := Lib.hid (HS.out.ext.trans x9)
            clear x9
            go_wp2_with fail
            go_ret
            exact ⟨rfl, HX9.out⟩
          · obtain ⟨t, rfl⟩ := Int.eq_ofNat_of_zero_le (show (0 : Int) ≤ m by omega)
            have ht2 : 2 ≤ t := by omega
            have ht6 : t ≤ 6 := by omega
            refine (HS.out.getS 1 rfl t (by omega) HB.out (by omega) ht2 ht6).mono ?_
            rintro e w5 (⟨l, q, v5, hg, rfl, s5⟩ | ⟨q, hg, rfl, s5, hq⟩)
            · have HS := Lib.hid s5
              have HG := Lib.hid hg
              obtain ⟨va, vc, e5⟩ := HS.out.shape 3 rfl
              rw [length_i64s] at e5
              subst e5
              clear s5 hg
              go_wp2_with fail
              refine (tab_ref_gets _ (ofBits true bs) K t _ (HS.out.viewL 2 rfl) (by rw [length_ofBits]; omega) (by rw [length_ofBits]; omega) ht2 ht6).mono ?_
              rw [length_ofBits, rowF_of, HG.out]
              rintro e w6 (⟨l2, q2, v6, e6, rfl, i6⟩ | ⟨q2, e6, _⟩)
              · cases e6
                have hvl := (HS.out.viewL 3 rfl).ext i6.toExt
                have hvm := i6.viewL
                have HS := Lib.hid (HS.out.step i6.toExt)
                rw [i64s_ints] at hvl hvm
                have HV1 := Lib.hid hvl
                have HV2 := Lib.hid hvm
                have hll : l.length ≤ 40000 := by have h1 := (gSel_ok _ _ _ _ ht2 ht6 _ _ HG.out).1.2.2.2.1; omega
                clear hvl hvm i6
                go_wp2_with fail
                refine (ref_same _ _ _ _ _ HV1.out HV2.out (by rw [List.length_map]; omega) (by rw [List.length_map]; omega)).mono ?_
                rw [decide_eq_true rfl]
                rintro e w7 ⟨rfl, x7⟩
                have HS := Lib.hid (HS.out.step x7)
                clear x7
                go_wp2_with fail
                refine (HS.out.mat 1 rfl).mono ?_
                rintro e w' ⟨rfl, rfl⟩
                go_wp2_with fail
                refine (tab_example _).mono ?_
                rintro e w9 ⟨rfl, x9⟩
                have HX9 := Lib.hid (HS.out.ext.trans x9)
                clear x9
                go_wp2_with fail
                go_ret
                exact ⟨rfl, HX9.out⟩
              · cases e6
            · have HS := Lib.hid s5
              have HG := Lib.hid hg
              clear s5 hg
              go_wp2_with fail
              refine (tab_ref_gets _ (ofBits true bs) K t _ (HS.out.viewL 2 rfl) (by rw [length_ofBits]; omega) (by rw [length_ofBits]; omega) ht2 ht6).mono ?_
              rw [length_ofBits, rowF_of, HG.out]
              rintro e w6 (⟨l2, q2, v6, e6, _⟩ | ⟨q2, _, rfl, x6⟩)
              · cases e6
              · have HS := Lib.hid (HS.out.step x6)
                clear x6
                go_wp2_with fail
                refine (ref_same _ _ [] [] _ (viewL_nil _) (viewL_nil _) (by decide) (by decide)).mono ?_
                rw [decide_eq_true rfl]
                rintro e w7 ⟨rfl, x7⟩
                have HS := Lib.hid (HS.out.step x7)
                clear x7
                go_wp2_with fail
                refine (tab_example _).mono ?_
                rintro e w9 ⟨rfl, x9⟩
                have HX9 := Lib.hid (HS.out.ext.trans x9)
                clear x9
                go_wp2_with fail
                go_ret
                exact ⟨rfl, HX9.out⟩
      · obtain ⟨d, rfl⟩ := Int.eq_ofNat_of_zero_le (show (0 : Int) ≤ n by omega)
        have hd2 : 3 ≤ d := by omega
        have hd6 : d ≤ 258 := by omega
        refine (HS.out.getL 0 rfl d (by omega) HB.out (by omega) hd2 hd6).mono ?_
        rintro e w5 (⟨l, q, v5, hg, rfl, s5⟩ | ⟨q, hg, rfl, s5, hq⟩)
        · have HS := Lib.hid s5
          have HG := Lib.hid hg
          clear s5 hg
          go_wp2_with fail
          refine (tab_ref_get _ (ofBits true bs) K d _ (HS.out.viewL 2 rfl) (by rw [length_ofBits]; omega) (by rw [length_ofBits]; omega) (by omega)).mono ?_
          rw [length_ofBits, rowF_of, HG.out]
          rintro e w6 (⟨l2, q2, v6, e6, rfl, i6⟩ | ⟨q2, e6, _⟩)
          · cases e6
            have HS := Lib.hid (HS.out.step i6.toExt)
            have hs1 := run_string_view (P := Try.prog) 22 9 5 (HS.out.view 3 rfl rfl) Try.underlying22 Try.underlying5 Try.underlying9
            have hs2 := run_string_view (P := Try.prog) 22 9 5 (i6.view) Try.underlying22 Try.underlying5 Try.underlying9
            have hne : ((strOf l).toList != (strOf l).toList) = false := by simp
            clear i6
            go_wp2_with fail
            refine (HS.out.mat 0 rfl).mono ?_
            rintro e w' ⟨rfl, rfl⟩
            clear hs1 hs2 hne
            go_wp2_with fail
            by_cases hm1 : m < 2
            · refine (tab_gets_arg B2 m _ (Or.inl hm1)).mono ?_
              rintro e w' ⟨rfl, rfl⟩
              go_wp2_with fail
              refine (tab_example _).mono ?_
              rintro e w9 ⟨rfl, x9⟩
              have HX9 := Lib.hid (HS.out.ext.trans x9)
              clear x9
              go_wp2_with fail
              go_ret
              exact ⟨rfl, HX9.out⟩
            · by_cases hm2 : 6 < m
              · refine (tab_gets_arg B2 m _ (Or.inr hm2)).mono ?_
                rintro e w' ⟨rfl, rfl⟩
                go_wp2_with fail
                refine (tab_example _).mono ?_
                rintro e w9 ⟨rfl, x9⟩
                have HX9 := Lib.hid (HS.out.ext.trans x9)
                clear x9
                go_wp2_with fail
                go_ret
                exact ⟨rfl, HX9.out⟩
              · obtain ⟨t, rfl⟩ := Int.eq_ofNat_of_zero_le (show (0 : Int) ≤ m by omega)
                have ht2 : 2 ≤ t := by omega
                have ht6 : t ≤ 6 := by omega
                refine (HS.out.getS 1 rfl t (by omega) HB.out (by omega) ht2 ht6).mono ?_
                rintro e w5 (⟨l, q, v5, hg, rfl, s5⟩ | ⟨q, hg, rfl, s5, hq⟩)
                · have HS := Lib.hid s5
                  have HG := Lib.hid hg
                  obtain ⟨va, vc, e5⟩ := HS.out.shape 4 rfl
                  rw [length_i64s] at e5
                  subst e5
                  clear s5 hg
                  go_wp2_with fail
                  refine (tab_ref_gets _ (ofBits true bs) K t _ (HS.out.viewL 2 rfl) (by rw [length_ofBits]; omega) (by rw [length_ofBits]; omega) ht2 ht6).mono ?_
                  rw [length_ofBits, rowF_of, HG.out]
                  rintro e w6 (⟨l2, q2, v6, e6, rfl, i6⟩ | ⟨q2, e6, _⟩)
                  · cases e6
                    have hvl := (HS.out.viewL 4 rfl).ext i6.toExt
                    have hvm := i6.viewL
                    have HS := Lib.hid (HS.out.step i6.toExt)
                    rw [i64s_ints] at hvl hvm
                    have HV1 := Lib.hid hvl
                    have HV2 := Lib.hid hvm
                    have hll : l.length ≤ 40000 := by have h1 := (gSel_ok _ _ _ _ ht2 ht6 _ _ HG.out).1.2.2.2.1; omega
                    clear hvl hvm i6
                    go_wp2_with fail
                    refine (ref_same _ _ _ _ _ HV1.out HV2.out (by rw [List.length_map]; omega) (by rw [List.length_map]; omega)).mono ?_
                    rw [decide_eq_true rfl]
                    rintro e w7 ⟨rfl, x7⟩
                    have HS := Lib.hid (HS.out.step x7)
                    clear x7
                    go_wp2_with fail
                    refine (HS.out.mat 1 rfl).mono ?_
                    rintro e w' ⟨rfl, rfl⟩
                    go_wp2_with fail
                    refine (tab_example _).mono ?_
                    rintro e w9 ⟨rfl, x9⟩
                    have HX9 := Lib.hid (HS.out.ext.trans x9)
                    clear x9
                    go_wp2_with fail
                    go_ret
                    exact ⟨rfl, HX9.out⟩
                  · cases e6
                · have HS := Lib.hid s5
                  have HG := Lib.hid hg
                  clear s5 hg
                  go_wp2_with fail
                  refine (tab_ref_gets _ (ofBits true bs) K t _ (HS.out.viewL 2 rfl) (by rw [length_ofBits]; omega) (by rw [length_ofBits]; omega) ht2 ht6).mono ?_
                  rw [length_ofBits, rowF_of, HG.out]
                  rintro e w6 (⟨l2, q2, v6, e6, _⟩ | ⟨q2, _, rfl, x6⟩)
                  · cases e6
                  · have HS := Lib.hid (HS.out.step x6)
                    clear x6
                    go_wp2_with fail
                    refine (ref_same _ _ [] [] _ (viewL_nil _) (viewL_nil _) (by decide) (by decide)).mono ?_
                    rw [decide_eq_true rfl]
                    rintro e w7 ⟨rfl, x7⟩
                    have HS := Lib.hid (HS.out.step x7)
                    clear x7
                    go_wp2_with fail
                    refine (tab_example _).mono ?_
                    rintro e w9 ⟨rfl, x9⟩
                    have HX9 := Lib.hid (HS.out.ext.trans x9)
                    clear x9
                    go_wp2_with fail
                    go_ret
                    exact ⟨rfl, HX9.out⟩
          · cases e6
        · have HS := Lib.hid s5
          have HG := Lib.hid hg
          clear s5 hg
          go_wp2_with fail
          refine (tab_ref_get _ (ofBits true bs) K d _ (HS.out.viewL 2 rfl) (by rw [length_ofBits]; omega) (by rw [length_ofBits]; omega) (by omega)).mono ?_
          rw [length_ofBits, rowF_of, HG.out]
          rintro e w6 (⟨l2, q2, v6, e6, _⟩ | ⟨q2, _, rfl, x6⟩)
          · cases e6
          · have HS := Lib.hid (HS.out.step x6)
            clear x6
            have hs1 := run_string_view (P := Try.prog) 22 9 5 (view_nil w6) Try.underlying22 Try.underlying5 Try.underlying9
            have hne : ((strOf []).toList != (strOf []).toList) = false := by simp
            go_wp2_with fail
            by_cases hm1 : m < 2
            · refine (tab_gets_arg B2 m _ (Or.inl hm1)).mono ?_
              rintro e w' ⟨rfl, rfl⟩
              go_wp2_with fail
              refine (tab_example _).mono ?_
              rintro e w9 ⟨rfl, x9⟩
              have HX9 := Lib.hid (HS.out.ext.trans x9)
              clear x9
              go_wp2_with fail
              go_ret
              exact ⟨rfl, HX9.out⟩
            · by_cases hm2 : 6 < m
              · refine (tab_gets_arg B2 m _ (Or.inr hm2)).mono ?_
                rintro e w' ⟨rfl, rfl⟩
                go_wp2_with fail
                refine (tab_example _).mono ?_
                rintro e w9 ⟨rfl, x9⟩
                have HX9 := Lib.hid (HS.out.ext.trans x9)
                clear x9
                go_wp2_with fail
                go_ret
                exact ⟨rfl, HX9.out⟩
              · obtain ⟨t, rfl⟩ := Int.eq_ofNat_of_zero_le (show (0 : Int) ≤ m by omega)
                have ht2 : 2 ≤ t := by omega
                have ht6 : t ≤ 6 := by omega
                refine (HS.out.getS 1 rfl t (by omega) HB.out (by omega) ht2 ht6).mono ?_
                rintro e w5 (⟨l, q, v5, hg, rfl, s5⟩ | ⟨q, hg, rfl, s5, hq⟩)
                · have HS := Lib.hid s5
                  have HG := Lib.hid hg
                  obtain ⟨va, vc, e5⟩ := HS.out.shape 3 rfl
                  rw [length_i64s] at e5
                  subst e5
                  clear s5 hg
                  go_wp2_with fail
                  refine (tab_ref_gets _ (ofBits true bs) K t _ (HS.out.viewL 2 rfl) (by rw [length_ofBits]; omega) (by rw [length_ofBits]; omega) ht2 ht6).mono ?_
                  rw [length_ofBits, rowF_of, HG.out]
                  rintro e w6 (⟨l2, q2, v6, e6, rfl, i6⟩ | ⟨q2, e6, _⟩)
                  · cases e6
                    have hvl := (HS.out.viewL 3 rfl).ext i6.toExt
                    have hvm := i6.viewL
                    have HS := Lib.hid (HS.out.step i6.toExt)
                    rw [i64s_ints] at hvl hvm
                    have HV1 := Lib.hid hvl
                    have HV2 := Lib.hid hvm
                    have hll : l.length ≤ 40000 := by have h1 := (gSel_ok _ _ _ _ ht2 ht6 _ _ HG.out).1.2.2.2.1; omega
                    clear hvl hvm i6
                    go_wp2_with fail
                    refine (ref_same _ _ _ _ _ HV1.out HV2.out (by rw [List.length_map]; omega) (by rw [List.length_map]; omega)).mono ?_
                    rw [decide_eq_true rfl]
                    rintro e w7 ⟨rfl, x7⟩
                    have HS := Lib.hid (HS.out.step x7)
                    clear x7
                    go_wp2_with fail
                    refine (HS.out.mat 1 rfl).mono ?_
                    rintro e w' ⟨rfl, rfl⟩
                    go_wp2_with fail
                    refine (tab_example _).mono ?_
                    rintro e w9 ⟨rfl, x9⟩
                    have HX9 := Lib.hid (HS.out.ext.trans x9)
                    clear x9
                    go_wp2_with fail
                    go_ret
                    exact ⟨rfl, HX9.out⟩
                  · cases e6
                · have HS := Lib.hid s5
                  have HG := Lib.hid hg
                  clear s5 hg
                  go_wp2_with fail
                  refine (tab_ref_gets _ (ofBits true bs) K t _ (HS.out.viewL 2 rfl) (by rw [length_ofBits]; omega) (by rw [length_ofBits]; omega) ht2 ht6).mono ?_
                  rw [length_ofBits, rowF_of, HG.out]
                  rintro e w6 (⟨l2, q2, v6, e6, _⟩ | ⟨q2, _, rfl, x6⟩)
                  · cases e6
                  · have HS := Lib.hid (HS.out.step x6)
                    clear x6
                    go_wp2_with fail
                    refine (ref_same _ _ [] [] _ (viewL_nil _) (viewL_nil _) (by decide) (by decide)).mono ?_
                    rw [decide_eq_true rfl]
                    rintro e w7 ⟨rfl, x7⟩
                    have HS := Lib.hid (HS.out.step x7)
                    clear x7
                    go_wp2_with fail
                    refine (tab_example _).mono ?_
                    rintro e w9 ⟨rfl, x9⟩
                    have HX9 := Lib.hid (HS.out.ext.trans x9)
                    clear x9
                    go_wp2_with fail
                    go_ret
                    exact ⟨rfl, HX9.out⟩
theorem tab_law_gets (v : Value) (bs : List Nat) (c : Nat) (n m : Int) (w : World) (hv : View w v bs ∧ ViewL w v (u8s bs)) (hb : ∀ b ∈ bs, b < 256) (hbm : bs.length ≤ 140737488351232) (hc : c < 256) (hn : -9223372036854775808 ≤ n ∧ n ≤ 9223372036854775807) (hm : -9223372036854775808 ≤ m ∧ m ≤ 9223372036854775807) :
    Calls Try.prog 11 #[v, .int .u8 c, .int .i64 n, .int .i64 m] w fun e w' => e = .returned (.bool true) ∧ Ext w w' := by
  by_cases h1 : 300 < bs.length
  · obtain ⟨ao, cap, rfl⟩ := hv.2.shape
    rw [length_u8s] at *
    clear hv hb
    have h1 : (300 : Int) < (bs.length : Int) := by omega
    go_enter Try.func11, Try.ntmps11
    go_wp2_with fail
    go_ret
    exact ⟨rfl, Ext.refl w⟩
  · exact tab_law_gets_some v bs c (c % 16) n m w hv hb (by omega) hc (by omega) (by omega) (by rw [wrap64]; omega)
end Go.Proofs.Yteabjmebnbaonaa
