/- TablesBack: the law's walk. -/
import Derived.Test.YteabjmebnbaonaaTabStC
import Derived.Test.YteabjmebnbaonaaTabSizes
namespace Go.Proofs.Yteabjmebnbaonaa
open Go.RowKit
set_option linter.unusedVariables false

set_option maxHeartbeats 8000000 in
set_option maxRecDepth 100000 in
theorem tab_law_back_some (v0 v1 v2 : Value) (bs ls be : List Nat) (n : Nat) (w : World) (hv0 : View w v0 bs ∧ ViewL w v0 (u8s bs)) (hb0 : ∀ b ∈ bs, b < 256) (hv1 : View w v1 ls ∧ ViewL w v1 (u8s ls)) (hb1 : ∀ b ∈ ls, b < 256) (hv2 : View w v2 be ∧ ViewL w v2 (u8s be)) (hb2 : ∀ b ∈ be, b < 256)
    (hl0 : 3 ≤ bs.length) (hl0' : bs.length ≤ 258) (hl1 : 1 ≤ ls.length) (hl1' : ls.length ≤ 400) (hl2 : be.length ≤ 40) (hn : n < 256) :
    Calls Try.prog 12 #[v0, v1, .int .u8 n, v2] w fun e w' => e = .returned (.bool true) ∧ Ext w w' := by
  obtain ⟨i0, hi, hz0, hz1, hz2⟩ := info_parts info_u8
  obtain ⟨j0, hj, hj0, hj1, hj2⟩ := info_parts info_int
  obtain ⟨ao, cap, rfl⟩ := hv0.2.shape
  obtain ⟨bo, bcap, rfl⟩ := hv1.2.shape
  obtain ⟨co, ccap, rfl⟩ := hv2.2.shape
  rw [length_u8s] at *
  rw [length_u8s] at *
  rw [length_u8s] at *
  obtain ⟨b, o, rfl, _, hcell⟩ := viewL_cells hv0.2 (by rw [length_u8s]; omega)
  have HC := Lib.hid (show ∀ wr, Ext w wr → ∀ (k x : Nat), bs[k]? = some x → wr.cell? ⟨b, o + k, none⟩ = some (.int .u8 x) from fun wr hx k x hk => cell_touch hx (hcell k (.int .u8 x) (by simp [u8s, hk])) (fun f => f))
  obtain ⟨b', o', rfl, _, hcell'⟩ := viewL_cells hv1.2 (by rw [length_u8s]; omega)
  have HC1 := Lib.hid (show ∀ wr, Ext w wr → ∀ (k x : Nat), ls[k]? = some x → wr.cell? ⟨b', o' + k, none⟩ = some (.int .u8 x) from fun wr hx k x hk => cell_touch hx (hcell' k (.int .u8 x) (by simp [u8s, hk])) (fun f => f))
  have HV2 := Lib.hid hv2
  have HB2 := Lib.hid hb2
  have HB0 := Lib.hid hb0
  have HB1 := Lib.hid hb1
  have g1 : ¬ (258 : Int) < (bs.length : Int) := by omega
  have g2 : ¬ (bs.length : Int) < 3 := by omega
  have g3 : ¬ (ls.length : Int) < 1 := by omega
  have g4 : ¬ (400 : Int) < (ls.length : Int) := by omega
  have g5 : ¬ (40 : Int) < (be.length : Int) := by omega
  obtain ⟨A, hA⟩ : ∃ A, A = bs.map one20 := ⟨_, rfl⟩
  have HAL := Lib.hid (show A.length = bs.length by rw [hA, List.length_map])
  have HAG := Lib.hid (show ∀ (k x : Nat), bs[k]? = some x → A[k]? = some (one20 x) from fun k x hk => by rw [hA]; simp [hk])
  have HMA := Lib.hid (show MayP A from ⟨by have := HAL.out; omega, by have := HAL.out; omega, fun x hx => by
    rw [hA] at hx
    obtain ⟨y, _, rfl⟩ := List.mem_map.1 hx
    exact one20_lt y⟩)
  obtain ⟨t, ht⟩ : ∃ t, t = 2 + n % 5 := ⟨_, rfl⟩
  have ht2 : 2 ≤ t := by omega
  have ht6 : t ≤ 6 := by omega
  have HTV := Lib.hid (show ((t : Nat) : Int) = 2 + (n : Int) % 5 by omega)
  have ht0 : ¬ (t : Int) = 0 := by omega
  obtain ⟨L, hL⟩ : ∃ L, L = ls.map (· % t) := ⟨_, rfl⟩
  have HLL := Lib.hid (show L.length = ls.length by rw [hL, List.length_map])
  have HLG := Lib.hid (show ∀ (k x : Nat), ls[k]? = some x → L[k]? = some (x % t) from fun k x hk => by rw [hL]; simp [hk])
  have HML := Lib.hid (show MayN L t from ⟨ht2, ht6, by have := HLL.out; omega, by have := HLL.out; omega, fun x hx => by
    rw [hL] at hx
    obtain ⟨y, _, rfl⟩ := List.mem_map.1 hx
    exact Nat.mod_lt _ (by omega)⟩)
  clear hv0 hcell hb0 hA hv1 hb1 hcell' hv2 hb2 ht hL
  go_enter Try.func12, Try.ntmps12
  go_wp2_with fail
  have HS0 := Lib.hid (show St w w [oB (.slice none 0 0) [], tO 3 (.slice none 0 0) (i64s [])] from ((St.of (Ext.refl w)).new (Ext.refl w) (Owns.nil w 5 1) (fun g e => by cases e)).new (Ext.refl w) (Owns.nil w 3 1) (fun g e => by cases e))
  rw [← HTV.out]
  go_loopw [10, 12] (fun av iv wr => ∃ k : Nat, iv = .int .i64 k ∧ k ≤ bs.length ∧ St w wr [oB av (A.take k), tO 3 (.slice none 0 0) (i64s [])]) (fun _ iv _ => bs.length - (intOf iv).toNat)
  case atStart => exact ⟨0, rfl, Nat.zero_le _, HS0.out⟩
  case round =>
    clear HS0
    obtain ⟨k, rfl, hk, hst⟩ := hrel
    have hak : (A.take k).length = k := by have := HAL.out; rw [List.length_take]; omega
    obtain ⟨a1, c1, rfl⟩ := hst.shapeB 0 rfl hak
    have HS := Lib.hid hst
    have HAK := Lib.hid hak
    clear hst hak
    by_cases hlt : k < bs.length
    · have hlti : (k : Int) < (bs.length : Int) := by omega
      obtain ⟨x, hx⟩ : ∃ x, bs[k]? = some x := ⟨_, List.getElem?_eq_getElem hlt⟩
      have hc1 := HC.out wr HS.out.ext k x hx
      have hx8 := HB0.out x (List.mem_of_getElem? hx)
      obtain ⟨y, hy⟩ : ∃ y, y = one20 x := ⟨_, rfl⟩
      have HYV := Lib.hid (show (1 : Int) + (x : Int) % 20 = (y : Nat) from hy ▸ one20_int x)
      have HTK := Lib.hid (show A.take (k + 1) = A.take k ++ [y] by
        have := HAL.out
        rw [List.take_succ_eq_append_getElem (show k < A.length by omega)]
        have h2 := HAG.out k x hx
        rw [← hy, List.getElem?_eq_getElem (show k < A.length by omega)] at h2
        rw [Option.some.inj h2])
      clear hy hx
      go_wp2_with (at_builtin; go_must (refine wpList_append_own_at _ rfl (.tmp 59) (.tmp 66) 22 rfl 0 5 i0 (.int .u8 0) 1 1 Try.underlying22 hi hz0 hz1 hz2 rfl (by decide) _ k (u8s (A.take k)) rfl ((HS.out.rowB 0 rfl HAK.out).alloc _) ⟨wr.heap.size, 0, none⟩ 1 1 [.int .u8 (1 + (x : Int) % 20)] rfl rfl (news _ _ _ _) (by simp [Value.oneCell']) (by unfold maxLen; omega) (by omega) (Nat.zero_le _) ?_))
      intro v' w5 hown' hgrow _ hat
      rw [HYV.out] at hown'
      have HS5 := Lib.hid (show St w w5 [oB v' (A.take (k + 1)), tO 3 (.slice none 0 0) (i64s [])] from by rw [HTK.out]; exact HS.out.snocB 0 rfl HAK.out.symm hown' hgrow hat)
      clear hown' hgrow hat hc1
      go_wp2_with fail
      go_roundw
      case rel => exact ⟨k + 1, by go_num, by omega, HS5.out⟩
      case measure => simp [intOf]; omega
    · obtain rfl : k = bs.length := by omega
      have HS0 := Lib.hid (show St w wr [oB (.slice a1 bs.length c1) A, tO 3 (.slice none 0 0) (i64s [])] from by
        have h := HS.out; rw [List.take_of_length_le (by have := HAL.out; omega)] at h; exact h)
      clear HS HAK
      go_wp2_with fail
      go_loopw [11, 13] (fun bv iv wr => ∃ k : Nat, iv = .int .i64 k ∧ k ≤ ls.length ∧ St w wr [oB (.slice a1 bs.length c1) A, tO 3 bv (i64s (L.take k))]) (fun _ iv _ => ls.length - (intOf iv).toNat)
      case atStart => exact ⟨0, rfl, Nat.zero_le _, HS0.out⟩
      case round =>
        clear HS0
        obtain ⟨k, rfl, hk, hst⟩ := hrel
        have hak : (L.take k).length = k := by have := HLL.out; rw [List.length_take]; omega
        obtain ⟨a2, c2, rfl⟩ := hst.shapeN 1 rfl hak
        have HS := Lib.hid hst
        have HAK := Lib.hid hak
        clear hst hak
        by_cases hlt : k < ls.length
        · have hlti : (k : Int) < (ls.length : Int) := by omega
          obtain ⟨x, hx⟩ : ∃ x, ls[k]? = some x := ⟨_, List.getElem?_eq_getElem hlt⟩
          have hc1 := HC1.out wr HS.out.ext k x hx
          have hx8 := HB1.out x (List.mem_of_getElem? hx)
          obtain ⟨y, hy⟩ : ∃ y, y = x % t := ⟨_, rfl⟩
          have HYV := Lib.hid (show (x : Int) % (t : Int) = (y : Nat) by rw [hy]; exact (Int.natCast_emod x t).symm)
          have HTK := Lib.hid (show L.take (k + 1) = L.take k ++ [y] by
            have := HLL.out
            rw [List.take_succ_eq_append_getElem (show k < L.length by omega)]
            have h2 := HLG.out k x hx
            rw [← hy, List.getElem?_eq_getElem (show k < L.length by omega)] at h2
            rw [Option.some.inj h2])
          clear hy hx
          go_wp2_with (at_builtin; go_must (refine wpList_append_own_at _ rfl (.tmp 74) (.tmp 82) 48 rfl 0 3 j0 (.int .i64 0) 1 8 Try.underlying48 hj hj0 hj1 hj2 rfl (by decide) _ k (i64s (L.take k)) rfl ((HS.out.rowN 1 rfl HAK.out).alloc _) ⟨wr.heap.size, 0, none⟩ 1 1 [.int .i64 ((x : Int) % (t : Int))] rfl rfl (news _ _ _ _) (by simp [Value.oneCell']) (by unfold maxLen; omega) (by omega) (Nat.zero_le _) ?_))
          intro v' w5 hown' hgrow _ hat
          rw [HYV.out] at hown'
          have HS5 := Lib.hid (show St w w5 [oB (.slice a1 bs.length c1) A, tO 3 v' (i64s (L.take (k + 1)))] from by rw [HTK.out]; exact HS.out.snocN 1 rfl HAK.out.symm hown' hgrow hat)
          clear hown' hgrow hat hc1
          go_wp2_with fail
          go_roundw
          case rel => exact ⟨k + 1, by go_num, by omega, HS5.out⟩
          case measure => simp [intOf]; omega
        · obtain rfl : k = ls.length := by omega
          have h2 : St w wr [oB (.slice a1 bs.length c1) A, tO 3 (.slice a2 ls.length c2) (i64s L)] := by
            have h := HS.out; rw [List.take_of_length_le (by have := HLL.out; omega)] at h; exact h
          have HS := Lib.hid (show St w _ [oB (.slice a1 bs.length c1) A, tO 3 (.slice a2 ls.length c2) (i64s L), mW wr.heap.size []] from h2.newW)
          have l1 := lenBits_len A HMA.out
          have l2 := selBits_len L t HML.out
          rw [HLL.out] at l2
          obtain ⟨M, hM⟩ : ∃ M, M = lenBits A ++ selBits L := ⟨_, rfl⟩
          have hml : M.length ≤ 40000 := by rw [hM, List.length_append]; omega
          have hm0 : 5 ≤ M.length := by rw [hM, List.length_append, size_stp]; omega
          have HM := Lib.hid hM
          obtain ⟨BW, hBW⟩ : ∃ BW, BW = wr.heap.size := ⟨_, rfl⟩
          rw [← hBW] at HS
          have HBW := Lib.hid hBW.symm
          clear HAK h2 l1 l2 hM hBW
          go_wp2_with fail
          rw [HBW.out]
          refine (HS.out.putLok 2 rfl _ A (HS.out.viewL 0 rfl) (Or.inl ⟨0, _, _, by decide, rfl⟩) (by decide) HMA.out).mono ?_
          rintro e w6 ⟨rfl, s6⟩
          have HS := Lib.hid (show St w w6 [oB (.slice a1 bs.length c1) A, tO 3 (.slice a2 ls.length c2) (i64s L), mW BW (lenBits A)] from s6)
          clear s6
          go_wp2_with fail
          refine (HS.out.putN 2 rfl _ L t (HS.out.viewL 1 rfl) (Or.inl ⟨1, _, _, by decide, rfl⟩) (by have := lenBits_len A HMA.out; omega) HML.out).mono ?_
          rintro e w7 ⟨rfl, s7⟩
          have HS := Lib.hid (show St w w7 [oB (.slice a1 bs.length c1) A, tO 3 (.slice a2 ls.length c2) (i64s L), mW BW M] from by rw [HM.out]; exact s7)
          clear s7
          go_wp2_with fail
          refine (HS.out.mbytes 2 rfl (by omega)).mono ?_
          rintro e w8 ⟨v8, rfl, s8⟩
          obtain ⟨P, hP⟩ : ∃ P, P = packs true M := ⟨_, rfl⟩
          have HPL := Lib.hid (show P.length = (M.length + 7) / 8 by rw [hP, length_packs])
          have HPB := Lib.hid (show ∀ x ∈ P, x < 256 from hP ▸ packs_lt true M)
          rw [← hP] at s8
          have HP := Lib.hid hP
          obtain ⟨a8, c8, rfl⟩ := s8.shapeB 3 rfl rfl
          have HS := Lib.hid (show St w w8 [oB (.slice a1 bs.length c1) A, tO 3 (.slice a2 ls.length c2) (i64s L), mW BW M, oB (.slice a8 P.length c8) P] from s8)
          have hpl : P.length ≤ 10000 := by have := HPL.out; omega
          clear s8 hP
          go_wp2_with (at_builtin; go_must (refine wpList_append_view _ rfl (.tmp 93) (.tmp 94) 22 rfl 0 5 i0 (.int .u8 0) 1 Try.underlying22 hi hz0 hz1 hz2 rfl (.slice a8 P.length c8) P.length (u8s P) rfl (HS.out.rowB 3 rfl rfl) _ (u8s be) rfl (HV2.out.2.ext HS.out.ext) (u8s_one be) (by rw [length_u8s]; unfold maxLen; omega) (by rw [length_u8s]; omega) (Nat.zero_le _) ?_))
          intro v9 w9 hown' hgrow hat
          have h9 := HS.out.grown (ys := u8s be) 3 rfl (by rw [length_u8s P]; exact hown') hgrow hat
          rw [← u8s_append] at h9
          have HS := Lib.hid (show St w w9 [oB (.slice a1 bs.length c1) A, tO 3 (.slice a2 ls.length c2) (i64s L), mW BW M, oB v9 (P ++ be)] from h9)
          clear hown' hgrow hat h9
          go_wp2_with fail
          refine (HS.out.mnew _ (P ++ be) (HS.out.view 3 rfl rfl) (by rw [List.length_append]; omega)).mono ?_
          rintro e w10 ⟨B1, rfl, s10⟩
          have HS := Lib.hid (show St w w10 [oB (.slice a1 bs.length c1) A, tO 3 (.slice a2 ls.length c2) (i64s L), mW BW M, oB v9 (P ++ be), mR B1 (P ++ be) 0] from s10)
          have HQL := Lib.hid (show (P ++ be).length ≤ 20000 by rw [List.length_append]; omega)
          have HQB := Lib.hid (show ∀ x ∈ P ++ be, x < 256 from fun x hx => by rcases List.mem_append.1 hx with h | h; exact HPB.out x h; exact HB2.out x h)
          have HG1 := Lib.hid (show gLens (rbit true (P ++ be)) (8 * (P ++ be).length) 0 bs.length = some (A, (lenBits A).length) from by
            have h := gLens_app A HMA.out (selBits L) be
            rwa [← HM.out, ← HP.out, HAL.out] at h)
          have HG2 := Lib.hid (show gSel (rbit true (P ++ be)) (8 * (P ++ be).length) (lenBits A).length t = some (L, M.length) from by
            have h := gSel_app L t HML.out (lenBits A) be
            rw [← HM.out, ← HP.out] at h
            rw [h, HM.out, List.length_append])
          have HLA := Lib.hid (show (lenBits A).length ≤ 8 * (P ++ be).length by
            have h1 := HPL.out; have h2 := HM.out
            rw [List.length_append, h1, h2, List.length_append]; omega)
          clear s10
          go_wp2_with fail
          refine (HS.out.getLok 4 rfl bs.length (by have := HQL.out; omega) HQB.out (by omega) hl0 hl0' A _ HG1.out).mono ?_
          rintro e w11 ⟨v11, rfl, s11⟩
          have HS := Lib.hid s11
          clear s11
          go_wp2_with fail
          refine (HS.out.getSok 4 rfl t (by have := HQL.out; omega) HQB.out HLA.out ht2 ht6 L _ HG2.out).mono ?_
          rintro e w12 ⟨v12, rfl, s12⟩
          have HS := Lib.hid (show St w w12 [oB (.slice a1 bs.length c1) A, tO 3 (.slice a2 ls.length c2) (i64s L), mW BW M, oB v9 (P ++ be), mR B1 (P ++ be) M.length, oB v11 A, tO 3 v12 (i64s L)] from s12)
          have hs1 := run_string_view (P := Try.prog) 22 9 5 (HS.out.view 5 rfl rfl) Try.underlying22 Try.underlying5 Try.underlying9
          have hs2 := run_string_view (P := Try.prog) 22 9 5 (HS.out.view 0 rfl rfl) Try.underlying22 Try.underlying5 Try.underlying9
          have hne : ((strOf A).toList != (strOf A).toList) = false := by simp
          have HI1 := Lib.hid (show ViewL w12 v12 (ints (L.map fun (b : Nat) => (b : Int))) from by have h := HS.out.viewL 6 rfl; rwa [i64s_ints] at h)
          have HI2 := Lib.hid (show ViewL w12 (.slice a2 ls.length c2) (ints (L.map fun (b : Nat) => (b : Int))) from by have h := HS.out.viewL 1 rfl; rwa [i64s_ints] at h)
          clear s12
          go_wp2_with fail
          refine (ref_same _ _ _ _ _ HI1.out HI2.out (by have := HLL.out; rw [List.length_map]; omega) (by have := HLL.out; rw [List.length_map]; omega)).mono ?_
          rw [decide_eq_true rfl]
          rintro e w13 ⟨rfl, x13⟩
          have HS := Lib.hid (HS.out.step x13)
          clear x13 hs1 hs2 hne HI1 HI2
          go_wp2_with fail
          refine (HS.out.mat 4 rfl).mono ?_
          rintro e w' ⟨rfl, rfl⟩
          go_wp2_with fail
          refine (HS.out.mlen 2 rfl).mono ?_
          rintro e w' ⟨rfl, rfl⟩
          go_wp2_with fail
          refine (HS.out.mbytes 2 rfl (by omega)).mono ?_
          rintro e w14 ⟨v14, rfl, s14⟩
          rw [← HP.out] at s14
          obtain ⟨a14, c14, rfl⟩ := s14.shapeB 7 rfl rfl
          have HS := Lib.hid s14
          clear s14
          go_wp2_with fail
          refine (HS.out.mbytes 2 rfl (by omega)).mono ?_
          rintro e w15 ⟨v15, rfl, s15⟩
          rw [← HP.out] at s15
          obtain ⟨a15, c15, rfl⟩ := s15.shapeB 8 rfl rfl
          have HS := Lib.hid s15
          obtain ⟨m, hm⟩ : ∃ m, m + 1 = P.length := ⟨P.length - 1, by have := HPL.out; omega⟩
          have hPm : (P.length : Int) - 1 = (m : Int) := by omega
          have hm1 : IntKind.i64.wrap (m : Int) = (m : Int) := IntWalk.i64_in _ (by omega)
          have hcap : P.length ≤ c14 := by
            obtain ⟨ao', cap', e, h1, _⟩ := HS.out.viewL 7 rfl
            rw [length_u8s] at e h1; cases e; exact h1
          have hm3 : (m : Int) ≤ (c14 : Int) := by omega
          have hm2 : m ≤ c14 := by omega
          have hm4 : (m : Int).toNat = m := by omega
          have hm5 : (0 : Int) ≤ (m : Int) := by omega
          have hcut := cut_two A L t HMA.out HML.out M HM.out m (by rw [← HP.out]; exact hm)
          rw [← HP.out, HAL.out] at hcut
          have HCT := Lib.hid hcut
          have HMP := Lib.hid hm
          have HVT := Lib.hid (ViewL.take' (HS.out.view 7 rfl rfl) m (by omega) (by omega))
          clear s15 hcut hm
          go_wp2_with fail
          obtain ⟨X, hX⟩ : ∃ X, X = P.take m := ⟨_, rfl⟩
          rw [← hX] at HVT HCT
          have HXL := Lib.hid HCT.out.1
          have HXB := Lib.hid (show ∀ x ∈ X, x < 256 from fun x hx => by rw [hX] at hx; exact HPB.out x (List.mem_of_mem_take hx))
          have hm10 : m ≤ 10000 := by have := HMP.out; omega
          have HXL2 := Lib.hid (show X.length ≤ 2 ^ 20 by rw [HXL.out]; omega)
          clear hX hPm hm1 hm2 hm3 hm4 hm5 hcap
          refine (HS.out.mnew _ X HVT.out (by have := HXL2.out; omega)).mono ?_
          rintro e w16 ⟨B2, rfl, s16⟩
          have HS := Lib.hid s16
          clear s16 HVT
          go_wp2_with fail
          rcases HCT.out.2 with hno | ⟨hyes, hle, hsel⟩
          · rw [← HXL.out] at hno
            refine (HS.out.getLno 9 rfl bs.length HXL2.out HXB.out (by omega) hl0 hl0' hno).mono ?_
            rintro e w17 ⟨q, rfl, s17, hq⟩
            have HS := Lib.hid s17
            clear s17 hno
            go_wp2_with fail
            refine (HS.out.getS 9 rfl t HXL2.out HXB.out hq ht2 ht6).mono ?_
            rintro e w18 (⟨l, q2, v18, -, rfl, s18⟩ | ⟨q2, -, rfl, s18, -⟩)
            · have HS := Lib.hid s18
              clear s18
              go_wp2_with fail
              refine (tab_example _).mono ?_
              rintro e w30 ⟨rfl, x30⟩
              have HX30 := Lib.hid (HS.out.ext.trans x30)
              clear x30
              go_wp2_with fail
              go_ret
              exact ⟨rfl, HX30.out⟩
            · have HS := Lib.hid s18
              clear s18
              go_wp2_with fail
              refine (tab_example _).mono ?_
              rintro e w30 ⟨rfl, x30⟩
              have HX30 := Lib.hid (HS.out.ext.trans x30)
              clear x30
              go_wp2_with fail
              go_ret
              exact ⟨rfl, HX30.out⟩
          · rw [← HXL.out] at hyes hle hsel
            refine (HS.out.getLok 9 rfl bs.length HXL2.out HXB.out (by omega) hl0 hl0' A _ hyes).mono ?_
            rintro e w17 ⟨v17, rfl, s17⟩
            have HS := Lib.hid s17
            have HSEL := Lib.hid hsel
            have HLE := Lib.hid hle
            clear s17 hyes hsel hle
            go_wp2_with fail
            refine (HS.out.getSno 9 rfl t HXL2.out HXB.out HLE.out ht2 ht6 HSEL.out).mono ?_
            rintro e w18 ⟨q2, rfl, s18, -⟩
            have HS := Lib.hid s18
            clear s18
            go_wp2_with fail
            refine (tab_example _).mono ?_
            rintro e w30 ⟨rfl, x30⟩
            have HX30 := Lib.hid (HS.out.ext.trans x30)
            clear x30
            go_wp2_with fail
            go_ret
            exact ⟨rfl, HX30.out⟩
theorem tab_law_back_none (ao bo co : Option Addr) (N0 N1 N2 cap bcap ccap : Nat) (n : Nat) (w : World) (h : 258 < N0 ∨ N0 < 3 ∨ N1 < 1 ∨ 400 < N1 ∨ 40 < N2) :
    Calls Try.prog 12 #[.slice ao N0 cap, .slice bo N1 bcap, .int .u8 n, .slice co N2 ccap] w fun e w' => e = .returned (.bool true) ∧ Ext w w' := by
  by_cases c0 : 258 < N0
  · skip
    have h0 : (258 : Int) < (N0 : Int) := by omega
    clear h
    go_enter Try.func12, Try.ntmps12
    go_wp2_with fail
    refine (tab_example _).mono ?_
    rintro e w9 ⟨rfl, x9⟩
    have HX9 := Lib.hid x9
    clear x9
    go_wp2_with fail
    go_ret
    exact ⟨rfl, HX9.out⟩
  have h0 : ¬ (258 : Int) < (N0 : Int) := by omega
  by_cases c1 : N0 < 3
  · skip
    have h1 : (N0 : Int) < 3 := by omega
    clear h
    go_enter Try.func12, Try.ntmps12
    go_wp2_with fail
    refine (tab_example _).mono ?_
    rintro e w9 ⟨rfl, x9⟩
    have HX9 := Lib.hid x9
    clear x9
    go_wp2_with fail
    go_ret
    exact ⟨rfl, HX9.out⟩
  have h1 : ¬ (N0 : Int) < 3 := by omega
  by_cases c2 : N1 < 1
  · skip
    have h2 : (N1 : Int) < 1 := by omega
    clear h
    go_enter Try.func12, Try.ntmps12
    go_wp2_with fail
    refine (tab_example _).mono ?_
    rintro e w9 ⟨rfl, x9⟩
    have HX9 := Lib.hid x9
    clear x9
    go_wp2_with fail
    go_ret
    exact ⟨rfl, HX9.out⟩
  have h2 : ¬ (N1 : Int) < 1 := by omega
  by_cases c3 : 400 < N1
  · skip
    have h3 : (400 : Int) < (N1 : Int) := by omega
    clear h
    go_enter Try.func12, Try.ntmps12
    go_wp2_with fail
    refine (tab_example _).mono ?_
    rintro e w9 ⟨rfl, x9⟩
    have HX9 := Lib.hid x9
    clear x9
    go_wp2_with fail
    go_ret
    exact ⟨rfl, HX9.out⟩
  have h3 : ¬ (400 : Int) < (N1 : Int) := by omega
  have h4 : (40 : Int) < (N2 : Int) := by omega
  clear h
  go_enter Try.func12, Try.ntmps12
  go_wp2_with fail
  refine (tab_example _).mono ?_
  rintro e w9 ⟨rfl, x9⟩
  have HX9 := Lib.hid x9
  clear x9
  go_wp2_with fail
  go_ret
  exact ⟨rfl, HX9.out⟩
theorem tab_law_back (v0 : Value) (bs : List Nat) (v1 : Value) (ls : List Nat) (n : Nat) (v2 : Value) (be : List Nat) (w : World) (hv0 : View w v0 bs ∧ ViewL w v0 (u8s bs)) (hb0 : ∀ b ∈ bs, b < 256) (hm0 : bs.length ≤ 140737488351232) (hv1 : View w v1 ls ∧ ViewL w v1 (u8s ls)) (hb1 : ∀ b ∈ ls, b < 256) (hm1 : ls.length ≤ 140737488351232) (hn : n < 256) (hv2 : View w v2 be ∧ ViewL w v2 (u8s be)) (hb2 : ∀ b ∈ be, b < 256) (hm2 : be.length ≤ 140737488351232) :
    Calls Try.prog 12 #[v0, v1, .int .u8 n, v2] w fun e w' => e = .returned (.bool true) ∧ Ext w w' := by
  by_cases h : 258 < bs.length ∨ bs.length < 3 ∨ ls.length < 1 ∨ 400 < ls.length ∨ 40 < be.length
  · obtain ⟨ao, cap, rfl⟩ := hv0.2.shape
    obtain ⟨bo, bcap, rfl⟩ := hv1.2.shape
    obtain ⟨co, ccap, rfl⟩ := hv2.2.shape
    have e0 := length_u8s bs
    have e1 := length_u8s ls
    have e2 := length_u8s be
    exact tab_law_back_none ao bo co _ _ _ cap bcap ccap n w (by omega)
  · exact tab_law_back_some v0 v1 v2 bs ls be n w hv0 hb0 hv1 hb1 hv2 hb2 (by omega) (by omega) (by omega) (by omega) (by omega) hn
end Go.Proofs.Yteabjmebnbaonaa
