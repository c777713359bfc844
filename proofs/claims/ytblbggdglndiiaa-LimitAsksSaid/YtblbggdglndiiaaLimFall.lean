/- pressworklaw05.LimitFall: its walk. -/
import Derived.Test.YtblbggdglndiiaaLimGrows
import Derived.Test.YtblbggdglndiiaaOwnUse
namespace Go.Proofs.Ytblbggdglndiiaa
open Go.RowKit
set_option linter.unusedVariables false

theorem ints_one' (l : List Nat) : ∀ u ∈ intsL l, u.oneCell' = true := fun u hu => by
  obtain ⟨y, _, rfl⟩ := List.mem_map.1 hu; rfl
def FaI (N : Nat) (w1 : World) (vi : Value) (wr : World) : Prop := ∃ i m : Nat, vi = .int .i64 i ∧ i ≤ N ∧ wr = w1.drewN m
def FaJ (i : Nat) (w1 : World) (vk : Value) (wr : World) : Prop := ∃ k m : Nat, vk = .int .i64 k ∧ k ≤ i ∧ wr = w1.drewN m
set_option maxHeartbeats 8000000 in
set_option maxRecDepth 100000 in
theorem lim_fall (v : Value) (xs : List Int) (lim : Int) (n2 : Nat) (w : World) (hv : ViewL w v (kints .i64 xs) ∧ xs.length ≤ 140737488351232) (hwf : ∀ x ∈ xs, (Lit.int .i64 x).wf = true) (hlim : -9223372036854775808 ≤ lim ∧ lim ≤ 9223372036854775807) (h2 : n2 < 65536) :
    Calls Try.prog 4 #[v, .int .i64 lim, .int .u16 n2] w fun e w' => e = .returned (.bool true) ∧ Ext w w' := by
  obtain ⟨hv, hxl⟩ := hv
  have hvi : ViewL w v (ints xs) := hv
  have hres := lim_res v xs lim w hvi (by omega)
  obtain ⟨ao, cap, rfl⟩ := hvi.shape
  rw [length_ints] at hvi hres ⊢
  obtain ⟨N, hN⟩ : ∃ N, N = xs.length := ⟨_, rfl⟩
  rw [← hN] at hvi hxl hres ⊢
  have HN := Lib.hid hN
  have HV := Lib.hid hvi
  have HR := Lib.hid hres
  have hNz : (N : Int) < 4611686018427387904 := by omega
  clear hv hvi hres hN hwf
  go_enter Try.func4, Try.ntmps4
  go_wp2_with fail
  refine Calls.mono HR.out ?_
  rintro e w1 (⟨hbad, rfl, hx⟩ | ⟨F, P, L, hok, hform, rfl, hx⟩ | ⟨F, P, L, ov, hok, hp, rfl, hbo⟩)
  · have HX := Lib.hid hx
    clear hx hbad
    by_cases h100 : 100 < N
    · have hz : (100 : Int) < (N : Int) := by omega
      go_wp2_with fail
      refine (lim_picks w1).mono ?_
      rintro e w' ⟨rfl, hx⟩
      have HXX := Lib.hid hx
      clear hx
      go_wp2_with fail
      go_ret
      exact ⟨rfl, HX.out.trans HXX.out⟩
    · have hz : ¬ (100 : Int) < (N : Int) := by omega
      go_wp2_with fail
      refine (lim_picks w1).mono ?_
      rintro e w' ⟨rfl, hx⟩
      have HXX := Lib.hid hx
      clear hx
      go_wp2_with fail
      go_ret
      exact ⟨rfl, HX.out.trans HXX.out⟩
  · have HX := Lib.hid hx
    clear hx hform hok
    by_cases h100 : 100 < N
    · have hz : (100 : Int) < (N : Int) := by omega
      go_wp2_with fail
      refine (lim_picks w1).mono ?_
      rintro e w' ⟨rfl, hx⟩
      have HXX := Lib.hid hx
      clear hx
      go_wp2_with fail
      go_ret
      exact ⟨rfl, HX.out.trans HXX.out⟩
    · have hz : ¬ (100 : Int) < (N : Int) := by omega
      go_wp2_with fail
      refine (lim_picks w1).mono ?_
      rintro e w' ⟨rfl, hx⟩
      have HXX := Lib.hid hx
      clear hx
      go_wp2_with fail
      go_ret
      exact ⟨rfl, HX.out.trans HXX.out⟩
  · have HOK := Lib.hid (And.intro hok hp)
    have HFN := Lib.hid (show F.length = N from by rw [HN.out, hok.fs, List.length_map])
    obtain ⟨la, lc, hlv⟩ := hbo.viewL.shape
    rw [length_u8s, lensP_len, HFN.out] at hlv
    subst hlv
    have HBO := Lib.hid hbo
    have hlimL : lim = (L : Int) := hok.lim
    subst hlimL
    clear hok hp hbo
    by_cases h100 : 100 < N
    · have hz : (100 : Int) < (N : Int) := by omega
      go_wp2_with fail
      refine (lim_picks w1).mono ?_
      rintro e w' ⟨rfl, hx⟩
      have HXX := Lib.hid hx
      clear hx
      go_wp2_with fail
      go_ret
      exact ⟨rfl, HBO.out.toExt.trans HXX.out⟩
    · have hz : ¬ (100 : Int) < (N : Int) := by omega
      have HB := Lib.hid (show N ≤ 100 from by omega)
      have HVF := Lib.hid (show ∀ wr, Ext w1 wr → ViewL wr (.slice ao N cap) (intsL F) from fun wr hx => by rw [← ints_nat HOK.out.1.fs]; exact (HV.out.ext HBO.out.toExt).ext hx)
      have HCF := Lib.hid (show ∀ m j, j < N → ∃ b o, ao = some ⟨b, o, none⟩ ∧ (w1.drewN m).cell? ⟨b, o + j, none⟩ = some (.int .i64 (F.getD j 0 : Nat)) from fun m j hj => by
        obtain ⟨b, o, rfl, _, hc⟩ := viewL_cells (HVF.out (w1.drewN m) ((Ext.refl w1).drewN m)) (by rw [length_intsL, HFN.out]; omega)
        exact ⟨b, o, rfl, hc j (.int .i64 (F.getD j 0 : Nat)) (by rw [← HFN.out] at hj; simp [intsL, hj, List.getD])⟩)
      have HCL := Lib.hid (show ∀ m j, j < N → ∃ b o, la = some ⟨b, o, none⟩ ∧ (w1.drewN m).cell? ⟨b, o + j, none⟩ = some (.int .u8 (lenP F P (L - 1) j : Nat)) from fun m j hj => by
        obtain ⟨b, o, rfl, _, hc⟩ := viewL_cells (HBO.out.viewL.ext ((Ext.refl w1).drewN m)) (by rw [length_u8s, lensP_len, HFN.out]; omega)
        exact ⟨b, o, rfl, hc j (.int .u8 (lenP F P (L - 1) j : Nat)) (by rw [← HFN.out] at hj; simp [u8s, lensP, hj])⟩)
      have HN2 := Lib.hid h2
      clear hNz hxl hlim h2
      go_wp2_with fail
      clear hz h100
      go_loopw [9] (fun vi wr => FaI N w1 vi wr) (fun vi _ => N - (intOf vi).toNat)
      case atStart => exact ⟨0, 0, by go_num, Nat.zero_le _, rfl⟩
      case round =>
        obtain ⟨i, m, rfl, hiN, hwr⟩ := hrel
        have HI := Lib.hid (show i ≤ N ∧ wr = w1.drewN m from ⟨hiN, hwr⟩)
        clear hiN hwr
        by_cases hlt : i < N
        · have hltz : (i : Int) < (N : Int) := by omega
          obtain ⟨i1, hi1⟩ : ∃ i1, i1 = i + 1 := ⟨_, rfl⟩
          have wi : IntKind.i64.wrap ((i : Int) + 1) = (i1 : Int) := by rw [show (i : Int) + 1 = ((i1 : Nat) : Int) by omega]; exact IntWalk.i64_in _ (by omega)
          have HLT := Lib.hid (show i1 = i + 1 ∧ i < N from ⟨hi1, hlt⟩)
          clear hi1 hlt
          go_wp2_with fail
          go_loopw [10] (fun vk wr => FaJ i w1 vk wr) (fun vk _ => i - (intOf vk).toNat)
          case atStart => exact ⟨0, m, by go_num, Nat.zero_le _, HI.out.2⟩
          case round =>
            obtain ⟨k, m2, rfl, hki, hwr⟩ := hrel
            have HJ := Lib.hid (show k ≤ i ∧ wr = w1.drewN m2 from ⟨hki, hwr⟩)
            clear hki hwr
            by_cases hlk : k < i
            · have hlkz : (k : Int) < (i : Int) := by omega
              have hkN : (k : Int) < (N : Int) := by have := HLT.out; omega
              obtain ⟨k1, hk1⟩ : ∃ k1, k1 = k + 1 := ⟨_, rfl⟩
              have wk : IntKind.i64.wrap ((k : Int) + 1) = (k1 : Int) := by rw [show (k : Int) + 1 = ((k1 : Nat) : Int) by omega]; exact IntWalk.i64_in _ (by omega)
              obtain ⟨fb, fo, rfl, c1⟩ := HCF.out m2 i HLT.out.2
              obtain ⟨fb2, fo2, e1, c2⟩ := HCF.out m2 k (by have := HLT.out; omega)
              cases e1
              obtain ⟨lb, lo, rfl, c3⟩ := HCL.out m2 i HLT.out.2
              obtain ⟨lb2, lo2, e1, c4⟩ := HCL.out m2 k (by have := HLT.out; omega)
              cases e1
              have HLW := Lib.hid (show (0 < F.getD k 0 → F.getD k 0 < F.getD i 0 → lenP F P (L - 1) i ≤ lenP F P (L - 1) k) ∧ (0 < F.getD i 0 → F.getD i 0 < F.getD k 0 → lenP F P (L - 1) k ≤ lenP F P (L - 1) i) from
                ⟨fun h1 h2 => fall_len HOK.out.1.ord (L - 1) k i h1 (by rw [HFN.out]; exact HLT.out.2) h2 (by rw [HFN.out]; have := HLT.out; omega), fun h1 h2 => fall_len HOK.out.1.ord (L - 1) i k h1 (by rw [HFN.out]; have := HLT.out; omega) h2 (by rw [HFN.out]; exact HLT.out.2)⟩)
              obtain ⟨a, ha⟩ : ∃ a, a = F.getD i 0 := ⟨_, rfl⟩
              obtain ⟨b, hb⟩ : ∃ b, b = F.getD k 0 := ⟨_, rfl⟩
              obtain ⟨p, hp⟩ : ∃ p, p = lenP F P (L - 1) i := ⟨_, rfl⟩
              obtain ⟨q, hq⟩ : ∃ q, q = lenP F P (L - 1) k := ⟨_, rfl⟩
              rw [← ha, ← hb, ← hp, ← hq] at HLW
              rw [← ha] at c1
              rw [← hb] at c2
              rw [← hp] at c3
              rw [← hq] at c4
              rw [← HJ.out.2] at c1 c2 c3 c4
              have HK1 := Lib.hid (show k1 = k + 1 ∧ k < i from ⟨hk1, hlk⟩)
              have HEND := Lib.hid (show ∀ nq, FaJ i w1 (.int .i64 k1) (wr.drewN nq) from fun nq => ⟨k1, m2 + nq, rfl, by have := HK1.out; omega, by rw [HJ.out.2, World.drewN_drewN]⟩)
              clear ha hb hp hq hk1 hlk
              go_wp2_with fail
              by_cases ha0 : 0 < a
              · have ha0z : (0 : Int) < (a : Int) := by omega
                by_cases hb0 : 0 < b
                · have hb0z : (0 : Int) < (b : Int) := by omega
                  by_cases hab : b < a
                  · have habz : (b : Int) < (a : Int) := by omega
                    have hba : ¬ a < b := by omega
                    have hbaz : ¬ (a : Int) < (b : Int) := by omega
                    have hpq : ¬ q < p := by have := HLW.out.1 hb0 hab; omega
                    have hpqz : ¬ (q : Int) < (p : Int) := by omega
                    go_quiet (fail)
                    go_wp2_with fail
                    exact ⟨HEND.out nq, by simp [intOf]; have := HK1.out; omega⟩
                  · have habz : ¬ (b : Int) < (a : Int) := by omega
                    by_cases hba : a < b
                    · have hbaz : (a : Int) < (b : Int) := by omega
                      have hpq : ¬ p < q := by have := HLW.out.2 ha0 hba; omega
                      have hpqz : ¬ (p : Int) < (q : Int) := by omega
                      go_quiet (fail)
                      go_wp2_with fail
                      exact ⟨HEND.out nq, by simp [intOf]; have := HK1.out; omega⟩
                    · have hbaz : ¬ (a : Int) < (b : Int) := by omega
                      go_quiet (fail)
                      go_wp2_with fail
                      exact ⟨HEND.out nq, by simp [intOf]; have := HK1.out; omega⟩
                · have hb0z : ¬ (0 : Int) < (b : Int) := by omega
                  go_quiet (fail)
                  go_wp2_with fail
                  exact ⟨HEND.out nq, by simp [intOf]; have := HK1.out; omega⟩
              · have ha0z : ¬ (0 : Int) < (a : Int) := by omega
                go_quiet (fail)
                go_wp2_with fail
                exact ⟨HEND.out nq, by simp [intOf]; have := HK1.out; omega⟩
            · have hlkz : ¬ (k : Int) < (i : Int) := by omega
              go_wp2_with fail
              exact ⟨⟨i1, m2, rfl, by have := HLT.out; omega, HJ.out.2⟩, by simp [intOf]; have := HLT.out; omega⟩
        · have hltz : ¬ (i : Int) < (N : Int) := by omega
          obtain ⟨N1, hN1⟩ : ∃ N1, N1 = N + 1 := ⟨_, rfl⟩
          obtain ⟨k, hk⟩ : ∃ k, k = n2 % N1 := ⟨_, rfl⟩
          have hkN : k ≤ N := by have := Nat.mod_lt n2 (show 0 < N1 by omega); omega
          have wk0 : IntKind.i64.wrap (n2 : Int) = (n2 : Int) := IntWalk.i64_in _ (by have := HN2.out; omega)
          have wN : IntKind.i64.wrap ((N : Int) + 1) = (N1 : Int) := by rw [show (N : Int) + 1 = ((N1 : Nat) : Int) by omega]; exact IntWalk.i64_in _ (by omega)
          have hN0n : ¬ N1 = 0 := by omega
          have hN0z : ¬ (N1 : Int) = 0 := by omega
          have hN0 : ((N1 : Int) == 0) = false := by rw [beq_eq_false_iff_ne]; omega
          have wk : (n2 : Int).tmod (N1 : Int) = (k : Int) := by rw [Int.tmod_eq_emod_of_nonneg (by omega), hk]; push_cast; rfl
          have HK := Lib.hid (show k ≤ N ∧ N1 = N + 1 from ⟨hkN, hN1⟩)
          clear hk hkN hlt hN1
          go_wp2_with fail
          have hpc := HVF.out wr (by rw [HI.out.2]; exact (Ext.refl w1).drewN m)
          have hcapN : N ≤ cap := by
            obtain ⟨_, cap', e, hh, _⟩ := hpc
            rw [length_intsL, HFN.out] at hh
            cases e; exact hh
          have hpl : ViewL wr (.slice ao (intsL F).length cap) (intsL F) := by rw [length_intsL, HFN.out]; exact hpc
          have HKZ := Lib.hid (show (k : Int) ≤ (N : Int) ∧ (k : Int) ≤ (cap : Int) ∧ (0 : Int) ≤ (k : Int) from by have := HK.out; omega)
          have HPA := Lib.hid (show ∀ wx, Ext wr wx → ViewL wx (.slice ao k cap) (intsL (F.take k)) from fun wx hx => by
            obtain ⟨ao', cap', e, b1, b2, b3⟩ := hpc
            rw [length_intsL, HFN.out] at e
            cases e
            have hl : (intsL (F.take k)).length = k := by rw [length_intsL, List.length_take, HFN.out]; have := HK.out; omega
            refine ⟨_, _, by rw [hl], by rw [hl]; have := HK.out; omega, b2, fun h0 => ?_⟩
            rw [hl] at h0
            obtain ⟨b, o, rfl, hc⟩ := b3 (by rw [length_intsL, HFN.out]; have := HK.out; omega)
            refine ⟨b, o, rfl, fun j u hu => cell_touch hx (hc j u ?_) (fun f => f)⟩
            have hj := (List.getElem?_eq_some_iff.1 hu).1
            rw [hl] at hj
            rw [← hu, intsL, intsL, List.getElem?_map, List.getElem?_map, List.getElem?_take, if_pos hj])
          have HLS := Lib.hid (show (intsL []).length ≤ 200 ∧ (intsL (F.take k)).length ≤ 200 ∧ (intsL [0]).length ≤ 200 ∧ (intsL (F.take k ++ [0])).length ≤ 200 ∧ (intsL (F.drop k)).length ≤ 200 from by
            have := HB.out
            simp only [length_intsL, List.length_append, List.length_cons, List.length_nil, List.length_take, List.length_drop, HFN.out]
            omega)
          obtain ⟨i0, hi, hz0', hz1, hz2⟩ := info_parts info_int
          by_cases hci : cap = k
          · have HPB := Lib.hid (show ∀ wx, Ext wr wx → ViewL wx (.slice ao 0 0) (intsL (F.drop k)) from fun wx hx => by
              have e : F.drop k = [] := List.drop_of_length_le (by rw [HFN.out]; have := HK.out; omega)
              rw [e]
              exact ((hpl.piece_end 0 (by rw [length_intsL, HFN.out]; have := HK.out; omega)).2).ext hx)
            have hkN : N = k := by have := HK.out; omega
            have HKN := Lib.hid hkN
            have HCI := Lib.hid hci
            clear hpl hpc hcapN hkN hci
            refine wp_region_owns 162 [0, 11] [116, 117, 118, 119, 120, 121, 122, 123, 124, 125, 126, 12] [0, 4, 5, 6, 10, 11] (fun _ => False) [(12, .slice ao N cap), (23, .int .i64 k), (1, .slice ao N cap), (2, .int .i64 k), (3, .slice ao k cap), (7, .slice ao N cap), (8, .int .i64 k), (9, .slice ao 0 0)] [(0, wOwn 3 (intsL ([]))), (4, wOwn 3 (intsL (F.take k))), (5, wOwn 3 (intsL ([0]))), (6, wOwn 3 (intsL (F.take k ++ [0]))), (10, wOwn 3 (intsL ((F.take k ++ [0]) ++ F.drop k))), (11, wOwn 3 (intsL ((F.take k ++ [0]) ++ F.drop k)))] (by kernel_rfl) rfl (by kernel_rfl) (by kernel_rfl) rfl ?base ⟨?_, ?_, ?_, ?_, ?_, ?_, ?_, ?_, ?_, ?_, ?_, ?_, trivial⟩ ?fin
            case base =>
              refine BaseD.one 1 (fun _ => False) (fun hm0 => absurd hm0 (by decide)) (fun k f => f.elim) (fun t ht _ => ?_)
              simp only [List.mem_cons, List.not_mem_nil, or_false] at ht
              rcases ht with rfl | rfl
              · exact PhiD.ofVal rfl rfl
              · exact PhiD.ofVal rfl rfl
            · refine OblD.gen (fun ev w1 Ss hE hT hk hd hs => ?_)
              obtain ⟨hc, hf, hg⟩ := hE
              clear hk
              exact ⟨rfl, .slice (some ⟨w1.heap.size, 0, none⟩) 0 0, w1.alloc (.cells #[] 3), fun g => g = w1.heap.size, by go_simp, (Touch.refl _ w1).alloc _, fun g e => Or.inr (by rw [e]; exact Nat.le_refl _), PhiD.ofWord rfl ⟨some w1.heap.size, ⟨ownsRow_zero (World.ownsRow_made w1 #[] 0 (Nat.le_refl _) (by decide) rfl), rfl⟩, fun g => ⟨fun e => by rw [e], fun e => by cases e; rfl⟩⟩⟩
            · refine OblD.val (.slice ao N cap) (fun ev w1 Ss hE hT hk => ?_) (fun _ => PhiD.ofVal rfl rfl)
              obtain ⟨hc, hf, hg⟩ := hE
              have h0 := PhiD.fact (kn (k' := 12) hk.1 (by kernel_rfl)) rfl rfl
              clear hk
              exact ⟨rfl, by go_simp⟩
            · refine OblD.val (.int .i64 k) (fun ev w1 Ss hE hT hk => ?_) (fun _ => PhiD.ofVal rfl rfl)
              obtain ⟨hc, hf, hg⟩ := hE
              have h0 := PhiD.fact (kn (k' := 23) hk.1 (by kernel_rfl)) rfl rfl
              clear hk
              exact ⟨rfl, by go_simp⟩
            · refine OblD.val (.slice ao k cap) (fun ev w1 Ss hE hT hk => ?_) (fun _ => PhiD.ofVal rfl rfl)
              obtain ⟨hc, hf, hg⟩ := hE
              have h0 := PhiD.fact (kn (k' := 1) hk.1 (by kernel_rfl)) rfl rfl; have h1 := PhiD.fact (kn (k' := 2) hk.2.1 (by kernel_rfl)) rfl rfl
              clear hk
              have kN := HKZ.out.1; have kc := HKZ.out.2.1; have kz := HKZ.out.2.2
              exact ⟨rfl, by go_simp⟩
            · refine OblD.gen (fun ev w1 Ss hE hT hk hd hs => ?_)
              obtain ⟨hc, hf, hg⟩ := hE
              have h0 := PhiD.word (kn (k' := 0) hk.1 (by kernel_rfl)) rfl; have h1 := PhiD.fact (kn (k' := 3) hk.2.1 (by kernel_rfl)) rfl rfl
              clear hk
              obtain ⟨og, k1, k2⟩ := h0
              have hview : ViewL w1 (ev (.tmp 119)) (intsL (F.take k)) := by rw [h1]; exact HPA.out w1 hT.drew_l
              obtain ⟨v', w2, r1, r2, r3, r4⟩ := run_append_view (P := Try.prog) w1 0 24 24 3 i0 (.int .i64 0) 8 Try.underlying24 hi hz0' hz1 hz2 rfl (ev (.tmp 116)) (intsL ([])).length (intsL ([])) k1.1 (ev (.tmp 119)) (intsL (F.take k)) hview (ints_one' _) (by have := HLS.out; unfold maxLen; omega) (by have := HLS.out; omega) (Nat.zero_le _)
              refine ⟨rfl, v', w2, fun g => v'.ownBlock = some g, by simp [execOp, resolve, invoke, builtin, r1, Result.andThen], (Touch.refl _ w1).grown r3 (fun k e => Or.inl (handed_of 0 (by kernel_rfl) ((k2 k).2 (by rw [← k1.2]; exact e)))), fun k e => ?_, PhiD.ofWord rfl ⟨v'.ownBlock, ⟨(by first | (rw [intsL_append, List.length_append]; exact r2) | exact r2 | simpa [intsL] using r2), rfl⟩, fun _ => Iff.rfl⟩⟩
              rcases r4 with r4 | r4
              · exact Or.inl (handed_of 0 (by kernel_rfl) ((k2 k).2 (by rw [← k1.2, ← r4]; exact e)))
              · rw [r4] at e; cases e; exact Or.inr (Nat.le_refl _)
            · refine OblD.gen (fun ev w1 Ss hE hT hk hd hs => ?_)
              obtain ⟨hc, hf, hg⟩ := hE
              clear hk
              exact ⟨rfl, .slice (some ⟨w1.heap.size, 0, none⟩) 1 1, w1.alloc (.cells #[.int .i64 0] 3), fun g => g = w1.heap.size, by go_simp, (Touch.refl _ w1).alloc _, fun g e => Or.inr (by rw [e]; exact Nat.le_refl _), PhiD.ofWord rfl ⟨some w1.heap.size, ⟨World.ownsRow_lit w1 #[.int .i64 0] 1 (Nat.zero_le _) (by decide) rfl, rfl⟩, fun g => ⟨fun e => by rw [e], fun e => by cases e; rfl⟩⟩⟩
            · refine OblD.gen (fun ev w1 Ss hE hT hk hd hs => ?_)
              obtain ⟨hc, hf, hg⟩ := hE
              have h0 := PhiD.word (kn (k' := 4) hk.1 (by kernel_rfl)) rfl; have h1 := PhiD.word (kn (k' := 5) hk.2.1 (by kernel_rfl)) rfl
              clear hk
              obtain ⟨og, k1, k2⟩ := h0
              obtain ⟨og9, k5, k6⟩ := h1
              have hview := k5.viewL
              obtain ⟨v', w2, r1, r2, r3, r4⟩ := run_append_view (P := Try.prog) w1 0 24 24 3 i0 (.int .i64 0) 8 Try.underlying24 hi hz0' hz1 hz2 rfl (ev (.tmp 120)) (intsL (F.take k)).length (intsL (F.take k)) k1.1 (ev (.tmp 121)) (intsL ([0])) hview (ints_one' _) (by have := HLS.out; unfold maxLen; omega) (by have := HLS.out; omega) (Nat.zero_le _)
              refine ⟨rfl, v', w2, fun g => v'.ownBlock = some g, by simp [execOp, resolve, invoke, builtin, r1, Result.andThen], (Touch.refl _ w1).grown r3 (fun k e => Or.inl (handed_of 4 (by kernel_rfl) ((k2 k).2 (by rw [← k1.2]; exact e)))), fun k e => ?_, PhiD.ofWord rfl ⟨v'.ownBlock, ⟨(by first | (rw [intsL_append, List.length_append]; exact r2) | exact r2 | simpa [intsL] using r2), rfl⟩, fun _ => Iff.rfl⟩⟩
              rcases r4 with r4 | r4
              · exact Or.inl (handed_of 4 (by kernel_rfl) ((k2 k).2 (by rw [← k1.2, ← r4]; exact e)))
              · rw [r4] at e; cases e; exact Or.inr (Nat.le_refl _)
            · refine OblD.val (.slice ao N cap) (fun ev w1 Ss hE hT hk => ?_) (fun _ => PhiD.ofVal rfl rfl)
              obtain ⟨hc, hf, hg⟩ := hE
              have h0 := PhiD.fact (kn (k' := 12) hk.1 (by kernel_rfl)) rfl rfl
              clear hk
              exact ⟨rfl, by go_simp⟩
            · refine OblD.val (.int .i64 k) (fun ev w1 Ss hE hT hk => ?_) (fun _ => PhiD.ofVal rfl rfl)
              obtain ⟨hc, hf, hg⟩ := hE
              have h0 := PhiD.fact (kn (k' := 23) hk.1 (by kernel_rfl)) rfl rfl
              clear hk
              exact ⟨rfl, by go_simp⟩
            · refine OblD.val (.slice ao 0 0) (fun ev w1 Ss hE hT hk => ?_) (fun _ => PhiD.ofVal rfl rfl)
              obtain ⟨hc, hf, hg⟩ := hE
              have h0 := PhiD.fact (kn (k' := 7) hk.1 (by kernel_rfl)) rfl rfl; have h1 := PhiD.fact (kn (k' := 8) hk.2.1 (by kernel_rfl)) rfl rfl
              clear hk
              have hNk := HKN.out; have hci := HCI.out
              have kN := HKZ.out.1; have kc := HKZ.out.2.1; have kz := HKZ.out.2.2
              exact ⟨rfl, by go_simp⟩
            · refine OblD.gen (fun ev w1 Ss hE hT hk hd hs => ?_)
              obtain ⟨hc, hf, hg⟩ := hE
              have h0 := PhiD.word (kn (k' := 6) hk.1 (by kernel_rfl)) rfl; have h1 := PhiD.fact (kn (k' := 9) hk.2.1 (by kernel_rfl)) rfl rfl
              clear hk
              obtain ⟨og, k1, k2⟩ := h0
              have hview : ViewL w1 (ev (.tmp 125)) (intsL (F.drop k)) := by rw [h1]; exact HPB.out w1 hT.drew_l
              obtain ⟨v', w2, r1, r2, r3, r4⟩ := run_append_view (P := Try.prog) w1 0 24 24 3 i0 (.int .i64 0) 8 Try.underlying24 hi hz0' hz1 hz2 rfl (ev (.tmp 122)) (intsL (F.take k ++ [0])).length (intsL (F.take k ++ [0])) k1.1 (ev (.tmp 125)) (intsL (F.drop k)) hview (ints_one' _) (by have := HLS.out; unfold maxLen; omega) (by have := HLS.out; omega) (Nat.zero_le _)
              refine ⟨rfl, v', w2, fun g => v'.ownBlock = some g, by simp [execOp, resolve, invoke, builtin, r1, Result.andThen], (Touch.refl _ w1).grown r3 (fun k e => Or.inl (handed_of 6 (by kernel_rfl) ((k2 k).2 (by rw [← k1.2]; exact e)))), fun k e => ?_, PhiD.ofWord rfl ⟨v'.ownBlock, ⟨(by first | (rw [intsL_append, List.length_append]; exact r2) | exact r2 | simpa [intsL] using r2), rfl⟩, fun _ => Iff.rfl⟩⟩
              rcases r4 with r4 | r4
              · exact Or.inl (handed_of 6 (by kernel_rfl) ((k2 k).2 (by rw [← k1.2, ← r4]; exact e)))
              · rw [r4] at e; cases e; exact Or.inr (Nat.le_refl _)
            · refine OblD.gen (fun ev w1 Ss hE hT hk hd hs => ?_)
              obtain ⟨hc, hf, hg⟩ := hE
              have h0 := PhiD.word (kn (k' := 10) hk.1 (by kernel_rfl)) rfl
              clear hk
              exact ⟨rfl, ev (.tmp 126), w1, Ss 10, by go_simp, Touch.refl _ _, fun k e => Or.inl (handed_of 10 (by kernel_rfl) e), PhiD.ofWord rfl h0⟩
            case fin =>
              intro vs w5 Ss hT hF hB
              have h5 := (hF 11 _ 12 rfl rfl (by kernel_rfl)).1.word rfl
              have h6 := (hF 11 _ 12 rfl rfl (by kernel_rfl)).2
              obtain ⟨og, k1, k2⟩ := h5
              clear hF hB
              simp only [List.foldl_cons, List.foldl_nil]
              generalize vs 116 = x116 at *
              generalize vs 117 = x117 at *
              generalize vs 118 = x118 at *
              generalize vs 119 = x119 at *
              generalize vs 120 = x120 at *
              generalize vs 121 = x121 at *
              generalize vs 122 = x122 at *
              generalize vs 123 = x123 at *
              generalize vs 124 = x124 at *
              generalize vs 125 = x125 at *
              generalize vs 126 = x126 at *
              generalize vs 12 = x12 at *
              simp only [Act.put, List.setIfInBounds_toArray, List.set_cons_succ, List.set_cons_zero]
              have HG := Lib.hid (show IOn wr ((F.take k ++ [0]) ++ F.drop k) x12 w5 from ⟨og, (by rw [length_intsL] at k1; exact k1), fun g e => by rcases h6 g ((k2 g).2 e) with f | f; exact f.elim; exact f, hT⟩)
              clear k1 k2 h6 hT
              obtain ⟨oa12, oc12, ex12⟩ := HG.out.shape
              have hgl : ((F.take k ++ [0]) ++ F.drop k).length = N + 1 := by rw [List.length_append, List.length_append, List.length_take, List.length_drop, HFN.out]; have := HK.out; simp; omega
              rw [hgl] at ex12
              subst ex12
              have hge : (F.take k ++ [0]) ++ F.drop k = F.take k ++ 0 :: F.drop k := by simp
              obtain ⟨G, hG⟩ : ∃ G, G = F.take k ++ 0 :: F.drop k := ⟨_, rfl⟩
              have hiog := HG.out
              rw [hge, ← hG] at hiog
              have HIG := Lib.hid hiog
              obtain ⟨Q, hQ⟩ := ord_exists G
              have hfil : (G.filter fun x => decide (0 < x)) = F.filter fun x => decide (0 < x) := by rw [hG]; exact nought_in F k
              have hQl : Q.length = P.length := by rw [ord_len hQ, ord_len HOK.out.1.ord, hfil]
              have hgk : G.getD k 0 = 0 := by rw [hG]; exact getD_mid _ _ _ _ (by rw [List.length_take, HFN.out]; have := HK.out; omega)
              have HQ := Lib.hid (show IsOrd G Q ∧ G.length = N + 1 ∧ G.getD k 0 = 0 ∧ (∀ x ∈ G, x ≤ 2 ^ 40) ∧ (G.filter fun x => decide (0 < x)) = F.filter fun x => decide (0 < x) from ⟨hQ, by rw [hG, ← hge]; exact hgl, hgk, fun x hx => by
                rw [hG] at hx
                rcases List.mem_append.1 hx with h | h
                · exact HOK.out.1.top x (List.mem_of_mem_take h)
                · rcases List.mem_cons.1 h with rfl | h
                  · exact Nat.zero_le _
                  · exact HOK.out.1.top x (List.mem_of_mem_drop h), hfil⟩)
              have HLEN := Lib.hid (lim_len (.slice oa12 (N + 1) oc12) G Q L w5 HIG.out.viewL HOK.out.1.lo HOK.out.1.hi (by rw [HQ.out.2.1]; have := HB.out; omega) HQ.out.2.2.2.1 hQ (by rw [hQl]; exact HOK.out.2))
              have HEXT := Lib.hid (show Ext w w5 from (HBO.out.toExt.trans (by rw [HI.out.2]; exact (Ext.refl w1).drewN m)).trans hiog.toExt)
              have HE1 := Lib.hid (show Ext w1 w5 from (show Ext w1 wr by rw [HI.out.2]; exact (Ext.refl w1).drewN m).trans hiog.toExt)
              clear hgl hge hG hiog hQ hfil hQl hgk HG
              go_wp2_with fail
              refine Calls.mono HLEN.out ?_
              rintro e w6 ⟨mv, rfl, hmb⟩
              have HM := Lib.hid hmb
              obtain ⟨ma, mc, hmv⟩ := hmb.viewL.shape
              rw [length_u8s, lensP_len, HQ.out.2.1] at hmv
              subst hmv
              obtain ⟨mb, mof, e2, c2⟩ : ∃ mb mof, ma = some ⟨mb, mof, none⟩ ∧ w6.cell? ⟨mb, mof + k, none⟩ = some (.int .u8 0) := by
                have h := HM.out.viewL
                obtain ⟨b, o, e, _, hc⟩ := viewL_cells h (by rw [length_u8s, lensP_len, HQ.out.2.1]; omega)
                refine ⟨b, o, e, hc k _ ?_⟩
                have hkl : k < G.length := by rw [HQ.out.2.1]; have := HK.out; omega
                have h0 : lenP G Q (L - 1) k = 0 := lenP_nought HQ.out.1 (L - 1) HQ.out.2.2.1
                simp [u8s, lensP, hkl, h0]
              cases e2
              have hsA := lim_sum G (lensP G Q (L - 1)) (.slice oa12 (N + 1) oc12) (.slice (some ⟨mb, mof, none⟩) (N + 1) mc) w6 (HIG.out.viewL.ext hmb.toExt) hmb.viewL (fun z hz => by have := HQ.out.2.2.2.1 z hz; omega) (fun z hz => by have := lensP_le G Q (L - 1) z hz; have := HOK.out.1.hi; omega) (by rw [HQ.out.2.1]; have := HB.out; omega) (lensP_len G Q (L - 1))
              have hsB := fun w7 (hx : Ext w6 w7) => lim_sum F (lensP F P (L - 1)) (.slice ao N cap) (.slice la N lc) w7 (HVF.out w7 ((HE1.out.trans HM.out.toExt).trans hx)) ((HBO.out.viewL.ext (HE1.out.trans HM.out.toExt)).ext hx) (fun z hz => by have := HOK.out.1.top z hz; omega) (fun z hz => by have := lensP_le F P (L - 1) z hz; have := HOK.out.1.hi; omega) (by rw [HFN.out]; have := HB.out; omega) (lensP_len F P (L - 1))
              obtain ⟨A, hA⟩ : ∃ A, A = costF F (lenP F P (L - 1)) := ⟨_, rfl⟩
              have hAG : A = costF G (lenP G Q (L - 1)) := by rw [hA]; exact (costP_same HQ.out.1 HOK.out.1.ord (L - 1) (by rw [HQ.out.2.2.2.2])).symm
              rw [sumTo_cost, ← hAG] at hsA
              rw [sumTo_cost, ← hA] at hsB
              have HSA := Lib.hid hsA
              have HSB := Lib.hid hsB
              obtain ⟨N2, hN2⟩ : ∃ N2, N2 = N + 1 := ⟨_, rfl⟩
              have hkN2 : (k : Int) < (N : Int) + 1 := by have := HK.out; omega
              have wN2 : IntKind.i64.wrap ((N : Int) + 1) = (N : Int) + 1 := IntWalk.i64_in _ (by have := HB.out; omega)
              clear hmb hsA hsB hA hAG HLEN hN2 wk0 wN hN0n hN0z hN0 wk
              go_wp2_with fail
              refine Calls.mono HSA.out ?_
              rintro e w7 ⟨rfl, hx7⟩
              have HX7 := Lib.hid hx7
              clear HSA hx7
              go_wp2_with fail
              refine Calls.mono (HSB.out w7 HX7.out) ?_
              rintro e w8 ⟨rfl, hx8⟩
              have HX8 := Lib.hid hx8
              clear HSB hx8
              go_wp2_with fail
              refine (lim_picks w8).mono ?_
              rintro e w9 ⟨rfl, hx9⟩
              have HX9 := Lib.hid hx9
              clear hx9 wN2 hkN2 c2
              go_wp2_with fail
              go_ret
              exact ⟨rfl, HEXT.out.trans (HM.out.toExt.trans (HX7.out.trans (HX8.out.trans HX9.out)))⟩
          · have HPB := Lib.hid (show ∀ wx, Ext wr wx → ViewL wx (.slice (ao.map fun x => x.add k) (N - k) (cap - k)) (intsL (F.drop k)) from fun wx hx => by
              have h := hpl.piece k (N - k) (by rw [length_intsL, HFN.out]; have := HK.out; omega) hci
              have e : ((intsL F).drop k).take (N - k) = intsL (F.drop k) := by
                rw [List.take_of_length_le (by rw [List.length_drop, length_intsL, HFN.out]; exact Nat.le_refl _), intsL, intsL, List.map_drop]
              rw [e] at h
              exact h.ext hx)
            clear hpl hpc hcapN
            refine wp_region_owns 162 [0, 11] [116, 117, 118, 119, 120, 121, 122, 123, 124, 125, 126, 12] [0, 4, 5, 6, 10, 11] (fun _ => False) [(12, .slice ao N cap), (23, .int .i64 k), (1, .slice ao N cap), (2, .int .i64 k), (3, .slice ao k cap), (7, .slice ao N cap), (8, .int .i64 k), (9, .slice (ao.map fun x => x.add k) (N - k) (cap - k))] [(0, wOwn 3 (intsL ([]))), (4, wOwn 3 (intsL (F.take k))), (5, wOwn 3 (intsL ([0]))), (6, wOwn 3 (intsL (F.take k ++ [0]))), (10, wOwn 3 (intsL ((F.take k ++ [0]) ++ F.drop k))), (11, wOwn 3 (intsL ((F.take k ++ [0]) ++ F.drop k)))] (by kernel_rfl) rfl (by kernel_rfl) (by kernel_rfl) rfl ?base ⟨?_, ?_, ?_, ?_, ?_, ?_, ?_, ?_, ?_, ?_, ?_, ?_, trivial⟩ ?fin
            case base =>
              refine BaseD.one 1 (fun _ => False) (fun hm0 => absurd hm0 (by decide)) (fun k f => f.elim) (fun t ht _ => ?_)
              simp only [List.mem_cons, List.not_mem_nil, or_false] at ht
              rcases ht with rfl | rfl
              · exact PhiD.ofVal rfl rfl
              · exact PhiD.ofVal rfl rfl
            · refine OblD.gen (fun ev w1 Ss hE hT hk hd hs => ?_)
              obtain ⟨hc, hf, hg⟩ := hE
              clear hk
              exact ⟨rfl, .slice (some ⟨w1.heap.size, 0, none⟩) 0 0, w1.alloc (.cells #[] 3), fun g => g = w1.heap.size, by go_simp, (Touch.refl _ w1).alloc _, fun g e => Or.inr (by rw [e]; exact Nat.le_refl _), PhiD.ofWord rfl ⟨some w1.heap.size, ⟨ownsRow_zero (World.ownsRow_made w1 #[] 0 (Nat.le_refl _) (by decide) rfl), rfl⟩, fun g => ⟨fun e => by rw [e], fun e => by cases e; rfl⟩⟩⟩
            · refine OblD.val (.slice ao N cap) (fun ev w1 Ss hE hT hk => ?_) (fun _ => PhiD.ofVal rfl rfl)
              obtain ⟨hc, hf, hg⟩ := hE
              have h0 := PhiD.fact (kn (k' := 12) hk.1 (by kernel_rfl)) rfl rfl
              clear hk
              exact ⟨rfl, by go_simp⟩
            · refine OblD.val (.int .i64 k) (fun ev w1 Ss hE hT hk => ?_) (fun _ => PhiD.ofVal rfl rfl)
              obtain ⟨hc, hf, hg⟩ := hE
              have h0 := PhiD.fact (kn (k' := 23) hk.1 (by kernel_rfl)) rfl rfl
              clear hk
              exact ⟨rfl, by go_simp⟩
            · refine OblD.val (.slice ao k cap) (fun ev w1 Ss hE hT hk => ?_) (fun _ => PhiD.ofVal rfl rfl)
              obtain ⟨hc, hf, hg⟩ := hE
              have h0 := PhiD.fact (kn (k' := 1) hk.1 (by kernel_rfl)) rfl rfl; have h1 := PhiD.fact (kn (k' := 2) hk.2.1 (by kernel_rfl)) rfl rfl
              clear hk
              have kN := HKZ.out.1; have kc := HKZ.out.2.1; have kz := HKZ.out.2.2
              exact ⟨rfl, by go_simp⟩
            · refine OblD.gen (fun ev w1 Ss hE hT hk hd hs => ?_)
              obtain ⟨hc, hf, hg⟩ := hE
              have h0 := PhiD.word (kn (k' := 0) hk.1 (by kernel_rfl)) rfl; have h1 := PhiD.fact (kn (k' := 3) hk.2.1 (by kernel_rfl)) rfl rfl
              clear hk
              obtain ⟨og, k1, k2⟩ := h0
              have hview : ViewL w1 (ev (.tmp 119)) (intsL (F.take k)) := by rw [h1]; exact HPA.out w1 hT.drew_l
              obtain ⟨v', w2, r1, r2, r3, r4⟩ := run_append_view (P := Try.prog) w1 0 24 24 3 i0 (.int .i64 0) 8 Try.underlying24 hi hz0' hz1 hz2 rfl (ev (.tmp 116)) (intsL ([])).length (intsL ([])) k1.1 (ev (.tmp 119)) (intsL (F.take k)) hview (ints_one' _) (by have := HLS.out; unfold maxLen; omega) (by have := HLS.out; omega) (Nat.zero_le _)
              refine ⟨rfl, v', w2, fun g => v'.ownBlock = some g, by simp [execOp, resolve, invoke, builtin, r1, Result.andThen], (Touch.refl _ w1).grown r3 (fun k e => Or.inl (handed_of 0 (by kernel_rfl) ((k2 k).2 (by rw [← k1.2]; exact e)))), fun k e => ?_, PhiD.ofWord rfl ⟨v'.ownBlock, ⟨(by first | (rw [intsL_append, List.length_append]; exact r2) | exact r2 | simpa [intsL] using r2), rfl⟩, fun _ => Iff.rfl⟩⟩
              rcases r4 with r4 | r4
              · exact Or.inl (handed_of 0 (by kernel_rfl) ((k2 k).2 (by rw [← k1.2, ← r4]; exact e)))
              · rw [r4] at e; cases e; exact Or.inr (Nat.le_refl _)
            · refine OblD.gen (fun ev w1 Ss hE hT hk hd hs => ?_)
              obtain ⟨hc, hf, hg⟩ := hE
              clear hk
              exact ⟨rfl, .slice (some ⟨w1.heap.size, 0, none⟩) 1 1, w1.alloc (.cells #[.int .i64 0] 3), fun g => g = w1.heap.size, by go_simp, (Touch.refl _ w1).alloc _, fun g e => Or.inr (by rw [e]; exact Nat.le_refl _), PhiD.ofWord rfl ⟨some w1.heap.size, ⟨World.ownsRow_lit w1 #[.int .i64 0] 1 (Nat.zero_le _) (by decide) rfl, rfl⟩, fun g => ⟨fun e => by rw [e], fun e => by cases e; rfl⟩⟩⟩
            · refine OblD.gen (fun ev w1 Ss hE hT hk hd hs => ?_)
              obtain ⟨hc, hf, hg⟩ := hE
              have h0 := PhiD.word (kn (k' := 4) hk.1 (by kernel_rfl)) rfl; have h1 := PhiD.word (kn (k' := 5) hk.2.1 (by kernel_rfl)) rfl
              clear hk
              obtain ⟨og, k1, k2⟩ := h0
              obtain ⟨og9, k5, k6⟩ := h1
              have hview := k5.viewL
              obtain ⟨v', w2, r1, r2, r3, r4⟩ := run_append_view (P := Try.prog) w1 0 24 24 3 i0 (.int .i64 0) 8 Try.underlying24 hi hz0' hz1 hz2 rfl (ev (.tmp 120)) (intsL (F.take k)).length (intsL (F.take k)) k1.1 (ev (.tmp 121)) (intsL ([0])) hview (ints_one' _) (by have := HLS.out; unfold maxLen; omega) (by have := HLS.out; omega) (Nat.zero_le _)
              refine ⟨rfl, v', w2, fun g => v'.ownBlock = some g, by simp [execOp, resolve, invoke, builtin, r1, Result.andThen], (Touch.refl _ w1).grown r3 (fun k e => Or.inl (handed_of 4 (by kernel_rfl) ((k2 k).2 (by rw [← k1.2]; exact e)))), fun k e => ?_, PhiD.ofWord rfl ⟨v'.ownBlock, ⟨(by first | (rw [intsL_append, List.length_append]; exact r2) | exact r2 | simpa [intsL] using r2), rfl⟩, fun _ => Iff.rfl⟩⟩
              rcases r4 with r4 | r4
              · exact Or.inl (handed_of 4 (by kernel_rfl) ((k2 k).2 (by rw [← k1.2, ← r4]; exact e)))
              · rw [r4] at e; cases e; exact Or.inr (Nat.le_refl _)
            · refine OblD.val (.slice ao N cap) (fun ev w1 Ss hE hT hk => ?_) (fun _ => PhiD.ofVal rfl rfl)
              obtain ⟨hc, hf, hg⟩ := hE
              have h0 := PhiD.fact (kn (k' := 12) hk.1 (by kernel_rfl)) rfl rfl
              clear hk
              exact ⟨rfl, by go_simp⟩
            · refine OblD.val (.int .i64 k) (fun ev w1 Ss hE hT hk => ?_) (fun _ => PhiD.ofVal rfl rfl)
              obtain ⟨hc, hf, hg⟩ := hE
              have h0 := PhiD.fact (kn (k' := 23) hk.1 (by kernel_rfl)) rfl rfl
              clear hk
              exact ⟨rfl, by go_simp⟩
            · refine OblD.val (.slice (ao.map fun x => x.add k) (N - k) (cap - k)) (fun ev w1 Ss hE hT hk => ?_) (fun _ => PhiD.ofVal rfl rfl)
              obtain ⟨hc, hf, hg⟩ := hE
              have h0 := PhiD.fact (kn (k' := 7) hk.1 (by kernel_rfl)) rfl rfl; have h1 := PhiD.fact (kn (k' := 8) hk.2.1 (by kernel_rfl)) rfl rfl
              clear hk
              have kN := HKZ.out.1; have kc := HKZ.out.2.1; have kz := HKZ.out.2.2
              exact ⟨rfl, by go_simp⟩
            · refine OblD.gen (fun ev w1 Ss hE hT hk hd hs => ?_)
              obtain ⟨hc, hf, hg⟩ := hE
              have h0 := PhiD.word (kn (k' := 6) hk.1 (by kernel_rfl)) rfl; have h1 := PhiD.fact (kn (k' := 9) hk.2.1 (by kernel_rfl)) rfl rfl
              clear hk
              obtain ⟨og, k1, k2⟩ := h0
              have hview : ViewL w1 (ev (.tmp 125)) (intsL (F.drop k)) := by rw [h1]; exact HPB.out w1 hT.drew_l
              obtain ⟨v', w2, r1, r2, r3, r4⟩ := run_append_view (P := Try.prog) w1 0 24 24 3 i0 (.int .i64 0) 8 Try.underlying24 hi hz0' hz1 hz2 rfl (ev (.tmp 122)) (intsL (F.take k ++ [0])).length (intsL (F.take k ++ [0])) k1.1 (ev (.tmp 125)) (intsL (F.drop k)) hview (ints_one' _) (by have := HLS.out; unfold maxLen; omega) (by have := HLS.out; omega) (Nat.zero_le _)
              refine ⟨rfl, v', w2, fun g => v'.ownBlock = some g, by simp [execOp, resolve, invoke, builtin, r1, Result.andThen], (Touch.refl _ w1).grown r3 (fun k e => Or.inl (handed_of 6 (by kernel_rfl) ((k2 k).2 (by rw [← k1.2]; exact e)))), fun k e => ?_, PhiD.ofWord rfl ⟨v'.ownBlock, ⟨(by first | (rw [intsL_append, List.length_append]; exact r2) | exact r2 | simpa [intsL] using r2), rfl⟩, fun _ => Iff.rfl⟩⟩
              rcases r4 with r4 | r4
              · exact Or.inl (handed_of 6 (by kernel_rfl) ((k2 k).2 (by rw [← k1.2, ← r4]; exact e)))
              · rw [r4] at e; cases e; exact Or.inr (Nat.le_refl _)
            · refine OblD.gen (fun ev w1 Ss hE hT hk hd hs => ?_)
              obtain ⟨hc, hf, hg⟩ := hE
              have h0 := PhiD.word (kn (k' := 10) hk.1 (by kernel_rfl)) rfl
              clear hk
              exact ⟨rfl, ev (.tmp 126), w1, Ss 10, by go_simp, Touch.refl _ _, fun k e => Or.inl (handed_of 10 (by kernel_rfl) e), PhiD.ofWord rfl h0⟩
            case fin =>
              intro vs w5 Ss hT hF hB
              have h5 := (hF 11 _ 12 rfl rfl (by kernel_rfl)).1.word rfl
              have h6 := (hF 11 _ 12 rfl rfl (by kernel_rfl)).2
              obtain ⟨og, k1, k2⟩ := h5
              clear hF hB
              simp only [List.foldl_cons, List.foldl_nil]
              generalize vs 116 = x116 at *
              generalize vs 117 = x117 at *
              generalize vs 118 = x118 at *
              generalize vs 119 = x119 at *
              generalize vs 120 = x120 at *
              generalize vs 121 = x121 at *
              generalize vs 122 = x122 at *
              generalize vs 123 = x123 at *
              generalize vs 124 = x124 at *
              generalize vs 125 = x125 at *
              generalize vs 126 = x126 at *
              generalize vs 12 = x12 at *
              simp only [Act.put, List.setIfInBounds_toArray, List.set_cons_succ, List.set_cons_zero]
              have HG := Lib.hid (show IOn wr ((F.take k ++ [0]) ++ F.drop k) x12 w5 from ⟨og, (by rw [length_intsL] at k1; exact k1), fun g e => by rcases h6 g ((k2 g).2 e) with f | f; exact f.elim; exact f, hT⟩)
              clear k1 k2 h6 hT
              obtain ⟨oa12, oc12, ex12⟩ := HG.out.shape
              have hgl : ((F.take k ++ [0]) ++ F.drop k).length = N + 1 := by rw [List.length_append, List.length_append, List.length_take, List.length_drop, HFN.out]; have := HK.out; simp; omega
              rw [hgl] at ex12
              subst ex12
              have hge : (F.take k ++ [0]) ++ F.drop k = F.take k ++ 0 :: F.drop k := by simp
              obtain ⟨G, hG⟩ : ∃ G, G = F.take k ++ 0 :: F.drop k := ⟨_, rfl⟩
              have hiog := HG.out
              rw [hge, ← hG] at hiog
              have HIG := Lib.hid hiog
              obtain ⟨Q, hQ⟩ := ord_exists G
              have hfil : (G.filter fun x => decide (0 < x)) = F.filter fun x => decide (0 < x) := by rw [hG]; exact nought_in F k
              have hQl : Q.length = P.length := by rw [ord_len hQ, ord_len HOK.out.1.ord, hfil]
              have hgk : G.getD k 0 = 0 := by rw [hG]; exact getD_mid _ _ _ _ (by rw [List.length_take, HFN.out]; have := HK.out; omega)
              have HQ := Lib.hid (show IsOrd G Q ∧ G.length = N + 1 ∧ G.getD k 0 = 0 ∧ (∀ x ∈ G, x ≤ 2 ^ 40) ∧ (G.filter fun x => decide (0 < x)) = F.filter fun x => decide (0 < x) from ⟨hQ, by rw [hG, ← hge]; exact hgl, hgk, fun x hx => by
                rw [hG] at hx
                rcases List.mem_append.1 hx with h | h
                · exact HOK.out.1.top x (List.mem_of_mem_take h)
                · rcases List.mem_cons.1 h with rfl | h
                  · exact Nat.zero_le _
                  · exact HOK.out.1.top x (List.mem_of_mem_drop h), hfil⟩)
              have HLEN := Lib.hid (lim_len (.slice oa12 (N + 1) oc12) G Q L w5 HIG.out.viewL HOK.out.1.lo HOK.out.1.hi (by rw [HQ.out.2.1]; have := HB.out; omega) HQ.out.2.2.2.1 hQ (by rw [hQl]; exact HOK.out.2))
              have HEXT := Lib.hid (show Ext w w5 from (HBO.out.toExt.trans (by rw [HI.out.2]; exact (Ext.refl w1).drewN m)).trans hiog.toExt)
              have HE1 := Lib.hid (show Ext w1 w5 from (show Ext w1 wr by rw [HI.out.2]; exact (Ext.refl w1).drewN m).trans hiog.toExt)
              clear hgl hge hG hiog hQ hfil hQl hgk HG
              go_wp2_with fail
              refine Calls.mono HLEN.out ?_
              rintro e w6 ⟨mv, rfl, hmb⟩
              have HM := Lib.hid hmb
              obtain ⟨ma, mc, hmv⟩ := hmb.viewL.shape
              rw [length_u8s, lensP_len, HQ.out.2.1] at hmv
              subst hmv
              obtain ⟨mb, mof, e2, c2⟩ : ∃ mb mof, ma = some ⟨mb, mof, none⟩ ∧ w6.cell? ⟨mb, mof + k, none⟩ = some (.int .u8 0) := by
                have h := HM.out.viewL
                obtain ⟨b, o, e, _, hc⟩ := viewL_cells h (by rw [length_u8s, lensP_len, HQ.out.2.1]; omega)
                refine ⟨b, o, e, hc k _ ?_⟩
                have hkl : k < G.length := by rw [HQ.out.2.1]; have := HK.out; omega
                have h0 : lenP G Q (L - 1) k = 0 := lenP_nought HQ.out.1 (L - 1) HQ.out.2.2.1
                simp [u8s, lensP, hkl, h0]
              cases e2
              have hsA := lim_sum G (lensP G Q (L - 1)) (.slice oa12 (N + 1) oc12) (.slice (some ⟨mb, mof, none⟩) (N + 1) mc) w6 (HIG.out.viewL.ext hmb.toExt) hmb.viewL (fun z hz => by have := HQ.out.2.2.2.1 z hz; omega) (fun z hz => by have := lensP_le G Q (L - 1) z hz; have := HOK.out.1.hi; omega) (by rw [HQ.out.2.1]; have := HB.out; omega) (lensP_len G Q (L - 1))
              have hsB := fun w7 (hx : Ext w6 w7) => lim_sum F (lensP F P (L - 1)) (.slice ao N cap) (.slice la N lc) w7 (HVF.out w7 ((HE1.out.trans HM.out.toExt).trans hx)) ((HBO.out.viewL.ext (HE1.out.trans HM.out.toExt)).ext hx) (fun z hz => by have := HOK.out.1.top z hz; omega) (fun z hz => by have := lensP_le F P (L - 1) z hz; have := HOK.out.1.hi; omega) (by rw [HFN.out]; have := HB.out; omega) (lensP_len F P (L - 1))
              obtain ⟨A, hA⟩ : ∃ A, A = costF F (lenP F P (L - 1)) := ⟨_, rfl⟩
              have hAG : A = costF G (lenP G Q (L - 1)) := by rw [hA]; exact (costP_same HQ.out.1 HOK.out.1.ord (L - 1) (by rw [HQ.out.2.2.2.2])).symm
              rw [sumTo_cost, ← hAG] at hsA
              rw [sumTo_cost, ← hA] at hsB
              have HSA := Lib.hid hsA
              have HSB := Lib.hid hsB
              obtain ⟨N2, hN2⟩ : ∃ N2, N2 = N + 1 := ⟨_, rfl⟩
              have hkN2 : (k : Int) < (N : Int) + 1 := by have := HK.out; omega
              have wN2 : IntKind.i64.wrap ((N : Int) + 1) = (N : Int) + 1 := IntWalk.i64_in _ (by have := HB.out; omega)
              clear hmb hsA hsB hA hAG HLEN hN2 wk0 wN hN0n hN0z hN0 wk
              go_wp2_with fail
              refine Calls.mono HSA.out ?_
              rintro e w7 ⟨rfl, hx7⟩
              have HX7 := Lib.hid hx7
              clear HSA hx7
              go_wp2_with fail
              refine Calls.mono (HSB.out w7 HX7.out) ?_
              rintro e w8 ⟨rfl, hx8⟩
              have HX8 := Lib.hid hx8
              clear HSB hx8
              go_wp2_with fail
              refine (lim_picks w8).mono ?_
              rintro e w9 ⟨rfl, hx9⟩
              have HX9 := Lib.hid hx9
              clear hx9 wN2 hkN2 c2
              go_wp2_with fail
              go_ret
              exact ⟨rfl, HEXT.out.trans (HM.out.toExt.trans (HX7.out.trans (HX8.out.trans HX9.out)))⟩
end Go.Proofs.Ytblbggdglndiiaa
