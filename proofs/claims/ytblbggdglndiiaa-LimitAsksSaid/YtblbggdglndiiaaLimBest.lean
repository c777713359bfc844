/- pressworklaw05.LimitBest: its walk. -/
import Derived.Test.YtblbggdglndiiaaLimBestLaw
namespace Go.Proofs.Ytblbggdglndiiaa
open Go.RowKit
set_option linter.unusedVariables false

def BeI (xs : List Int) (N : Nat) (w : World) (vi : Value) (wr : World) : Prop := ∃ i : Nat, vi = .int .i64 i ∧ i ≤ N ∧ wr = w ∧ ∀ j, j < i → 0 ≤ xs.getD j 0 ∧ xs.getD j 0 ≤ 1099511627776
theorem nats_of {xs : List Int} (h : ∀ j, j < xs.length → 0 ≤ xs.getD j 0 ∧ xs.getD j 0 ≤ 1099511627776) : xs = (xs.map Int.toNat).map (fun (x : Nat) => (x : Int)) ∧ ∀ x ∈ xs.map Int.toNat, x ≤ 2 ^ 40 := by
  have h5 : ∀ x ∈ xs, 0 ≤ x ∧ x ≤ 1099511627776 := fun x hx => by
    obtain ⟨j, hj, rfl⟩ := List.getElem_of_mem hx
    have := h j hj
    simpa [List.getD, hj] using this
  refine ⟨?_, fun x hx => ?_⟩
  · rw [List.map_map]
    conv => lhs; rw [← List.map_id xs]
    refine List.map_congr_left fun x hx => ?_
    have := h5 x hx
    simp; omega
  · obtain ⟨y, hy, rfl⟩ := List.mem_map.1 hx
    have := h5 y hy
    omega
set_option maxHeartbeats 8000000 in
set_option maxRecDepth 100000 in
theorem lim_best (v : Value) (xs : List Int) (ov : Value) (os : List Nat) (lim : Int) (w : World) (hv : ViewL w v (kints .i64 xs) ∧ xs.length ≤ 140737488351232) (hwf : ∀ x ∈ xs, (Lit.int .i64 x).wf = true) (ho : View w ov os ∧ ViewL w ov (u8s os)) (hob : ∀ b ∈ os, b < 256) (hol : os.length ≤ 140737488351232) (hlim : -9223372036854775808 ≤ lim ∧ lim ≤ 9223372036854775807) :
    Calls Try.prog 9 #[v, ov, .int .i64 lim] w fun e w' => e = .returned (.bool true) ∧ Ext w w' := by
  obtain ⟨hv, hxl⟩ := hv
  have hvi : ViewL w v (ints xs) := hv
  obtain ⟨ao, cap, rfl⟩ := hvi.shape
  rw [length_ints] at hvi ⊢
  obtain ⟨N, hN⟩ : ∃ N, N = xs.length := ⟨_, rfl⟩
  rw [← hN] at hvi hxl ⊢
  have ho2 := ho.2
  obtain ⟨oa, oc, rfl⟩ := ho2.shape
  rw [length_u8s] at ho2 ⊢
  obtain ⟨M, hM⟩ : ∃ M, M = os.length := ⟨_, rfl⟩
  rw [← hM] at ho2 hol ⊢
  have HN := Lib.hid (And.intro hN hM)
  have HV := Lib.hid hvi
  have HO := Lib.hid (And.intro ho2 (And.intro hob hol))
  have hNz : (N : Int) < 4611686018427387904 := by omega
  have HC := Lib.hid (show ∀ j, j < N → ∃ b o, ao = some ⟨b, o, none⟩ ∧ w.cell? ⟨b, o + j, none⟩ = some (.int .i64 (xs.getD j 0)) from fun j hj => by
    obtain ⟨b, o, rfl, _, hc⟩ := viewL_cells hvi (by rw [length_ints]; omega)
    have hjl : j < xs.length := by omega
    refine ⟨b, o, rfl, hc j _ ?_⟩
    rw [getElem?_ints xs j hjl]; simp [List.getD, hjl])
  have HPK := Lib.hid (show ∀ wr, Ext w wr → Calls Try.prog 10 #[] wr fun e w' => e = .returned (.bool true) ∧ Ext w w' from fun wr hx => (lim_picks wr).mono fun e w' ⟨h1, h2⟩ => ⟨h1, hx.trans h2⟩)
  clear hv hvi hN hM hwf ho ho2 hob hol
  go_enter Try.func9, Try.ntmps9
  by_cases h200 : 200 < N
  · have hz : (200 : Int) < (N : Int) := by omega
    go_wp2_with fail
    refine Calls.mono (HPK.out w (Ext.refl w)) ?_
    rintro e w' ⟨rfl, hx⟩
    have HX := Lib.hid hx
    clear hx
    go_wp2_with fail
    go_ret
    exact ⟨rfl, HX.out⟩
  · have hz : ¬ (200 : Int) < (N : Int) := by omega
    have HB := Lib.hid (show N ≤ 200 from by omega)
    clear h200
    go_wp2_with fail
    clear hz
    go_loopw [7] (fun vi wr => BeI xs N w vi wr) (fun vi _ => N - (intOf vi).toNat)
    case atStart => exact ⟨0, by go_num, Nat.zero_le _, rfl, fun j h => by omega⟩
    case round =>
      obtain ⟨i, rfl, hiN, hwr, hall⟩ := hrel
      obtain rfl := hwr.symm
      have HI := Lib.hid (show i ≤ N ∧ ∀ j, j < i → 0 ≤ xs.getD j 0 ∧ xs.getD j 0 ≤ 1099511627776 from ⟨hiN, hall⟩)
      clear hiN hall
      by_cases hlt : i < N
      · have hltz : (i : Int) < (N : Int) := by omega
        obtain ⟨b, o, rfl, c⟩ := HC.out i hlt
        obtain ⟨x, hx⟩ : ∃ x, x = xs.getD i 0 := ⟨_, rfl⟩
        rw [← hx] at c
        obtain ⟨i1, hi1⟩ : ∃ i1, i1 = i + 1 := ⟨_, rfl⟩
        have wi : IntKind.i64.wrap ((i : Int) + 1) = (i1 : Int) := by rw [show (i : Int) + 1 = ((i1 : Nat) : Int) by omega]; exact IntWalk.i64_in _ (by omega)
        have HX := Lib.hid (show x = xs.getD i 0 ∧ i1 = i + 1 ∧ i < N from ⟨hx, hi1, hlt⟩)
        clear hx hi1 hlt
        by_cases hneg : x < 0
        · go_wp2_with fail
          refine Calls.mono (HPK.out _ (Ext.refl _)) ?_
          rintro e w' ⟨rfl, hx⟩
          have HXX := Lib.hid hx
          clear hx
          go_wp2_with fail
          go_ret
          exact ⟨rfl, HXX.out⟩
        · by_cases hbig : 1099511627776 < x
          · go_wp2_with fail
            refine Calls.mono (HPK.out _ (Ext.refl _)) ?_
            rintro e w' ⟨rfl, hx⟩
            have HXX := Lib.hid hx
            clear hx
            go_wp2_with fail
            go_ret
            exact ⟨rfl, HXX.out⟩
          · have HBG := Lib.hid (show 0 ≤ x ∧ x ≤ 1099511627776 from by omega)
            go_wp2_with fail
            refine ⟨⟨i1, rfl, by have := HX.out; omega, rfl, fun j hj => ?_⟩, by simp [intOf]; have := HX.out; omega⟩
            by_cases hji : j < i
            · exact HI.out.2 j hji
            · obtain rfl : j = i := by have := HX.out; omega
              rw [← HX.out.1]; exact HBG.out
      · have hltz : ¬ (i : Int) < (N : Int) := by omega
        have HTOP := Lib.hid (nats_of (xs := xs) fun j hj => HI.out.2 j (by have := HN.out.1; omega))
        clear hlt
        by_cases hl1 : lim < 1
        · go_wp2_with fail
          refine Calls.mono (HPK.out _ (Ext.refl _)) ?_
          rintro e w' ⟨rfl, hx⟩
          have HXX := Lib.hid hx
          clear hx
          go_wp2_with fail
          go_ret
          exact ⟨rfl, HXX.out⟩
        · by_cases hl17 : 17 < lim
          · go_wp2_with fail
            refine Calls.mono (HPK.out _ (Ext.refl _)) ?_
            rintro e w' ⟨rfl, hx⟩
            have HXX := Lib.hid hx
            clear hx
            go_wp2_with fail
            go_ret
            exact ⟨rfl, HXX.out⟩
          · obtain ⟨L, rfl⟩ := Int.eq_ofNat_of_zero_le (show 0 ≤ lim by omega)
            obtain ⟨F, hF⟩ : ∃ F, F = xs.map Int.toNat := ⟨_, rfl⟩
            obtain ⟨P, hP⟩ := ord_exists F
            have HL := Lib.hid (show 1 ≤ L ∧ L ≤ 17 from by omega)
            have HF := Lib.hid (show xs = F.map (fun (x : Nat) => (x : Int)) ∧ (∀ x ∈ F, x ≤ 2 ^ 40) ∧ F.length = N ∧ IsOrd F P from ⟨by rw [hF]; exact HTOP.out.1, by rw [hF]; exact HTOP.out.2, by rw [hF, List.length_map, HN.out.1], hP⟩)
            clear hF hP HTOP
            have HVF := Lib.hid (show ∀ wr, Ext w wr → ViewL wr (.slice ao N cap) (intsL F) from fun wr hx => by rw [← ints_nat HF.out.1]; exact HV.out.ext hx)
            have HOV := Lib.hid (show ∀ wr, Ext w wr → ViewL wr (.slice oa M oc) (u8s os) from fun wr hx => HO.out.1.ext hx)
            have HCH := Lib.hid (lim_choice F os (.slice ao N cap) (.slice oa M oc) L w (HVF.out w (Ext.refl w)) (HOV.out w (Ext.refl w)) (by rw [HF.out.2.2.1]; have := HB.out; omega) (by rw [← HN.out.2]; have := HO.out.2.2; omega) HO.out.2.1 HL.out.2)
            go_wp2_with fail
            refine Calls.mono HCH.out ?_
            rintro e w1 ⟨b, rfl, hb, m, hw1⟩
            have HX1 := Lib.hid (show Ext w w1 from by rw [hw1]; exact (Ext.refl w).drewN m)
            have HBC := Lib.hid hb
            clear hb hw1 HCH
            cases b with
            | false =>
              go_wp2_with fail
              refine Calls.mono (HPK.out w1 HX1.out) ?_
              rintro e w' ⟨rfl, hx⟩
              have HXX := Lib.hid hx
              clear hx
              go_wp2_with fail
              go_ret
              exact ⟨rfl, HXX.out⟩
            | true =>
              have HCC := Lib.hid (HBC.out.1 rfl)
              have HR := Lib.hid (show P.length ≤ 2 ^ L from choice_room HF.out.2.2.2 HCC.out HL.out.2)
              have HLEN := Lib.hid (lim_len (.slice ao N cap) F P L w1 (HVF.out w1 HX1.out) HL.out.1 HL.out.2 (by rw [HF.out.2.2.1]; have := HB.out; omega) HF.out.2.1 HF.out.2.2.2 HR.out)
              go_wp2_with fail
              refine Calls.mono HLEN.out ?_
              rintro e w2 ⟨lv, rfl, hbo⟩
              obtain ⟨la, lc, hlv⟩ := hbo.viewL.shape
              rw [length_u8s, lensP_len, HF.out.2.2.1] at hlv
              subst hlv
              have HX2 := Lib.hid (show Ext w w2 from HX1.out.trans hbo.toExt)
              have HLV := Lib.hid (show ∀ wr, Ext w2 wr → ViewL wr (.slice la N lc) (u8s (lensP F P (L - 1))) from fun wr hx => hbo.viewL.ext hx)
              have HOWN := Lib.hid (show Choice F (lensP F P (L - 1)) L from by
                have h := choice_own HF.out.2.2.2 (i := L - 1) (by have := HL.out; omega) (by rw [show L - 1 + 1 = L by have := HL.out; omega]; exact HR.out) (by rw [HF.out.2.2.1]; have := HB.out; omega)
                rw [show L - 1 + 1 = L by have := HL.out; omega] at h
                exact h)
              have HLE := Lib.hid (show sumTo F (lensP F P (L - 1)) F.length ≤ sumTo F os F.length from choice_least HF.out.2.2.2 (i := L - 1) (by have := HL.out; omega) (by rw [show L - 1 + 1 = L by have := HL.out; omega]; exact HR.out) (by rw [show L - 1 + 1 = L by have := HL.out; omega]; exact HCC.out))
              clear hbo HLEN
              have HCH2 := Lib.hid (lim_choice F (lensP F P (L - 1)) (.slice ao N cap) (.slice la N lc) L w2 (HVF.out w2 HX2.out) (HLV.out w2 (Ext.refl w2)) (by rw [HF.out.2.2.1]; have := HB.out; omega) (by rw [lensP_len, HF.out.2.2.1]; have := HB.out; omega) (fun z hz => by have := lensP_le F P (L - 1) z hz; have := HL.out; omega) HL.out.2)
              go_wp2_with fail
              refine Calls.mono HCH2.out ?_
              rintro e w3 ⟨b, rfl, hb, m, hw3⟩
              obtain rfl : b = true := hb.2 HOWN.out
              have HX3 := Lib.hid (show Ext w2 w3 from by rw [hw3]; exact (Ext.refl w2).drewN m)
              clear hb hw3 HCH2
              obtain ⟨A, hA⟩ : ∃ A, A = sumTo F (lensP F P (L - 1)) F.length := ⟨_, rfl⟩
              obtain ⟨B, hB⟩ : ∃ B, B = sumTo F os F.length := ⟨_, rfl⟩
              have hAB : (A : Int) ≤ (B : Int) := by have := HLE.out; omega
              have hsa := lim_sum F (lensP F P (L - 1)) (.slice ao N cap) (.slice la N lc) w3 (HVF.out w3 (HX2.out.trans HX3.out)) (HLV.out w3 HX3.out) (fun z hz => by have := HF.out.2.1 z hz; omega) (fun z hz => by have := lensP_le F P (L - 1) z hz; have := HL.out; omega) (by rw [HF.out.2.2.1]; have := HB.out; omega) (lensP_len F P (L - 1))
              have hsb := (fun w4 (hx : Ext w w4) => lim_sum F os (.slice ao N cap) (.slice oa M oc) w4 (HVF.out w4 hx) (HOV.out w4 hx) (fun z hz => by have := HF.out.2.1 z hz; omega) (fun z hz => by have := HO.out.2.1 z hz; omega) (by rw [HF.out.2.2.1]; have := HB.out; omega) HCC.out.len)
              rw [← hA] at hsa
              rw [← hB] at hsb
              have HSA := Lib.hid hsa
              have HSB := Lib.hid hsb
              clear hsa hsb hA hB
              go_wp2_with fail
              refine Calls.mono HSA.out ?_
              rintro e w4 ⟨rfl, hx4⟩
              have HX4 := Lib.hid (show Ext w w4 from (HX2.out.trans HX3.out).trans hx4)
              clear HSA hx4
              go_wp2_with fail
              refine Calls.mono (HSB.out w4 HX4.out) ?_
              rintro e w5 ⟨rfl, hx5⟩
              have HX5 := Lib.hid (show Ext w w5 from HX4.out.trans hx5)
              clear HSB hx5
              go_wp2_with fail
              refine Calls.mono (HPK.out w5 HX5.out) ?_
              rintro e w' ⟨rfl, hx⟩
              have HXX := Lib.hid hx
              clear hx
              go_wp2_with fail
              go_ret
              exact ⟨rfl, HXX.out⟩
end Go.Proofs.Ytblbggdglndiiaa
