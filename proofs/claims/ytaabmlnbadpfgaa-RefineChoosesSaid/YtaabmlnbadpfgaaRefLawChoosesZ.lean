/- RefineChooses: its walk. -/
import Derived.Test.YtaabmlnbadpfgaaRefLawCostsZ
import Derived.Test.YtaabmlnbadpfgaaBnd3
namespace Go.Proofs.Ytaabmlnbadpfgaa
open Go.RowKit Go.Shelf
set_option linter.unusedVariables false

theorem viewL_view {w : World} {v : Value} {L : List Nat} (h : ViewL w v (u8s L)) (h0 : 0 < L.length) : View w v L := by
  obtain ⟨ao, cap, rfl, _, _, h3⟩ := h
  rw [length_u8s] at h3 ⊢
  obtain ⟨b, o, rfl, hc⟩ := h3 h0
  refine Or.inr ⟨⟨b, o, none⟩, cap, rfl, fun j u hu => ?_⟩
  have e : (⟨b, o, none⟩ : Addr).add j = ⟨b, o + j, none⟩ := by unfold Addr.add; split <;> simp_all
  rw [e]; exact hc j u hu
theorem castZ_of {xs : List Int} {n : Int} (h : SymI xs n) : ∃ (sy : List Nat) (N : Nat), xs = castZ sy ∧ n = N ∧ (∀ s ∈ sy, s < N) := by
  refine ⟨xs.map Int.toNat, n.toNat, ?_, by have := h.1; omega, fun s hs => ?_⟩
  · rw [castZ, List.map_map]
    conv => lhs; rw [← List.map_id xs]
    exact List.map_congr_left fun x hx => by have := h.2.2.2.2 x hx; simp; omega
  · obtain ⟨x, hx, rfl⟩ := List.mem_map.1 hs
    have := h.2.2.2.2 x hx
    omega
set_option maxRecDepth 100000 in
set_option maxHeartbeats 4000000 in
theorem ref_law_chooses (v : Value) (xs : List Int) (n : Int) (w : World) (hv : ViewL w v (ints xs)) (hl : xs.length ≤ 140737488351232) (hn : -9223372036854775808 ≤ n ∧ n ≤ 9223372036854775807) :
    Calls Try.prog 4 #[v, .int .i64 n] w fun e w' => e = .returned (.bool true) ∧ Ext w w' := by
  obtain ⟨sa, sc, rfl⟩ := hv.shape
  simp only [length_ints] at hv ⊢
  obtain ⟨S, hS⟩ : ∃ S, S = xs.length := ⟨_, rfl⟩
  rw [← hS] at hv hl ⊢
  have HV := Lib.hid hv
  have HS := Lib.hid hS
  clear hv hS hn
  by_cases t3 : 3000 < S
  · have t3z : (3000 : Int) < (S : Int) := by omega
    clear t3 hl
    go_enter Try.func4, Try.ntmps4
    go_wp2_with fail
    go_ret
    exact ⟨rfl, Ext.refl w⟩
  have t3z : ¬ (3000 : Int) < (S : Int) := by omega
  have tS : (S : Int) ≤ 3000 := by omega
  have HT := Lib.hid (show S ≤ 3000 by omega)
  clear t3 hl
  obtain ⟨i0, hi, hz0, hz1, hz2⟩ := info_parts info_int
  have hls : (ints xs).length = S := by rw [length_ints]; exact HS.out.symm
  have HLS := Lib.hid hls
  have hM := HT.out
  clear hls
  go_enter Try.func4, Try.ntmps4
  go_wp2_with (at_builtin; go_must (refine wpList_append_view _ rfl (.tmp 19) (.tmp 20) 23 rfl w.heap.size 3 i0 (.int .i64 0) 8 Try.underlying23 hi hz0 hz1 hz2 rfl (.slice (some ⟨w.heap.size, 0, none⟩) 0 0) 0 [] rfl (World.ownsRow_made w #[] 0 (Nat.le_refl _) (by decide) rfl) _ (ints xs) rfl (HV.out.ext ((Ext.refl w).alloc _)) (ints_one xs) (by rw [HLS.out]; unfold maxLen; omega) (by rw [HLS.out]; omega) (by simp) ?_))
  intro inv w2 hown hgrow _
  obtain ⟨hv2, hx2⟩ := clone_ints rfl hown hgrow
  obtain ⟨ia, ic, rfl⟩ := hv2.shape
  rw [HLS.out] at hv2 ⊢
  have HV2 := Lib.hid hv2
  have HX2 := Lib.hid hx2
  clear hown hgrow hv2 hx2 hM hi hz0 hz1 hz2
  by_cases hsy : SymI xs n
  · obtain ⟨sy, N, rfl, rfl, hlt⟩ := castZ_of hsy
    have hSs : S = sy.length := by rw [HS.out, length_castZ]
    have hsb := hsy
    simp only [SymI, length_castZ] at hsb
    obtain ⟨P, hP⟩ : ∃ P, P = chPick sy N := ⟨_, rfl⟩
    have hn3 : 3 ≤ N ∧ N ≤ 258 := by omega
    have h0 : 0 < sy.length := by omega
    have hmany := chLs_many sy N P
    have hpc := pick_cost hn3 h0 (by omega) hlt
    rw [← hP] at hpc
    obtain ⟨G, hG⟩ : ∃ G, G = manyG S := ⟨_, rfl⟩
    have HK := Lib.hid (show S = sy.length ∧ 3 ≤ N ∧ N ≤ 258 ∧ 0 < S ∧ (∀ s ∈ sy, s < N) ∧ P = chPick sy N ∧ G = manyG S ∧ 2 ≤ (chLs sy N P).length ∧ (chLs sy N P).length ≤ 6 from ⟨hSs, hn3.1, hn3.2, by omega, hlt, hP, hG, hmany.1, hmany.2.1⟩)
    have HPC := Lib.hid hpc
    have HSY := Lib.hid hsy
    clear hsy hlt hSs hsb hP hn3 h0 hmany hpc hG
    have hchs : ∀ (a : Option Addr) (c : Nat) (wx : World), ViewL wx (.slice a S c) (ints (castZ sy)) → Calls Try.prog 11 #[.slice a S c, .int .i64 N] wx fun e w' => ∃ la lc ga gc, e = .returned (.tuple #[.slice la (chLs sy N P).length lc, .slice ga G gc, .int .i64 0]) ∧ RowsV w' (.slice la (chLs sy N P).length lc) (chLs sy N P) ∧ ViewL w' (.slice ga G gc) (ints (castZ (chCh sy N P))) ∧ Ext wx w' := fun a c wx hvx => by
      refine (choose_yes (.slice a S c) sy N wx (by rw [← ints_castZ]; exact hvx) (by have := HK.out; omega) (by have := HK.out; have := HT.out; omega) HK.out.2.2.2.2.1 HK.out.2.1 HK.out.2.2.1).mono ?_
      rintro e w' ⟨lv, gv, rfl, r1, r2, hx⟩
      rw [← HK.out.2.2.2.2.2.1] at r1 r2
      obtain ⟨la, lc, rfl⟩ := r1.shape
      obtain ⟨ga, gc, rfl⟩ := r2.shape
      have e2 : (intsL (chCh sy N P)).length = G := by rw [length_intsL, chCh_len, ← HK.out.1]; exact HK.out.2.2.2.2.2.2.1.symm
      rw [e2] at r2 ⊢
      exact ⟨la, lc, ga, gc, rfl, r1, by rw [ints_castZ]; exact r2, hx⟩
    have HCH := Lib.hid hchs
    clear hchs
    obtain ⟨m, hm⟩ : ∃ m, m = (chLs sy N P).length := ⟨_, rfl⟩
    rw [← hm] at HCH HK
    have HM := Lib.hid hm
    have hmz : (m : Int) ≤ 6 := by have := HK.out; omega
    have hNz : (N : Int) ≤ 258 := by have := HK.out; omega
    have hNz3 : (3 : Int) ≤ (N : Int) := by have := HK.out; omega
    clear hm
    go_wp2_with fail
    refine (HCH.out _ _ w2 HV2.out).mono ?_
    rintro e w3 ⟨la, lc, ga, gc, rfl, r1, r2, hx⟩
    have HR := Lib.hid (And.intro r1 r2)
    have HX3 := Lib.hid (HX2.out.trans hx)
    have HV3 := Lib.hid (HV2.out.ext hx)
    clear r1 r2 hx HX2 HV2
    go_wp2_with fail
    refine (ref_symbols _ (castZ sy) N w3 (HV.out.ext HX3.out) (by rw [← HS.out]; have := HT.out; omega)).mono ?_
    rintro e w' ⟨h | h, hw⟩
    rotate_left
    · exact (h.2 HSY.out).elim
    obtain ⟨rfl, _⟩ := h
    obtain rfl := hw
    go_wp2_with fail
    refine (HCH.out _ _ w3 HV3.out).mono ?_
    rintro e w4 ⟨la2, lc2, ga2, gc2, rfl, r1, r2, hx⟩
    have HR2 := Lib.hid (And.intro r1 r2)
    have HR1 := Lib.hid (And.intro (HR.out.1.ext hx) (HR.out.2.ext hx))
    have HX4 := Lib.hid (HX3.out.trans hx)
    have HV4 := Lib.hid (HV3.out.ext hx)
    clear r1 r2 hx HX3 HV3 HR HCH
    have HCL := Lib.hid (show (castZ (chCh sy N P)).length ≤ 2 ^ 40 ∧ (castZ sy).length ≤ 2 ^ 40 from by
      rw [length_castZ, chCh_len, ← HK.out.1, ← HK.out.2.2.2.2.2.2.1, length_castZ, ← HK.out.1]
      have := HT.out
      have : G ≤ 100 := by have := HK.out.2.2.2.2.2.2.1; unfold manyG at this; omega
      omega)
    go_wp2_with fail
    refine (ref_same _ _ _ _ w4 HR1.out.2 HR2.out.2 HCL.out.1 HCL.out.1).mono ?_
    rintro e w5 ⟨rfl, hx⟩
    rw [decide_eq_true rfl]
    have HR51 := Lib.hid (And.intro (HR1.out.1.ext hx) (HR1.out.2.ext hx))
    have HR52 := Lib.hid (HR2.out.1.ext hx)
    have HX5 := Lib.hid (HX4.out.trans hx)
    have HV5 := Lib.hid (HV4.out.ext hx)
    clear hx HX4 HV4 HR1 HR2
    go_wp2_with fail
    refine (ref_same _ _ _ _ w5 HV5.out (HV.out.ext HX5.out) HCL.out.2 HCL.out.2).mono ?_
    rintro e w6 ⟨rfl, hx⟩
    rw [decide_eq_true rfl]
    have HR61 := Lib.hid (And.intro (HR51.out.1.ext hx) (HR51.out.2.ext hx))
    have HR62 := Lib.hid (HR52.out.ext hx)
    have HX6 := Lib.hid (HX5.out.trans hx)
    clear hx HX5 HV5 HR51 HR52
    go_wp2_with fail
    go_loopw [12] (fun vi wr => ∃ i : Nat, vi = .int .i64 i ∧ i ≤ m ∧ Ext w6 wr) (fun vi _ => m - (intOf vi).toNat)
    case atStart => exact ⟨0, rfl, Nat.zero_le _, Ext.refl _⟩
    case round =>
      obtain ⟨i, rfl, him, hx⟩ := hrel
      have HX := Lib.hid hx
      by_cases hlt : i < m
      · have hltz : (i : Int) < (m : Int) := by omega
        obtain ⟨L, hLi⟩ : ∃ L, (chLs sy N P)[i]? = some L := ⟨_, List.getElem?_eq_getElem (show i < (chLs sy N P).length by have := HM.out; omega)⟩
        have hLn := chLs_len ⟨HK.out.2.1, HK.out.2.2.1⟩ P L (List.mem_of_getElem? hLi)
        obtain ⟨b1, o1, uo, uc, e1, c1, v1⟩ := (HR61.out.1.ext hx).at hLi hLn
        cases e1
        obtain ⟨b2, o2, uo2, uc2, e2, c2, v2⟩ := (HR62.out.ext hx).at hLi hLn
        cases e2
        have HC := Lib.hid (show ∀ wx, Ext wr wx → wx.cell? ⟨b1, o1 + i, none⟩ = some (.slice uo N uc) ∧ wx.cell? ⟨b2, o2 + i, none⟩ = some (.slice uo2 N uc2) ∧ View wx (.slice uo N uc) L ∧ View wx (.slice uo2 N uc2) L from fun wx hwx => ⟨cell_touch hwx c1 (fun f => f), cell_touch hwx c2 (fun f => f), viewL_view (v1.ext hwx) (by rw [hLn]; have := HK.out; omega), viewL_view (v2.ext hwx) (by rw [hLn]; have := HK.out; omega)⟩)
        have HLT := Lib.hid (show i < m ∧ L.length = N from ⟨hlt, hLn⟩)
        clear him hx hlt hLi hLn c1 c2 v1 v2
        go_wp2_with fail
        have hst : Stab (Phi [(6, .slice (some ⟨b1, o1, none⟩) m lc), (12, .int .i64 i), (9, .slice (some ⟨b2, o2, none⟩) m lc2), (1, .int .i64 N), (86, .slice (some ⟨b1, o1, none⟩) m lc), (87, .int .i64 i), (88, .pointer (some ⟨b1, o1 + i, none⟩)), (89, .slice uo N uc), (90, .string (strOf L)), (91, .slice (some ⟨b2, o2, none⟩) m lc2), (92, .int .i64 i), (93, .pointer (some ⟨b2, o2 + i, none⟩)), (94, .slice uo2 N uc2), (95, .string (strOf L)), (96, .bool false), (97, .bool false), (98, .slice (some ⟨b1, o1, none⟩) m lc), (99, .int .i64 i), (100, .pointer (some ⟨b1, o1 + i, none⟩)), (101, .slice uo N uc), (102, .int .i64 N), (103, .int .i64 N), (104, .bool false), (105, .bool false)] []) := Phi.stable (fun x hx => by cases hx)
        refine wp_region_grow_on 156 [6, 12, 9, 1] [86, 87, 88, 89, 90, 91, 92, 93, 94, 95, 96, 97, 98, 99, 100, 101, 102, 103, 104, 105] (by kernel_rfl) _ hst (by kernel_rfl) rfl rfl (fun _ => ⟨rfl, rfl, rfl, rfl, trivial⟩) ⟨?_, ?_, ?_, ?_, ?_, ?_, ?_, ?_, ?_, ?_, ?_, ?_, ?_, ?_, ?_, ?_, ?_, ?_, ?_, ?_, trivial⟩ ?fin
        · refine Obl.val (.slice (some ⟨b1, o1, none⟩) m lc) (fun ev w1 hc hf hg hev => ?_) (fun d hd w1 => by cases hd; rfl)
          have h0 : ev (.tmp 6) = .slice (some ⟨b1, o1, none⟩) m lc := hev.1
          exact ⟨rfl, by (clear hev; go_simp)⟩
        · refine Obl.val (.int .i64 i) (fun ev w1 hc hf hg hev => ?_) (fun d hd w1 => by cases hd; rfl)
          have h0 : ev (.tmp 12) = .int .i64 i := hev.1
          exact ⟨rfl, by (clear hev; go_simp)⟩
        · refine Obl.val (.pointer (some ⟨b1, o1 + i, none⟩)) (fun ev w1 hc hf hg hev => ?_) (fun d hd w1 => by cases hd; rfl)
          have h0 : ev (.tmp 86) = .slice (some ⟨b1, o1, none⟩) m lc := hev.1; have h1 : ev (.tmp 87) = .int .i64 i := hev.2.1
          clear hev
          have k := HLT.out.1
          exact ⟨rfl, by go_simp⟩
        · refine Obl.some (fun ev w1 hI hc hf hg hev => ?_)
          have h0 : ev (.tmp 88) = .pointer (some ⟨b1, o1 + i, none⟩) := hev.1
          clear hev
          have hI : Ext wr w1 := hI
          have k := (HC.out w1 hI).1
          exact ⟨rfl, .slice uo N uc, by go_simp, fun d hd => by cases hd; rfl⟩
        · refine Obl.some (fun ev w1 hI hc hf hg hev => ?_)
          have h0 : ev (.tmp 89) = .slice uo N uc := hev.1
          clear hev
          have hI : Ext wr w1 := hI
          have k := run_string_view (P := Try.prog) 24 9 5 (HC.out w1 hI).2.2.1 Try.underlying24 (by kernel_rfl) (by kernel_rfl)
          exact ⟨rfl, .string (strOf L), by go_simp, fun d hd => by cases hd; rfl⟩
        · refine Obl.val (.slice (some ⟨b2, o2, none⟩) m lc2) (fun ev w1 hc hf hg hev => ?_) (fun d hd w1 => by cases hd; rfl)
          have h0 : ev (.tmp 9) = .slice (some ⟨b2, o2, none⟩) m lc2 := hev.1
          exact ⟨rfl, by (clear hev; go_simp)⟩
        · refine Obl.val (.int .i64 i) (fun ev w1 hc hf hg hev => ?_) (fun d hd w1 => by cases hd; rfl)
          have h0 : ev (.tmp 12) = .int .i64 i := hev.1
          exact ⟨rfl, by (clear hev; go_simp)⟩
        · refine Obl.val (.pointer (some ⟨b2, o2 + i, none⟩)) (fun ev w1 hc hf hg hev => ?_) (fun d hd w1 => by cases hd; rfl)
          have h0 : ev (.tmp 91) = .slice (some ⟨b2, o2, none⟩) m lc2 := hev.1; have h1 : ev (.tmp 92) = .int .i64 i := hev.2.1
          clear hev
          have k := HLT.out.1
          exact ⟨rfl, by go_simp⟩
        · refine Obl.some (fun ev w1 hI hc hf hg hev => ?_)
          have h0 : ev (.tmp 93) = .pointer (some ⟨b2, o2 + i, none⟩) := hev.1
          clear hev
          have hI : Ext wr w1 := hI
          have k := (HC.out w1 hI).2.1
          exact ⟨rfl, .slice uo2 N uc2, by go_simp, fun d hd => by cases hd; rfl⟩
        · refine Obl.some (fun ev w1 hI hc hf hg hev => ?_)
          have h0 : ev (.tmp 94) = .slice uo2 N uc2 := hev.1
          clear hev
          have hI : Ext wr w1 := hI
          have k := run_string_view (P := Try.prog) 24 9 5 (HC.out w1 hI).2.2.2 Try.underlying24 (by kernel_rfl) (by kernel_rfl)
          exact ⟨rfl, .string (strOf L), by go_simp, fun d hd => by cases hd; rfl⟩
        · refine Obl.val (.bool false) (fun ev w1 hc hf hg hev => ?_) (fun d hd w1 => by cases hd; rfl)
          have h0 : ev (.tmp 90) = .string (strOf L) := hev.1; have h1 : ev (.tmp 95) = .string (strOf L) := hev.2.1
          exact ⟨rfl, by (clear hev; go_simp)⟩
        · refine Obl.val (.bool false) (fun ev w1 hc hf hg hev => ?_) (fun d hd w1 => by cases hd; rfl)
          have h0 : ev (.tmp 96) = .bool false := hev.1
          exact ⟨rfl, by (clear hev; go_simp)⟩
        · refine Obl.val (.slice (some ⟨b1, o1, none⟩) m lc) (fun ev w1 hc hf hg hev => ?_) (fun d hd w1 => by cases hd; rfl)
          have h0 : ev (.tmp 97) = .bool false := hev.1; have h1 : ev (.tmp 6) = .slice (some ⟨b1, o1, none⟩) m lc := hev.2.1
          exact ⟨wanted_of rfl rfl h0, by (clear hev; go_simp)⟩
        · refine Obl.val (.int .i64 i) (fun ev w1 hc hf hg hev => ?_) (fun d hd w1 => by cases hd; rfl)
          have h0 : ev (.tmp 97) = .bool false := hev.1; have h1 : ev (.tmp 12) = .int .i64 i := hev.2.1
          exact ⟨wanted_of rfl rfl h0, by (clear hev; go_simp)⟩
        · refine Obl.val (.pointer (some ⟨b1, o1 + i, none⟩)) (fun ev w1 hc hf hg hev => ?_) (fun d hd w1 => by cases hd; rfl)
          have h0 : ev (.tmp 97) = .bool false := hev.1; have h1 : ev (.tmp 98) = .slice (some ⟨b1, o1, none⟩) m lc := hev.2.1; have h2 : ev (.tmp 99) = .int .i64 i := hev.2.2.1
          clear hev
          have k := HLT.out.1
          exact ⟨wanted_of rfl rfl h0, by go_simp⟩
        · refine Obl.some (fun ev w1 hI hc hf hg hev => ?_)
          have h0 : ev (.tmp 97) = .bool false := hev.1; have h1 : ev (.tmp 100) = .pointer (some ⟨b1, o1 + i, none⟩) := hev.2.1
          clear hev
          have hI : Ext wr w1 := hI
          have k := (HC.out w1 hI).1
          exact ⟨wanted_of rfl rfl h0, .slice uo N uc, by go_simp, fun d hd => by cases hd; rfl⟩
        · refine Obl.val (.int .i64 N) (fun ev w1 hc hf hg hev => ?_) (fun d hd w1 => by cases hd; rfl)
          have h0 : ev (.tmp 97) = .bool false := hev.1; have h1 : ev (.tmp 101) = .slice uo N uc := hev.2.1
          exact ⟨wanted_of rfl rfl h0, by (clear hev; go_simp)⟩
        · refine Obl.val (.int .i64 N) (fun ev w1 hc hf hg hev => ?_) (fun d hd w1 => by cases hd; rfl)
          have h0 : ev (.tmp 97) = .bool false := hev.1; have h1 : ev (.tmp 1) = .int .i64 N := hev.2.1
          exact ⟨wanted_of rfl rfl h0, by (clear hev; go_simp)⟩
        · refine Obl.val (.bool false) (fun ev w1 hc hf hg hev => ?_) (fun d hd w1 => by cases hd; rfl)
          have h0 : ev (.tmp 97) = .bool false := hev.1; have h1 : ev (.tmp 102) = .int .i64 N := hev.2.1; have h2 : ev (.tmp 103) = .int .i64 N := hev.2.2.1
          exact ⟨wanted_of rfl rfl h0, by (clear hev; go_simp)⟩
        · refine Obl.val (.bool false) (fun ev w1 hc hf hg hev => ?_) (fun d hd w1 => by cases hd; rfl)
          have h0 : ev (.tmp 97) = .bool false := hev.1; have h1 : ev (.tmp 104) = .bool false := hev.2.1
          exact ⟨rfl, by (clear hev; go_simp)⟩
        case fin =>
          intro vs w5 he5 hf
          have e86 : vs 86 = .slice (some ⟨b1, o1, none⟩) m lc := hf 86 (by decide)
          have e87 : vs 87 = .int .i64 i := hf 87 (by decide)
          have e88 : vs 88 = .pointer (some ⟨b1, o1 + i, none⟩) := hf 88 (by decide)
          have e89 : vs 89 = .slice uo N uc := hf 89 (by decide)
          have e90 : vs 90 = .string (strOf L) := hf 90 (by decide)
          have e91 : vs 91 = .slice (some ⟨b2, o2, none⟩) m lc2 := hf 91 (by decide)
          have e92 : vs 92 = .int .i64 i := hf 92 (by decide)
          have e93 : vs 93 = .pointer (some ⟨b2, o2 + i, none⟩) := hf 93 (by decide)
          have e94 : vs 94 = .slice uo2 N uc2 := hf 94 (by decide)
          have e95 : vs 95 = .string (strOf L) := hf 95 (by decide)
          have e96 : vs 96 = .bool false := hf 96 (by decide)
          have e97 : vs 97 = .bool false := hf 97 (by decide)
          have e98 : vs 98 = .slice (some ⟨b1, o1, none⟩) m lc := hf 98 (by decide)
          have e99 : vs 99 = .int .i64 i := hf 99 (by decide)
          have e100 : vs 100 = .pointer (some ⟨b1, o1 + i, none⟩) := hf 100 (by decide)
          have e101 : vs 101 = .slice uo N uc := hf 101 (by decide)
          have e102 : vs 102 = .int .i64 N := hf 102 (by decide)
          have e103 : vs 103 = .int .i64 N := hf 103 (by decide)
          have e104 : vs 104 = .bool false := hf 104 (by decide)
          have e105 : vs 105 = .bool false := hf 105 (by decide)
          simp only [List.foldl_cons, List.foldl_nil]
          rw [e86, e87, e88, e89, e90, e91, e92, e93, e94, e95, e96, e97, e98, e99, e100, e101, e102, e103, e104, e105]
          simp only [Act.put, List.setIfInBounds_toArray, List.set_cons_succ, List.set_cons_zero]
          clear hf e86 e87 e88 e89 e90 e91 e92 e93 e94 e95 e96 e97 e98 e99 e100 e101 e102 e103 e104 e105
          have HE5 := Lib.hid (show Ext wr w5 from he5)
          clear he5
          go_wp2_with fail
          go_roundw
          case rel => exact ⟨i + 1, by go_num, by have := HLT.out.1; omega, HX.out.trans HE5.out⟩
          case measure => simp [intOf]; have := HLT.out.1; omega
      · have hltz : ¬ (i : Int) < (m : Int) := by omega
        have HX7 := Lib.hid (HX6.out.trans HX.out)
        have HR7 := Lib.hid (And.intro (HR61.out.1.ext HX.out) (HR61.out.2.ext HX.out))
        have HLL := Lib.hid (show ∀ L ∈ chLs sy N P, L.length ≤ 2 ^ 40 from fun L h => by rw [chLs_len ⟨HK.out.2.1, HK.out.2.2.1⟩ P L h]; have := HK.out; omega)
        have HFL := Lib.hid (show ∀ L ∈ chLs sy N 2, L.length ≤ 2 ^ 40 from fun L h => by rw [chLs_len ⟨HK.out.2.1, HK.out.2.2.1⟩ 2 L h]; have := HK.out; omega)
        have hG100 : (G : Int) ≤ 100 := by have := HT.out; have := HK.out.2.2.2.2.2.2.1; unfold manyG at this; omega
        have g1 : ((S : Int) + 49) / 50 = (G : Int) := by have := HK.out.2.2.2.2.2.2.1; unfold manyG at this; omega
        have g2 : ((S : Int) + 49).tdiv 50 = (G : Int) := by rw [Int.tdiv_eq_ediv_of_nonneg (by omega)]; exact g1
        clear him hx hlt HX HX6 HR61 HR62
        go_wp2_with fail
        refine (ref_cost25 _ _ _ (chLs sy N P) (castZ (chCh sy N P)) (castZ sy) wr HR7.out.1 HR7.out.2 (HV.out.ext HX7.out) HLL.out HCL.out.1 HCL.out.2 (by rw [← HM.out]; have := HK.out; omega)).mono ?_
        rintro e w8 ⟨rfl, hx⟩
        obtain ⟨z, hz⟩ : ∃ z, z = costZ (chLs sy N P) (castZ (chCh sy N P)) (castZ sy) := ⟨_, rfl⟩
        rw [← hz]
        have HZ := Lib.hid hz
        have HX8 := Lib.hid (HX7.out.trans hx)
        have HR8 := Lib.hid (And.intro (HR7.out.1.ext hx) (HR7.out.2.ext hx))
        clear hx hz HX7 HR7
        go_wp2_with fail
        refine (ref_flat25 N w8 HK.out.2.1 HK.out.2.2.1).mono ?_
        rintro e w9 ⟨fv, rfl, hbo⟩
        obtain ⟨og, ho, _, hx⟩ := hbo
        have HF1 := Lib.hid ho.viewL
        obtain ⟨fa, fc, e⟩ := ho.shape
        rw [flatL, List.length_replicate] at e
        subst e
        have HX9 := Lib.hid (HX8.out.trans hx)
        have HR9 := Lib.hid (And.intro (HR8.out.1.ext hx) (HR8.out.2.ext hx))
        clear hx ho HX8 HR8
        go_wp2_with fail
        refine (ref_flat25 N w9 HK.out.2.1 HK.out.2.2.1).mono ?_
        rintro e w10 ⟨fv, rfl, hbo⟩
        obtain ⟨og2, ho, _, hx⟩ := hbo
        have HF2 := Lib.hid ho.viewL
        have HF1' := Lib.hid (HF1.out.ext hx)
        obtain ⟨fa2, fc2, e⟩ := ho.shape
        rw [flatL, List.length_replicate] at e
        subst e
        have HX10 := Lib.hid (HX9.out.trans hx)
        have HR10 := Lib.hid (And.intro (HR9.out.1.ext hx) (HR9.out.2.ext hx))
        clear hx ho HX9 HR9 HF1
        obtain ⟨w11, hw11⟩ : ∃ w11, w11 = w10.alloc (.cells #[.slice fa N fc, .slice fa2 N fc2] 24) := ⟨_, rfl⟩
        have hx : Ext w10 w11 := by rw [hw11]; exact (Ext.refl _).alloc _
        have HRF := Lib.hid (show RowsV w11 (.slice (some ⟨w10.heap.size, 0, none⟩) 2 2) [flatL N, flatL N] by rw [hw11]; exact RowsV.two (heap_alloc_new w10 _) (HF1'.out.ext ((Ext.refl _).alloc _)) (HF2.out.ext ((Ext.refl _).alloc _)))
        have HX11 := Lib.hid (HX10.out.trans hx)
        have HR11 := Lib.hid (And.intro (HR10.out.1.ext hx) (HR10.out.2.ext hx))
        have HW11 := Lib.hid hw11
        obtain ⟨w12, hmk, hio⟩ := make_intsR w11 G (by omega)
        have HRF2 := Lib.hid (HRF.out.ext hio.toExt)
        have HX12 := Lib.hid (HX11.out.trans hio.toExt)
        have HR12 := Lib.hid (And.intro (HR11.out.1.ext hio.toExt) (HR11.out.2.ext hio.toExt))
        have HMK := Lib.hid hio.viewL
        rw [hw11] at hmk
        clear hx hw11 hio HX10 HR10 HRF HX11 HR11 HF1' HF2
        go_wp2_with fail
        rw [show (w10.alloc (.cells #[.slice fa N fc, .slice fa2 N fc2] 24)).heap.size = w10.heap.size + 1 from World.size_alloc _ _] at * 
        refine (ref_cost25 _ _ _ (chLs sy N 2) (castZ (chCh sy N 2)) (castZ sy) w12 HRF2.out ?_ (HV.out.ext HX12.out) HFL.out ?_ HCL.out.2 (by show 2 ≤ 2 ^ 40; omega)).mono ?_
        · rw [ints_castZ]
          have e2 : chCh sy N 2 = List.replicate G 0 := by rw [HK.out.2.2.2.2.2.2.1, HK.out.1]; rfl
          rw [e2]
          have h := HMK.out
          rw [HW11.out, World.size_alloc] at h
          exact h
        · rw [length_castZ, chCh_len, ← HK.out.1, ← HK.out.2.2.2.2.2.2.1]; omega
        rintro e w13 ⟨rfl, hx⟩
        obtain ⟨y, hy⟩ : ∃ y, y = costZ (chLs sy N 2) (castZ (chCh sy N 2)) (castZ sy) := ⟨_, rfl⟩
        rw [← hy]
        have HX13 := Lib.hid (HX12.out.trans hx)
        have HR13 := Lib.hid (And.intro (HR12.out.1.ext hx) (HR12.out.2.ext hx))
        have hz0 : 0 ≤ z := by rw [HZ.out]; exact HPC.out.1
        have hzy : z ≤ y := by rw [HZ.out, hy]; exact HPC.out.2.1
        have hyb : y ≤ 25 + 2 * (N : Int) + 10 * (S : Int) + 10 * (G : Int) := by
          have h := HPC.out.2.2
          rw [← HK.out.1, ← HK.out.2.2.2.2.2.2.1] at h
          rw [hy]; exact h
        have hzb : z ≤ 25 + 2 * (N : Int) + 10 * (S : Int) + 10 * (G : Int) := by omega
        clear hx hy HX12 HR12 HRF2 HMK hmk HW11 hyb g1 g2
        go_wp2_with fail
        refine (cost_all _ _ _ (chLs sy N P) (castZ (chCh sy N P)) (castZ sy) w13 HR13.out.1 HR13.out.2 (HV.out.ext HX13.out) HLL.out HCL.out.1).mono ?_
        rintro e w14 ⟨rfl, hx⟩
        rw [← HZ.out]
        have HX14 := Lib.hid (HX13.out.trans hx)
        clear hx HX13 HR13
        go_wp2_with fail
        refine (ref_counts w14).mono ?_
        rintro e w15 ⟨rfl, hx⟩
        have HX15 := Lib.hid (HX14.out.trans hx)
        clear hx HX14
        go_wp2_with fail
        go_ret
        exact ⟨rfl, HX15.out⟩
  · have HNO := Lib.hid hsy
    clear hsy
    have HCB := Lib.hid (show xs.length ≤ 2 ^ 40 by rw [← HS.out]; have := HT.out; omega)
    go_wp2_with fail
    refine (choose_no _ xs n w2 HV2.out HCB.out HNO.out).mono ?_
    rintro e w3 ⟨rfl, hx⟩
    have HX3 := Lib.hid (HX2.out.trans hx)
    clear hx HX2 HV2
    go_wp2_with fail
    refine (ref_symbols _ xs n w3 (HV.out.ext HX3.out) HCB.out).mono ?_
    rintro e w' ⟨h | h, hw⟩
    · exact (HNO.out h.2).elim
    obtain ⟨rfl, _⟩ := h
    obtain rfl := hw
    go_wp2_with fail
    refine (ref_counts w3).mono ?_
    rintro e w4 ⟨rfl, hx⟩
    have HX4 := Lib.hid (HX3.out.trans hx)
    clear hx HX3
    go_wp2_with fail
    go_ret
    exact ⟨rfl, HX4.out⟩
end Go.Proofs.Ytaabmlnbadpfgaa
