/- pressworkref25.Cost: its walk. -/
import Derived.BigQuiet
import Derived.Test.YtaabmlnbadpfgaaBnd7
import Derived.Test.YtaabmlnbadpfgaaTabRefSZ
namespace Go.Proofs.Ytaabmlnbadpfgaa
open Go.RowKit
set_option linter.unusedVariables false

theorem lensN_take_succ {Ls : List (List Nat)} {i : Nat} {L : List Nat} (h : Ls[i]? = some L) : lensN (Ls.take (i + 1)) = lensN (Ls.take i) + (lenBits L).length := by
  rw [List.take_add_one, h, lensN, List.map_append, List.sum_append]
  simp [lensN]
theorem oneN_le {Ls : List (List Nat)} {ch sy : List Nat} (h : ∀ L ∈ Ls, ∀ x ∈ L, x ≤ 255) (i : Nat) : oneN Ls ch sy i ≤ 255 := by
  rw [oneN]
  by_cases h1 : ch.getD (i / 50) 0 < Ls.length
  · have hm : Ls.getD (ch.getD (i / 50) 0) [] ∈ Ls := by rw [List.getD, List.getElem?_eq_getElem h1]; exact List.getElem_mem h1
    by_cases h2 : sy.getD i 0 < (Ls.getD (ch.getD (i / 50) 0) []).length
    · have hx := h _ hm _ (List.getElem_mem h2)
      rw [List.getD, List.getElem?_eq_getElem h2]; exact hx
    · rw [List.getD, List.getElem?_eq_none (by omega)]; exact Nat.zero_le _
  · rw [show Ls.getD (ch.getD (i / 50) 0) [] = [] by rw [List.getD, List.getElem?_eq_none (by omega)]; rfl]
    simp
theorem symN_le {Ls : List (List Nat)} {ch sy : List Nat} (h : ∀ L ∈ Ls, ∀ x ∈ L, x ≤ 255) : ∀ k, symN Ls ch sy k ≤ 255 * k
  | 0 => by simp [symN]
  | k + 1 => by
    have h1 := symN_le (ch := ch) (sy := sy) h k
    have h2 := oneN_le (ch := ch) (sy := sy) h k
    rw [symN_succ]; omega
/-- the first loop: codes so far. -/
def CR (Ls : List (List Nat)) (n c0 : Nat) (w0 : World) (nv iv : Value) (wr : World) : Prop := ∃ i : Nat, iv = .int .i64 i ∧ i ≤ Ls.length ∧ nv = .int .i64 ((c0 + lensN (Ls.take i) : Nat) : Int) ∧ (∀ j L, j < i → Ls[j]? = some L → GoodC L n) ∧ Ext w0 wr
/-- the second loop: symbols so far. -/
def CS (Ls : List (List Nat)) (ch sy : List Nat) (c1 : Nat) (w0 : World) (nv iv : Value) (wr : World) : Prop := ∃ i : Nat, iv = .int .i64 i ∧ i ≤ sy.length ∧ nv = .int .i64 ((c1 + symN Ls ch sy i : Nat) : Int) ∧ Ext w0 wr
set_option maxRecDepth 100000 in
set_option maxHeartbeats 4000000 in
theorem ref_cost25 (lv cv sv : Value) (Ls : List (List Nat)) (ch sy : List Int) (w : World) (hL : RowsV w lv Ls) (hc : ViewL w cv (ints ch)) (hs : ViewL w sv (ints sy)) (hLl : ∀ L ∈ Ls, L.length ≤ 2 ^ 40) (hcl : ch.length ≤ 2 ^ 40) (hsl : sy.length ≤ 2 ^ 40) (hLx : Ls.length ≤ 2 ^ 40) :
    Calls Try.prog 8 #[lv, cv, sv] w fun e w' => e = .returned (.int .i64 (costZ Ls ch sy)) ∧ Ext w w' := by
  obtain ⟨la, lc, rfl⟩ := hL.shape
  obtain ⟨ca, cc, rfl⟩ := hc.shape
  obtain ⟨sa, sc, rfl⟩ := hs.shape
  rw [length_ints] at hc hs ⊢
  rw [length_ints]
  have HL := Lib.hid hL
  have HC := Lib.hid hc
  have HS := Lib.hid hs
  have HLL := Lib.hid hLl
  obtain ⟨K, hK⟩ : ∃ K, K = Ls.length := ⟨_, rfl⟩
  obtain ⟨G, hG⟩ : ∃ G, G = ch.length := ⟨_, rfl⟩
  obtain ⟨S, hS⟩ : ∃ S, S = sy.length := ⟨_, rfl⟩
  rw [← hK] at HL ⊢
  rw [← hG] at HC ⊢
  rw [← hS] at HS ⊢
  have HKS := Lib.hid (show K = Ls.length ∧ G = ch.length ∧ S = sy.length ∧ K ≤ 2 ^ 40 ∧ G ≤ 2 ^ 40 ∧ S ≤ 2 ^ 40 from ⟨hK, hG, hS, by omega, by omega, by omega⟩)
  clear hL hc hs hLl hcl hsl hLx hK hG hS
  by_cases k2 : K < 2
  · have k1 : (K : Int) < 2 := by omega
    have HZ := Lib.hid (costZ_no (Ls := Ls) (ch := ch) (sy := sy) fun h => by have := h.k2; have := HKS.out; omega)
    clear k2
    go_enter Try.func8, Try.ntmps8
    go_wp2_with fail
    go_ret
    exact ⟨by rw [HZ.out]; rfl, Ext.refl _⟩
  by_cases k6 : 6 < K
  · have k1 : ¬ (K : Int) < 2 := by omega
    have k3 : (6 : Int) < (K : Int) := by omega
    have HZ := Lib.hid (costZ_no (Ls := Ls) (ch := ch) (sy := sy) fun h => by have := h.k6; have := HKS.out; omega)
    clear k2 k6
    go_enter Try.func8, Try.ntmps8
    go_wp2_with fail
    go_ret
    exact ⟨by rw [HZ.out]; rfl, Ext.refl _⟩
  have HK := Lib.hid (show 2 ≤ K ∧ K ≤ 6 from ⟨by omega, by omega⟩)
  have k1 : ¬ (K : Int) < 2 := by omega
  have k3 : ¬ (6 : Int) < (K : Int) := by omega
  have K0 : (0 : Int) < (K : Int) := by omega
  clear k2 k6
  obtain ⟨n, hn⟩ : ∃ n, n = headN Ls := ⟨_, rfl⟩
  have HN := Lib.hid hn
  obtain ⟨L0, hL0⟩ : ∃ L0, Ls[0]? = some L0 := ⟨_, headN_at (by have := HKS.out; have := HK.out; omega)⟩
  have hn0 : L0.length = n := by
    have := headN_at (Ls := Ls) (by have := HKS.out; have := HK.out; omega)
    rw [hL0] at this; cases this; rw [hn]; rfl
  obtain ⟨b0, o0, u0, uc0, rfl, cell0, hv0⟩ := HL.out.at hL0 hn0
  rw [Nat.add_zero] at cell0
  have HC0 := Lib.hid (show ∀ wx, Ext w wx → wx.cell? ⟨b0, o0, none⟩ = some (.slice u0 n uc0) from fun wx hx => cell_touch hx cell0 (fun f => f))
  clear hv0 hn hL0 hn0
  go_enter Try.func8, Try.ntmps8
  go_wp2_with fail
  refine (ref_symbols _ sy n _ HS.out (by have := HKS.out; omega)).mono ?_
  rintro e w' ⟨h, rfl⟩
  rcases h with ⟨rfl, hsym⟩ | ⟨rfl, hno⟩
  rotate_left
  · have HZ := Lib.hid (costZ_no (Ls := Ls) (ch := ch) (sy := sy) fun h => hno (by rw [HN.out]; exact h.sym))
    clear hno
    go_wp2_with fail
    go_ret
    exact ⟨by rw [HZ.out]; rfl, Ext.refl _⟩
  have HSY := Lib.hid hsym
  clear hsym
  obtain ⟨q, hq⟩ : ∃ q, q = manyG S := ⟨_, rfl⟩
  have gq : ((S : Int) + 49) / 50 = (q : Int) := by rw [hq, manyG]; omega
  have gq2 : ((S : Int) + 49).tdiv 50 = (q : Int) := by rw [Int.tdiv_eq_ediv_of_nonneg (by omega)]; exact gq
  have HQ := Lib.hid hq
  clear hq
  have hS40 : (S : Int) ≤ 900050 := by have := HSY.out.2.2.2.1; have := HKS.out; omega
  by_cases hm : ¬ G = q
  · have hne : ¬ (G : Int) = (q : Int) := by omega
    have HZ := Lib.hid (costZ_no (Ls := Ls) (ch := ch) (sy := sy) fun h => hm (by have := h.many; have h1 := HKS.out; rw [h1.2.1, HQ.out, h1.2.2.1]; exact this))
    clear hm
    go_wp2_with fail
    go_ret
    exact ⟨by rw [HZ.out]; rfl, Ext.refl _⟩
  have HM := Lib.hid (Classical.not_not.1 hm)
  clear hm
  obtain rfl := HM.out
  go_wp2_with fail
  refine (tab_ref_mays _ ch K _ HC.out (by have := HKS.out; omega)).mono ?_
  rintro e w' ⟨h, rfl⟩
  rcases h with ⟨rfl, hsel⟩ | ⟨rfl, hno⟩
  rotate_left
  · have HZ := Lib.hid (costZ_no (Ls := Ls) (ch := ch) (sy := sy) fun h => hno (by rw [HKS.out.1]; exact h.sel))
    clear hno
    go_wp2_with fail
    go_ret
    exact ⟨by rw [HZ.out]; rfl, Ext.refl _⟩
  have HSEL := Lib.hid hsel
  have HCN := Lib.hid (show ViewL w (.slice ca G cc) (i64s (toN ch)) by
    have h := HC.out
    rw [ints_toN (fun x hx => (HSEL.out.2.2.2.2 x hx).1)] at h
    exact h)
  have HSN := Lib.hid (show ViewL w (.slice sa S sc) (i64s (toN sy)) by
    have h := HS.out
    rw [ints_toN (fun x hx => (HSY.out.2.2.2.2 x hx).1)] at h
    exact h)
  have HMN := Lib.hid (show MayN (toN ch) K from ⟨by have := hsel.1; omega, by have := hsel.2.1; omega, by rw [toN, List.length_map]; exact hsel.2.2.1, by rw [toN, List.length_map]; exact hsel.2.2.2.1, fun v hv => by
    obtain ⟨x, hx, rfl⟩ := List.mem_map.1 hv
    have := hsel.2.2.2.2 x hx
    omega⟩)
  clear hsel
  go_wp2_with fail
  refine (tab_ref_sel _ (toN ch) K w HCN.out HMN.out).mono ?_
  rintro e w1 hnr
  obtain ⟨rv, og, rfl, r1, r2, r3⟩ := hnr
  obtain ⟨ra, rcap, rfl⟩ := r1.shape
  obtain ⟨c0, hc0⟩ : ∃ c0, c0 = (selBits (toN ch)).length := ⟨_, rfl⟩
  rw [← hc0]
  have HC00 := Lib.hid (show c0 = (selBits (toN ch)).length ∧ c0 ≤ 2 ^ 39 from ⟨hc0, by have := selBits_len (toN ch) K HMN.out; have := HMN.out.2.2.2.1; omega⟩)
  have HX1 := Lib.hid r3
  clear r1 r2 r3 hc0
  go_wp2_with fail
  have hc39 : (c0 : Int) ≤ 549755813888 := by have := HC00.out.2; omega
  go_loopw [7, 8] (fun nv iv wr => CR Ls n c0 w nv iv wr) (fun _ iv _ => K - (intOf iv).toNat)
  case atStart => exact ⟨0, rfl, Nat.zero_le _, by simp [lensN], fun j L h => absurd h (Nat.not_lt_zero _), HX1.out⟩
  case round =>
    obtain ⟨i, rfl, hi, rfl, hgood, hx⟩ := hrel
    have HR := Lib.hid (show i ≤ K ∧ (∀ j L, j < i → Ls[j]? = some L → GoodC L n) ∧ Ext w wr from ⟨by rw [HKS.out.1]; exact hi, hgood, hx⟩)
    obtain ⟨t, ht⟩ : ∃ t, t = c0 + lensN (Ls.take i) := ⟨_, rfl⟩
    rw [← ht]
    have HT := Lib.hid ht
    clear hi hgood hx ht
    by_cases hlt : i < K
    · have hltz : (i : Int) < (K : Int) := by omega
      obtain ⟨L, hLi⟩ : ∃ L, Ls[i]? = some L := ⟨_, List.getElem?_eq_getElem (show i < Ls.length by have := HKS.out.1; omega)⟩
      obtain ⟨m, hm⟩ : ∃ m, m = L.length := ⟨_, rfl⟩
      obtain ⟨b1, o1, uo, uc, e1, ci, hvi⟩ := (HL.out.ext HR.out.2.2).at hLi hm.symm
      cases e1
      have hc0' := HC0.out wr HR.out.2.2
      have HCODE := Lib.hid (show ∀ wx, Ext wr wx → Calls Try.prog 27 #[.slice uo m uc, .int .i64 n] wx fun e w' => e = .returned (.bool (codeB L n)) ∧ w' = wx from fun wx hwx => (ref_code _ L n wx (hvi.ext hwx) (by rw [← hm]; have := HLL.out L (List.mem_of_getElem? hLi); omega) (by have := HSY.out.2.1; omega)).mono fun e w' ⟨h1, h2⟩ => ⟨h1, h2.symm⟩)
      have HI := Lib.hid (And.intro hLi (And.intro hvi hm))
      have HLT := Lib.hid hlt
      clear hlt hLi hvi hm
      by_cases hgd : GoodC L n
      · have hb : codeB L n = true := decide_eq_true hgd
        rw [hb] at HCODE
        have HGD := Lib.hid hgd
        obtain ⟨d, hd⟩ : ∃ d, d = (lenBits L).length := ⟨_, rfl⟩
        have HD := Lib.hid hd
        have htb : t ≤ 2 ^ 40 ∧ d ≤ 30000 := by
          have h1 := lensN_le (Ls := Ls.take i) (n := n) (fun L hL => by
            obtain ⟨j, hj, e⟩ := List.getElem_of_mem hL
            rw [List.getElem_take] at e
            rw [List.length_take] at hj
            exact HR.out.2.1 j L (by omega) (by rw [← e]; exact List.getElem?_eq_getElem (by omega))) (by have := HSY.out.1; omega) (by have := HSY.out.2.1; omega)
          rw [List.length_take] at h1
          have h2 := HT.out
          have h3 := HC00.out.2
          have h4 := HK.out
          have h5 := HR.out.1
          have h6 := lenBits_len L (hgd.mayP (by have := HSY.out.1; omega) (by have := HSY.out.2.1; omega))
          exact ⟨by omega, by omega⟩
        obtain ⟨t1, ht1⟩ : ∃ t1, t1 = t + d := ⟨_, rfl⟩
        have wt : IntKind.i64.wrap ((t : Int) + (d : Int)) = (t1 : Int) := by rw [show (t : Int) + (d : Int) = ((t1 : Nat) : Int) by omega]; exact IntWalk.i64_in _ (by omega)
        have HT1 := Lib.hid ht1
        clear hb hgd hd ht1 htb
        go_wp2_with fail
        go_quiet (first | (go_at_call 27; exact Calls.quiet_of_same (HCODE.out _ ((Ext.refl wr).drewN _))))
        go_wp2_with fail
        refine (tab_ref_lengths _ L _ (HI.out.2.1.ext ((Ext.refl wr).drewN _)) (HGD.out.mayP (by have := HSY.out.1; omega) (by have := HSY.out.2.1; omega))).mono ?_
        rintro e w2 hnr
        obtain ⟨rv2, og2, rfl, q1, q2, q3⟩ := hnr
        obtain ⟨ra2, rcap2, rfl⟩ := q1.shape
        rw [← HD.out]
        have HX2 := Lib.hid (show Ext w w2 from (HR.out.2.2.drewN _).trans q3)
        clear q1 q2 q3
        go_wp2_with fail
        go_roundw
        case rel => exact ⟨i + 1, by go_num, by have := HKS.out.1; have := HLT.out; omega, by rw [HT1.out, HT.out, lensN_take_succ HI.out.1, ← HD.out, Nat.add_assoc], fun j L' hj hL' => by
          by_cases h : j < i
          · exact HR.out.2.1 j L' h hL'
          · rw [show j = i by omega, HI.out.1] at hL'
            cases hL'; exact HGD.out, HX2.out⟩
        case measure => simp [intOf]; have := HLT.out; omega
      · have hb : codeB L n = false := decide_eq_false hgd
        rw [hb] at HCODE
        have HZ := Lib.hid (costZ_no (Ls := Ls) (ch := ch) (sy := sy) fun h => hgd (by rw [HN.out]; exact h.good L (List.mem_of_getElem? HI.out.1)))
        clear hb hgd
        go_wp2_with fail
        go_quiet (first | (go_at_call 27; exact Calls.quiet_of_same (HCODE.out _ ((Ext.refl wr).drewN _))))
        go_wp2_with fail
        go_ret
        exact ⟨by rw [HZ.out]; rfl, HR.out.2.2.drewN _⟩
    · have hltz : ¬ (i : Int) < (K : Int) := by omega
      have hCC := Lib.hid (show CostC Ls ch sy from ⟨by have := HKS.out; have := HK.out; omega, by have := HKS.out; have := HK.out; omega, by rw [← HN.out]; exact HSY.out, by have := HQ.out; have h := HKS.out; rw [← h.2.1, ← h.2.2.1]; exact this, by rw [← HKS.out.1]; exact HSEL.out, fun L hL => by
        obtain ⟨j, hj, e⟩ := List.getElem_of_mem hL
        rw [← HN.out]
        exact HR.out.2.1 j L (by have := HKS.out; omega) (by rw [← e]; exact List.getElem?_eq_getElem (by omega))⟩)
      have hL255 : ∀ L ∈ Ls, ∀ x ∈ L, x ≤ 255 := fun L hL x hx => by have := (hCC.out.good L hL).2.1 x hx; omega
      have HL255 := Lib.hid hL255
      have htb : t = c0 + lensN Ls ∧ t ≤ 2 ^ 40 := by
        have h1 := lensN_le (Ls := Ls) (n := n) (fun L hL => by rw [HN.out]; exact hCC.out.good L hL) (by have := HSY.out.1; omega) (by have := HSY.out.2.1; omega)
        have h2 := HT.out
        rw [List.take_of_length_le (by have := HKS.out; omega)] at h2
        have h3 := HC00.out.2
        have h4 := HK.out
        have h5 := HKS.out
        exact ⟨h2, by omega⟩
      have HTB := Lib.hid htb
      have HI := Lib.hid (show Ext w wr from HR.out.2.2)
      clear hlt hL255 htb
      go_wp2_with fail
      go_loopw [7, 9] (fun nv iv wr => CS Ls (toN ch) (toN sy) t w nv iv wr) (fun _ iv _ => S - (intOf iv).toNat)
      case atStart => exact ⟨0, rfl, Nat.zero_le _, by simp [symN], HI.out⟩
      case round =>
        obtain ⟨j, rfl, hj, rfl, hx⟩ := hrel
        skip
        rw [toN, List.length_map, ← HKS.out.2.2.1] at hj
        have HX := Lib.hid hx
        obtain ⟨p, hp⟩ : ∃ p, p = t + symN Ls (toN ch) (toN sy) j := ⟨_, rfl⟩
        rw [← hp]
        have HP := Lib.hid hp
        clear hp hx
        by_cases hlt : j < S
        · have hltz : (j : Int) < (S : Int) := by omega
          obtain ⟨g, hg⟩ : ∃ g, g = j / 50 := ⟨_, rfl⟩
          have gz : (j : Int) / 50 = (g : Int) := by omega
          have gz2 : (j : Int).tdiv 50 = (g : Int) := by rw [Int.tdiv_eq_ediv_of_nonneg (by omega)]; exact gz
          have hgG : g < G := by have := HQ.out; rw [manyG] at this; omega
          have hgGz : (g : Int) < (G : Int) := by omega
          have hchl : (toN ch).length = G := by rw [toN, List.length_map, HKS.out.2.1]
          have hsyl : (toN sy).length = S := by rw [toN, List.length_map, HKS.out.2.2.1]
          obtain ⟨cb, co, rfl, _, hcc⟩ := viewL_cells (HCN.out.ext HX.out) (by rw [i64s_ints, length_ints, List.length_map]; omega)
          obtain ⟨sb, so, rfl, _, hss⟩ := viewL_cells (HSN.out.ext HX.out) (by rw [i64s_ints, length_ints, List.length_map]; omega)
          obtain ⟨c, hc⟩ : ∃ c, c = (toN ch).getD g 0 := ⟨_, rfl⟩
          obtain ⟨s, hs⟩ : ∃ s, s = (toN sy).getD j 0 := ⟨_, rfl⟩
          have cch : wr.cell? ⟨cb, co + g, none⟩ = some (.int .i64 c) := hcc g _ (by rw [hc]; simp [i64s, List.getD, hchl, hgG])
          have csy : wr.cell? ⟨sb, so + j, none⟩ = some (.int .i64 s) := hss j _ (by rw [hs]; simp [i64s, List.getD, hsyl, hlt])
          have hcK : c < K := by
            rw [hc, List.getD, List.getElem?_eq_getElem (by omega)]
            exact HMN.out.2.2.2.2 _ (List.getElem_mem _)
          have hcKz : (c : Int) < (K : Int) := by omega
          obtain ⟨L, hLc⟩ : ∃ L, Ls[c]? = some L := ⟨_, List.getElem?_eq_getElem (show c < Ls.length by have := HKS.out.1; omega)⟩
          have hLg := hCC.out.good L (List.mem_of_getElem? hLc)
          rw [← HN.out] at hLg
          obtain ⟨b1, o1, uo, uc, e1, crow, hvi⟩ := (HL.out.ext HX.out).at hLc hLg.1
          cases e1
          have hsn : s < n := by
            have h1 := hCC.out.ok.lt s (by rw [hs, List.getD, List.getElem?_eq_getElem (by omega)]; exact List.getElem_mem _)
            rw [← HN.out] at h1; exact h1
          have hsnz : (s : Int) < (n : Int) := by omega
          obtain ⟨ub, uof, rfl, _, huu⟩ := viewL_cells hvi (by rw [length_u8s, hLg.1]; omega)
          obtain ⟨x, hx⟩ : ∃ x, x = L.getD s 0 := ⟨_, rfl⟩
          have cx : wr.cell? ⟨ub, uof + s, none⟩ = some (.int .u8 x) := huu s _ (by rw [hx]; exact getElem?_u8s _ _ (by rw [hLg.1]; exact hsn))
          have hxb : x ≤ 255 := by
            rw [hx, List.getD, List.getElem?_eq_getElem (by rw [hLg.1]; exact hsn)]
            exact HL255.out L (List.mem_of_getElem? hLc) _ (List.getElem_mem _)
          have hone : oneN Ls (toN ch) (toN sy) j = x := by rw [oneN, ← hg, ← hc, ← hs, hx, show Ls.getD c [] = L by rw [List.getD, hLc]; rfl]
          obtain ⟨p1, hp1⟩ : ∃ p1, p1 = p + x := ⟨_, rfl⟩
          have hpb : p ≤ 2 ^ 41 := by
            have h1 := symN_le (ch := toN ch) (sy := toN sy) HL255.out j
            have h2 := HP.out
            have h3 := HTB.out.2
            omega
          have wp : IntKind.i64.wrap ((p : Int) + (x : Int)) = (p1 : Int) := by rw [show (p : Int) + (x : Int) = ((p1 : Nat) : Int) by omega]; exact IntWalk.i64_in _ (by omega)
          have wx : IntKind.i64.wrap (x : Int) = (x : Int) := IntWalk.i64_in _ (by omega)
          have HP1 := Lib.hid (show p1 = t + symN Ls (toN ch) (toN sy) (j + 1) by rw [symN_succ, hone, hp1, HP.out, Nat.add_assoc])
          have HJ := Lib.hid hlt
          clear hlt hg hgG hchl hsyl hcc hss hc hs hcK hLc hLg hvi hsn huu hx hone hp1 hpb
          go_wp2_with fail
          go_quiet (fail)
          go_wp2_with fail
          go_roundw
          case rel => exact ⟨j + 1, by go_num, by rw [toN, List.length_map, ← HKS.out.2.2.1]; have := HJ.out; omega, by rw [HP1.out], HX.out.drewN _⟩
          case measure => simp [intOf]; have := HJ.out; omega
        · have hltz : ¬ (j : Int) < (S : Int) := by omega
          have HZ := Lib.hid (show (p : Int) = costZ Ls ch sy by
            rw [costZ_ok hCC.out, costN_sym, HP.out, HTB.out.1, HC00.out.1]
            rw [show (toN sy).length = j by rw [toN, List.length_map, ← HKS.out.2.2.1]; omega])
          clear hlt
          go_wp2_with fail
          go_ret
          exact ⟨by rw [← HZ.out]; rfl, HX.out⟩
end Go.Proofs.Ytaabmlnbadpfgaa
