/- refine.Cost of a choice that may be: its walk. refine.Cost of a choice that may not be: -1. The document's side of refine: what its small functions answer. refine: what a choice costs, both ways of counting: plain. refine.Choose's closure: the difference of two costs. slices.MinFunc of choices, by the difference of their costs. -/
import Derived.Shelf.RegionOpen
import Derived.Stop.RegionWithIn
import Derived.Deep.RegionHeld3
import Derived.Test.YtaabmlnbadpfgaaRefGroups
import Derived.Test.YtaabmlnbadpfgaaRefFindZ
import Derived.Test.YtaabmlnbadpfgaaBnd5
import Derived.Test.YtaabmlnbadpfgaaBnd2
import Derived.Test.YtaabmlnbadpfgaaGrowInZ
import Derived.BigQuiet
import Derived.Test.YtaabmlnbadpfgaaRefGoodZ
import Derived.Test.YtaabmlnbadpfgaaInts
import Derived.Test.YtaabmlnbadpfgaaBnd3
/-! refine.Cost of a choice that may be: its walk. -/
namespace Go.Proofs.Ytaabmlnbadpfgaa
open Go.RowKit Go.Shelf
set_option linter.unusedVariables false
attribute [local go_sem] Oper.semAt_some

theorem wpIn_region_noPanic {F : Fence} {n : Nat} {P : Program} {id : Nat} {ops : Array Oper} {b : Bool} {Q : Exit → Act → World → Prop} {a : Act} {w : World} (h : (Code.region id ops b).wpIn F n P (NoPanic Q) a w) : (Code.region id ops b).wpIn F n P Q a w :=
  wpIn_mono h fun e a w hq => by cases e <;> first | exact hq | exact hq.elim
/-- a choice of codes that may be. -/
structure CostOk (Ls : List (List Nat)) (ch sy : List Nat) (n : Nat) : Prop where
  sel : MayN ch Ls.length
  sy0 : 0 < sy.length
  syh : sy.length ≤ 900050
  many : ch.length = manyG sy.length
  n3 : 3 ≤ n
  n258 : n ≤ 258
  good : ∀ L ∈ Ls, GoodC L n
  lt : ∀ s ∈ sy, s < n
/-- what the codes cost. -/
def lensN (Ls : List (List Nat)) : Nat := (Ls.map fun L => (lenBits L).length).sum
/-- what the groups cost. -/
def grpsN (Ls : List (List Nat)) (ch sy : List Nat) (is : List Nat) : Nat := (is.map fun i => bitsR (Ls.getD (ch.getD i 0) []) (grpS sy i)).sum
def costN (Ls : List (List Nat)) (ch sy : List Nat) : Nat := (selBits ch).length + lensN Ls + grpsN Ls ch sy (List.range (manyG sy.length))
theorem GoodC.mayP {L : List Nat} {n : Nat} (h : GoodC L n) (h3 : 3 ≤ n) (hn : n ≤ 258) : MayP L := ⟨by have := h.1; omega, by have := h.1; omega, fun b hb => by have := h.2.1 b hb; omega⟩
theorem lensN_le {n : Nat} : ∀ {Ls : List (List Nat)}, (∀ L ∈ Ls, GoodC L n) → 3 ≤ n → n ≤ 258 → lensN Ls ≤ 30000 * Ls.length
  | [], _, _, _ => by simp [lensN]
  | a :: l, h, h3, hn => by
    have h1 := lensN_le (fun L hL => h L (List.mem_cons_of_mem _ hL)) h3 hn
    have h2 := lenBits_len a ((h a (List.mem_cons_self ..)).mayP h3 hn)
    simp only [lensN, List.map_cons, List.sum_cons, List.length_cons] at h1 ⊢
    omega
def CoL (Ls : List (List Nat)) (K B9 c0 : Nat) (W5 : World) (vi : Value) (wr : World) : Prop := ∃ i : Nat, vi = .int .i64 i ∧ i ≤ K ∧ Boxed wr B9 3 (.int .i64 ((c0 + lensN (Ls.take i) : Nat) : Int)) ∧ Touch (fun k => k = B9) W5 wr
theorem viewL_from {w : World} {b o n cap : Nat} {xs : List Value} (h : ViewL w (.slice (some ⟨b, o, none⟩) n cap) xs) (k m : Nat) (hk : k + m ≤ n) (hm : 0 < m) : ViewL w (.slice (some ⟨b, o + k, none⟩) m (cap - k)) ((xs.drop k).take m) := by
  obtain ⟨ao', cap', e, h1, h2, h3⟩ := h
  cases e
  have hl : ((xs.drop k).take m).length = m := by simp; omega
  refine ⟨_, _, by rw [hl], by rw [hl]; omega, fun e => (by cases e), fun h0 => ?_⟩
  obtain ⟨b', o', e, hc⟩ := h3 (by omega)
  cases e
  refine ⟨b, o + k, rfl, fun j u hu => ?_⟩
  have hj : j < m := by have := (List.getElem?_eq_some_iff.1 hu).1; omega
  rw [List.getElem?_take, if_pos hj, List.getElem?_drop] at hu
  rw [← hc (k + j) u hu, Nat.add_assoc]
theorem view_grp {w : World} {b o N cap : Nat} {sy : List Nat} (h : ViewL w (.slice (some ⟨b, o, none⟩) N cap) (intsL sy)) (hN : N = sy.length) {i : Nat} (hi : 50 * i < N) : ViewL w (grpV b o N cap i) (intsL (grpS sy i)) := by
  have h1 := viewL_from h (50 * i) (min 50 (N - 50 * i)) (by omega) (by omega)
  have e : ((intsL sy).drop (50 * i)).take (min 50 (N - 50 * i)) = intsL (grpS sy i) := by
    rw [grpS, intsL, intsL, List.map_take, List.map_drop, ← List.take_take]
    congr 1
    exact List.take_of_length_le (by rw [List.length_drop, List.length_map]; omega)
  rw [e] at h1
  exact h1
theorem grpsN_snoc (Ls : List (List Nat)) (ch sy is : List Nat) (i : Nat) : grpsN Ls ch sy (is ++ [i]) = grpsN Ls ch sy is + bitsR (Ls.getD (ch.getD i 0) []) (grpS sy i) := by simp [grpsN]
theorem grpsN_le {Ls : List (List Nat)} {ch sy : List Nat} (h : ∀ L ∈ Ls, ∀ x ∈ L, x < 256) : ∀ is : List Nat, grpsN Ls ch sy is ≤ 12800 * is.length
  | [] => by simp [grpsN]
  | i :: is => by
    have ih := grpsN_le (ch := ch) (sy := sy) h is
    have hb : bitsR (Ls.getD (ch.getD i 0) []) (grpS sy i) ≤ 256 * (grpS sy i).length := bitsR_le (fun x hx => by
      by_cases hl : ch.getD i 0 < Ls.length
      · rw [List.getD, List.getElem?_eq_getElem hl] at hx
        exact h _ (List.getElem_mem hl) x hx
      · rw [List.getD, List.getElem?_eq_none (by omega)] at hx
        cases hx) _
    have hl : (grpS sy i).length ≤ 50 := by rw [grpS, List.length_take]; omega
    simp only [grpsN, List.map_cons, List.sum_cons, List.length_cons] at ih ⊢
    omega
theorem keeps_ext {W W' : World} (h : Ext W W') : KeepsOthers W W' := ⟨h.size, fun k o ho _ => h.keep ho (fun f => f)⟩
set_option maxRecDepth 100000 in
set_option maxHeartbeats 4000000 in
theorem ref_cost_ok (lv cv sv : Value) (Ls : List (List Nat)) (ch sy : List Nat) (n : Nat) (w : World) (hL : RowsV w lv Ls) (hc : ViewL w cv (intsL ch)) (hs : ViewL w sv (intsL sy)) (ok : CostOk Ls ch sy n) :
    Calls Try.prog 7 #[lv, cv, sv] w fun e w' => e = .returned (.int .i64 (costN Ls ch sy : Nat)) ∧ Ext w w' := by
  have OK := Lib.hid ok
  have hsel := ok.sel
  obtain ⟨L0, hL0⟩ : ∃ L0, Ls[0]? = some L0 := ⟨_, List.getElem?_eq_getElem (show 0 < Ls.length by have := hsel.1; omega)⟩
  have hn0 : L0.length = n := (ok.good _ (List.mem_of_getElem? hL0)).1
  obtain ⟨la, lc, rfl⟩ := hL.shape
  obtain ⟨ca, cc, rfl⟩ := hc.shape
  obtain ⟨sa, sc, rfl⟩ := hs.shape
  rw [length_intsL] at hc hs ⊢
  rw [length_intsL] at *
  obtain ⟨b0, o0, u0, uc0, rfl, cell0, hv0⟩ := hL.at hL0 hn0
  obtain ⟨K, hK⟩ : ∃ K, K = Ls.length := ⟨_, rfl⟩
  obtain ⟨G, hG⟩ : ∃ G, G = ch.length := ⟨_, rfl⟩
  obtain ⟨S, hS⟩ : ∃ S, S = sy.length := ⟨_, rfl⟩
  rw [← hK] at hL ⊢
  rw [← hG] at hc ⊢
  rw [← hS] at hs ⊢
  have hKb : 2 ≤ K ∧ K ≤ 6 := by have := hsel; exact ⟨by rw [hK]; exact this.1, by rw [hK]; exact this.2.1⟩
  have hGS : G = (S + 49) / 50 := by have := ok.many; rw [← hG, ← hS] at this; exact this
  have hSb : 0 < S ∧ S ≤ 900050 := ⟨by have := ok.sy0; omega, by have := ok.syh; omega⟩
  have hnb : 3 ≤ n ∧ n ≤ 258 := ⟨ok.n3, ok.n258⟩
  have HKS := Lib.hid (show K = Ls.length ∧ G = ch.length ∧ S = sy.length ∧ (2 ≤ K ∧ K ≤ 6) ∧ (0 < S ∧ S ≤ 900050) ∧ (3 ≤ n ∧ n ≤ 258) ∧ G = (S + 49) / 50 from ⟨hK, hG, hS, hKb, hSb, hnb, hGS⟩)
  -- tests, decided
  have k1 : ¬ (K : Int) < 2 := by omega
  have k2 : ¬ (6 : Int) < (K : Int) := by omega
  have s0 : ((S : Int) == 0) = false := by rw [beq_eq_false_iff_ne]; omega
  have s9 : ¬ (900050 : Int) < (S : Int) := by omega
  have n3 : ¬ (n : Int) < 3 := by omega
  have n258 : ¬ (258 : Int) < (n : Int) := by omega
  have gq : ((S : Int) + 50 - 1) / 50 = (G : Int) := by omega
  have gq2 : ((S : Int) + 50 - 1).tdiv 50 = (G : Int) := by rw [Int.tdiv_eq_ediv_of_nonneg (by omega)]; omega
  have K0 : (0 : Int) < (K : Int) := by omega
  -- worlds
  obtain ⟨W2, hW2⟩ : ∃ W2, W2 = ((w.alloc (.cells #[.slice (some ⟨b0, o0, none⟩) K lc] 22)).alloc (.cells #[.slice ca G cc] 23)).alloc (.cells #[.int .i64 n] 3) := ⟨_, rfl⟩
  have hX2 : Ext w W2 := by rw [hW2]; exact (((Ext.refl w).alloc _).alloc _).alloc _
  have HL := Lib.hid (And.intro hL (And.intro hc hs))
  have cell0' : ∀ wx, Ext w wx → wx.cell? ⟨b0, o0, none⟩ = some (.slice u0 n uc0) := fun wx hx => cell_touch hx (by rw [Nat.add_zero] at cell0; exact cell0) (fun f => f)
  have HC0 := Lib.hid cell0'
  have hcw := cell0' _ (((Ext.refl w).alloc (.cells #[.slice (some ⟨b0, o0, none⟩) K lc] 22)).alloc (.cells #[.slice ca G cc] 23))
  clear hL hc hs ok hsel hL0 hn0 cell0 hv0 hK hG hS hKb hGS hSb hnb cell0'
  refine (callsIn_wide (n := 9)).1 ?_
  refine callsIn_of_wp_marks Try.func7 rfl trivial ?_ rfl
  simp only [Try.ntmps7, List.size_toArray, List.length_cons, List.length_nil, Nat.reduceAdd, Nat.reduceSub, Array.replicate_succ, Array.replicate_zero, List.push_toArray, List.append_toArray, List.nil_append, List.cons_append]
  gi_wp2_with fail
  rw [← hW2]
  have hsz2 : W2.heap.size = w.heap.size + 1 + 1 + 1 := by rw [hW2]; simp
  have b3 : Boxed W2 w.heap.size 22 (.slice (some ⟨b0, o0, none⟩) K lc) := by rw [hW2]; exact ((Boxed.new w _ _).alloc _).alloc _
  have b4 : Boxed W2 (w.heap.size + 1) 23 (.slice ca G cc) := by
    have h := Boxed.new (w.alloc (.cells #[.slice (some ⟨b0, o0, none⟩) K lc] 22)) 23 (.slice ca G cc)
    rw [World.size_alloc] at h
    rw [hW2]; exact h.alloc _
  have b7 : Boxed W2 (w.heap.size + 1 + 1) 3 (.int .i64 n) := by
    have h := Boxed.new ((w.alloc (.cells #[.slice (some ⟨b0, o0, none⟩) K lc] 22)).alloc (.cells #[.slice ca G cc] 23)) 3 (.int .i64 n)
    rw [World.size_alloc, World.size_alloc] at h
    rw [hW2]; exact h
  have HBX := Lib.hid (show ∀ (S : Nat → Prop) wx, Touch S W2 wx → (∀ k, S k → W2.heap.size ≤ k) → Boxed wx w.heap.size 22 (.slice (some ⟨b0, o0, none⟩) K lc) ∧ Boxed wx (w.heap.size + 1) 23 (.slice ca G cc) from fun S wx ht hS => ⟨ht.keep b3 (fun h => by have := hS _ h; have := b3.lt; omega), ht.keep b4 (fun h => by have := hS _ h; have := b4.lt; omega)⟩)
  have HX2 := Lib.hid (And.intro hX2 hsz2)
  have hgood : (Ls.any fun L => !decide (GoodC L n)) = false := by
    rw [List.any_eq_false]
    intro L hL
    simp [OK.out.good L hL]
  have hgc := goods_contains _ Ls (w.heap.size + 1 + 1) n W2 b7 (HL.out.1.ext hX2) (by have := HKS.out; omega) (by have := HKS.out; omega) (by have := HKS.out; omega) (fun L hL => by rw [(OK.out.good L hL).1]; have := HKS.out; omega)
  rw [hgood] at hgc
  have hout : ((sy.map fun (x : Nat) => (x : Int)).any (outB n)) = false := by
    rw [List.any_eq_false]
    intro x hx
    obtain ⟨s, hs, rfl⟩ := List.mem_map.1 hx
    have := OK.out.lt s hs
    simp [outB]; omega
  have hcc := costs_contains (.slice sa S sc) (sy.map fun (x : Nat) => (x : Int)) (w.heap.size + 1 + 1) n W2 b7 (by rw [ints_nat rfl]; exact HL.out.2.2.ext hX2) (by rw [List.length_map, ← HKS.out.2.2.1]; have := HKS.out; omega)
  rw [hout] at hcc
  have HGC := Lib.hid hgc
  have HCC := Lib.hid hcc
  have c3 := b3.cell
  have c4 := b4.cell
  have c7 := b7.cell
  clear hW2 hgood hout hgc hcc b3 b4 b7 hX2 hcw hsz2
  refine ⟨trivial, (callsIn_wide.2 HGC.out).mono ?_⟩
  rintro e w' ⟨rfl, hw'⟩
  obtain rfl := hw'.symm
  gi_wp2_with fail
  refine ⟨trivial, (callsIn_wide.2 HCC.out).mono ?_⟩
  rintro e w' ⟨rfl, hw'⟩
  obtain rfl := hw'.symm
  obtain ⟨B8, hB8⟩ : ∃ B8, B8 = W2.heap.size := ⟨_, rfl⟩
  obtain ⟨W3, hW3⟩ : ∃ W3, W3 = W2.alloc (.cells #[.slice none 0 0, .int .i64 0] 46) := ⟨_, rfl⟩
  have ht3 : Touch (fun _ => False) W2 W3 := by rw [hW3]; exact (Touch.refl _ W2).alloc _
  have hw3 : IsW 46 true W3 B8 none [] := by rw [hW3, hB8]; exact ⟨_, heap_alloc_new W2 _, Owns.nil _ _ _, by simp⟩
  have hb83 : B8 < W3.heap.size := hw3.lt
  have hput := tab_puts_ok B8 none [] (.slice ca G cc) ch K W3 hw3 (HL.out.2.1.ext (HX2.out.1.trans ht3)) (fun b o n' cap e h => by
    rcases h with h | h
    · obtain ⟨b', o', e', _, hc⟩ := viewL_cells HL.out.2.1 (by rw [length_intsL]; exact OK.out.sel.2.2.1)
      have eb : b = b' := by have h2 := e; rw [e'] at h2; cases h2; rfl
      have h0 := hc 0 _ (List.getElem?_eq_getElem (by rw [length_intsL]; exact OK.out.sel.2.2.1))
      have h1 : b' < w.heap.size := World.block_lt_of_cell? _ _ h0
      have h2 := HX2.out.2
      omega
    · cases h) (by simp) (by have := OK.out.sel; rw [HKS.out.1]; exact this)
  have HPUT := Lib.hid hput
  have HW3 := Lib.hid (show W3 = W2.alloc (.cells #[.slice none 0 0, .int .i64 0] 46) ∧ B8 = W2.heap.size ∧ Touch (fun _ => False) W2 W3 from ⟨hW3, hB8, ht3⟩)
  have hb3 := HBX.out _ W3 ht3 (fun k f => f.elim)
  have c3' : (W2.alloc (.cells #[.slice none 0 0, .int .i64 0] 46)).cell? ⟨w.heap.size, 0, none⟩ = some (.slice (some ⟨b0, o0, none⟩) K lc) := by rw [← hW3]; exact hb3.1.cell
  have c4' : (W2.alloc (.cells #[.slice none 0 0, .int .i64 0] 46)).cell? ⟨w.heap.size + 1, 0, none⟩ = some (.slice ca G cc) := by rw [← hW3]; exact hb3.2.cell
  clear hput hw3 hb83 ht3 hb3 hW3 hB8 HCC HGC
  gi_wp2_with fail
  rw [← HW3.out.1, ← HW3.out.2.1]
  refine ⟨trivial, (callsIn_wide.2 HPUT.out).mono ?_⟩
  rintro e W4 ⟨rfl, og4, hw4, hn4, ht4⟩
  rw [List.nil_append] at hw4
  have hfp : ∀ k, FP B8 none k → W2.heap.size ≤ k := fun k hk => by
    rcases hk with rfl | hk
    · rw [HW3.out.2.1]; exact Nat.le_refl _
    · cases hk
  have ht24 : Touch (FP B8 none) W2 W4 := (HW3.out.2.2.mono (fun _ _ f => f.elim)).trans ht4 (fun k _ h => h)
  have hb4 := HBX.out _ W4 ht24 hfp
  have HT4 := Lib.hid (show Touch (FP B8 none) W2 W4 ∧ (∀ k, FP B8 none k → W2.heap.size ≤ k) from ⟨ht24, hfp⟩)
  have HLEN := Lib.hid (msb_len B8 og4 (selBits ch) W4 hw4)
  have c3'' := hb4.1.cell
  have c4'' := hb4.2.cell
  clear hw4 hn4 ht4 hfp ht24 hb4 c3 c4 c7 c3' c4' HPUT
  gi_wp2_with fail
  refine ⟨trivial, (callsIn_wide.2 HLEN.out).mono ?_⟩
  rintro e w' ⟨rfl, hw'⟩
  obtain rfl := hw'
  obtain ⟨c0, hc0⟩ : ∃ c0, c0 = (selBits ch).length := ⟨_, rfl⟩
  rw [← hc0]
  have HC0' := Lib.hid hc0
  obtain ⟨W5, hW5⟩ : ∃ W5, W5 = W4.alloc (.cells #[.int .i64 c0] 3) := ⟨_, rfl⟩
  have c3w : (W4.alloc (.cells #[.int .i64 c0] 3)).cell? ⟨w.heap.size, 0, none⟩ = some (.slice (some ⟨b0, o0, none⟩) K lc) := cell_touch ((Touch.refl (fun _ => False) W4).alloc _) c3'' (fun f => f)
  have HW5 := Lib.hid hW5
  clear hc0 HLEN hW5
  gi_wp2_with fail
  rw [← HW5.out]
  obtain ⟨B9, hB9⟩ : ∃ B9, B9 = W4.heap.size := ⟨_, rfl⟩
  rw [← hB9]
  have h45 : Touch (fun _ => False) W4 W5 := by rw [HW5.out]; exact (Touch.refl _ W4).alloc _
  have b9 : Boxed W5 B9 3 (.int .i64 c0) := by rw [HW5.out, hB9]; exact Boxed.new W4 _ _
  have ht25 : Touch (FP B8 none) W2 W5 := HT4.out.1.trans (h45.mono (fun _ _ f => f.elim)) (fun k _ h => h)
  have hge9 : W2.heap.size ≤ B9 := by rw [hB9]; exact HT4.out.1.size
  have hext5 : Ext w W5 := HX2.out.1.touch ht25 (fun i hi h => by have := HT4.out.2 i h; have := HX2.out.2; omega)
  have H5 := Lib.hid (show Touch (FP B8 none) W2 W5 ∧ W2.heap.size ≤ B9 ∧ Ext w W5 ∧ B9 < W5.heap.size from ⟨ht25, hge9, hext5, b9.lt⟩)
  have HST := Lib.hid (show CoL Ls K B9 c0 W5 (.int .i64 ((0 : Nat) : Int)) W5 from ⟨0, rfl, Nat.zero_le _, by simpa [lensN] using b9, Touch.refl _ _⟩)
  -- whatever is turned from here on: the boxes, the arguments
  have HALL := Lib.hid (show ∀ (S : Nat → Prop) wx, Touch S W5 wx → (∀ k, S k → k = B9 ∨ W5.heap.size ≤ k) → Ext w wx ∧ Boxed wx w.heap.size 22 (.slice (some ⟨b0, o0, none⟩) K lc) ∧ Boxed wx (w.heap.size + 1) 23 (.slice ca G cc) from fun S wx ht hS => by
    have hge : ∀ k, S k → W2.heap.size ≤ k := fun k h => by
      rcases hS k h with rfl | h
      · exact hge9
      · exact Nat.le_trans ht25.size h
    have h2x : Touch (fun k => W2.heap.size ≤ k) W2 wx := (ht25.mono (fun k _ h => HT4.out.2 k h)).trans (ht.mono (fun k _ h => hge k h)) (fun k _ h => h)
    refine ⟨hext5.touch ht (fun i hi h => ?_), HBX.out _ wx h2x (fun k h => h)⟩
    have := hge i h
    have := HX2.out.2
    omega)
  clear hB9 h45 b9 ht25 hge9 hext5 c3'' c4'' c3w
  gi_loopw [70] (fun vi wr => CoL Ls K B9 c0 W5 vi wr) (fun vi _ => K - (intOf vi).toNat)
  case atStart => exact HST.out
  case round =>
    obtain ⟨i, rfl, hi, hbx, ht⟩ := hrel
    obtain ⟨q, hq⟩ : ∃ q, q = c0 + lensN (Ls.take i) := ⟨_, rfl⟩
    rw [← hq] at hbx
    have hall := HALL.out _ wr ht (fun k h => Or.inl h)
    have c9 := hbx.cell
    have HI := Lib.hid (show i ≤ K ∧ Boxed wr B9 3 (.int .i64 q) ∧ Touch (fun k => k = B9) W5 wr ∧ q = c0 + lensN (Ls.take i) from ⟨hi, hbx, ht, hq⟩)
    by_cases hlt : i < K
    · have hltz : (i : Int) < (K : Int) := by omega
      obtain ⟨L, hLi⟩ : ∃ L, Ls[i]? = some L := ⟨_, List.getElem?_eq_getElem (show i < Ls.length by have := HKS.out.1; omega)⟩
      have hLg := OK.out.good L (List.mem_of_getElem? hLi)
      obtain ⟨b1, o1, uo, uc, e1, ci, hvi⟩ := (HL.out.1.ext hall.1).at hLi hLg.1
      cases e1
      obtain ⟨m, hm⟩ : ∃ m, m = (lenBits L).length := ⟨_, rfl⟩
      have hsz := tab_size (.slice uo n uc) L wr.drew (hvi.ext ((Ext.refl wr).drew)) (by rw [hLg.1]; have := HKS.out; omega)
      have hmb : m ≤ 30000 := by rw [hm]; exact lenBits_len L (hLg.mayP HKS.out.2.2.2.2.2.1.1 HKS.out.2.2.2.2.2.1.2)
      have HSZ := Lib.hid (show Calls Try.prog 22 #[.slice uo n uc] wr.drew fun e w' => e = .returned (.int .i64 m) ∧ Ext wr w' from hsz.mono fun e w' ⟨h, hx⟩ => by
        rcases h with ⟨h, _⟩ | ⟨_, h⟩
        · exact ⟨by rw [h, hm], Touch.trans ((Touch.refl _ wr).drew) hx (fun _ _ f => f)⟩
        · exact (h (hLg.mayP HKS.out.2.2.2.2.2.1.1 HKS.out.2.2.2.2.2.1.2)).elim)
      obtain ⟨q1, hq1⟩ : ∃ q1, q1 = q + m := ⟨_, rfl⟩
      obtain ⟨i1, hi1⟩ : ∃ i1, i1 = i + 1 := ⟨_, rfl⟩
      have hqb : q ≤ 2 ^ 40 := by
        have h1 := lensN_le (Ls := Ls.take i) (n := n) (fun L hL => OK.out.good L (List.mem_of_mem_take hL)) HKS.out.2.2.2.2.2.1.1 HKS.out.2.2.2.2.2.1.2
        have h2 := selBits_len ch Ls.length OK.out.sel
        have h3 := OK.out.sel.2.2.2.1
        rw [List.length_take] at h1
        have h4 := HC0'.out
        have h5 := HKS.out
        omega
      have wq : IntKind.i64.wrap ((q : Int) + (m : Int)) = (q1 : Int) := by rw [show (q : Int) + (m : Int) = ((q1 : Nat) : Int) by omega]; exact IntWalk.i64_in _ (by omega)
      have wi : IntKind.i64.wrap ((i : Int) + 1) = (i1 : Int) := by rw [show (i : Int) + 1 = ((i1 : Nat) : Int) by omega]; exact IntWalk.i64_in _ (by omega)
      have HSTEP := Lib.hid (show ∀ wx, Ext wr wx → CoL Ls K B9 c0 W5 (.int .i64 i1) (wx.setCell ⟨B9, 0, none⟩ (.int .i64 q1)) ∧ wx.cell? ⟨B9, 0, none⟩ = some (.int .i64 q) ∧ wx.frozen? ⟨B9, 0, none⟩ = false from fun wx hx => by
        have hb : Boxed wx B9 3 (.int .i64 q) := hx.keep hbx (fun f => f)
        refine ⟨⟨i1, rfl, by omega, ?_, ?_⟩, hb.cell, hb.frozen⟩
        · have h := hb.set (.int .i64 q1)
          have e : c0 + lensN (Ls.take i1) = q1 := by
            rw [hi1, List.take_add_one, hLi, lensN, List.map_append, List.sum_append, hq1, hq, hm]
            simp [lensN]; omega
          rw [e]; exact h
        · exact (ht.trans (hx.mono (fun _ _ f => f.elim)) (fun k _ h => h)).setCell (Or.inl rfl) _)
      have HMI := Lib.hid (show i1 = i + 1 ∧ i < K from ⟨hi1, hlt⟩)
      have hmx : Try.prog.follows .mixedOrders = true := by kernel_rfl
      clear hi hbx ht hall hq hlt hLi hLg hvi hm hsz hmb hq1 hi1 hqb
      gi_wp2_with fail
      refine wpIn_region_noPanic ?_
      gi_region_with ((refine ⟨trivial, (callsIn_wide.2 HSZ.out).mono ?_⟩; rintro e w2 ⟨rfl, hx2⟩; have k9 := (HSTEP.out w2 hx2).2.1; have f9 := (HSTEP.out w2 hx2).2.2))
      all_goals
        refine NoPanic.normal ?_
        gi_wp2_with fail
        exact ⟨(HSTEP.out w2 hx2).1, by simp [intOf]; have := HMI.out; omega⟩
    · have hltz : ¬ (i : Int) < (K : Int) := by omega
      have hqK : q = c0 + lensN Ls := by rw [hq, List.take_of_length_le (by have := HKS.out.1; omega)]
      obtain ⟨sb, so, rfl, _, _⟩ := viewL_cells HL.out.2.2 (by rw [length_intsL]; have := HKS.out; omega)
      obtain ⟨BG, hBG⟩ : ∃ BG, BG = wr.heap.size := ⟨_, rfl⟩
      obtain ⟨Wg, hWg⟩ : ∃ Wg, Wg = wr.alloc (.cells #[.slice (some ⟨sb, so, none⟩) S sc] 23) := ⟨_, rfl⟩
      have hgx : Boxed Wg BG 23 (.slice (some ⟨sb, so, none⟩) S sc) := by rw [hWg, hBG]; exact Boxed.new wr _ _
      have hg9 : Boxed Wg B9 3 (.int .i64 q) := by rw [hWg]; exact hbx.alloc _
      have hg5 : Touch (fun k => k = B9) W5 Wg := by rw [hWg]; exact ht.alloc _
      have hne : B9 ≠ BG := by have := hbx.lt; omega
      have hSc : S ≤ sc := by
        obtain ⟨_, cap', e, hh, _⟩ := HL.out.2.2
        rw [length_intsL] at hh e
        cases e
        have := HKS.out
        omega
      have HG := Lib.hid (show BG = wr.heap.size ∧ Wg = wr.alloc (.cells #[.slice (some ⟨sb, so, none⟩) S sc] 23) ∧ Boxed Wg BG 23 (.slice (some ⟨sb, so, none⟩) S sc) ∧ Boxed Wg B9 3 (.int .i64 q) ∧ Touch (fun k => k = B9) W5 Wg ∧ B9 ≠ BG ∧ S ≤ sc ∧ q = c0 + lensN Ls ∧ W5.heap.size ≤ BG ∧ BG < Wg.heap.size from ⟨hBG, hWg, hgx, hg9, hg5, hne, hSc, hqK, by rw [hBG]; exact ht.size, hgx.lt⟩)
      clear hi hbx ht hall hq hlt hqK hBG hWg hgx hg9 hg5 hne hSc c9
      gi_wp2_with fail
      refine ⟨trivial, (callsIn_wide.2 (ref_groups _ S sc wr)).mono ?_⟩
      rintro e w' ⟨rfl, rfl⟩
      gi_wp2_with fail
      rw [← HG.out.1, ← HG.out.2.1]
      refine' wpIn_range_T (T := fun k => k = BG) (gf := 46) (lb := #[.pointer (some ⟨BG, 0, none⟩)]) rfl (by decide) rfl trivial (enters_of Try.func46 (by kernel_rfl) rfl) (fun k e => by rw [e]; exact HG.out.2.2.2.2.2.2.2.2.2)
        (groups_seq 8 (by decide) BG sb so S sc HG.out.2.2.2.2.2.2.1 (by have := HKS.out; omega) Wg HG.out.2.2.1) kpG_t (kpG_b (n := Wg.heap.size)) (Below.refl _ _) (fun _ => rfl)
        (fun pre W => Boxed W B9 3 (.int .i64 ((q + grpsN Ls ch sy (pre.map (·.1)) : Nat) : Int)) ∧ Touch (fun k => k = B9 ∨ k = BG) Wg W) (fun _ _ _ => False) ?own (fun _ _ _ _ _ hs _ _ => hs) ⟨by simpa [grpsN] using HG.out.2.2.2.1, Touch.refl _ _⟩ _ ?assign ?body ?done ?stop
      case own =>
        rintro pre X Y row ⟨hb, ht⟩ hg hr
        refine ⟨hb.kept hg fun e => ?_, ht.grown hg fun k e => ?_⟩
        · rcases hr B9 e.symm with h | ⟨_, o, ho, hc⟩
          · exact HG.out.2.2.2.2.2.1 h
          · rw [show X.heap[B9]? = _ from hb] at ho
            cases ho
            simp [Obj.isCells] at hc
        · rcases hr k e with h | ⟨h, _⟩
          · exact Or.inl (Or.inr h)
          · exact Or.inr h
      case assign =>
        intro l x W K hK
        gi_wp2
        exact hK
      case stop =>
        rintro D c pre W _ _ h _
        exact h.elim
      case done =>
        rintro D ys W hD hys ⟨hb, ht⟩ hK
        obtain ⟨V, hV⟩ : ∃ V, V = q + grpsN Ls ch sy (ys.map (·.1)) := ⟨_, rfl⟩
        rw [← hV] at hb
        have c9 := hb.cell
        have HV := Lib.hid (show V = costN Ls ch sy from by rw [hV, hys, HG.out.2.2.2.2.2.2.2.1, HC0'.out, costN, HKS.out.2.2.1])
        have hW5 : Touch (fun k => k = B9 ∨ W5.heap.size ≤ k) W5 W := (HG.out.2.2.2.2.1.mono (fun k _ h => Or.inl h)).trans (ht.mono (fun k _ h => by
          rcases h with h | h
          · exact Or.inl h
          · exact Or.inr (by rw [h]; exact HG.out.2.2.2.2.2.2.2.2.1))) (fun k _ h => h)
        have HX := Lib.hid (HALL.out _ W hW5 (fun k h => h)).1
        have HK := Lib.hid hK
        have HD := Lib.hid (show w.heap.size ≤ D from Nat.le_trans (Nat.le_trans H5.out.2.2.1.size HG.out.2.2.2.2.1.size) hD)
        clear hb ht hK hys hV hW5 hD
        gi_wp2
        refine ⟨by simp, .inl ⟨_, _, rfl, run_takeDeferred HK.out, ?_⟩⟩
        exact ⟨_, results_tmp rfl _ _ _, by rw [← HV.out]; rfl, HX.out.grown (grownBy_putObj' W D _) (fun k e => by cases e; exact Or.inr HD.out)⟩
      case body =>
        rintro l pre ⟨x, hx⟩ W ⟨hb, ht⟩ hlt hnx
        clear hnx
        dsimp only at hx hlt ⊢
        obtain ⟨V, hV⟩ : ∃ V, V = q + grpsN Ls ch sy (pre.map (·.1)) := ⟨_, rfl⟩
        rw [← hV] at hb
        have hW5 : Touch (fun k => k = B9 ∨ W5.heap.size ≤ k) W5 W := (HG.out.2.2.2.2.1.mono (fun k _ h => Or.inl h)).trans (ht.mono (fun k _ h => by
          rcases h with h | h
          · exact Or.inl h
          · exact Or.inr (by rw [h]; exact HG.out.2.2.2.2.2.2.2.2.1))) (fun k _ h => h)
        obtain ⟨hxw, h3, h4⟩ := HALL.out _ W hW5 (fun k h => h)
        have c3 := h3.cell
        have c4 := h4.cell
        have c9 := hb.cell
        have f9 := hb.frozen
        have hxG : x < G := by have := HKS.out; omega
        have hchl : x < ch.length := by rw [← HKS.out.2.1]; exact hxG
        obtain ⟨cb, co, rfl, _, hcc⟩ := viewL_cells (HL.out.2.1.ext hxw) (by rw [length_intsL]; omega)
        obtain ⟨c, hc⟩ : ∃ c, c = ch.getD x 0 := ⟨_, rfl⟩
        have cch : W.cell? ⟨cb, co + x, none⟩ = some (.int .i64 c) := hcc x _ (by rw [hc]; simp [intsL, List.getD, hchl])
        have hcK : c < K := by
          rw [HKS.out.1, hc, List.getD, List.getElem?_eq_getElem hchl]
          exact OK.out.sel.2.2.2.2 _ (List.getElem_mem _)
        obtain ⟨L, hLc⟩ : ∃ L, Ls[c]? = some L := ⟨_, List.getElem?_eq_getElem (show c < Ls.length by rw [← HKS.out.1]; exact hcK)⟩
        have hLg := OK.out.good L (List.mem_of_getElem? hLc)
        obtain ⟨b1, o1, uo, uc, e1, crow, hvi⟩ := (HL.out.1.ext hxw).at hLc hLg.1
        cases e1
        obtain ⟨m, hm⟩ : ∃ m, m = bitsR L (grpS sy x) := ⟨_, rfl⟩
        have hL256 : ∀ y ∈ L, y < 256 := fun y hy => by have := hLg.2.1 y hy; omega
        have hbits : ∀ wx, Ext W wx → Calls Try.prog 24 #[.slice uo n uc, grpV sb so S sc x] wx fun e w' => e = .returned (.int .i64 m) ∧ Ext wx w' := fun wx hwx => by
          rw [hm]
          exact (ref_bits (.slice uo n uc) (grpV sb so S sc x) L (grpS sy x) wx (hvi.ext hwx) (view_grp ((HL.out.2.2.ext hxw).ext hwx) HKS.out.2.2.1 hx) (fun s hs => by rw [hLg.1]; exact OK.out.lt s (List.mem_of_mem_drop (List.mem_of_mem_take hs))) hL256 (by rw [grpS, List.length_take]; omega)).mono fun e w' ⟨h, k⟩ => ⟨h, by rw [← k]; exact Ext.refl _⟩
        have HBITS := Lib.hid hbits
        obtain ⟨V1, hV1⟩ : ∃ V1, V1 = V + m := ⟨_, rfl⟩
        have hVb : V ≤ 2 ^ 41 := by
          have h1 := grpsN_le (Ls := Ls) (ch := ch) (sy := sy) (fun L hL y hy => by have := (OK.out.good L hL).2.1 y hy; omega) (pre.map (·.1))
          rw [List.length_map] at h1
          have h2 : manyG S ≤ 18001 := by unfold manyG; have := HKS.out; omega
          have h3 : q ≤ 2 ^ 40 := by
            have h4 := lensN_le (Ls := Ls) (n := n) (fun L hL => OK.out.good L hL) HKS.out.2.2.2.2.2.1.1 HKS.out.2.2.2.2.2.1.2
            have h5 := selBits_len ch Ls.length OK.out.sel
            have h6 := OK.out.sel.2.2.2.1
            have h7 := HG.out.2.2.2.2.2.2.2.1
            have h8 := HC0'.out
            have h9 := HKS.out
            omega
          omega
        have hmb : m ≤ 12800 := by
          have h1 := bitsR_le hL256 (grpS sy x)
          have h2 : (grpS sy x).length ≤ 50 := by rw [grpS, List.length_take]; omega
          omega
        have wV : IntKind.i64.wrap ((V : Int) + (m : Int)) = (V1 : Int) := by rw [show (V : Int) + (m : Int) = ((V1 : Nat) : Int) by omega]; exact IntWalk.i64_in _ (by omega)
        have HV1 := Lib.hid (show q + grpsN Ls ch sy ((pre ++ [(⟨x, hx⟩ : GIx S)]).map (·.1)) = V1 from by
          rw [List.map_append, List.map_cons, List.map_nil, grpsN_snoc, ← hc, List.getD, hLc, hV1, hV, hm]
          simp; omega)
        have HB := Lib.hid hb
        have HT := Lib.hid ht
        have H34 := Lib.hid (And.intro h3 h4)
        have HCH := Lib.hid cch
        have HROW := Lib.hid crow
        have HWV := Lib.hid wV
        have HXC := Lib.hid (And.intro hxG hcK)
        have HFIN := Lib.hid (show ∀ w0 wx, Ext W w0 → Ext (w0.setCell ⟨B9, 0, none⟩ (.int .i64 V1)) wx → ownPostG Wg.heap.size (KpG BG) (fun pre W => Boxed W B9 3 (.int .i64 ((q + grpsN Ls ch sy (pre.map (·.1)) : Nat) : Int)) ∧ Touch (fun k => k = B9 ∨ k = BG) Wg W) (fun _ _ _ => False) (pre ++ [⟨x, hx⟩]) W .normal ⟨#[], []⟩ wx from fun w0 wx h0 h1 => by
          have hb0 : Boxed w0 B9 3 (.int .i64 V) := h0.keep HB.out (fun f => f)
          refine ⟨?_, ?_, ?_, ?_⟩
          · exact (((keeps_ext h0).trans (KeepsOthers.setCell _ _ _)).trans (keeps_ext h1)).from _
          · intro v hv
            have h2 : Touch (fun k => k = B9) W wx := (((h0.mono (fun _ _ f => f.elim)).trans ((Touch.refl (fun k => k = B9) w0).setCell (Or.inl rfl) _) (fun _ _ h => h))).trans (h1.mono (fun _ _ f => f.elim)) (fun _ _ h => h)
            exact h2.keep hv (fun e => HG.out.2.2.2.2.2.1 e.symm)
          · rw [HV1.out]
            exact h1.keep (hb0.set _) (fun f => f)
          · exact ((HT.out.trans h0 (fun _ _ f => f.elim)).setCell (Or.inl (Or.inl rfl)) _).trans h1 (fun _ _ f => f.elim))
        clear hb ht hV hW5 h3 h4 hchl hcc hc hcK hLc hLg hvi hm hL256 hbits hV1 hVb hmb hlt hxG cch crow wV c3 c4 c9 f9
        gi_wp2_with fail
        have hst : Stab (Phi [(9, .pointer (some ⟨B9, 0, none⟩)), (3, .pointer (some ⟨w.heap.size, 0, none⟩)), (4, .pointer (some ⟨w.heap.size + 1, 0, none⟩)), (12, .int .i64 x), (13, grpV sb so S sc x), (83, .int .i64 V), (84, .slice (some ⟨b0, o0, none⟩) K lc), (85, .slice (some ⟨cb, co, none⟩) G cc), (86, .int .i64 x), (87, .pointer (some ⟨cb, co + x, none⟩)), (88, .int .i64 c), (89, .pointer (some ⟨b0, o0 + c, none⟩)), (90, .slice uo n uc), (91, grpV sb so S sc x), (92, .int .i64 m), (93, .int .i64 V1)] []) := Phi.stable (fun x hx => by cases hx)
        refine wpIn_region_round (by kernel_rfl) (by kernel_rfl) (any_region_two 95 [9, 3, 4, 12, 13] [83, 84, 85, 86, 87, 88, 89, 90, 91, 92, 93] 11 [0, 0, 0, 0, 0, 0, 0, 0, 0, 0, 0, 2] (fun w1 => Ext W w1) (fun w1 => ∃ w0, Ext W w0 ∧ Ext (w0.setCell ⟨B9, 0, none⟩ (.int .i64 V1)) w1) _ hst (fun _ _ h k => h.trans k) (fun _ _ ⟨w0, h, h2⟩ k => ⟨w0, h, h2.trans k⟩) (by kernel_rfl) rfl rfl (fun _ => ⟨rfl, rfl, rfl, rfl, rfl, trivial⟩) (Ext.refl W) ⟨?_, ?_, ?_, ?_, ?_, ?_, ?_, ?_, ?_, ?_, ?_, ?_, trivial⟩ ?fin)
        · refine Obl.some (fun ev w1 hI hc hf hg hev => ?_)
          have h0 : ev (.tmp 9) = .pointer (some ⟨B9, 0, none⟩) := hev.1
          clear hev
          have hI : Ext W w1 := hI
          have k := Boxed.cell (hI.keep HB.out (fun f => f))
          exact ⟨rfl, .int .i64 V, by go_simp, fun d hd => by cases hd; rfl⟩
        · refine Obl.some (fun ev w1 hI hc hf hg hev => ?_)
          have h0 : ev (.tmp 3) = .pointer (some ⟨w.heap.size, 0, none⟩) := hev.1
          clear hev
          have hI : Ext W w1 := hI
          have k := Boxed.cell (hI.keep H34.out.1 (fun f => f))
          exact ⟨rfl, .slice (some ⟨b0, o0, none⟩) K lc, by go_simp, fun d hd => by cases hd; rfl⟩
        · refine Obl.some (fun ev w1 hI hc hf hg hev => ?_)
          have h0 : ev (.tmp 4) = .pointer (some ⟨w.heap.size + 1, 0, none⟩) := hev.1
          clear hev
          have hI : Ext W w1 := hI
          have k := Boxed.cell (hI.keep H34.out.2 (fun f => f))
          exact ⟨rfl, .slice (some ⟨cb, co, none⟩) G cc, by go_simp, fun d hd => by cases hd; rfl⟩
        · refine Obl.val (.int .i64 x) (fun ev w1 hc hf hg hev => ?_) (fun d hd w1 => by cases hd; rfl)
          have h0 : ev (.tmp 12) = .int .i64 x := hev.1
          exact ⟨rfl, by (clear hev; go_simp)⟩
        · refine Obl.val (.pointer (some ⟨cb, co + x, none⟩)) (fun ev w1 hc hf hg hev => ?_) (fun d hd w1 => by cases hd; rfl)
          have h0 : ev (.tmp 85) = .slice (some ⟨cb, co, none⟩) G cc := hev.1; have h1 : ev (.tmp 86) = .int .i64 x := hev.2.1
          clear hev
          have k := HXC.out.1
          refine ⟨rfl, ?_⟩
          go_simp
        · refine Obl.some (fun ev w1 hI hc hf hg hev => ?_)
          have h0 : ev (.tmp 87) = .pointer (some ⟨cb, co + x, none⟩) := hev.1
          clear hev
          have hI : Ext W w1 := hI
          have k := cell_touch hI HCH.out (fun f => f)
          exact ⟨rfl, .int .i64 c, by go_simp, fun d hd => by cases hd; rfl⟩
        · refine Obl.val (.pointer (some ⟨b0, o0 + c, none⟩)) (fun ev w1 hc hf hg hev => ?_) (fun d hd w1 => by cases hd; rfl)
          have h0 : ev (.tmp 84) = .slice (some ⟨b0, o0, none⟩) K lc := hev.1; have h1 : ev (.tmp 88) = .int .i64 c := hev.2.1
          clear hev
          have k := HXC.out.2
          refine ⟨rfl, ?_⟩
          go_simp
        · refine Obl.some (fun ev w1 hI hc hf hg hev => ?_)
          have h0 : ev (.tmp 89) = .pointer (some ⟨b0, o0 + c, none⟩) := hev.1
          clear hev
          have hI : Ext W w1 := hI
          have k := cell_touch hI HROW.out (fun f => f)
          exact ⟨rfl, .slice uo n uc, by go_simp, fun d hd => by cases hd; rfl⟩
        · refine Obl.val (grpV sb so S sc x) (fun ev w1 hc hf hg hev => ?_) (fun d hd w1 => by cases hd; rfl)
          have h0 : ev (.tmp 13) = grpV sb so S sc x := hev.1
          exact ⟨rfl, by (clear hev; go_simp)⟩
        · refine Obl.call 24 #[.slice uo n uc, grpV sb so S sc x] (fun ev w1 hI hc hf hg hev => ?_)
          have h0 : ev (.tmp 90) = .slice uo n uc := hev.1; have h1 : ev (.tmp 91) = grpV sb so S sc x := hev.2.1
          refine ⟨rfl, by (clear hev; go_simp), ?_⟩
          have hI : Ext W w1 := hI
          refine (HBITS.out w1 hI).mono ?_
          rintro e w2 ⟨rfl, hx⟩
          exact ⟨_, rfl, hx, fun d hd => by cases hd; rfl⟩
        · refine Obl.some (fun ev w1 hI hc hf hg hev => ?_)
          have h0 : ev (.tmp 83) = .int .i64 V := hev.1; have h1 : ev (.tmp 92) = .int .i64 m := hev.2.1
          clear hev
          have k := HWV.out
          exact ⟨rfl, .int .i64 V1, by go_simp, fun d hd => by cases hd; rfl⟩
        · refine OblC.skip (fun ev w1 hI hc hf hg hev => ?_)
          have h0 : ev (.tmp 9) = .pointer (some ⟨B9, 0, none⟩) := hev.1; have h1 : ev (.tmp 93) = .int .i64 V1 := hev.2.1
          have hI : Ext W w1 := hI
          have hb := hI.keep HB.out (fun f => f)
          have k := Boxed.cell hb
          have k2 := Boxed.frozen hb
          clear hev
          refine ⟨rfl, w1.setCell ⟨B9, 0, none⟩ (.int .i64 V1), by go_simp, ⟨w1, hI, Ext.refl _⟩, ?_, fun d hd => by cases hd⟩
          intro t u _ h
          exact h
        case fin =>
          intro vs w5 he5 hf
          have e83 : vs 83 = .int .i64 V := hf 83 (by decide)
          have e84 : vs 84 = .slice (some ⟨b0, o0, none⟩) K lc := hf 84 (by decide)
          have e85 : vs 85 = .slice (some ⟨cb, co, none⟩) G cc := hf 85 (by decide)
          have e86 : vs 86 = .int .i64 x := hf 86 (by decide)
          have e87 : vs 87 = .pointer (some ⟨cb, co + x, none⟩) := hf 87 (by decide)
          have e88 : vs 88 = .int .i64 c := hf 88 (by decide)
          have e89 : vs 89 = .pointer (some ⟨b0, o0 + c, none⟩) := hf 89 (by decide)
          have e90 : vs 90 = .slice uo n uc := hf 90 (by decide)
          have e91 : vs 91 = grpV sb so S sc x := hf 91 (by decide)
          have e92 : vs 92 = .int .i64 m := hf 92 (by decide)
          have e93 : vs 93 = .int .i64 V1 := hf 93 (by decide)
          simp only [List.foldl_cons, List.foldl_nil]
          rw [e83, e84, e85, e86, e87, e88, e89, e90, e91, e92, e93]
          simp only [Act.put, List.setIfInBounds_toArray, List.set_cons_succ, List.set_cons_zero]
          clear hf e83 e84 e85 e86 e87 e88 e89 e90 e91 e92 e93
          refine ⟨rfl, ?_⟩
          obtain ⟨w0, hx0, hx1⟩ := he5
          gi_wp2
          exact HFIN.out _ _ hx0 hx1
end Go.Proofs.Ytaabmlnbadpfgaa

/-! refine.Cost of a choice that may not be: -1. -/
namespace Go.Proofs.Ytaabmlnbadpfgaa
open Go.RowKit Go.Shelf
set_option linter.unusedVariables false
attribute [local go_sem] Oper.semAt_some

def CostNo (w : World) (lv cv sv : Value) : Prop := Calls Try.prog 7 #[lv, cv, sv] w fun e w' => e = .returned (.int .i64 (-1)) ∧ Ext w w'

set_option maxRecDepth 100000 in
set_option maxHeartbeats 1000000 in
theorem cost_no_few (lv cv sv : Value) (Ls : List (List Nat)) (ch sy : List Int) (w : World) (hL : RowsV w lv Ls) (hc : ViewL w cv (ints ch)) (hs : ViewL w sv (ints sy)) (h : Ls.length < 2) : CostNo w lv cv sv := by
  obtain ⟨la, lc, rfl⟩ := hL.shape
  obtain ⟨ca, cc, rfl⟩ := hc.shape
  obtain ⟨sa, sc, rfl⟩ := hs.shape
  rw [length_ints] at hc hs ⊢
  rw [length_ints]
  obtain ⟨K, hK⟩ : ∃ K, K = Ls.length := ⟨_, rfl⟩
  obtain ⟨G, hG⟩ : ∃ G, G = ch.length := ⟨_, rfl⟩
  obtain ⟨S, hS⟩ : ∃ S, S = sy.length := ⟨_, rfl⟩
  rw [← hK] at hL ⊢
  rw [← hG] at hc ⊢
  rw [← hS] at hs ⊢
  have k1 : (K : Int) < 2 := by omega
  clear hL hc hs hK hG hS h
  unfold CostNo
  refine (callsIn_wide (n := 9)).1 ?_
  refine callsIn_of_wp_marks Try.func7 rfl trivial ?_ rfl
  simp only [Try.ntmps7, List.size_toArray, List.length_cons, List.length_nil, Nat.reduceAdd, Nat.reduceSub, Array.replicate_succ, Array.replicate_zero, List.push_toArray, List.append_toArray, List.nil_append, List.cons_append]
  gi_wp2
  exact ⟨_, results_tmp rfl _ _ _, rfl, ((Ext.refl w).alloc _).alloc _⟩

set_option maxRecDepth 100000 in
set_option maxHeartbeats 1000000 in
theorem cost_no_many (lv cv sv : Value) (Ls : List (List Nat)) (ch sy : List Int) (w : World) (hL : RowsV w lv Ls) (hc : ViewL w cv (ints ch)) (hs : ViewL w sv (ints sy)) (h : 6 < Ls.length) : CostNo w lv cv sv := by
  obtain ⟨la, lc, rfl⟩ := hL.shape
  obtain ⟨ca, cc, rfl⟩ := hc.shape
  obtain ⟨sa, sc, rfl⟩ := hs.shape
  rw [length_ints] at hc hs ⊢
  rw [length_ints]
  obtain ⟨K, hK⟩ : ∃ K, K = Ls.length := ⟨_, rfl⟩
  obtain ⟨G, hG⟩ : ∃ G, G = ch.length := ⟨_, rfl⟩
  obtain ⟨S, hS⟩ : ∃ S, S = sy.length := ⟨_, rfl⟩
  rw [← hK] at hL ⊢
  rw [← hG] at hc ⊢
  rw [← hS] at hs ⊢
  have k1 : ¬ (K : Int) < 2 := by omega
  have k2 : (6 : Int) < (K : Int) := by omega
  clear hL hc hs hK hG hS h
  unfold CostNo
  refine (callsIn_wide (n := 9)).1 ?_
  refine callsIn_of_wp_marks Try.func7 rfl trivial ?_ rfl
  simp only [Try.ntmps7, List.size_toArray, List.length_cons, List.length_nil, Nat.reduceAdd, Nat.reduceSub, Array.replicate_succ, Array.replicate_zero, List.push_toArray, List.append_toArray, List.nil_append, List.cons_append]
  gi_wp2
  exact ⟨_, results_tmp rfl _ _ _, rfl, ((Ext.refl w).alloc _).alloc _⟩

set_option maxRecDepth 100000 in
set_option maxHeartbeats 1000000 in
theorem cost_no_none (lv cv sv : Value) (Ls : List (List Nat)) (ch sy : List Int) (w : World) (hL : RowsV w lv Ls) (hc : ViewL w cv (ints ch)) (hs : ViewL w sv (ints sy)) (hK2 : 2 ≤ Ls.length ∧ Ls.length ≤ 6) (h : sy.length = 0) : CostNo w lv cv sv := by
  obtain ⟨la, lc, rfl⟩ := hL.shape
  obtain ⟨ca, cc, rfl⟩ := hc.shape
  obtain ⟨sa, sc, rfl⟩ := hs.shape
  rw [length_ints] at hc hs ⊢
  rw [length_ints]
  obtain ⟨K, hK⟩ : ∃ K, K = Ls.length := ⟨_, rfl⟩
  obtain ⟨G, hG⟩ : ∃ G, G = ch.length := ⟨_, rfl⟩
  obtain ⟨S, hS⟩ : ∃ S, S = sy.length := ⟨_, rfl⟩
  rw [← hK] at hL ⊢
  rw [← hG] at hc ⊢
  rw [← hS] at hs ⊢
  have k1 : ¬ (K : Int) < 2 := by omega
  have k2 : ¬ (6 : Int) < (K : Int) := by omega
  have s0 : ((S : Int) == 0) = true := by rw [beq_iff_eq]; omega
  clear hL hc hs hK hG hS h hK2
  unfold CostNo
  refine (callsIn_wide (n := 9)).1 ?_
  refine callsIn_of_wp_marks Try.func7 rfl trivial ?_ rfl
  simp only [Try.ntmps7, List.size_toArray, List.length_cons, List.length_nil, Nat.reduceAdd, Nat.reduceSub, Array.replicate_succ, Array.replicate_zero, List.push_toArray, List.append_toArray, List.nil_append, List.cons_append]
  gi_wp2
  exact ⟨_, results_tmp rfl _ _ _, rfl, ((Ext.refl w).alloc _).alloc _⟩

set_option maxRecDepth 100000 in
set_option maxHeartbeats 1000000 in
theorem cost_no_long (lv cv sv : Value) (Ls : List (List Nat)) (ch sy : List Int) (w : World) (hL : RowsV w lv Ls) (hc : ViewL w cv (ints ch)) (hs : ViewL w sv (ints sy)) (hK2 : 2 ≤ Ls.length ∧ Ls.length ≤ 6) (h : 900050 < sy.length) : CostNo w lv cv sv := by
  obtain ⟨la, lc, rfl⟩ := hL.shape
  obtain ⟨ca, cc, rfl⟩ := hc.shape
  obtain ⟨sa, sc, rfl⟩ := hs.shape
  rw [length_ints] at hc hs ⊢
  rw [length_ints]
  obtain ⟨K, hK⟩ : ∃ K, K = Ls.length := ⟨_, rfl⟩
  obtain ⟨G, hG⟩ : ∃ G, G = ch.length := ⟨_, rfl⟩
  obtain ⟨S, hS⟩ : ∃ S, S = sy.length := ⟨_, rfl⟩
  rw [← hK] at hL ⊢
  rw [← hG] at hc ⊢
  rw [← hS] at hs ⊢
  have k1 : ¬ (K : Int) < 2 := by omega
  have k2 : ¬ (6 : Int) < (K : Int) := by omega
  have s0 : ((S : Int) == 0) = false := by rw [beq_eq_false_iff_ne]; omega
  have s9 : (900050 : Int) < (S : Int) := by omega
  clear hL hc hs hK hG hS h hK2
  unfold CostNo
  refine (callsIn_wide (n := 9)).1 ?_
  refine callsIn_of_wp_marks Try.func7 rfl trivial ?_ rfl
  simp only [Try.ntmps7, List.size_toArray, List.length_cons, List.length_nil, Nat.reduceAdd, Nat.reduceSub, Array.replicate_succ, Array.replicate_zero, List.push_toArray, List.append_toArray, List.nil_append, List.cons_append]
  gi_wp2
  exact ⟨_, results_tmp rfl _ _ _, rfl, ((Ext.refl w).alloc _).alloc _⟩

set_option maxRecDepth 100000 in
set_option maxHeartbeats 1000000 in
theorem cost_no_group (lv cv sv : Value) (Ls : List (List Nat)) (ch sy : List Int) (w : World) (hL : RowsV w lv Ls) (hc : ViewL w cv (ints ch)) (hs : ViewL w sv (ints sy)) (hK2 : 2 ≤ Ls.length ∧ Ls.length ≤ 6) (hS2 : 0 < sy.length ∧ sy.length ≤ 900050) (h : ch.length ≠ manyG sy.length) : CostNo w lv cv sv := by
  obtain ⟨la, lc, rfl⟩ := hL.shape
  obtain ⟨ca, cc, rfl⟩ := hc.shape
  obtain ⟨sa, sc, rfl⟩ := hs.shape
  rw [length_ints] at hc hs ⊢
  rw [length_ints]
  obtain ⟨K, hK⟩ : ∃ K, K = Ls.length := ⟨_, rfl⟩
  obtain ⟨G, hG⟩ : ∃ G, G = ch.length := ⟨_, rfl⟩
  obtain ⟨S, hS⟩ : ∃ S, S = sy.length := ⟨_, rfl⟩
  rw [← hK] at hL ⊢
  rw [← hG] at hc ⊢
  rw [← hS] at hs ⊢
  have k1 : ¬ (K : Int) < 2 := by omega
  have k2 : ¬ (6 : Int) < (K : Int) := by omega
  have s0 : ((S : Int) == 0) = false := by rw [beq_eq_false_iff_ne]; omega
  have s9 : ¬ (900050 : Int) < (S : Int) := by omega
  obtain ⟨q, hq⟩ : ∃ q, q = manyG S := ⟨_, rfl⟩
  have gq : ((S : Int) + 50 - 1) / 50 = (q : Int) := by rw [hq, manyG]; omega
  have gq2 : ((S : Int) + 50 - 1).tdiv 50 = (q : Int) := by rw [Int.tdiv_eq_ediv_of_nonneg (by omega)]; exact gq
  have hne : ((G : Int) == (q : Int)) = false := by rw [beq_eq_false_iff_ne, hG, hq, hS]; omega
  clear hL hc hs hK hG hS h hK2 hS2 hq
  unfold CostNo
  refine (callsIn_wide (n := 9)).1 ?_
  refine callsIn_of_wp_marks Try.func7 rfl trivial ?_ rfl
  simp only [Try.ntmps7, List.size_toArray, List.length_cons, List.length_nil, Nat.reduceAdd, Nat.reduceSub, Array.replicate_succ, Array.replicate_zero, List.push_toArray, List.append_toArray, List.nil_append, List.cons_append]
  gi_wp2
  exact ⟨_, results_tmp rfl _ _ _, rfl, ((Ext.refl w).alloc _).alloc _⟩

set_option maxRecDepth 100000 in
set_option maxHeartbeats 1000000 in
theorem cost_no_small (lv cv sv : Value) (Ls : List (List Nat)) (ch sy : List Int) (w : World) (hL : RowsV w lv Ls) (hc : ViewL w cv (ints ch)) (hs : ViewL w sv (ints sy)) (L0 : List Nat) (n : Nat) (hL0 : Ls[0]? = some L0) (hn0 : L0.length = n) (hK2 : 2 ≤ Ls.length ∧ Ls.length ≤ 6) (hS2 : 0 < sy.length ∧ sy.length ≤ 900050) (hG2 : ch.length = manyG sy.length) (h : n < 3) : CostNo w lv cv sv := by
  obtain ⟨la, lc, rfl⟩ := hL.shape
  obtain ⟨ca, cc, rfl⟩ := hc.shape
  obtain ⟨sa, sc, rfl⟩ := hs.shape
  rw [length_ints] at hc hs ⊢
  rw [length_ints]
  obtain ⟨K, hK⟩ : ∃ K, K = Ls.length := ⟨_, rfl⟩
  obtain ⟨G, hG⟩ : ∃ G, G = ch.length := ⟨_, rfl⟩
  obtain ⟨S, hS⟩ : ∃ S, S = sy.length := ⟨_, rfl⟩
  rw [← hK] at hL ⊢
  rw [← hG] at hc ⊢
  rw [← hS] at hs ⊢
  have k1 : ¬ (K : Int) < 2 := by omega
  have k2 : ¬ (6 : Int) < (K : Int) := by omega
  have s0 : ((S : Int) == 0) = false := by rw [beq_eq_false_iff_ne]; omega
  have s9 : ¬ (900050 : Int) < (S : Int) := by omega
  have hgq : G = (S + 49) / 50 := by rw [hG, hG2, manyG, hS]
  have hgq1 : ((S : Int) + 50 - 1) / 50 = (G : Int) := by omega
  have hgq2 : ((S : Int) + 50 - 1).tdiv 50 = (G : Int) := by rw [Int.tdiv_eq_ediv_of_nonneg (by omega)]; omega
  have K0 : (0 : Int) < (K : Int) := by omega
  obtain ⟨b0, o0, u0, uc0, rfl, cell0, hv0⟩ := hL.at hL0 hn0
  obtain ⟨W2, hW2⟩ : ∃ W2, W2 = ((w.alloc (.cells #[.slice (some ⟨b0, o0, none⟩) K lc] 22)).alloc (.cells #[.slice ca G cc] 23)).alloc (.cells #[.int .i64 n] 3) := ⟨_, rfl⟩
  have hX2 : Ext w W2 := by rw [hW2]; exact (((Ext.refl w).alloc _).alloc _).alloc _
  have cell0' : ∀ wx, Ext w wx → wx.cell? ⟨b0, o0, none⟩ = some (.slice u0 n uc0) := fun wx hx => cell_touch hx (by rw [Nat.add_zero] at cell0; exact cell0) (fun f => f)
  have hcw := cell0' _ (((Ext.refl w).alloc (.cells #[.slice (some ⟨b0, o0, none⟩) K lc] 22)).alloc (.cells #[.slice ca G cc] 23))
  have n3 : (n : Int) < 3 := by omega
  have HX := Lib.hid hX2
  clear hL0 hn0 hL hc hs hK hG hS hG2 hK2 hS2 cell0 hv0 hgq cell0' h hX2
  unfold CostNo
  refine (callsIn_wide (n := 9)).1 ?_
  refine callsIn_of_wp_marks Try.func7 rfl trivial ?_ rfl
  simp only [Try.ntmps7, List.size_toArray, List.length_cons, List.length_nil, Nat.reduceAdd, Nat.reduceSub, Array.replicate_succ, Array.replicate_zero, List.push_toArray, List.append_toArray, List.nil_append, List.cons_append]
  gi_wp2_with fail
  refine ⟨trivial, ?_⟩
  gi_wp2_with fail
  refine ⟨trivial, ?_⟩
  gi_wp2
  exact ⟨_, results_tmp rfl _ _ _, rfl, (((Ext.refl w).alloc _).alloc _).alloc _⟩

set_option maxRecDepth 100000 in
set_option maxHeartbeats 1000000 in
theorem cost_no_big (lv cv sv : Value) (Ls : List (List Nat)) (ch sy : List Int) (w : World) (hL : RowsV w lv Ls) (hc : ViewL w cv (ints ch)) (hs : ViewL w sv (ints sy)) (L0 : List Nat) (n : Nat) (hL0 : Ls[0]? = some L0) (hn0 : L0.length = n) (hK2 : 2 ≤ Ls.length ∧ Ls.length ≤ 6) (hS2 : 0 < sy.length ∧ sy.length ≤ 900050) (hG2 : ch.length = manyG sy.length) (h3 : 3 ≤ n) (h : 258 < n) : CostNo w lv cv sv := by
  obtain ⟨la, lc, rfl⟩ := hL.shape
  obtain ⟨ca, cc, rfl⟩ := hc.shape
  obtain ⟨sa, sc, rfl⟩ := hs.shape
  rw [length_ints] at hc hs ⊢
  rw [length_ints]
  obtain ⟨K, hK⟩ : ∃ K, K = Ls.length := ⟨_, rfl⟩
  obtain ⟨G, hG⟩ : ∃ G, G = ch.length := ⟨_, rfl⟩
  obtain ⟨S, hS⟩ : ∃ S, S = sy.length := ⟨_, rfl⟩
  rw [← hK] at hL ⊢
  rw [← hG] at hc ⊢
  rw [← hS] at hs ⊢
  have k1 : ¬ (K : Int) < 2 := by omega
  have k2 : ¬ (6 : Int) < (K : Int) := by omega
  have s0 : ((S : Int) == 0) = false := by rw [beq_eq_false_iff_ne]; omega
  have s9 : ¬ (900050 : Int) < (S : Int) := by omega
  have hgq : G = (S + 49) / 50 := by rw [hG, hG2, manyG, hS]
  have hgq1 : ((S : Int) + 50 - 1) / 50 = (G : Int) := by omega
  have hgq2 : ((S : Int) + 50 - 1).tdiv 50 = (G : Int) := by rw [Int.tdiv_eq_ediv_of_nonneg (by omega)]; omega
  have K0 : (0 : Int) < (K : Int) := by omega
  obtain ⟨b0, o0, u0, uc0, rfl, cell0, hv0⟩ := hL.at hL0 hn0
  obtain ⟨W2, hW2⟩ : ∃ W2, W2 = ((w.alloc (.cells #[.slice (some ⟨b0, o0, none⟩) K lc] 22)).alloc (.cells #[.slice ca G cc] 23)).alloc (.cells #[.int .i64 n] 3) := ⟨_, rfl⟩
  have hX2 : Ext w W2 := by rw [hW2]; exact (((Ext.refl w).alloc _).alloc _).alloc _
  have cell0' : ∀ wx, Ext w wx → wx.cell? ⟨b0, o0, none⟩ = some (.slice u0 n uc0) := fun wx hx => cell_touch hx (by rw [Nat.add_zero] at cell0; exact cell0) (fun f => f)
  have hcw := cell0' _ (((Ext.refl w).alloc (.cells #[.slice (some ⟨b0, o0, none⟩) K lc] 22)).alloc (.cells #[.slice ca G cc] 23))
  have n3 : ¬ (n : Int) < 3 := by omega
  have n258 : (258 : Int) < (n : Int) := by omega
  have HX := Lib.hid hX2
  clear hL0 hn0 hL hc hs hK hG hS hG2 hK2 hS2 cell0 hv0 hgq cell0' h h3 hX2
  unfold CostNo
  refine (callsIn_wide (n := 9)).1 ?_
  refine callsIn_of_wp_marks Try.func7 rfl trivial ?_ rfl
  simp only [Try.ntmps7, List.size_toArray, List.length_cons, List.length_nil, Nat.reduceAdd, Nat.reduceSub, Array.replicate_succ, Array.replicate_zero, List.push_toArray, List.append_toArray, List.nil_append, List.cons_append]
  gi_wp2_with fail
  refine ⟨trivial, ?_⟩
  gi_wp2_with fail
  refine ⟨trivial, ?_⟩
  gi_wp2
  exact ⟨_, results_tmp rfl _ _ _, rfl, (((Ext.refl w).alloc _).alloc _).alloc _⟩

set_option maxRecDepth 100000 in
set_option maxHeartbeats 1000000 in
theorem cost_no_good (lv cv sv : Value) (Ls : List (List Nat)) (ch sy : List Int) (w : World) (hL : RowsV w lv Ls) (hc : ViewL w cv (ints ch)) (hs : ViewL w sv (ints sy)) (L0 : List Nat) (n : Nat) (hL0 : Ls[0]? = some L0) (hn0 : L0.length = n) (hK2 : 2 ≤ Ls.length ∧ Ls.length ≤ 6) (hS2 : 0 < sy.length ∧ sy.length ≤ 900050) (hG2 : ch.length = manyG sy.length) (h3 : 3 ≤ n) (h258 : n ≤ 258) (hLl : ∀ L ∈ Ls, L.length ≤ 2 ^ 40) (hq : (Ls.any fun L => !decide (GoodC L n)) = true) : CostNo w lv cv sv := by
  obtain ⟨la, lc, rfl⟩ := hL.shape
  obtain ⟨ca, cc, rfl⟩ := hc.shape
  obtain ⟨sa, sc, rfl⟩ := hs.shape
  rw [length_ints] at hc hs ⊢
  rw [length_ints]
  obtain ⟨K, hK⟩ : ∃ K, K = Ls.length := ⟨_, rfl⟩
  obtain ⟨G, hG⟩ : ∃ G, G = ch.length := ⟨_, rfl⟩
  obtain ⟨S, hS⟩ : ∃ S, S = sy.length := ⟨_, rfl⟩
  rw [← hK] at hL ⊢
  rw [← hG] at hc ⊢
  rw [← hS] at hs ⊢
  have k1 : ¬ (K : Int) < 2 := by omega
  have k2 : ¬ (6 : Int) < (K : Int) := by omega
  have s0 : ((S : Int) == 0) = false := by rw [beq_eq_false_iff_ne]; omega
  have s9 : ¬ (900050 : Int) < (S : Int) := by omega
  have hgq : G = (S + 49) / 50 := by rw [hG, hG2, manyG, hS]
  have hgq1 : ((S : Int) + 50 - 1) / 50 = (G : Int) := by omega
  have hgq2 : ((S : Int) + 50 - 1).tdiv 50 = (G : Int) := by rw [Int.tdiv_eq_ediv_of_nonneg (by omega)]; omega
  have K0 : (0 : Int) < (K : Int) := by omega
  obtain ⟨b0, o0, u0, uc0, rfl, cell0, hv0⟩ := hL.at hL0 hn0
  obtain ⟨W2, hW2⟩ : ∃ W2, W2 = ((w.alloc (.cells #[.slice (some ⟨b0, o0, none⟩) K lc] 22)).alloc (.cells #[.slice ca G cc] 23)).alloc (.cells #[.int .i64 n] 3) := ⟨_, rfl⟩
  have hX2 : Ext w W2 := by rw [hW2]; exact (((Ext.refl w).alloc _).alloc _).alloc _
  have cell0' : ∀ wx, Ext w wx → wx.cell? ⟨b0, o0, none⟩ = some (.slice u0 n uc0) := fun wx hx => cell_touch hx (by rw [Nat.add_zero] at cell0; exact cell0) (fun f => f)
  have hcw := cell0' _ (((Ext.refl w).alloc (.cells #[.slice (some ⟨b0, o0, none⟩) K lc] 22)).alloc (.cells #[.slice ca G cc] 23))
  have n3 : ¬ (n : Int) < 3 := by omega
  have n258 : ¬ (258 : Int) < (n : Int) := by omega
  have HX := Lib.hid hX2
  have HGC := Lib.hid (show ∀ (h7 : Boxed W2 (w.heap.size + 1 + 1) 3 (.int .i64 n)), _ from fun h7 => goods_contains _ Ls (w.heap.size + 1 + 1) n W2 h7 (hL.ext hX2) (by omega) h3 h258 hLl)
  have HQ := Lib.hid hq
  clear hL0 hn0 hL hc hs hK hG hS hG2 hK2 hS2 cell0 hv0 hgq cell0' h3 h258 hLl hX2 hq
  unfold CostNo
  refine (callsIn_wide (n := 9)).1 ?_
  refine callsIn_of_wp_marks Try.func7 rfl trivial ?_ rfl
  simp only [Try.ntmps7, List.size_toArray, List.length_cons, List.length_nil, Nat.reduceAdd, Nat.reduceSub, Array.replicate_succ, Array.replicate_zero, List.push_toArray, List.append_toArray, List.nil_append, List.cons_append]
  gi_wp2_with fail
  rw [← hW2]
  have hsz2 : W2.heap.size = w.heap.size + 1 + 1 + 1 := by rw [hW2]; simp
  have b3 : Boxed W2 w.heap.size 22 (.slice (some ⟨b0, o0, none⟩) K lc) := by rw [hW2]; exact ((Boxed.new w _ _).alloc _).alloc _
  have b4 : Boxed W2 (w.heap.size + 1) 23 (.slice ca G cc) := by
    have h := Boxed.new (w.alloc (.cells #[.slice (some ⟨b0, o0, none⟩) K lc] 22)) 23 (.slice ca G cc)
    rw [World.size_alloc] at h
    rw [hW2]; exact h.alloc _
  have b7 : Boxed W2 (w.heap.size + 1 + 1) 3 (.int .i64 n) := by
    have h := Boxed.new ((w.alloc (.cells #[.slice (some ⟨b0, o0, none⟩) K lc] 22)).alloc (.cells #[.slice ca G cc] 23)) 3 (.int .i64 n)
    rw [World.size_alloc, World.size_alloc] at h
    rw [hW2]; exact h
  have HG7 := Lib.hid (HGC.out b7)
  rw [HQ.out] at HG7
  have c3 := b3.cell
  have c4 := b4.cell
  have c7 := b7.cell
  clear hW2 b3 b4 hsz2 HGC hcw
  refine ⟨trivial, (callsIn_wide.2 HG7.out).mono ?_⟩
  rintro e w' ⟨rfl, hw'⟩
  obtain rfl := hw'.symm
  clear b7
  gi_wp2_with fail
  refine ⟨trivial, ?_⟩
  gi_wp2
  exact ⟨_, results_tmp rfl _ _ _, rfl, HX.out⟩

set_option maxRecDepth 100000 in
set_option maxHeartbeats 1000000 in
theorem cost_no_out (lv cv sv : Value) (Ls : List (List Nat)) (ch sy : List Int) (w : World) (hL : RowsV w lv Ls) (hc : ViewL w cv (ints ch)) (hs : ViewL w sv (ints sy)) (L0 : List Nat) (n : Nat) (hL0 : Ls[0]? = some L0) (hn0 : L0.length = n) (hK2 : 2 ≤ Ls.length ∧ Ls.length ≤ 6) (hS2 : 0 < sy.length ∧ sy.length ≤ 900050) (hG2 : ch.length = manyG sy.length) (h3 : 3 ≤ n) (h258 : n ≤ 258) (hLl : ∀ L ∈ Ls, L.length ≤ 2 ^ 40) (hq : (Ls.any fun L => !decide (GoodC L n)) = false) (hp : sy.any (outB n) = true) : CostNo w lv cv sv := by
  obtain ⟨la, lc, rfl⟩ := hL.shape
  obtain ⟨ca, cc, rfl⟩ := hc.shape
  obtain ⟨sa, sc, rfl⟩ := hs.shape
  rw [length_ints] at hc hs ⊢
  rw [length_ints]
  obtain ⟨K, hK⟩ : ∃ K, K = Ls.length := ⟨_, rfl⟩
  obtain ⟨G, hG⟩ : ∃ G, G = ch.length := ⟨_, rfl⟩
  obtain ⟨S, hS⟩ : ∃ S, S = sy.length := ⟨_, rfl⟩
  rw [← hK] at hL ⊢
  rw [← hG] at hc ⊢
  rw [← hS] at hs ⊢
  have k1 : ¬ (K : Int) < 2 := by omega
  have k2 : ¬ (6 : Int) < (K : Int) := by omega
  have s0 : ((S : Int) == 0) = false := by rw [beq_eq_false_iff_ne]; omega
  have s9 : ¬ (900050 : Int) < (S : Int) := by omega
  have hgq : G = (S + 49) / 50 := by rw [hG, hG2, manyG, hS]
  have hgq1 : ((S : Int) + 50 - 1) / 50 = (G : Int) := by omega
  have hgq2 : ((S : Int) + 50 - 1).tdiv 50 = (G : Int) := by rw [Int.tdiv_eq_ediv_of_nonneg (by omega)]; omega
  have K0 : (0 : Int) < (K : Int) := by omega
  obtain ⟨b0, o0, u0, uc0, rfl, cell0, hv0⟩ := hL.at hL0 hn0
  obtain ⟨W2, hW2⟩ : ∃ W2, W2 = ((w.alloc (.cells #[.slice (some ⟨b0, o0, none⟩) K lc] 22)).alloc (.cells #[.slice ca G cc] 23)).alloc (.cells #[.int .i64 n] 3) := ⟨_, rfl⟩
  have hX2 : Ext w W2 := by rw [hW2]; exact (((Ext.refl w).alloc _).alloc _).alloc _
  have cell0' : ∀ wx, Ext w wx → wx.cell? ⟨b0, o0, none⟩ = some (.slice u0 n uc0) := fun wx hx => cell_touch hx (by rw [Nat.add_zero] at cell0; exact cell0) (fun f => f)
  have hcw := cell0' _ (((Ext.refl w).alloc (.cells #[.slice (some ⟨b0, o0, none⟩) K lc] 22)).alloc (.cells #[.slice ca G cc] 23))
  have n3 : ¬ (n : Int) < 3 := by omega
  have n258 : ¬ (258 : Int) < (n : Int) := by omega
  have HX := Lib.hid hX2
  have HGC := Lib.hid (show ∀ (h7 : Boxed W2 (w.heap.size + 1 + 1) 3 (.int .i64 n)), _ from fun h7 => goods_contains _ Ls (w.heap.size + 1 + 1) n W2 h7 (hL.ext hX2) (by omega) h3 h258 hLl)
  have HCC := Lib.hid (show ∀ (h7 : Boxed W2 (w.heap.size + 1 + 1) 3 (.int .i64 n)), _ from fun h7 => costs_contains (.slice sa S sc) sy (w.heap.size + 1 + 1) n W2 h7 (hs.ext hX2) (by omega))
  have HQ := Lib.hid hq
  have HP := Lib.hid hp
  clear hL0 hn0 hL hc hs hK hG hS hG2 hK2 hS2 cell0 hv0 hgq cell0' h3 h258 hLl hX2 hq hp
  unfold CostNo
  refine (callsIn_wide (n := 9)).1 ?_
  refine callsIn_of_wp_marks Try.func7 rfl trivial ?_ rfl
  simp only [Try.ntmps7, List.size_toArray, List.length_cons, List.length_nil, Nat.reduceAdd, Nat.reduceSub, Array.replicate_succ, Array.replicate_zero, List.push_toArray, List.append_toArray, List.nil_append, List.cons_append]
  gi_wp2_with fail
  rw [← hW2]
  have hsz2 : W2.heap.size = w.heap.size + 1 + 1 + 1 := by rw [hW2]; simp
  have b3 : Boxed W2 w.heap.size 22 (.slice (some ⟨b0, o0, none⟩) K lc) := by rw [hW2]; exact ((Boxed.new w _ _).alloc _).alloc _
  have b4 : Boxed W2 (w.heap.size + 1) 23 (.slice ca G cc) := by
    have h := Boxed.new (w.alloc (.cells #[.slice (some ⟨b0, o0, none⟩) K lc] 22)) 23 (.slice ca G cc)
    rw [World.size_alloc] at h
    rw [hW2]; exact h.alloc _
  have b7 : Boxed W2 (w.heap.size + 1 + 1) 3 (.int .i64 n) := by
    have h := Boxed.new ((w.alloc (.cells #[.slice (some ⟨b0, o0, none⟩) K lc] 22)).alloc (.cells #[.slice ca G cc] 23)) 3 (.int .i64 n)
    rw [World.size_alloc, World.size_alloc] at h
    rw [hW2]; exact h
  have HG7 := Lib.hid (HGC.out b7)
  rw [HQ.out] at HG7
  have c3 := b3.cell
  have c4 := b4.cell
  have c7 := b7.cell
  clear hW2 b3 b4 hsz2 HGC hcw
  refine ⟨trivial, (callsIn_wide.2 HG7.out).mono ?_⟩
  rintro e w' ⟨rfl, hw'⟩
  obtain rfl := hw'.symm
  have HC7 := Lib.hid (HCC.out b7)
  rw [HP.out] at HC7
  clear b7
  gi_wp2_with fail
  refine ⟨trivial, (callsIn_wide.2 HC7.out).mono ?_⟩
  rintro e w' ⟨rfl, hw'⟩
  obtain rfl := hw'.symm
  gi_wp2
  exact ⟨_, results_tmp rfl _ _ _, rfl, HX.out⟩

set_option maxRecDepth 100000 in
set_option maxHeartbeats 1000000 in
theorem cost_no_sel (lv cv sv : Value) (Ls : List (List Nat)) (ch sy : List Int) (w : World) (hL : RowsV w lv Ls) (hc : ViewL w cv (ints ch)) (hs : ViewL w sv (ints sy)) (L0 : List Nat) (n : Nat) (hL0 : Ls[0]? = some L0) (hn0 : L0.length = n) (hK2 : 2 ≤ Ls.length ∧ Ls.length ≤ 6) (hS2 : 0 < sy.length ∧ sy.length ≤ 900050) (hG2 : ch.length = manyG sy.length) (h3 : 3 ≤ n) (h258 : n ≤ 258) (hLl : ∀ L ∈ Ls, L.length ≤ 2 ^ 40) (hq : (Ls.any fun L => !decide (GoodC L n)) = false) (hp : sy.any (outB n) = false) (hm : ¬ MayI ch Ls.length) (hcl : ch.length ≤ 2 ^ 40) : CostNo w lv cv sv := by
  obtain ⟨la, lc, rfl⟩ := hL.shape
  obtain ⟨ca, cc, rfl⟩ := hc.shape
  obtain ⟨sa, sc, rfl⟩ := hs.shape
  rw [length_ints] at hc hs ⊢
  rw [length_ints]
  obtain ⟨K, hK⟩ : ∃ K, K = Ls.length := ⟨_, rfl⟩
  obtain ⟨G, hG⟩ : ∃ G, G = ch.length := ⟨_, rfl⟩
  obtain ⟨S, hS⟩ : ∃ S, S = sy.length := ⟨_, rfl⟩
  rw [← hK] at hL ⊢
  rw [← hG] at hc ⊢
  rw [← hS] at hs ⊢
  have k1 : ¬ (K : Int) < 2 := by omega
  have k2 : ¬ (6 : Int) < (K : Int) := by omega
  have s0 : ((S : Int) == 0) = false := by rw [beq_eq_false_iff_ne]; omega
  have s9 : ¬ (900050 : Int) < (S : Int) := by omega
  have hgq : G = (S + 49) / 50 := by rw [hG, hG2, manyG, hS]
  have hgq1 : ((S : Int) + 50 - 1) / 50 = (G : Int) := by omega
  have hgq2 : ((S : Int) + 50 - 1).tdiv 50 = (G : Int) := by rw [Int.tdiv_eq_ediv_of_nonneg (by omega)]; omega
  have K0 : (0 : Int) < (K : Int) := by omega
  obtain ⟨b0, o0, u0, uc0, rfl, cell0, hv0⟩ := hL.at hL0 hn0
  obtain ⟨W2, hW2⟩ : ∃ W2, W2 = ((w.alloc (.cells #[.slice (some ⟨b0, o0, none⟩) K lc] 22)).alloc (.cells #[.slice ca G cc] 23)).alloc (.cells #[.int .i64 n] 3) := ⟨_, rfl⟩
  have hX2 : Ext w W2 := by rw [hW2]; exact (((Ext.refl w).alloc _).alloc _).alloc _
  have cell0' : ∀ wx, Ext w wx → wx.cell? ⟨b0, o0, none⟩ = some (.slice u0 n uc0) := fun wx hx => cell_touch hx (by rw [Nat.add_zero] at cell0; exact cell0) (fun f => f)
  have hcw := cell0' _ (((Ext.refl w).alloc (.cells #[.slice (some ⟨b0, o0, none⟩) K lc] 22)).alloc (.cells #[.slice ca G cc] 23))
  have n3 : ¬ (n : Int) < 3 := by omega
  have n258 : ¬ (258 : Int) < (n : Int) := by omega
  have HX := Lib.hid hX2
  have HGC := Lib.hid (show ∀ (h7 : Boxed W2 (w.heap.size + 1 + 1) 3 (.int .i64 n)), _ from fun h7 => goods_contains _ Ls (w.heap.size + 1 + 1) n W2 h7 (hL.ext hX2) (by omega) h3 h258 hLl)
  have HCC := Lib.hid (show ∀ (h7 : Boxed W2 (w.heap.size + 1 + 1) 3 (.int .i64 n)), _ from fun h7 => costs_contains (.slice sa S sc) sy (w.heap.size + 1 + 1) n W2 h7 (hs.ext hX2) (by omega))
  have HPB := Lib.hid (show ∀ (B : Nat) (wx : World), Ext w wx → Calls Try.prog 20 #[.pointer (some ⟨B, 0, none⟩), .slice ca G cc, .int .i64 K] wx fun e w' => e = .returned (.int .i64 5) ∧ wx = w' from fun B wx hx => tab_puts_bad B _ ch K wx (hc.ext hx) (by omega) (by rw [hK]; exact hm))
  have HQ := Lib.hid hq
  have HP := Lib.hid hp
  clear hL0 hn0 hL hc hs hK hG hS hG2 hK2 hS2 cell0 hv0 hgq cell0' h3 h258 hLl hX2 hq hp hm hcl
  unfold CostNo
  refine (callsIn_wide (n := 9)).1 ?_
  refine callsIn_of_wp_marks Try.func7 rfl trivial ?_ rfl
  simp only [Try.ntmps7, List.size_toArray, List.length_cons, List.length_nil, Nat.reduceAdd, Nat.reduceSub, Array.replicate_succ, Array.replicate_zero, List.push_toArray, List.append_toArray, List.nil_append, List.cons_append]
  gi_wp2_with fail
  rw [← hW2]
  have hsz2 : W2.heap.size = w.heap.size + 1 + 1 + 1 := by rw [hW2]; simp
  have b3 : Boxed W2 w.heap.size 22 (.slice (some ⟨b0, o0, none⟩) K lc) := by rw [hW2]; exact ((Boxed.new w _ _).alloc _).alloc _
  have b4 : Boxed W2 (w.heap.size + 1) 23 (.slice ca G cc) := by
    have h := Boxed.new (w.alloc (.cells #[.slice (some ⟨b0, o0, none⟩) K lc] 22)) 23 (.slice ca G cc)
    rw [World.size_alloc] at h
    rw [hW2]; exact h.alloc _
  have b7 : Boxed W2 (w.heap.size + 1 + 1) 3 (.int .i64 n) := by
    have h := Boxed.new ((w.alloc (.cells #[.slice (some ⟨b0, o0, none⟩) K lc] 22)).alloc (.cells #[.slice ca G cc] 23)) 3 (.int .i64 n)
    rw [World.size_alloc, World.size_alloc] at h
    rw [hW2]; exact h
  have HG7 := Lib.hid (HGC.out b7)
  rw [HQ.out] at HG7
  have c3 := b3.cell
  have c4 := b4.cell
  have c7 := b7.cell
  clear hW2 b3 b4 hsz2 HGC hcw
  refine ⟨trivial, (callsIn_wide.2 HG7.out).mono ?_⟩
  rintro e w' ⟨rfl, hw'⟩
  obtain rfl := hw'.symm
  have HC7 := Lib.hid (HCC.out b7)
  rw [HP.out] at HC7
  skip
  gi_wp2_with fail
  refine ⟨trivial, (callsIn_wide.2 HC7.out).mono ?_⟩
  rintro e w' ⟨rfl, hw'⟩
  obtain rfl := hw'.symm
  have c3' : (W2.alloc (.cells #[.slice none 0 0, .int .i64 0] 46)).cell? ⟨w.heap.size, 0, none⟩ = some (.slice (some ⟨b0, o0, none⟩) K lc) := cell_touch ((Touch.refl (fun _ => False) W2).alloc _) c3 (fun f => f)
  have c4' : (W2.alloc (.cells #[.slice none 0 0, .int .i64 0] 46)).cell? ⟨w.heap.size + 1, 0, none⟩ = some (.slice ca G cc) := cell_touch ((Touch.refl (fun _ => False) W2).alloc _) c4 (fun f => f)
  clear b7
  gi_wp2_with fail
  refine ⟨trivial, (callsIn_wide.2 (HPB.out _ _ (HX.out.alloc _))).mono ?_⟩
  rintro e w' ⟨rfl, rfl⟩
  gi_wp2
  exact ⟨_, results_tmp rfl _ _ _, rfl, HX.out.alloc _⟩
end Go.Proofs.Ytaabmlnbadpfgaa

/-! The document's side of refine: what its small functions answer. -/
namespace Go.Proofs.Ytaabmlnbadpfgaa
open Go.RowKit
set_option linter.unusedVariables false

theorem pow_half (k : Nat) (h : k < 20) : 2 ^ (20 - k) / 2 = 2 ^ (20 - (k + 1)) := by
  rw [show 20 - k = (20 - (k + 1)) + 1 by omega, Nat.pow_succ]
  omega
set_option maxHeartbeats 2000000 in
theorem ref_weight (v : Value) (bs : List Nat) (w : World) (hv : ViewL w v (u8s bs)) (hm : MayK bs) :
    Calls Try.prog 49 #[v] w fun e w' => e = .returned (.int .i64 (weightL bs)) ∧ w = w' := by
  obtain ⟨ao, cap, rfl⟩ := hv.shape
  rw [length_u8s] at *
  have hl := hm.1
  have HV := Lib.hid hv
  have HM := Lib.hid hm
  clear hv hm
  go_enter Try.func49, Try.ntmps49
  go_wp2_with fail
  go_loopw [3, 4, 5, 6] (fun nv iv pv jv wr => ∃ k : Nat, iv = .int .i64 k ∧ nv = .int .i64 (weightL (bs.take k)) ∧ k ≤ bs.length ∧ wr = w) (fun _ iv _ _ _ => bs.length - (intOf iv).toNat)
  case atStart => exact ⟨0, rfl, by simp [weightL], Nat.zero_le _, rfl⟩
  case round =>
    obtain ⟨k, rfl, rfl, hk, hwr⟩ := hrel
    obtain rfl : w = wr := hwr.symm
    have hwl := weightL_le (bs.take k)
    rw [List.length_take] at hwl
    have hw : weightL (bs.take k) ≤ 512 * 2 ^ 20 := Nat.le_trans hwl (Nat.mul_le_mul_right _ (by omega))
    clear hwl
    by_cases hlt : k < bs.length
    · have hlti : (k : Int) < (bs.length : Int) := by omega
      obtain ⟨b, o, rfl, _, hc⟩ := viewL_cells HV.out (by rw [length_u8s]; omega)
      obtain ⟨y, hy⟩ : ∃ y, bs.getD k 0 = y := ⟨_, rfl⟩
      have c1 := hc k (.int .u8 y) (by rw [getElem?_u8s _ _ hlt, hy])
      have hy20 : y ≤ 20 := by
        rw [← hy, List.getD, List.getElem?_eq_getElem hlt]; exact HM.out.2 _ (List.getElem_mem _)
      have HT := Lib.hid (weightL_take bs k hlt)
      rw [hy] at HT
      obtain ⟨W', hW'⟩ : ∃ W', weightL (bs.take (k + 1)) = W' := ⟨_, rfl⟩
      rw [hW'] at HT
      have HW' := Lib.hid hW'
      clear hW'
      generalize weightL (bs.take k) = W at *
      clear hc hy
      by_cases hy0 : y = 0
      · subst hy0
        go_wp2_with fail
        go_roundw
        case rel => exact ⟨k + 1, by go_num, by rw [HW'.out]; have := HT.out; simp at this; rw [this], by omega, trivial⟩
        case measure => simp [intOf]; omega
      · have hy0i : (0 : Int) < (y : Int) := by omega
        go_wp2_with fail
        go_loopw [5, 6] (fun pv jv wi => ∃ j : Nat, jv = .int .i64 j ∧ pv = .int .i64 ((2 ^ (20 - j) : Nat) : Int) ∧ j ≤ y ∧ wi = w) (fun _ jv _ => y - (intOf jv).toNat)
        case atStart => exact ⟨0, rfl, rfl, Nat.zero_le _, rfl⟩
        case round =>
          obtain ⟨j, rfl, rfl, hj, hwi⟩ := hrel
          obtain rfl : w = wr := hwi.symm
          obtain ⟨Pj, hPj⟩ : ∃ Pj, 2 ^ (20 - j) = Pj := ⟨_, rfl⟩
          have hp := pow_part j (by omega)
          rw [hPj] at hp ⊢
          by_cases hjy : j < y
          · have hjyi : (j : Int) < (y : Int) := by omega
            have HH := Lib.hid (pow_half j (by omega))
            rw [hPj] at HH
            clear hPj
            go_wp2_with fail
            go_roundw
            case rel => exact ⟨j + 1, by go_num, by rw [← HH.out]; rfl, by omega, trivial⟩
            case measure => simp [intOf]; omega
          · obtain rfl : j = y := by omega
            have HP := Lib.hid hPj
            clear hPj
            go_wp2_with fail
            go_roundw
            case rel => exact ⟨k + 1, by go_num, by rw [HW'.out]; have := HT.out; rw [if_neg hy0, HP.out] at this; rw [this]; first | rfl | exact congrArg (Value.int .i64) (Int.natCast_add W Pj).symm, by omega, trivial⟩
            case measure => simp [intOf]; omega
    · obtain rfl : k = bs.length := by omega
      go_wp2_with fail
      go_ret
      exact ⟨rfl, rfl⟩
def SymI (xs : List Int) (n : Int) : Prop := 3 ≤ n ∧ n ≤ 258 ∧ 0 < xs.length ∧ xs.length ≤ 900050 ∧ ∀ x ∈ xs, 0 ≤ x ∧ x < n
set_option maxHeartbeats 2000000 in
theorem ref_symbols (v : Value) (xs : List Int) (n : Int) (w : World) (hv : ViewL w v (ints xs)) (hl : xs.length ≤ 2 ^ 40) :
    Calls Try.prog 12 #[v, .int .i64 n] w fun e w' => (e = .returned (.bool true) ∧ SymI xs n ∨ e = .returned (.bool false) ∧ ¬ SymI xs n) ∧ w = w' := by
  obtain ⟨ao, cap, rfl⟩ := hv.shape
  rw [length_ints] at *
  have HV := Lib.hid hv
  clear hv
  go_enter Try.func12, Try.ntmps12
  go_wp2_with fail
  go_loopw [5] (fun iv wr => ∃ k : Nat, iv = .int .i64 k ∧ k ≤ xs.length ∧ Hid (∀ i x, i < k → xs[i]? = some x → 0 ≤ x ∧ x < n) ∧ wr = w) (fun iv _ => xs.length - (intOf iv).toNat)
  case atStart => exact ⟨0, rfl, Nat.zero_le _, Lib.hid (fun i x h => absurd h (Nat.not_lt_zero _)), rfl⟩
  case round =>
    obtain ⟨k, rfl, hk, HALL, hwr⟩ := hrel
    obtain rfl : w = wr := hwr.symm
    by_cases hlt : k < xs.length
    · have hlti : (k : Int) < (xs.length : Int) := by omega
      obtain ⟨b, o, rfl, _, hc⟩ := viewL_cells HV.out (by rw [length_ints]; omega)
      obtain ⟨x, hx⟩ : ∃ x, xs[k]? = some x := ⟨_, List.getElem?_eq_getElem hlt⟩
      have c1 := hc k (.int .i64 x) (by simp [ints, hx])
      have HX := Lib.hid hx
      clear hc hx
      by_cases hx1 : x < 0
      · go_wp2_with fail
        go_ret
        exact ⟨Or.inr ⟨rfl, fun h => by have := (h.2.2.2.2 x (List.mem_of_getElem? HX.out)).1; omega⟩, rfl⟩
      · have hxi : decide (x < 0) = false := decide_eq_false (by omega)
        by_cases hx2 : n ≤ x
        · go_wp2_with fail
          go_ret
          exact ⟨Or.inr ⟨rfl, fun h => by have := (h.2.2.2.2 x (List.mem_of_getElem? HX.out)).2; omega⟩, rfl⟩
        · have HF := Lib.hid (show ∀ i y, i < k + 1 → xs[i]? = some y → 0 ≤ y ∧ y < n from fun i y hi hy => by
            by_cases h : i < k
            · exact HALL.out i y h hy
            · rw [show i = k by omega, HX.out] at hy
              cases hy; omega)
          go_wp2_with fail
          go_roundw
          case rel => exact ⟨k + 1, by go_num, by omega, HF, trivial⟩
          case measure => simp [intOf]; omega
    · obtain rfl : k = xs.length := by omega
      have HBB := Lib.hid (show ∀ x ∈ xs, 0 ≤ x ∧ x < n from fun x hx => by
        obtain ⟨i, hi, e⟩ := List.getElem_of_mem hx
        exact HALL.out i x hi (by rw [List.getElem?_eq_getElem hi, e]))
      by_cases h2 : 3 ≤ n
      · by_cases h6 : n ≤ 258
        · by_cases h0 : 1 ≤ xs.length
          · have h0i : (1 : Int) ≤ (xs.length : Int) := by omega
            by_cases h3 : xs.length ≤ 900050
            · have h3i : (xs.length : Int) ≤ 900050 := by omega
              go_wp2_with fail
              go_ret
              exact ⟨Or.inl ⟨rfl, h2, h6, h0, h3, HBB.out⟩, rfl⟩
            · have h3i : decide ((xs.length : Int) ≤ 900050) = false := decide_eq_false (by omega)
              have h3j : ¬ (xs.length : Int) ≤ 900050 := by omega
              go_wp2_with fail
              go_ret
              exact ⟨Or.inr ⟨rfl, fun h => h3 h.2.2.2.1⟩, rfl⟩
          · have h0i : decide ((1 : Int) ≤ (xs.length : Int)) = false := decide_eq_false (by omega)
            have h0j : ¬ (1 : Int) ≤ (xs.length : Int) := by omega
            go_wp2_with fail
            go_ret
            exact ⟨Or.inr ⟨rfl, fun h => h0 h.2.2.1⟩, rfl⟩
        · have h6i : decide (n ≤ 258) = false := decide_eq_false h6
          go_wp2_with fail
          go_ret
          exact ⟨Or.inr ⟨rfl, fun h => absurd h.2.1 (by omega)⟩, rfl⟩
      · have h2i : decide (3 ≤ n) = false := decide_eq_false h2
        go_wp2_with fail
        go_ret
        exact ⟨Or.inr ⟨rfl, fun h => absurd h.1 (by omega)⟩, rfl⟩

def codeB (L : List Nat) (n : Nat) : Bool := decide (GoodC L n)
set_option maxHeartbeats 2000000 in
theorem ref_code (v : Value) (bs : List Nat) (n : Nat) (w : World) (hv : ViewL w v (u8s bs)) (hl : bs.length ≤ 2 ^ 40) (hn : n ≤ 258) :
    Calls Try.prog 27 #[v, .int .i64 n] w fun e w' => e = .returned (.bool (codeB bs n)) ∧ w = w' := by
  obtain ⟨ao, cap, rfl⟩ := hv.shape
  rw [length_u8s] at *
  have HV := Lib.hid hv
  have HN := Lib.hid hn
  clear hv hn
  go_enter Try.func27, Try.ntmps27
  go_wp2_with fail
  go_loopw [5] (fun iv wr => ∃ k : Nat, iv = .int .i64 k ∧ k ≤ bs.length ∧ Hid (∀ i x, i < k → bs[i]? = some x → 1 ≤ x ∧ x ≤ 17) ∧ wr = w) (fun iv _ => bs.length - (intOf iv).toNat)
  case atStart => exact ⟨0, rfl, Nat.zero_le _, Lib.hid (fun i x h => absurd h (Nat.not_lt_zero _)), rfl⟩
  case round =>
    obtain ⟨k, rfl, hk, HALL, hwr⟩ := hrel
    obtain rfl : w = wr := hwr.symm
    by_cases hlt : k < bs.length
    · have hlti : (k : Int) < (bs.length : Int) := by omega
      obtain ⟨b, o, rfl, _, hc⟩ := viewL_cells HV.out (by rw [length_u8s]; omega)
      obtain ⟨x, hx⟩ : ∃ x, bs[k]? = some x := ⟨_, List.getElem?_eq_getElem hlt⟩
      have c1 := hc k (.int .u8 x) (by simp [u8s, hx])
      have HX := Lib.hid hx
      clear hc hx
      by_cases hx1 : x < 1
      · have HE := Lib.hid (show codeB bs n = false from decide_eq_false fun h => by have := (h.2.1 x (List.mem_of_getElem? HX.out)).1; omega)
        have hx1i : (x : Int) < 1 := by omega
        clear hx1
        go_wp2_with fail
        go_ret
        exact ⟨by rw [HE.out]; rfl, rfl⟩
      · have hxi : decide ((x : Int) < 1) = false := decide_eq_false (by omega)
        by_cases hx2 : 17 < x
        · have HE := Lib.hid (show codeB bs n = false from decide_eq_false fun h => by have := (h.2.1 x (List.mem_of_getElem? HX.out)).2; omega)
          have hx2i : (17 : Int) < (x : Int) := by omega
          clear hx1 hx2
          go_wp2_with fail
          go_ret
          exact ⟨by rw [HE.out]; rfl, rfl⟩
        · have HF := Lib.hid (show ∀ i y, i < k + 1 → bs[i]? = some y → 1 ≤ y ∧ y ≤ 17 from fun i y hi hy => by
            by_cases h : i < k
            · exact HALL.out i y h hy
            · rw [show i = k by omega, HX.out] at hy
              cases hy; omega)
          have hx2i : decide ((17 : Int) < (x : Int)) = false := decide_eq_false (by omega)
          clear hx1 hx2
          go_wp2_with fail
          go_roundw
          case rel => exact ⟨k + 1, by go_num, by omega, HF, trivial⟩
          case measure => simp [intOf]; omega
    · obtain rfl : k = bs.length := by omega
      have HBB := Lib.hid (show ∀ x ∈ bs, 1 ≤ x ∧ x ≤ 17 from fun x hx => by
        obtain ⟨i, hi, e⟩ := List.getElem_of_mem hx
        exact HALL.out i x hi (by rw [List.getElem?_eq_getElem hi, e]))
      by_cases hn : bs.length = n
      · have HNE := Lib.hid hn
        have hne : ((bs.length : Int) == (n : Int)) = true := by rw [hn]; simp
        have HM := Lib.hid (show MayK bs from ⟨by have := HN.out; omega, fun x hx => by have := HBB.out x hx; omega⟩)
        have HW := Lib.hid (ref_weight (.slice ao bs.length cap) bs w HV.out HM.out)
        obtain ⟨W, hW⟩ : ∃ W, W = weightL bs := ⟨_, rfl⟩
        rw [← hW] at HW
        have HWE := Lib.hid hW
        clear hn hW HM
        go_wp2_with fail
        refine HW.out.mono ?_
        rintro e w' ⟨rfl, rfl⟩
        by_cases hw : W ≤ 2 ^ 20
        · have HE := Lib.hid (show codeB bs n = true from decide_eq_true ⟨HNE.out, HBB.out, by rw [← HWE.out]; exact hw⟩)
          have hwi : (W : Int) ≤ 1048576 := by omega
          clear hw
          go_wp2_with fail
          go_ret
          exact ⟨by rw [HE.out]; rfl, rfl⟩
        · have HE := Lib.hid (show codeB bs n = false from decide_eq_false fun h => hw (by have := h.2.2; rw [← HWE.out] at this; exact this))
          have hwi : decide ((W : Int) ≤ 1048576) = false := decide_eq_false (by omega)
          have hwj : ¬ (W : Int) ≤ 1048576 := by omega
          clear hw
          go_wp2_with fail
          go_ret
          exact ⟨by rw [HE.out]; rfl, rfl⟩
      · have HE := Lib.hid (show codeB bs n = false from decide_eq_false fun h => hn h.1)
        have hne : ((bs.length : Int) == (n : Int)) = false := by rw [beq_eq_false_iff_ne]; omega
        clear hn
        go_wp2_with fail
        go_ret
        exact ⟨by rw [HE.out]; rfl, rfl⟩
end Go.Proofs.Ytaabmlnbadpfgaa

/-! refine: what a choice costs, both ways of counting: plain. -/
namespace Go.Proofs.Ytaabmlnbadpfgaa
open Go.RowKit
set_option linter.unusedVariables false

/-- one symbol's bits. -/
def oneN (Ls : List (List Nat)) (ch sy : List Nat) (i : Nat) : Nat := (Ls.getD (ch.getD (i / 50) 0) []).getD (sy.getD i 0) 0
def symN (Ls : List (List Nat)) (ch sy : List Nat) (k : Nat) : Nat := ((List.range k).map (oneN Ls ch sy)).sum
theorem symN_succ (Ls : List (List Nat)) (ch sy : List Nat) (k : Nat) : symN Ls ch sy (k + 1) = symN Ls ch sy k + oneN Ls ch sy k := by
  rw [symN, List.range_succ]; simp [symN]
theorem symN_add (Ls : List (List Nat)) (ch sy : List Nat) (a m : Nat) : symN Ls ch sy (a + m) = symN Ls ch sy a + ((List.range m).map fun j => oneN Ls ch sy (a + j)).sum := by
  induction m with
  | zero => simp
  | succ m ih =>
    rw [← Nat.add_assoc, symN_succ, ih, List.range_succ, List.map_append, List.sum_append, Nat.add_assoc]
    simp
theorem grpS_map (sy : List Nat) (g : Nat) : grpS sy g = (List.range (min 50 (sy.length - 50 * g))).map fun j => sy.getD (50 * g + j) 0 := by
  refine List.ext_getElem (by simp [grpS]) fun j h1 h2 => ?_
  have hj : 50 * g + j < sy.length := by simp at h2; omega
  simp [grpS, List.getD, List.getElem?_eq_getElem hj]
theorem grpsN_symN (Ls : List (List Nat)) (ch sy : List Nat) : ∀ g, 50 * g ≤ sy.length + 49 → grpsN Ls ch sy (List.range g) = symN Ls ch sy (min sy.length (50 * g))
  | 0, _ => by simp [grpsN, symN]
  | g + 1, h => by
    rw [List.range_succ, grpsN_snoc, grpsN_symN Ls ch sy g (by omega)]
    rw [show min sy.length (50 * g) = 50 * g by omega, show min sy.length (50 * (g + 1)) = 50 * g + min 50 (sy.length - 50 * g) by omega, symN_add, bitsR, grpS_map, List.map_map]
    congr 2
    refine List.map_congr_left fun j hj => ?_
    have := List.mem_range.1 hj
    simp only [Function.comp, oneN]
    rw [show (50 * g + j) / 50 = g by omega]
theorem grpsN_all (Ls : List (List Nat)) (ch sy : List Nat) : grpsN Ls ch sy (List.range (manyG sy.length)) = symN Ls ch sy sy.length := by
  rw [grpsN_symN _ _ _ _ (by rw [manyG]; omega)]
  rw [show min sy.length (50 * manyG sy.length) = sy.length by rw [manyG]; omega]
theorem costN_sym (Ls : List (List Nat)) (ch sy : List Nat) : costN Ls ch sy = (selBits ch).length + lensN Ls + symN Ls ch sy sy.length := by
  rw [costN, grpsN_all]

def headN (Ls : List (List Nat)) : Nat := (Ls.headD []).length
def toN (l : List Int) : List Nat := l.map Int.toNat
theorem ints_toN {l : List Int} (h : ∀ x ∈ l, 0 ≤ x) : ints l = intsL (toN l) := by
  refine ints_nat ?_
  rw [toN, List.map_map]
  conv => lhs; rw [← List.map_id l]
  refine List.map_congr_left fun x hx => ?_
  have := h x hx
  simp only [id, Function.comp]; omega
/-- a choice that has its cost. -/
structure CostC (Ls : List (List Nat)) (ch sy : List Int) : Prop where
  k2 : 2 ≤ Ls.length
  k6 : Ls.length ≤ 6
  sym : SymI sy (headN Ls)
  many : ch.length = manyG sy.length
  sel : MayI ch Ls.length
  good : ∀ L ∈ Ls, GoodC L (headN Ls)
open Classical in
noncomputable def costZ (Ls : List (List Nat)) (ch sy : List Int) : Int := if CostC Ls ch sy then (costN Ls (toN ch) (toN sy) : Nat) else -1
theorem costZ_ok {Ls : List (List Nat)} {ch sy : List Int} (h : CostC Ls ch sy) : costZ Ls ch sy = (costN Ls (toN ch) (toN sy) : Nat) := by rw [costZ, if_pos h]
theorem costZ_no {Ls : List (List Nat)} {ch sy : List Int} (h : ¬ CostC Ls ch sy) : costZ Ls ch sy = -1 := by rw [costZ, if_neg h]
theorem CostC.ok {Ls : List (List Nat)} {ch sy : List Int} (h : CostC Ls ch sy) : CostOk Ls (toN ch) (toN sy) (headN Ls) where
  sel := ⟨h.k2, h.k6, by rw [toN, List.length_map]; exact h.sel.2.2.1, by rw [toN, List.length_map]; exact h.sel.2.2.2.1, fun v hv => by
    obtain ⟨x, hx, rfl⟩ := List.mem_map.1 hv
    have := h.sel.2.2.2.2 x hx
    omega⟩
  sy0 := by rw [toN, List.length_map]; exact h.sym.2.2.1
  syh := by rw [toN, List.length_map]; exact h.sym.2.2.2.1
  many := by rw [toN, List.length_map, toN, List.length_map]; exact h.many
  n3 := by have := h.sym.1; omega
  n258 := by have := h.sym.2.1; omega
  good := h.good
  lt := fun v hv => by
    obtain ⟨x, hx, rfl⟩ := List.mem_map.1 hv
    have := h.sym.2.2.2.2 x hx
    omega
theorem headN_at {Ls : List (List Nat)} (h : 0 < Ls.length) : Ls[0]? = some (Ls.headD []) := by
  cases Ls with
  | nil => simp at h
  | cons a l => rfl
theorem SymI.out {sy : List Int} {n : Nat} (h : ∀ x ∈ sy, 0 ≤ x ∧ x < (n : Int)) : sy.any (outB n) = false := by
  rw [List.any_eq_false]
  intro x hx
  have := h x hx
  simp [outB]; omega
/-- **refine.Cost, whatever it is handed**. -/
theorem cost_all (lv cv sv : Value) (Ls : List (List Nat)) (ch sy : List Int) (w : World) (hL : RowsV w lv Ls) (hc : ViewL w cv (ints ch)) (hs : ViewL w sv (ints sy)) (hLl : ∀ L ∈ Ls, L.length ≤ 2 ^ 40) (hcl : ch.length ≤ 2 ^ 40) :
    Calls Try.prog 7 #[lv, cv, sv] w fun e w' => e = .returned (.int .i64 (costZ Ls ch sy)) ∧ Ext w w' := by
  have no : CostNo w lv cv sv → ¬ CostC Ls ch sy → Calls Try.prog 7 #[lv, cv, sv] w fun e w' => e = .returned (.int .i64 (costZ Ls ch sy)) ∧ Ext w w' := fun h hn => h.mono fun e w' ⟨h1, h2⟩ => ⟨by rw [h1, costZ_no hn], h2⟩
  by_cases k2 : Ls.length < 2
  · exact no (cost_no_few lv cv sv Ls ch sy w hL hc hs k2) fun h => by have := h.k2; omega
  by_cases k6 : 6 < Ls.length
  · exact no (cost_no_many lv cv sv Ls ch sy w hL hc hs k6) fun h => by have := h.k6; omega
  by_cases s0 : sy.length = 0
  · exact no (cost_no_none lv cv sv Ls ch sy w hL hc hs ⟨by omega, by omega⟩ s0) fun h => by have := h.sym.2.2.1; omega
  by_cases s9 : 900050 < sy.length
  · exact no (cost_no_long lv cv sv Ls ch sy w hL hc hs ⟨by omega, by omega⟩ s9) fun h => by have := h.sym.2.2.2.1; omega
  by_cases hm : ¬ ch.length = manyG sy.length
  · exact no (cost_no_group lv cv sv Ls ch sy w hL hc hs ⟨by omega, by omega⟩ ⟨by omega, by omega⟩ hm) fun h => hm h.many
  have hm := Classical.not_not.1 hm
  have h0 := headN_at (show 0 < Ls.length by omega)
  by_cases n3 : headN Ls < 3
  · exact no (cost_no_small lv cv sv Ls ch sy w hL hc hs _ (headN Ls) h0 rfl ⟨by omega, by omega⟩ ⟨by omega, by omega⟩ hm n3) fun h => by have := h.sym.1; omega
  by_cases n258 : 258 < headN Ls
  · exact no (cost_no_big lv cv sv Ls ch sy w hL hc hs _ (headN Ls) h0 rfl ⟨by omega, by omega⟩ ⟨by omega, by omega⟩ hm (by omega) n258) fun h => by have := h.sym.2.1; omega
  by_cases hg : (Ls.any fun L => !decide (GoodC L (headN Ls))) = true
  · exact no (cost_no_good lv cv sv Ls ch sy w hL hc hs _ (headN Ls) h0 rfl ⟨by omega, by omega⟩ ⟨by omega, by omega⟩ hm (by omega) (by omega) hLl hg) fun h => by
      obtain ⟨L, hL, hq⟩ := List.any_eq_true.1 hg
      simp [h.good L hL] at hq
  have hg := Bool.eq_false_iff.2 hg
  by_cases ho : sy.any (outB (headN Ls)) = true
  · exact no (cost_no_out lv cv sv Ls ch sy w hL hc hs _ (headN Ls) h0 rfl ⟨by omega, by omega⟩ ⟨by omega, by omega⟩ hm (by omega) (by omega) hLl hg ho) fun h => by
      rw [SymI.out h.sym.2.2.2.2] at ho; cases ho
  have ho := Bool.eq_false_iff.2 ho
  by_cases hs2 : ¬ MayI ch Ls.length
  · exact no (cost_no_sel lv cv sv Ls ch sy w hL hc hs _ (headN Ls) h0 rfl ⟨by omega, by omega⟩ ⟨by omega, by omega⟩ hm (by omega) (by omega) hLl hg ho hs2 hcl) fun h => hs2 h.sel
  have hs2 := Classical.not_not.1 hs2
  have hsy : ∀ x ∈ sy, 0 ≤ x ∧ x < (headN Ls : Int) := fun x hx => by
    have := List.any_eq_false.1 ho x hx
    simp [outB] at this; omega
  have hC : CostC Ls ch sy := ⟨by omega, by omega, ⟨by omega, by omega, by omega, by omega, hsy⟩, hm, hs2, fun L hL => by
    have := List.any_eq_false.1 hg L hL
    simpa using this⟩
  rw [costZ_ok hC]
  exact ref_cost_ok lv cv sv Ls (toN ch) (toN sy) (headN Ls) w hL (by rw [← ints_toN (fun x hx => (hs2.2.2.2.2 x hx).1)]; exact hc) (by rw [← ints_toN (fun x hx => (hsy x hx).1)]; exact hs) hC.ok
end Go.Proofs.Ytaabmlnbadpfgaa

/-! refine.Choose's closure: the difference of two costs. -/
namespace Go.Proofs.Ytaabmlnbadpfgaa
open Go.RowKit
set_option linter.unusedVariables false

theorem costN_le {Ls : List (List Nat)} {ch sy : List Nat} {n : Nat} (h : CostOk Ls ch sy n) : costN Ls ch sy ≤ 2 ^ 42 := by
  have h1 := lensN_le h.good h.n3 h.n258
  have h2 := grpsN_le (Ls := Ls) (ch := ch) (sy := sy) (fun L hL y hy => by have := (h.good L hL).2.1 y hy; omega) (List.range (manyG sy.length))
  have h3 := selBits_len ch Ls.length h.sel
  have h4 := h.sel
  have h5 : manyG sy.length ≤ 18001 := by have := h.syh; unfold manyG; omega
  rw [List.length_range] at h2
  have h6 := h4.2.1
  have h7 := h4.2.2.2.1
  rw [costN]
  omega
theorem costZ_bd (Ls : List (List Nat)) (ch sy : List Int) : -1 ≤ costZ Ls ch sy ∧ costZ Ls ch sy ≤ 4398046511104 := by
  by_cases h : CostC Ls ch sy
  · rw [costZ_ok h]
    have := costN_le h.ok
    omega
  · rw [costZ_no h]; omega
set_option maxRecDepth 100000 in
set_option maxHeartbeats 2000000 in
theorem ref_diff (Bs : Nat) (la ga lb gb sv : Value) (As Cs : List (List Nat)) (ca cb sy : List Int) (w : World) (hs : w.cell? ⟨Bs, 0, none⟩ = some sv) (hsv : ViewL w sv (ints sy)) (hA : RowsV w la As) (hca : ViewL w ga (ints ca)) (hB : RowsV w lb Cs) (hcb : ViewL w gb (ints cb))
    (hAl : ∀ L ∈ As, L.length ≤ 2 ^ 40) (hBl : ∀ L ∈ Cs, L.length ≤ 2 ^ 40) (hal : ca.length ≤ 2 ^ 40) (hbl : cb.length ≤ 2 ^ 40) :
    Calls Try.prog 33 #[.agg #[la, ga], .agg #[lb, gb], .pointer (some ⟨Bs, 0, none⟩)] w fun e w' => e = .returned (.int .i64 (costZ As ca sy - costZ Cs cb sy)) ∧ Ext w w' := by
  obtain ⟨x, hx⟩ : ∃ x, x = costZ As ca sy := ⟨_, rfl⟩
  obtain ⟨y, hy⟩ : ∃ y, y = costZ Cs cb sy := ⟨_, rfl⟩
  have hxb := costZ_bd As ca sy
  have hyb := costZ_bd Cs cb sy
  rw [← hx] at hxb ⊢
  rw [← hy] at hyb ⊢
  have HW := Lib.hid (show IntKind.i64.wrap (x - y) = x - y from IntWalk.i64_in _ (by omega))
  obtain ⟨W, hW⟩ : ∃ W, W = (w.alloc (.cells #[la, ga] 61)).alloc (.cells #[lb, gb] 61) := ⟨_, rfl⟩
  obtain ⟨A3, hA3⟩ : ∃ A3, A3 = w.heap.size := ⟨_, rfl⟩
  obtain ⟨A4, hA4⟩ : ∃ A4, A4 = w.heap.size + 1 := ⟨_, rfl⟩
  have hXW : Ext w W := by rw [hW]; exact ((Ext.refl w).alloc _).alloc _
  have a3 : W.heap[A3]? = some (.cells #[la, ga] 61) := by
    rw [hW, hA3]; exact (Touch.keep (S := fun _ => False) ((Touch.refl _ _).alloc _) (heap_alloc_new w _) (fun f => f))
  have a4 : W.heap[A4]? = some (.cells #[lb, gb] 61) := by
    have h := heap_alloc_new (w.alloc (.cells #[la, ga] 61)) (.cells #[lb, gb] 61)
    rw [World.size_alloc] at h
    rw [hW, hA4]; exact h
  have HC := Lib.hid (show ∀ wx, Ext W wx → wx.cell? ⟨A3, 0, none⟩ = some la ∧ wx.cell? ⟨A3, 1, none⟩ = some ga ∧ wx.cell? ⟨A4, 0, none⟩ = some lb ∧ wx.cell? ⟨A4, 1, none⟩ = some gb ∧ wx.cell? ⟨Bs, 0, none⟩ = some sv from fun wx hx => by
    have k3 := hx.keep a3 (fun f => f)
    have k4 := hx.keep a4 (fun f => f)
    exact ⟨by simp [World.cell?, k3], by simp [World.cell?, k3], by simp [World.cell?, k4], by simp [World.cell?, k4], cell_touch (hXW.trans hx) hs (fun f => f)⟩)
  have H1 := Lib.hid (show ∀ wx, Ext W wx → Calls Try.prog 7 #[la, ga, sv] wx fun e w' => e = .returned (.int .i64 x) ∧ Ext wx w' from fun wx hx2 => by rw [hx]; exact cost_all la ga sv As ca sy wx (hA.ext (hXW.trans hx2)) (hca.ext (hXW.trans hx2)) (hsv.ext (hXW.trans hx2)) hAl hal)
  have H2 := Lib.hid (show ∀ wx, Ext W wx → Calls Try.prog 7 #[lb, gb, sv] wx fun e w' => e = .returned (.int .i64 y) ∧ Ext wx w' from fun wx hx2 => by rw [hy]; exact cost_all lb gb sv Cs cb sy wx (hB.ext (hXW.trans hx2)) (hcb.ext (hXW.trans hx2)) (hsv.ext (hXW.trans hx2)) hBl hbl)
  have HXW := Lib.hid hXW
  have HA := Lib.hid (show A3 = w.heap.size ∧ A4 = w.heap.size + 1 ∧ W = (w.alloc (.cells #[la, ga] 61)).alloc (.cells #[lb, gb] 61) from ⟨hA3, hA4, hW⟩)
  clear hs hsv hA hca hB hcb hAl hBl hal hbl hx hy hxb hyb hXW a3 a4 hA3 hA4 hW
  go_enter Try.func33, Try.ntmps33
  go_wp2_with fail
  rw [← HA.out.2.2, ← HA.out.2.1, ← HA.out.1]
  have hst : Stab (Phi [(3, .pointer (some ⟨A3, 0, none⟩)), (2, .pointer (some ⟨Bs, 0, none⟩)), (4, .pointer (some ⟨A4, 0, none⟩)), (6, .pointer (some ⟨A3, 0, none⟩)), (7, la), (8, .pointer (some ⟨A3, 1, none⟩)), (9, ga), (10, sv), (11, .int .i64 x), (12, .pointer (some ⟨A4, 0, none⟩)), (13, lb), (14, .pointer (some ⟨A4, 1, none⟩)), (15, gb), (16, sv), (17, .int .i64 y), (18, .int .i64 (x - y)), (5, .int .i64 (x - y))] []) := Phi.stable (fun x hx => by cases hx)
  refine wp_region_grow_on 19 [3, 2, 4] [6, 7, 8, 9, 10, 11, 12, 13, 14, 15, 16, 17, 18, 5] (by kernel_rfl) _ hst (by kernel_rfl) rfl rfl (fun _ => ⟨rfl, rfl, rfl, trivial⟩) ⟨?_, ?_, ?_, ?_, ?_, ?_, ?_, ?_, ?_, ?_, ?_, ?_, ?_, ?_, trivial⟩ ?fin
  · refine Obl.val (.pointer (some ⟨A3, 0, none⟩)) (fun ev w1 hc hf hg hev => ?_) (fun d hd w1 => by cases hd; rfl)
    have h0 : ev (.tmp 3) = .pointer (some ⟨A3, 0, none⟩) := hev.1
    exact ⟨rfl, by (clear hev; go_simp)⟩
  · refine Obl.some (fun ev w1 hI hc hf hg hev => ?_)
    have h0 : ev (.tmp 6) = .pointer (some ⟨A3, 0, none⟩) := hev.1
    clear hev
    have k := (HC.out w1 hI).1
    exact ⟨rfl, la, by go_simp, fun d hd => by cases hd; rfl⟩
  · refine Obl.val (.pointer (some ⟨A3, 1, none⟩)) (fun ev w1 hc hf hg hev => ?_) (fun d hd w1 => by cases hd; rfl)
    have h0 : ev (.tmp 3) = .pointer (some ⟨A3, 0, none⟩) := hev.1
    exact ⟨rfl, by (clear hev; go_simp)⟩
  · refine Obl.some (fun ev w1 hI hc hf hg hev => ?_)
    have h0 : ev (.tmp 8) = .pointer (some ⟨A3, 1, none⟩) := hev.1
    clear hev
    have k := (HC.out w1 hI).2.1
    exact ⟨rfl, ga, by go_simp, fun d hd => by cases hd; rfl⟩
  · refine Obl.some (fun ev w1 hI hc hf hg hev => ?_)
    have h0 : ev (.tmp 2) = .pointer (some ⟨Bs, 0, none⟩) := hev.1
    clear hev
    have k := (HC.out w1 hI).2.2.2.2
    exact ⟨rfl, sv, by go_simp, fun d hd => by cases hd; rfl⟩
  · refine Obl.call 7 #[la, ga, sv] (fun ev w1 hI hc hf hg hev => ?_)
    have h0 : ev (.tmp 7) = la := hev.1; have h1 : ev (.tmp 9) = ga := hev.2.1; have h2 : ev (.tmp 10) = sv := hev.2.2.1
    refine ⟨rfl, by (clear hev; go_simp), ?_⟩
    refine (H1.out w1 hI).mono ?_
    rintro e w2 ⟨rfl, hx⟩
    exact ⟨_, rfl, hx, fun d hd => by cases hd; rfl⟩
  · refine Obl.val (.pointer (some ⟨A4, 0, none⟩)) (fun ev w1 hc hf hg hev => ?_) (fun d hd w1 => by cases hd; rfl)
    have h0 : ev (.tmp 4) = .pointer (some ⟨A4, 0, none⟩) := hev.1
    exact ⟨rfl, by (clear hev; go_simp)⟩
  · refine Obl.some (fun ev w1 hI hc hf hg hev => ?_)
    have h0 : ev (.tmp 12) = .pointer (some ⟨A4, 0, none⟩) := hev.1
    clear hev
    have k := (HC.out w1 hI).2.2.1
    exact ⟨rfl, lb, by go_simp, fun d hd => by cases hd; rfl⟩
  · refine Obl.val (.pointer (some ⟨A4, 1, none⟩)) (fun ev w1 hc hf hg hev => ?_) (fun d hd w1 => by cases hd; rfl)
    have h0 : ev (.tmp 4) = .pointer (some ⟨A4, 0, none⟩) := hev.1
    exact ⟨rfl, by (clear hev; go_simp)⟩
  · refine Obl.some (fun ev w1 hI hc hf hg hev => ?_)
    have h0 : ev (.tmp 14) = .pointer (some ⟨A4, 1, none⟩) := hev.1
    clear hev
    have k := (HC.out w1 hI).2.2.2.1
    exact ⟨rfl, gb, by go_simp, fun d hd => by cases hd; rfl⟩
  · refine Obl.some (fun ev w1 hI hc hf hg hev => ?_)
    have h0 : ev (.tmp 2) = .pointer (some ⟨Bs, 0, none⟩) := hev.1
    clear hev
    have k := (HC.out w1 hI).2.2.2.2
    exact ⟨rfl, sv, by go_simp, fun d hd => by cases hd; rfl⟩
  · refine Obl.call 7 #[lb, gb, sv] (fun ev w1 hI hc hf hg hev => ?_)
    have h0 : ev (.tmp 13) = lb := hev.1; have h1 : ev (.tmp 15) = gb := hev.2.1; have h2 : ev (.tmp 16) = sv := hev.2.2.1
    refine ⟨rfl, by (clear hev; go_simp), ?_⟩
    refine (H2.out w1 hI).mono ?_
    rintro e w2 ⟨rfl, hx⟩
    exact ⟨_, rfl, hx, fun d hd => by cases hd; rfl⟩
  · refine Obl.some (fun ev w1 hI hc hf hg hev => ?_)
    have h0 : ev (.tmp 11) = .int .i64 x := hev.1; have h1 : ev (.tmp 17) = .int .i64 y := hev.2.1
    clear hev
    have k := HW.out
    exact ⟨rfl, .int .i64 (x - y), by go_simp, fun d hd => by cases hd; rfl⟩
  · refine Obl.val (.int .i64 (x - y)) (fun ev w1 hc hf hg hev => ?_) (fun d hd w1 => by cases hd; rfl)
    have h0 : ev (.tmp 18) = .int .i64 (x - y) := hev.1
    exact ⟨rfl, by (clear hev; go_simp)⟩
  case fin =>
    intro vs w5 he5 hf
    have e6 : vs 6 = .pointer (some ⟨A3, 0, none⟩) := hf 6 (by decide)
    have e7 : vs 7 = la := hf 7 (by decide)
    have e8 : vs 8 = .pointer (some ⟨A3, 1, none⟩) := hf 8 (by decide)
    have e9 : vs 9 = ga := hf 9 (by decide)
    have e10 : vs 10 = sv := hf 10 (by decide)
    have e11 : vs 11 = .int .i64 x := hf 11 (by decide)
    have e12 : vs 12 = .pointer (some ⟨A4, 0, none⟩) := hf 12 (by decide)
    have e13 : vs 13 = lb := hf 13 (by decide)
    have e14 : vs 14 = .pointer (some ⟨A4, 1, none⟩) := hf 14 (by decide)
    have e15 : vs 15 = gb := hf 15 (by decide)
    have e16 : vs 16 = sv := hf 16 (by decide)
    have e17 : vs 17 = .int .i64 y := hf 17 (by decide)
    have e18 : vs 18 = .int .i64 (x - y) := hf 18 (by decide)
    have e5 : vs 5 = .int .i64 (x - y) := hf 5 (by decide)
    simp only [List.foldl_cons, List.foldl_nil]
    rw [e6, e7, e8, e9, e10, e11, e12, e13, e14, e15, e16, e17, e18, e5]
    simp only [Act.put, List.setIfInBounds_toArray, List.set_cons_succ, List.set_cons_zero]
    clear hf e6 e7 e8 e9 e10 e11 e12 e13 e14 e15 e16 e17 e18 e5
    have HE5 := Lib.hid he5
    clear he5
    go_wp2_with fail
    go_ret
    exact ⟨rfl, HXW.out.trans HE5.out⟩
end Go.Proofs.Ytaabmlnbadpfgaa

/-! slices.MinFunc of choices, by the difference of their costs. -/
namespace Go.Proofs.Ytaabmlnbadpfgaa
open Go.RowKit
set_option linter.unusedVariables false

def minTo (c : Nat → Int) : Nat → Nat
  | 0 => 0
  | i + 1 => if c (i + 1) < c (minTo c i) then i + 1 else minTo c i
theorem minTo_le (c : Nat → Int) : ∀ i, minTo c i ≤ i
  | 0 => Nat.le_refl _
  | i + 1 => by have := minTo_le c i; rw [minTo]; split <;> omega
theorem minTo_min (c : Nat → Int) : ∀ i k, k ≤ i → c (minTo c i) ≤ c k
  | 0, k, h => by rw [show k = 0 by omega]; exact Int.le_refl _
  | i + 1, k, h => by
    rw [minTo]
    by_cases hk : k ≤ i
    · have := minTo_min c i k hk
      split <;> omega
    · rw [show k = i + 1 by omega]
      split <;> omega
/-- the choices lie in a row. -/
def ChRow (w : World) (b m : Nat) (ls gs : Nat → Value) : Prop := ∀ i, i < m → w.cell? ⟨b, i * 2, none⟩ = some (ls i) ∧ w.cell? ⟨b, i * 2 + 1, none⟩ = some (gs i)
def Box2 (w : World) (B : Nat) (l g : Value) : Prop := w.heap[B]? = some (.cells #[l, g] 61)
theorem Box2.cells {w : World} {B : Nat} {l g : Value} (h : Box2 w B l g) : w.cell? ⟨B, 0, none⟩ = some l ∧ w.cell? ⟨B, 1, none⟩ = some g ∧ w.frozen? ⟨B, 0, none⟩ = false ∧ w.frozen? ⟨B, 1, none⟩ = false := by
  unfold Box2 at h
  refine ⟨by simp [World.cell?, h], by simp [World.cell?, h], by simp [World.frozen?, h], by simp [World.frozen?, h]⟩
theorem Box2.set2 {w : World} {B : Nat} {l g : Value} (h : Box2 w B l g) (l2 g2 : Value) : Box2 ((w.setCell ⟨B, 0, none⟩ l2).setCell ⟨B, 1, none⟩ g2) B l2 g2 := by
  have h1 := heap_setCell_at (a := ⟨B, 0, none⟩) (u := l2) h rfl
  have h2 := heap_setCell_at (a := ⟨B, 1, none⟩) (u := g2) h1 rfl
  simpa [Box2] using h2
def MR (c : Nat → Int) (ls gs : Nat → Value) (m B5 : Nat) (W : World) (vi : Value) (wr : World) : Prop := ∃ i : Nat, vi = .int .i64 ((i + 1 : Nat) : Int) ∧ i + 1 ≤ m ∧ Box2 wr B5 (ls (minTo c i)) (gs (minTo c i)) ∧ Touch (fun k => k = B5) W wr
set_option maxRecDepth 100000 in
set_option maxHeartbeats 2000000 in
theorem ref_min (b m cap : Nat) (ls gs : Nat → Value) (c : Nat → Int) (Bs : Nat) (w : World) (hm : 1 ≤ m) (hm2 : m ≤ 100) (hls : ∀ i, ∃ a n c, ls i = .slice a n c) (hgs : ∀ i, ∃ a n c, gs i = .slice a n c) (hv : ChRow w b m ls gs)
    (hd : ∀ i j wx, i < m → j < m → Ext w wx → Calls Try.prog 33 #[.agg #[ls i, gs i], .agg #[ls j, gs j], .pointer (some ⟨Bs, 0, none⟩)] wx fun e w' => e = .returned (.int .i64 (c i - c j)) ∧ Ext wx w') :
    Calls Try.prog 31 #[.slice (some ⟨b, 0, none⟩) m cap, .func (.func 33) #[] #[.pointer (some ⟨Bs, 0, none⟩)]] w fun e w' => e = .returned (.agg #[ls (minTo c (m - 1)), gs (minTo c (m - 1))]) ∧ Ext w w' := by
  have HV := Lib.hid hv
  have HDD := Lib.hid hd
  have HM := Lib.hid (And.intro hm hm2)
  have m1 : ¬ (m : Int) < 1 := by omega
  have m0 : (0 : Int) < (m : Int) := by omega
  have hc0 := (hv 0 (by omega)).1
  have hc1 := (hv 0 (by omega)).2
  rw [Nat.zero_mul] at hc0 hc1
  obtain ⟨l0, hl0⟩ : ∃ l0, l0 = ls 0 := ⟨_, rfl⟩
  obtain ⟨g0, hg0⟩ : ∃ g0, g0 = gs 0 := ⟨_, rfl⟩
  rw [← hl0] at hc0
  rw [← hg0] at hc1
  obtain ⟨a0, n0, d0, e0⟩ := hls 0
  obtain ⟨a1, n1, d1, e1⟩ := hgs 0
  rw [e0] at hl0
  rw [e1] at hg0
  rw [hl0] at hc0
  rw [hg0] at hc1
  have HLS := Lib.hid (And.intro hls hgs)
  have H0 := Lib.hid (And.intro e0 e1)
  clear hl0 hg0 l0 g0
  obtain ⟨V, hV⟩ : ∃ V, V = w.alloc (.cells #[.slice none 0 0, .slice none 0 0] 61) := ⟨_, rfl⟩
  have HVX := Lib.hid (show V = w.alloc (.cells #[.slice none 0 0, .slice none 0 0] 61) from hV)
  have c0 : V.cell? ⟨b, 0, none⟩ = some (.slice a0 n0 d0) := by rw [hV]; exact cell_touch ((Touch.refl (fun _ => False) w).alloc _) hc0 (fun f => f)
  have c1 : V.cell? ⟨b, 1, none⟩ = some (.slice a1 n1 d1) := by rw [hV]; exact cell_touch ((Touch.refl (fun _ => False) w).alloc _) (by simpa using hc1) (fun f => f)
  rw [hV] at c0 c1
  clear hv hd hm hm2 hc0 hc1 hV hls hgs e0 e1
  go_enter Try.func31, Try.ntmps31
  go_wp2_with fail
  obtain ⟨W, hW⟩ : ∃ W, W = (w.alloc (.cells #[.slice none 0 0, .slice none 0 0] 61)).alloc (.cells #[.slice a0 n0 d0, .slice a1 n1 d1] 61) := ⟨_, rfl⟩
  rw [← hW]
  obtain ⟨B5, hB5⟩ : ∃ B5, B5 = w.heap.size + 1 := ⟨_, rfl⟩
  rw [← hB5]
  obtain ⟨B4, hB4⟩ : ∃ B4, B4 = w.heap.size := ⟨_, rfl⟩
  rw [← hB4]
  have hb5 : Box2 W B5 (.slice a0 n0 d0) (.slice a1 n1 d1) := by
    have h := heap_alloc_new (w.alloc (.cells #[.slice none 0 0, .slice none 0 0] 61)) (.cells #[.slice a0 n0 d0, .slice a1 n1 d1] 61)
    rw [World.size_alloc] at h
    unfold Box2
    rw [hW, hB5]; exact h
  have hb4 : Box2 W B4 (.slice none 0 0) (.slice none 0 0) := by
    unfold Box2
    rw [hW, hB4]; exact (Touch.keep (S := fun _ => False) ((Touch.refl _ _).alloc _) (heap_alloc_new w _) (fun f => f))
  have HX := Lib.hid (show Ext w W ∧ B4 ≠ B5 ∧ w.heap.size ≤ B5 ∧ w.heap.size ≤ B4 from ⟨by rw [hW]; exact ((Ext.refl w).alloc _).alloc _, by omega, by omega, by omega⟩)
  have HB := Lib.hid (And.intro hb5 hb4)
  clear hb5 hb4 hW hB5 hB4 c0 c1
  go_loopw [6] (fun vi wr => MR c ls gs m B5 W vi wr) (fun vi _ => m - (intOf vi).toNat)
  case atStart => exact ⟨0, rfl, HM.out.1, by rw [minTo, H0.out.1, H0.out.2]; exact HB.out.1, Touch.refl _ _⟩
  case round =>
    obtain ⟨i', rfl, hi, hbx, ht⟩ := hrel
    obtain ⟨i, hie⟩ : ∃ i, i = i' + 1 := ⟨_, rfl⟩
    rw [← hie]
    obtain ⟨j, hj⟩ : ∃ j, j = minTo c i' := ⟨_, rfl⟩
    have hjl := minTo_le c i'
    rw [← hj] at hbx hjl
    obtain ⟨a3, n3, d3, e3⟩ := HLS.out.1 j
    obtain ⟨a4, n4, d4, e4⟩ := HLS.out.2 j
    have hm100 := HM.out.2
    have HI := Lib.hid (show i = i' + 1 ∧ j = minTo c i' ∧ i ≤ m ∧ Box2 wr B5 (ls j) (gs j) ∧ Touch (fun k => k = B5) W wr from ⟨hie, hj, by omega, hbx, ht⟩)
    have hext : Ext w wr := HX.out.1.touch ht (fun k hk e => by have := HX.out.2.2.1; omega)
    have HE := Lib.hid hext
    have HJ := Lib.hid (And.intro e3 e4)
    have hjm : j < m := by omega
    have HJM := Lib.hid hjm
    clear hi hbx ht hj hjl hext e3 e4 hjm
    by_cases hlt : i < m
    · have hltz : (i : Int) < (m : Int) := by omega
      obtain ⟨a5, n5, d5, e5⟩ := HLS.out.1 i
      obtain ⟨a6, n6, d6, e6⟩ := HLS.out.2 i
      have HJ2 := Lib.hid (And.intro e5 e6)
      obtain ⟨d, hd⟩ : ∃ d, d = c i - c j := ⟨_, rfl⟩
      have HCI := Lib.hid (show ∀ wx, Ext wr wx → wx.cell? ⟨b, i * 2, none⟩ = some (.slice a5 n5 d5) ∧ wx.cell? ⟨b, i * 2 + 1, none⟩ = some (.slice a6 n6 d6) from fun wx hx => by
        have h := HV.out i hlt
        rw [e5, e6] at h
        exact ⟨cell_touch (HE.out.trans hx) h.1 (fun f => f), cell_touch (HE.out.trans hx) h.2 (fun f => f)⟩)
      have HCJ := Lib.hid (show ∀ wx, Ext wr wx → wx.cell? ⟨B5, 0, none⟩ = some (.slice a3 n3 d3) ∧ wx.cell? ⟨B5, 1, none⟩ = some (.slice a4 n4 d4) from fun wx hx => by
        have h := HI.out.2.2.2.1
        rw [HJ.out.1, HJ.out.2] at h
        have h2 : Box2 wx B5 _ _ := hx.keep h (fun f => f)
        exact ⟨h2.cells.1, h2.cells.2.1⟩)
      have HD := Lib.hid (show ∀ wx, Ext wr wx → Calls Try.prog 33 #[.agg #[.slice a5 n5 d5, .slice a6 n6 d6], .agg #[.slice a3 n3 d3, .slice a4 n4 d4], .pointer (some ⟨Bs, 0, none⟩)] wx fun e w' => e = .returned (.int .i64 d) ∧ Ext wx w' from fun wx hx => by
        have h := HDD.out i j wx hlt HJM.out (HE.out.trans hx)
        rw [e5, e6, HJ.out.1, HJ.out.2, ← hd] at h
        exact h)
      have HDE := Lib.hid hd
      have HLT := Lib.hid hlt
      have hc5 := HCI.out wr (Ext.refl _)
      clear hlt hd e5 e6 hie
      go_wp2_with fail
      have hst : Stab (Phi [(1, .func (.func 33) #[] #[.pointer (some ⟨Bs, 0, none⟩)]), (0, .slice (some ⟨b, 0, none⟩) m cap), (6, .int .i64 i), (5, .pointer (some ⟨B5, 0, none⟩)), (20, .func (.func 33) #[] #[.pointer (some ⟨Bs, 0, none⟩)]), (21, .slice (some ⟨b, 0, none⟩) m cap), (22, .int .i64 i), (23, .pointer (some ⟨b, i * 2, none⟩)), (24, .agg #[.slice a5 n5 d5, .slice a6 n6 d6]), (25, .agg #[.slice a3 n3 d3, .slice a4 n4 d4]), (26, .int .i64 d), (27, .bool (decide (d < 0)))] []) := Phi.stable (fun x hx => by cases hx)
      refine wp_region_grow_on 33 [1, 0, 6, 5] [20, 21, 22, 23, 24, 25, 26, 27] (by kernel_rfl) _ hst (by kernel_rfl) rfl rfl (fun _ => ⟨rfl, rfl, rfl, rfl, trivial⟩) ⟨?_, ?_, ?_, ?_, ?_, ?_, ?_, ?_, trivial⟩ ?fin
      · refine Obl.val (.func (.func 33) #[] #[.pointer (some ⟨Bs, 0, none⟩)]) (fun ev w1 hc hf hg hev => ?_) (fun d hd w1 => by cases hd; rfl)
        have h0 : ev (.tmp 1) = .func (.func 33) #[] #[.pointer (some ⟨Bs, 0, none⟩)] := hev.1
        exact ⟨rfl, by (clear hev; go_simp)⟩
      · refine Obl.val (.slice (some ⟨b, 0, none⟩) m cap) (fun ev w1 hc hf hg hev => ?_) (fun d hd w1 => by cases hd; rfl)
        have h0 : ev (.tmp 0) = .slice (some ⟨b, 0, none⟩) m cap := hev.1
        exact ⟨rfl, by (clear hev; go_simp)⟩
      · refine Obl.val (.int .i64 i) (fun ev w1 hc hf hg hev => ?_) (fun d hd w1 => by cases hd; rfl)
        have h0 : ev (.tmp 6) = .int .i64 i := hev.1
        exact ⟨rfl, by (clear hev; go_simp)⟩
      · refine Obl.val (.pointer (some ⟨b, i * 2, none⟩)) (fun ev w1 hc hf hg hev => ?_) (fun d hd w1 => by cases hd; rfl)
        have h0 : ev (.tmp 21) = .slice (some ⟨b, 0, none⟩) m cap := hev.1; have h1 : ev (.tmp 22) = .int .i64 i := hev.2.1
        clear hev
        have k := HLT.out
        exact ⟨rfl, by go_simp⟩
      · refine Obl.some (fun ev w1 hI hc hf hg hev => ?_)
        have h0 : ev (.tmp 23) = .pointer (some ⟨b, i * 2, none⟩) := hev.1
        clear hev
        have k := HCI.out w1 hI
        have k1 := k.1
        have k2 := k.2
        exact ⟨rfl, .agg #[.slice a5 n5 d5, .slice a6 n6 d6], by go_simp, fun d hd => by cases hd; rfl⟩
      · refine Obl.some (fun ev w1 hI hc hf hg hev => ?_)
        have h0 : ev (.tmp 5) = .pointer (some ⟨B5, 0, none⟩) := hev.1
        clear hev
        have k := HCJ.out w1 hI
        have k1 := k.1
        have k2 := k.2
        exact ⟨rfl, .agg #[.slice a3 n3 d3, .slice a4 n4 d4], by go_simp, fun d hd => by cases hd; rfl⟩
      · refine Obl.call 33 #[.agg #[.slice a5 n5 d5, .slice a6 n6 d6], .agg #[.slice a3 n3 d3, .slice a4 n4 d4], .pointer (some ⟨Bs, 0, none⟩)] (fun ev w1 hI hc hf hg hev => ?_)
        have h0 : ev (.tmp 20) = .func (.func 33) #[] #[.pointer (some ⟨Bs, 0, none⟩)] := hev.1; have h1 : ev (.tmp 24) = .agg #[.slice a5 n5 d5, .slice a6 n6 d6] := hev.2.1; have h2 : ev (.tmp 25) = .agg #[.slice a3 n3 d3, .slice a4 n4 d4] := hev.2.2.1
        refine ⟨rfl, by (clear hev; go_simp), ?_⟩
        refine (HD.out w1 hI).mono ?_
        rintro e w2 ⟨rfl, hx⟩
        exact ⟨_, rfl, hx, fun d hd => by cases hd; rfl⟩
      · refine Obl.val (.bool (decide (d < 0))) (fun ev w1 hc hf hg hev => ?_) (fun d hd w1 => by cases hd; rfl)
        have h0 : ev (.tmp 26) = .int .i64 d := hev.1
        exact ⟨rfl, by (clear hev; go_simp)⟩
      case fin =>
        intro vs w5 he5 hf
        have e20 : vs 20 = .func (.func 33) #[] #[.pointer (some ⟨Bs, 0, none⟩)] := hf 20 (by decide)
        have e21 : vs 21 = .slice (some ⟨b, 0, none⟩) m cap := hf 21 (by decide)
        have e22 : vs 22 = .int .i64 i := hf 22 (by decide)
        have e23 : vs 23 = .pointer (some ⟨b, i * 2, none⟩) := hf 23 (by decide)
        have e24 : vs 24 = .agg #[.slice a5 n5 d5, .slice a6 n6 d6] := hf 24 (by decide)
        have e25 : vs 25 = .agg #[.slice a3 n3 d3, .slice a4 n4 d4] := hf 25 (by decide)
        have e26 : vs 26 = .int .i64 d := hf 26 (by decide)
        have e27 : vs 27 = .bool (decide (d < 0)) := hf 27 (by decide)
        simp only [List.foldl_cons, List.foldl_nil]
        rw [e20, e21, e22, e23, e24, e25, e26, e27]
        simp only [Act.put, List.setIfInBounds_toArray, List.set_cons_succ, List.set_cons_zero]
        clear hf e20 e21 e22 e23 e24 e25 e26 e27
        have HE5 := Lib.hid (show Ext wr w5 from he5)
        clear he5
        have hk5 := HCI.out w5 HE5.out
        have hbj : Box2 w5 B5 (ls j) (gs j) := HE5.out.keep HI.out.2.2.2.1 (fun f => f)
        rw [HJ.out.1, HJ.out.2] at hbj
        obtain ⟨q0, q1, f0, f1⟩ := hbj.cells
        have HBJ := Lib.hid hbj
        clear hbj
        by_cases hd0 : d < 0
        · have HN := Lib.hid (show minTo c i = i by rw [HI.out.1, minTo, ← HI.out.2.1, ← HI.out.1, if_pos (by have := HDE.out; omega)])
          have HB6 := Lib.hid (HBJ.out.set2 (.slice a5 n5 d5) (.slice a6 n6 d6))
          go_wp2_with fail
          go_roundw
          case rel => exact ⟨i, by go_num, by have := HLT.out; omega, by rw [HN.out, HJ2.out.1, HJ2.out.2]; exact HB6.out, ((HI.out.2.2.2.2.trans (HE5.out.mono (fun _ _ f => f.elim)) (fun k _ h => h)).setCell (Or.inl rfl) _).setCell (Or.inl rfl) _⟩
          case measure => simp [intOf]; have := HLT.out; omega
        · have HN := Lib.hid (show minTo c i = j by rw [HI.out.1, minTo, ← HI.out.2.1, ← HI.out.1, if_neg (by have := HDE.out; omega)])
          go_wp2_with fail
          go_roundw
          case rel => exact ⟨i, by go_num, by have := HLT.out; omega, by rw [HN.out, HJ.out.1, HJ.out.2]; exact HBJ.out, HI.out.2.2.2.2.trans (HE5.out.mono (fun _ _ f => f.elim)) (fun k _ h => h)⟩
          case measure => simp [intOf]; have := HLT.out; omega
    · obtain rfl : i = m := by have := HI.out.2.2.1; omega
      have hltz : ¬ (i : Int) < (i : Int) := by omega
      have hbj : Box2 wr B5 (ls j) (gs j) := HI.out.2.2.2.1
      rw [HJ.out.1, HJ.out.2] at hbj
      obtain ⟨q0, q1, f0, f1⟩ := hbj.cells
      have hb4 : Box2 wr B4 (.slice none 0 0) (.slice none 0 0) := HI.out.2.2.2.2.keep HB.out.2 HX.out.2.1
      obtain ⟨r0, r1, g0, g1⟩ := hb4.cells
      have HB6 := Lib.hid ((hb4.set2 (.slice a3 n3 d3) (.slice a4 n4 d4)).cells)
      have HXF := Lib.hid (show Ext w ((wr.setCell ⟨B4, 0, none⟩ (.slice a3 n3 d3)).setCell ⟨B4, 1, none⟩ (.slice a4 n4 d4)) from HE.out.touch (((Touch.refl (fun k => k = B4) wr).setCell (Or.inl rfl) _).setCell (Or.inl rfl) _) (fun k hk e => by have := HX.out.2.2.2; omega))
      have HJE := Lib.hid (show minTo c (i - 1) = j by rw [HI.out.2.1]; congr 1; have := HI.out.1; omega)
      clear hlt hbj hb4 hie
      go_wp2_with fail
      refine bodyPost_ret ?_ rfl ⟨rfl, HXF.out⟩
      obtain ⟨p0, p1, _, _⟩ := HB6.out
      simp only [results, show Try.f31.results = #[.cell 4 61] from by kernel_rfl]
      go_simp
      rw [HJE.out]
      exact ⟨HJ.out.1.symm, HJ.out.2.symm⟩
end Go.Proofs.Ytaabmlnbadpfgaa
