/- RefineKnown: its walk. -/
import Derived.Test.YtaabmlnbadpfgaaBnd9
namespace Go.Proofs.Ytaabmlnbadpfgaa
open Go.RowKit Go.Shelf
set_option linter.unusedVariables false

theorem RowsV.pair {w : World} {q : Nat} {u1 u2 : Value} {L1 L2 : List Nat} {e : TypeId} (h : w.heap[q]? = some (.cells #[u1, u2] e (0, 0))) (h1 : ViewL w u1 (u8s L1)) (h2 : ViewL w u2 (u8s L2)) : RowsV w (.slice (some ⟨q, 0, none⟩) 2 2) [L1, L2] := by
  refine ⟨[u1, u2], ⟨_, 2, rfl, Nat.le_refl _, fun e => (by cases e), fun _ => ⟨q, 0, rfl, fun j u hu => ?_⟩⟩, rfl, fun k u L' hu hL => ?_⟩
  · match j, hu with
    | 0, hu => simp at hu; subst hu; simp [World.cell?, h]
    | 1, hu => simp at hu; subst hu; simp [World.cell?, h]
    | j + 2, hu => simp at hu
  · match k, hu, hL with
    | 0, hu, hL => simp at hu hL; subst hu; subst hL; exact h1
    | 1, hu, hL => simp at hu hL; subst hu; subst hL; exact h2
    | k + 2, hu, _ => simp at hu
theorem RowsV.single {w : World} {q : Nat} {u1 : Value} {L1 : List Nat} {e : TypeId} (h : w.heap[q]? = some (.cells #[u1] e (0, 0))) (h1 : ViewL w u1 (u8s L1)) : RowsV w (.slice (some ⟨q, 0, none⟩) 1 1) [L1] := by
  refine ⟨[u1], ⟨_, 1, rfl, Nat.le_refl _, fun e => (by cases e), fun _ => ⟨q, 0, rfl, fun j u hu => ?_⟩⟩, rfl, fun k u L' hu hL => ?_⟩
  · match j, hu with
    | 0, hu => simp at hu; subst hu; simp [World.cell?, h]
    | j + 1, hu => simp at hu
  · match k, hu, hL with
    | 0, hu, hL => simp at hu hL; subst hu; subst hL; exact h1
    | k + 1, hu, _ => simp at hu
def CostM (w : World) (e : Ending) (w' : World) : Prop := e = .returned (.int .i64 (-1)) ∧ Ext w w'
theorem cost_m1 (lv cv sv : Value) (Ls : List (List Nat)) (ch sy : List Int) (w : World) (hL : RowsV w lv Ls) (hc : ViewL w cv (ints ch)) (hs : ViewL w sv (ints sy)) (hLl : ∀ L ∈ Ls, L.length ≤ 300) (hcl : ch.length ≤ 300) (h : ¬ CostC Ls ch sy) : Calls Try.prog 7 #[lv, cv, sv] w (CostM w) :=
  (cost_all lv cv sv Ls ch sy w hL hc hs (fun L hl => by have := hLl L hl; omega) (by omega)).mono fun e w' ⟨h1, h2⟩ => ⟨by rw [h1, costZ_no h], h2⟩
theorem cost_pair (w : World) (u1 u2 cv sv : Value) (L1 L2 : List Nat) (ch sy : List Int) (h1 : ViewL w u1 (u8s L1)) (h2 : ViewL w u2 (u8s L2)) (hc : ViewL w cv (ints ch)) (hs : ViewL w sv (ints sy)) (l1 : L1.length ≤ 300) (l2 : L2.length ≤ 300) (hcl : ch.length ≤ 300) (h : ¬ CostC [L1, L2] ch sy) :
    Calls Try.prog 7 #[.slice (some ⟨w.heap.size, 0, none⟩) 2 2, cv, sv] (w.alloc (.cells #[u1, u2] 24)) (CostM w) := by
  have a1 := (Ext.refl w).alloc (.cells #[u1, u2] 24)
  refine (cost_m1 _ _ _ [L1, L2] ch sy _ (RowsV.pair (heap_alloc_new w (.cells #[u1, u2] 24)) (h1.ext a1) (h2.ext a1)) (hc.ext a1) (hs.ext a1) (fun L hL => ?_) hcl h).mono fun e w' ⟨p, q⟩ => ⟨p, a1.trans q⟩
  simp only [List.mem_cons, List.not_mem_nil, or_false] at hL
  rcases hL with rfl | rfl <;> assumption
theorem cost_single (w : World) (u1 cv sv : Value) (L1 : List Nat) (ch sy : List Int) (h1 : ViewL w u1 (u8s L1)) (hc : ViewL w cv (ints ch)) (hs : ViewL w sv (ints sy)) (l1 : L1.length ≤ 300) (hcl : ch.length ≤ 300) (h : ¬ CostC [L1] ch sy) :
    Calls Try.prog 7 #[.slice (some ⟨w.heap.size, 0, none⟩) 1 1, cv, sv] (w.alloc (.cells #[u1] 24)) (CostM w) := by
  have a1 := (Ext.refl w).alloc (.cells #[u1] 24)
  refine (cost_m1 _ _ _ [L1] ch sy _ (RowsV.single (heap_alloc_new w (.cells #[u1] 24)) (h1.ext a1)) (hc.ext a1) (hs.ext a1) (fun L hL => ?_) hcl h).mono fun e w' ⟨p, q⟩ => ⟨p, a1.trans q⟩
  simp only [List.mem_cons, List.not_mem_nil, or_false] at hL
  rw [hL]; exact l1
theorem cost_pair_sym (w : World) (u1 u2 cv : Value) (L1 L2 : List Nat) (ch sy : List Int) (m : Nat) (h1 : ViewL w u1 (u8s L1)) (h2 : ViewL w u2 (u8s L2)) (hc : ViewL w cv (ints ch)) (hm : sy.length = m) (l1 : L1.length ≤ 300) (l2 : L2.length ≤ 300) (hcl : ch.length ≤ 300) (h : ¬ CostC [L1, L2] ch sy) :
    Calls Try.prog 7 #[.slice (some ⟨w.heap.size, 0, none⟩) 2 2, cv, .slice (some ⟨w.heap.size + 1, 0, none⟩) m m] ((w.alloc (.cells #[u1, u2] 24)).alloc (.cells (ints sy).toArray 3)) (CostM w) := by
  have a1 := (Ext.refl w).alloc (.cells #[u1, u2] 24)
  have a2 := (Ext.refl (w.alloc (.cells #[u1, u2] 24))).alloc (.cells (ints sy).toArray 3)
  have s := lit_view (w.alloc (.cells #[u1, u2] 24)) (ints sy) 3 m (by rw [length_ints]; exact hm)
  simp only [World.size_alloc] at s
  refine (cost_m1 _ _ _ [L1, L2] ch sy _ ((RowsV.pair (heap_alloc_new w (.cells #[u1, u2] 24)) (h1.ext a1) (h2.ext a1)).ext a2) ((hc.ext a1).ext a2) s (fun L hL => ?_) hcl h).mono fun e w' ⟨p, q⟩ => ⟨p, (a1.trans a2).trans q⟩
  simp only [List.mem_cons, List.not_mem_nil, or_false] at hL
  rcases hL with rfl | rfl <;> assumption
theorem cost_pair_new (w : World) (u1 cv sv : Value) (L1 L2 : List Nat) (ch sy : List Int) (m : Nat) (h1 : ViewL w u1 (u8s L1)) (hc : ViewL w cv (ints ch)) (hs : ViewL w sv (ints sy)) (l1 : L1.length ≤ 300) (l2 : L2.length ≤ 300) (hm : L2.length = m) (hcl : ch.length ≤ 300) (h : ¬ CostC [L1, L2] ch sy) :
    Calls Try.prog 7 #[.slice (some ⟨w.heap.size + 1, 0, none⟩) 2 2, cv, sv] ((w.alloc (.cells (u8s L2).toArray 5)).alloc (.cells #[u1, .slice (some ⟨w.heap.size, 0, none⟩) m m] 24)) (CostM w) := by
  have a1 := (Ext.refl w).alloc (.cells (u8s L2).toArray 5)
  have s := lit_view w (u8s L2) 5 m (by rw [length_u8s]; exact hm)
  have h := cost_pair (w.alloc (.cells (u8s L2).toArray 5)) u1 _ cv sv L1 L2 ch sy (h1.ext a1) s (hc.ext a1) (hs.ext a1) l1 l2 hcl h
  simp only [World.size_alloc] at h
  exact h.mono fun e w' ⟨p, q⟩ => ⟨p, a1.trans q⟩
/-- ints that were made. -/
theorem mk_ints (w : World) (n : Nat) (hn : n ≤ 2 ^ 40) : ∃ (l : List Nat) (w' : World), (Instr.makeSlice 23 (.int .i64 (n : Int)) (.int .i64 (n : Int))).run Try.prog w = .ok (.slice (some ⟨w.heap.size, 0, none⟩) n n) w' ∧ l.length = n ∧ (∀ x ∈ l, x = 0) ∧ ViewL w' (.slice (some ⟨w.heap.size, 0, none⟩) n n) (intsL l) ∧ Ext w w' := by
  obtain ⟨w', h1, h2⟩ := make_intsR w n hn
  exact ⟨List.replicate n 0, w', h1, by simp, fun x hx => by simp at hx; exact hx.2, h2.viewL, h2.toExt⟩
def KnE (w w0 : World) (e : Ending) (w' : World) : Prop := e = .returned (.tuple #[.slice none 0 0, .slice none 0 0, .int .i64 5]) ∧ Ext w w'
theorem choose_lit (w : World) (xs : List Int) (m : Nat) (n : Int) (hm : xs.length = m) (hl : m ≤ 300) (h : ¬ SymI xs n) : Calls Try.prog 11 #[.slice (some ⟨w.heap.size, 0, none⟩) m m, .int .i64 n] (w.alloc (.cells (ints xs).toArray 3)) (ChNo w) := by
  have a1 := (Ext.refl w).alloc (.cells (ints xs).toArray 3)
  exact (choose_no _ xs n _ (lit_view w (ints xs) 3 m (by rw [length_ints]; exact hm)) (by omega) h).mono fun e w' ⟨p, q⟩ => ⟨p, a1.trans q⟩
theorem bad0 : ¬ CostC [] [0] [0] := fun h => by
  have := h.k2; simp at this
theorem bad1 : ¬ CostC [[2, 2, 2]] [0] [0] := fun h => by
  have := h.k2; simp at this
theorem bad2 : ¬ CostC [[2, 2, 2], [1, 1, 1]] [0] [0] := fun h => by
  have := (h.good [1, 1, 1] (by simp)).2.2; revert this; decide +kernel
theorem bad3 : ¬ CostC [[2, 2, 2], [2, 2]] [0] [0] := fun h => by
  have := (h.good [2, 2] (by simp)).1; revert this; decide
theorem bad4 : ¬ CostC [[2, 2, 2], [2, 2, 2]] [] [0] := fun h => by
  have := h.many; revert this; decide
theorem bad5 : ¬ CostC [[2, 2, 2], [2, 2, 2]] [0] [3] := fun h => by
  have := (h.sym.2.2.2.2 3 (by simp)).2; revert this; decide
theorem bad6 : ¬ CostC [[2, 2, 2], [2, 2, 18]] [0] [0] := fun h => by
  have := ((h.good [2, 2, 18] (by simp)).2.1 18 (by simp)).2; omega
theorem bad7 : ¬ CostC [[2, 2, 2], [2, 2, 0]] [0] [0] := fun h => by
  have := ((h.good [2, 2, 0] (by simp)).2.1 0 (by simp)).1; omega
theorem bad8 : ¬ CostC [[2, 2, 2], [2, 2, 2]] [0] [] := fun h => by
  have := h.sym.2.2.1; simp at this
set_option maxRecDepth 100000 in
set_option maxHeartbeats 4000000 in
theorem ref_law_known (w : World) : Calls Try.prog 6 #[] w fun e w' => e = .returned (.bool true) ∧ Ext w w' := by
  have X0 := Lib.hid (Ext.refl w)
  obtain ⟨w0, hw0⟩ : ∃ w0, w0 = w := ⟨_, rfl⟩
  have X0 := Lib.hid (show Ext w w0 by rw [hw0]; exact Ext.refl w)
  rw [show Calls Try.prog 6 #[] w = Calls Try.prog 6 #[] w0 by rw [hw0]]
  clear hw0
  go_enter Try.func6, Try.ntmps6
  go_wp2_with fail
  refine (choose_lit w0 [3] 1 3 rfl (by decide) (fun h => by have := (h.2.2.2.2 3 (by simp)).2; omega)).mono ?_
  rintro e w1 ⟨rfl, hx⟩
  have X1 := Lib.hid (X0.out.trans hx)
  clear hx X0
  go_wp2_with fail
  refine (choose_lit w1 [0] 1 2 rfl (by decide) (fun h => by have := h.1; omega)).mono ?_
  rintro e w2 ⟨rfl, hx⟩
  have X2 := Lib.hid (X1.out.trans hx)
  clear hx X1
  go_wp2_with fail
  refine (choose_lit w2 [0] 1 259 rfl (by decide) (fun h => by have := h.2.1; omega)).mono ?_
  rintro e w3 ⟨rfl, hx⟩
  have X3 := Lib.hid (X2.out.trans hx)
  clear hx X2
  go_wp2_with fail
  refine (choose_lit w3 [-1] 1 3 rfl (by decide) (fun h => by have := (h.2.2.2.2 (-1) (by simp)).1; omega)).mono ?_
  rintro e w4 ⟨rfl, hx⟩
  have X4 := Lib.hid (X3.out.trans hx)
  clear hx X3
  obtain ⟨l, v1, hmk, hl, hl0, hlv, hlx⟩ := mk_ints w4 900051 (by omega)
  have hmk2 : (Instr.makeSlice 23 (.int .i64 900051) (.int .i64 900051)).run Try.prog w4 = .ok (.slice (some ⟨w4.heap.size, 0, none⟩) 900051 900051) v1 := hmk
  have HLV := Lib.hid (And.intro hlv (And.intro hl hl0))
  have HLX := Lib.hid (X4.out.trans hlx)
  clear hmk hl hl0 hlv hlx
  go_wp2_with fail
  refine (choose_no _ (castZ l) 3 _ (by rw [ints_castZ]; exact HLV.out.1) (by rw [length_castZ, HLV.out.2.1]; omega) (fun h => by have := h.2.2.2.1; rw [length_castZ, HLV.out.2.1] at this; omega)).mono ?_
  rintro e w5 ⟨rfl, hx⟩
  have X5 := Lib.hid (HLX.out.trans hx)
  clear hx X4 HLX HLV hmk2
  obtain ⟨l2, v2, hmk, hl, hl0, hlv, hlx⟩ := mk_ints w5 5000 (by omega)
  have hmk2 : (Instr.makeSlice 23 (.int .i64 5000) (.int .i64 5000)).run Try.prog w5 = .ok (.slice (some ⟨w5.heap.size, 0, none⟩) 5000 5000) v2 := hmk
  have HLV := Lib.hid (And.intro hlv (And.intro hl hl0))
  have HLX := Lib.hid (X5.out.trans hlx)
  clear hmk hl hl0 hlv hlx
  go_wp2_with fail
  refine (choose_yes _ l2 3 _ HLV.out.1 (by rw [HLV.out.2.1]; omega) (by rw [HLV.out.2.1]; omega) (fun s hs => by rw [HLV.out.2.2 s hs]; omega) (by omega) (by omega)).mono ?_
  rintro e w6 ⟨lv, gv, rfl, r1, r2, hx⟩
  obtain ⟨la, lc, rfl⟩ := r1.shape
  obtain ⟨ga, gc, rfl⟩ := r2.shape
  have hgl : (intsL (chCh l2 3 (chPick l2 3))).length = 100 := by rw [length_intsL, chCh_len, HLV.out.2.1]; rfl
  rw [hgl]
  have hm := (chLs_many l2 3 (chPick l2 3)).1
  obtain ⟨m, hme⟩ : ∃ m, m = (chLs l2 3 (chPick l2 3)).length := ⟨_, rfl⟩
  rw [← hme] at hm ⊢
  have hm2 : (2 : Int) ≤ (m : Int) := by omega
  have X6 := Lib.hid (HLX.out.trans hx)
  clear hx X5 HLX HLV hmk2 hgl hm hme r1 r2
  have HT0 := Lib.hid (lit_view w6 (u8s [2, 2, 2]) 5 3 rfl)
  have HO0 := Lib.hid (lit_view (w6.alloc (.cells (u8s [2, 2, 2]).toArray 5)) (u8s [1, 1, 1]) 5 3 rfl)
  have HI0 := Lib.hid (lit_view ((w6.alloc (.cells (u8s [2, 2, 2]).toArray 5)).alloc (.cells (u8s [1, 1, 1]).toArray 5)) (ints [0]) 3 1 rfl)
  obtain ⟨W, hW⟩ : ∃ W, W = ((w6.alloc (.cells (u8s [2, 2, 2]).toArray 5)).alloc (.cells (u8s [1, 1, 1]).toArray 5)).alloc (.cells (ints [0]).toArray 3) := ⟨_, rfl⟩
  simp only [World.size_alloc] at HO0 HI0
  obtain ⟨B, hB⟩ : ∃ B, B = w6.heap.size := ⟨_, rfl⟩
  rw [← hB] at HT0 HO0 HI0
  rw [← hW] at HI0
  have HT := Lib.hid (show ViewL W (.slice (some ⟨B, 0, none⟩) 3 3) (u8s [2, 2, 2]) by rw [hW]; exact HT0.out.ext (((Ext.refl _).alloc _).alloc _))
  have HO := Lib.hid (show ViewL W (.slice (some ⟨B + 1, 0, none⟩) 3 3) (u8s [1, 1, 1]) by rw [hW]; exact HO0.out.ext ((Ext.refl _).alloc _))
  have HI := Lib.hid HI0.out
  have X7 := Lib.hid (show Ext w W by rw [hW]; exact ((X6.out.alloc _).alloc _).alloc _)
  have HW := Lib.hid hW
  have HB := Lib.hid hB
  clear HT0 HO0 HI0 X6 hW hB
  go_wp2_with fail
  rw [show ((w6.alloc (.cells #[.int .u8 2, .int .u8 2, .int .u8 2] 5)).alloc (.cells #[.int .u8 1, .int .u8 1, .int .u8 1] 5)).alloc (.cells #[.int .i64 0] 3) = W from HW.out.symm, ← HB.out]
  clear HW HB
  obtain ⟨w7, hw7⟩ : ∃ w7, w7 = W := ⟨_, rfl⟩
  rw [← hw7] at HT HO HI X7 ⊢
  clear hw7
  refine (cost_m1 (.slice none 0 0) _ _ [] [0] [0] w7 (nil_rows _) HI.out HI.out (by simp) (by simp) bad0).mono ?_
  rintro e w8 ⟨rfl, hx⟩
  have X8 := Lib.hid (X7.out.trans hx)
  have HTN := Lib.hid (HT.out.ext hx)
  clear HT
  have HT := Lib.hid HTN.out
  clear HTN
  have HON := Lib.hid (HO.out.ext hx)
  clear HO
  have HO := Lib.hid HON.out
  clear HON
  have HIN := Lib.hid (HI.out.ext hx)
  clear HI
  have HI := Lib.hid HIN.out
  clear HIN
  clear hx X7
  go_wp2_with fail
  refine (cost_single w8 (.slice (some ⟨B, 0, none⟩) 3 3) _ _ [2, 2, 2] [0] [0] HT.out HI.out HI.out (by simp) (by simp) bad1).mono ?_
  rintro e w9 ⟨rfl, hx⟩
  have X9 := Lib.hid (X8.out.trans hx)
  have HTN := Lib.hid (HT.out.ext hx)
  clear HT
  have HT := Lib.hid HTN.out
  clear HTN
  have HON := Lib.hid (HO.out.ext hx)
  clear HO
  have HO := Lib.hid HON.out
  clear HON
  have HIN := Lib.hid (HI.out.ext hx)
  clear HI
  have HI := Lib.hid HIN.out
  clear HIN
  clear hx X8
  go_wp2_with fail
  refine (cost_pair w9 (.slice (some ⟨B, 0, none⟩) 3 3) _ _ _ [2, 2, 2] [1, 1, 1] [0] [0] HT.out HO.out HI.out HI.out (by simp) (by simp) (by simp) bad2).mono ?_
  rintro e w10 ⟨rfl, hx⟩
  have X10 := Lib.hid (X9.out.trans hx)
  have HTN := Lib.hid (HT.out.ext hx)
  clear HT
  have HT := Lib.hid HTN.out
  clear HTN
  have HON := Lib.hid (HO.out.ext hx)
  clear HO
  have HO := Lib.hid HON.out
  clear HON
  have HIN := Lib.hid (HI.out.ext hx)
  clear HI
  have HI := Lib.hid HIN.out
  clear HIN
  clear hx X9
  go_wp2_with fail
  have HS2 : ViewL w10 (.slice (some ⟨B, 0, none⟩) 2 3) (u8s [2, 2]) := viewL_from HT.out 0 2 (by omega) (by omega)
  refine (cost_pair w10 (.slice (some ⟨B, 0, none⟩) 3 3) _ _ _ [2, 2, 2] [2, 2] [0] [0] HT.out HS2 HI.out HI.out (by simp) (by simp) (by simp) bad3).mono ?_
  rintro e w11 ⟨rfl, hx⟩
  have X11 := Lib.hid (X10.out.trans hx)
  have HTN := Lib.hid (HT.out.ext hx)
  clear HT
  have HT := Lib.hid HTN.out
  clear HTN
  have HON := Lib.hid (HO.out.ext hx)
  clear HO
  have HO := Lib.hid HON.out
  clear HON
  have HIN := Lib.hid (HI.out.ext hx)
  clear HI
  have HI := Lib.hid HIN.out
  clear HIN
  clear hx X10
  clear HS2
  go_wp2_with fail
  refine (cost_pair w11 (.slice (some ⟨B, 0, none⟩) 3 3) (.slice (some ⟨B, 0, none⟩) 3 3) _ _ [2, 2, 2] [2, 2, 2] [] [0] HT.out HT.out (nil_view _) HI.out (by simp) (by simp) (by simp) bad4).mono ?_
  rintro e w12 ⟨rfl, hx⟩
  have X12 := Lib.hid (X11.out.trans hx)
  have HTN := Lib.hid (HT.out.ext hx)
  clear HT
  have HT := Lib.hid HTN.out
  clear HTN
  have HON := Lib.hid (HO.out.ext hx)
  clear HO
  have HO := Lib.hid HON.out
  clear HON
  have HIN := Lib.hid (HI.out.ext hx)
  clear HI
  have HI := Lib.hid HIN.out
  clear HIN
  clear hx X11
  go_wp2_with fail
  refine (cost_pair_sym w12 (.slice (some ⟨B, 0, none⟩) 3 3) (.slice (some ⟨B, 0, none⟩) 3 3) _ [2, 2, 2] [2, 2, 2] [0] [3] 1 HT.out HT.out HI.out rfl (by simp) (by simp) (by simp) bad5).mono ?_
  rintro e w13 ⟨rfl, hx⟩
  have X13 := Lib.hid (X12.out.trans hx)
  have HTN := Lib.hid (HT.out.ext hx)
  clear HT
  have HT := Lib.hid HTN.out
  clear HTN
  have HON := Lib.hid (HO.out.ext hx)
  clear HO
  have HO := Lib.hid HON.out
  clear HON
  have HIN := Lib.hid (HI.out.ext hx)
  clear HI
  have HI := Lib.hid HIN.out
  clear HIN
  clear hx X12
  go_wp2_with fail
  refine (cost_pair_new w13 (.slice (some ⟨B, 0, none⟩) 3 3) _ _ [2, 2, 2] [2, 2, 18] [0] [0] 3 HT.out HI.out HI.out (by simp) (by simp) rfl (by simp) bad6).mono ?_
  rintro e w14 ⟨rfl, hx⟩
  have X14 := Lib.hid (X13.out.trans hx)
  have HTN := Lib.hid (HT.out.ext hx)
  clear HT
  have HT := Lib.hid HTN.out
  clear HTN
  have HON := Lib.hid (HO.out.ext hx)
  clear HO
  have HO := Lib.hid HON.out
  clear HON
  have HIN := Lib.hid (HI.out.ext hx)
  clear HI
  have HI := Lib.hid HIN.out
  clear HIN
  clear hx X13
  go_wp2_with fail
  refine (cost_pair_new w14 (.slice (some ⟨B, 0, none⟩) 3 3) _ _ [2, 2, 2] [2, 2, 0] [0] [0] 3 HT.out HI.out HI.out (by simp) (by simp) rfl (by simp) bad7).mono ?_
  rintro e w15 ⟨rfl, hx⟩
  have X15 := Lib.hid (X14.out.trans hx)
  have HTN := Lib.hid (HT.out.ext hx)
  clear HT
  have HT := Lib.hid HTN.out
  clear HTN
  have HON := Lib.hid (HO.out.ext hx)
  clear HO
  have HO := Lib.hid HON.out
  clear HON
  have HIN := Lib.hid (HI.out.ext hx)
  clear HI
  have HI := Lib.hid HIN.out
  clear HIN
  clear hx X14
  go_wp2_with fail
  refine (cost_pair w15 (.slice (some ⟨B, 0, none⟩) 3 3) (.slice (some ⟨B, 0, none⟩) 3 3) _ _ [2, 2, 2] [2, 2, 2] [0] [] HT.out HT.out HI.out (nil_view _) (by simp) (by simp) (by simp) bad8).mono ?_
  rintro e w16 ⟨rfl, hx⟩
  have X16 := Lib.hid (X15.out.trans hx)
  have HTN := Lib.hid (HT.out.ext hx)
  clear HT
  have HT := Lib.hid HTN.out
  clear HTN
  have HON := Lib.hid (HO.out.ext hx)
  clear HO
  have HO := Lib.hid HON.out
  clear HON
  have HIN := Lib.hid (HI.out.ext hx)
  clear HI
  have HI := Lib.hid HIN.out
  clear HIN
  clear hx X15
  clear HT HO HI
  go_wp2_with fail
  refine (ref_counts w16).mono ?_
  rintro e w17 ⟨rfl, hx⟩
  have X17 := Lib.hid (X16.out.trans hx)
  clear hx X16
  go_wp2_with fail
  go_ret
  exact ⟨rfl, X17.out⟩
end Go.Proofs.Ytaabmlnbadpfgaa
