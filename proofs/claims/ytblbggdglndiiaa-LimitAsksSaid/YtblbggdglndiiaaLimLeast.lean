/- pressworkref05.Least: its walk. -/
import Derived.StillTailTactics
import Derived.Test.YtblbggdglndiiaaLimOne
import Derived.Test.YtblbggdglndiiaaLimFallR
import Derived.Test.YtblbggdglndiiaaLimKnown
namespace Go.Proofs.Ytblbggdglndiiaa
open Go.RowKit
set_option linter.unusedVariables false

theorem IOn.at {w wr : World} {F : List Nat} {g n c : Nat} (h : IOn w F (.slice (some ⟨g, 0, none⟩) n c) wr) {k : Nat} (hk : k < F.length) : wr.cell? ⟨g, k, none⟩ = some (.int .i64 (F.getD k 0 : Nat)) ∧ wr.frozen? ⟨g, k, none⟩ = false ∧ w.heap.size ≤ g := by
  obtain ⟨og, b1, b2, _⟩ := h
  rcases b1.form with ⟨_, e, _⟩ | ⟨g', _, _, h1, e, _⟩
  · cases e
  · cases e
    subst h1
    exact ⟨b1.cell k _ (by simp [intsL, hk, List.getD]), b1.free k, b2 _ rfl⟩
theorem ownsRow_same {w : World} {b1 b2 : Nat} {e : TypeId} {size n : Nat} {v : Value} {xs ys : List Value} (h : w.ownsRow b1 e size v n xs) (k : w.ownsRow b2 e size v n ys) : xs = ys := by
  obtain ⟨h1, h2⟩ := h
  obtain ⟨k1, k2⟩ := k
  rcases h2 with ⟨rfl, h3⟩ | ⟨g, cap, cur, rfl, a1, a2, a3, a4, a5, a6⟩
  · rw [h3, Nat.zero_mul] at h1 k1
    rw [List.eq_nil_of_length_eq_zero h1, List.eq_nil_of_length_eq_zero k1]
  · rcases k2 with ⟨e, _⟩ | ⟨g', cap', cur', e, c1, c2, c3, c4, c5, c6⟩
    · cases e
    · cases e
      rw [a2] at c2
      cases c2
      rw [← a6, ← c6]
theorem sum_le' {M : Nat} : ∀ {X : List Nat}, (∀ x ∈ X, x ≤ M) → X.sum ≤ X.length * M
  | [], _ => by simp
  | a :: X, h => by
    have := sum_le' (fun x hx => h x (List.mem_cons_of_mem _ hx))
    have := h a (List.mem_cons_self ..)
    rw [List.sum_cons, List.length_cons, Nat.add_mul]; omega
theorem mem_le_sum {x : Nat} : ∀ {l : List Nat}, x ∈ l → x ≤ l.sum
  | a :: l, h => by
    rw [List.sum_cons]
    rcases List.mem_cons.1 h with rfl | h
    · exact Nat.le_add_right _ _
    · exact Nat.le_trans (mem_le_sum h) (Nat.le_add_left _ _)
theorem set_tab {m o x : Nat} {f f' : Nat → Nat} (h : f' o = x) (hn : ∀ j, j ≠ o → f' j = f j) : ((List.range m).map f).set o x = (List.range m).map f' := by
  refine List.ext_getElem (by simp) fun i h1 h2 => ?_
  rw [List.getElem_set]
  split
  · rename_i e; subst e; simp [h]
  · rename_i e; simp [hn i (fun e2 => e e2.symm)]
theorem tab_zero (m : Nat) : List.replicate m 0 = (List.range m).map fun _ => 0 := by simp [List.map_const']
theorem tab_getD {m : Nat} {f : Nat → Nat} {j : Nat} (h : j < m) : ((List.range m).map f).getD j 0 = f j := by simp [List.getD, h]
theorem rev_drop_sum (W : List Nat) (k : Nat) : (W.reverse.drop k).sum = sumT W (W.length - k) := by
  rw [List.drop_reverse, List.sum_reverse, sumT]
theorem sumT_le (l : List Nat) (k : Nat) : sumT l k ≤ l.sum := by
  rw [sumT]
  conv => rhs; rw [← List.take_append_drop k l, List.sum_append]
  exact Nat.le_add_right _ _
/-- rows that were made: a row of rows that is owned, each row in a block of its own. -/
def RowsW (w0 wr : World) (v : Value) (k m : Nat) (g : Nat → Nat → Nat) : Prop :=
  ∃ og vs, Owns wr 24 1 v og k vs ∧ vs.length = k ∧ (∀ q, og = some q → w0.heap.size ≤ q) ∧ Ext w0 wr ∧
    ∀ j, j < k → ∃ b c, vs[j]? = some (.slice (some ⟨b, 0, none⟩) m c) ∧ b < wr.heap.size ∧ og ≠ some b ∧ ∀ i, i < m → wr.cell? ⟨b, i, none⟩ = some (.int .i64 (g j i : Nat))
theorem RowsW.nil (w : World) (m : Nat) (g : Nat → Nat → Nat) : RowsW w w (.slice none 0 0) 0 m g := ⟨none, [], Owns.nil _ _ _, rfl, fun q e => (by cases e), Ext.refl w, fun j h => by omega⟩
theorem RowsW.ext {w0 wr wx : World} {v : Value} {k m : Nat} {g : Nat → Nat → Nat} (h : RowsW w0 wr v k m g) (hx : Ext wr wx) : RowsW w0 wx v k m g := by
  obtain ⟨og, vs, h1, h2, h3, h4, h5⟩ := h
  refine ⟨og, vs, h1.ext' hx, h2, h3, h4.trans hx, fun j hj => ?_⟩
  obtain ⟨b, c, a1, a2, a3, a4⟩ := h5 j hj
  exact ⟨b, c, a1, Nat.lt_of_lt_of_le a2 hx.size, a3, fun i hi => cell_touch hx (a4 i hi) (fun f => f)⟩
theorem RowsW.toExt {w0 wr : World} {v : Value} {k m : Nat} {g : Nat → Nat → Nat} (h : RowsW w0 wr v k m g) : Ext w0 wr := by
  obtain ⟨og, vs, h1, h2, h3, h4, h5⟩ := h; exact h4
theorem RowsW.read {w0 wr : World} {v : Value} {k m : Nat} {g : Nat → Nat → Nat} (h : RowsW w0 wr v k m g) (hk : 0 < k) : RowsR wr v k m g := by
  obtain ⟨og, vs, h1, h2, h3, h4, h5⟩ := h
  rcases h1.form with ⟨_, _, e, _⟩ | ⟨q, c, cur, rfl, rfl, _⟩
  · omega
  · refine ⟨q, 0, c, rfl, fun j hj => ?_⟩
    obtain ⟨b, c2, a1, a2, a3, a4⟩ := h5 j hj
    exact ⟨b, 0, c2, by rw [Nat.zero_add]; exact h1.cell j _ a1, fun i hi => by rw [Nat.zero_add]; exact a4 i hi⟩
theorem RowsW.shape {w0 wr : World} {v : Value} {k m : Nat} {g : Nat → Nat → Nat} (h : RowsW w0 wr v k m g) : ∃ ao c, v = .slice ao k c := by
  obtain ⟨og, vs, h1, _⟩ := h; exact h1.shape
/-- one row more. -/
theorem RowsW.more {w0 wr w2 : World} {v v' : Value} {k m : Nat} {g : Nat → Nat → Nat} (h : RowsW w0 wr v k m g) {b c : Nat} (hb : b < wr.heap.size) (hfar : ∀ q, v.ownBlock = some q → q ≠ b) (hc : ∀ i, i < m → wr.cell? ⟨b, i, none⟩ = some (.int .i64 (g k i : Nat)))
    (hown : ∀ vs, wr.ownsRow 0 24 1 v k vs → w2.ownsRow 0 24 1 v' (k + 1) (vs ++ [.slice (some ⟨b, 0, none⟩) m c])) {o : Obj} (hgrow : (wr.alloc o).grownBy w2 v.ownBlock) (hat : v'.ownBlock = v.ownBlock ∨ v'.ownBlock = some (wr.alloc o).heap.size) : RowsW w0 w2 v' (k + 1) m g := by
  obtain ⟨og, vs, h1, h2, h3, h4, h5⟩ := h
  have e0 : v.ownBlock = og := h1.2
  rw [e0] at hgrow hat hfar
  have ht : Touch (fun q => og = some q) wr w2 := Touch.grown (((Ext.refl wr).alloc o).mono (fun _ _ f => f.elim)) hgrow (fun q e => Or.inl e)
  have hsz : (wr.alloc o).heap.size = wr.heap.size + 1 := World.size_alloc _ _
  refine ⟨v'.ownBlock, vs ++ [.slice (some ⟨b, 0, none⟩) m c], ⟨hown vs h1.1, rfl⟩, by simp [h2], fun q e => ?_, h4.touch ht (fun i hi e => ?_), fun j hj => ?_⟩
  · rcases hat with r | r
    · rw [r] at e; exact h3 q e
    · rw [r, hsz] at e; cases e; have := h4.size; omega
  · have := h3 i e; omega
  · have hne : ∀ q, q < wr.heap.size → og ≠ some q → v'.ownBlock ≠ some q := fun q hq hn e => by
      rcases hat with r | r
      · rw [r] at e; exact hn e
      · rw [r, hsz] at e; cases e; omega
    by_cases hjk : j < k
    · obtain ⟨b1, c1, a1, a2, a3, a4⟩ := h5 j hjk
      exact ⟨b1, c1, by rw [List.getElem?_append_left (by omega)]; exact a1, Nat.lt_of_lt_of_le a2 ht.size, hne b1 a2 a3, fun i hi => cell_touch ht (a4 i hi) a3⟩
    · obtain rfl : j = k := by omega
      have hog : og ≠ some b := fun e => hfar b e rfl
      exact ⟨b, c, by rw [← h2, List.getElem?_append_right (Nat.le_refl _), Nat.sub_self]; rfl, Nat.lt_of_lt_of_le hb ht.size, hne b hb hog, fun i hi => cell_touch ht (hc i hi) hog⟩
theorem info_ints : (Try.prog.info? 24).map (fun i => (i.zero, i.size, i.bytes)) = some (some (.slice none 0 0), 1, 24) := by kernel_rfl
/-- the rest from so far on. -/
def restL (acc : List Nat) (n j : Nat) : List Nat := (List.range (n + 1)).map fun k => if j ≤ k then (acc.drop k).sum else 0
theorem restL_top {acc : List Nat} {n : Nat} (h : n = acc.length) : List.replicate (n + 1) 0 = restL acc n n := by
  rw [tab_zero, restL]
  refine List.map_congr_left fun k hk => ?_
  have := List.mem_range.1 hk
  split
  · rw [List.drop_of_length_le (by omega)]; rfl
  · rfl
theorem restL_step {acc : List Nat} {n p : Nat} (h : n = acc.length) (hp : p < n) : (restL acc n (p + 1)).set p ((restL acc n (p + 1)).getD (p + 1) 0 + acc.getD p 0) = restL acc n p := by
  rw [restL, tab_getD (by omega), if_pos (Nat.le_refl _), restL]
  refine set_tab ?_ fun j hj => ?_
  · rw [if_pos (Nat.le_refl _), List.drop_eq_getElem_cons (show p < acc.length by omega), List.sum_cons]
    simp [List.getD, show p < acc.length by omega]; omega
  · by_cases h1 : p + 1 ≤ j
    · rw [if_pos (by omega), if_pos h1]
    · rw [if_neg (by omega), if_neg h1]
theorem restL_le {acc : List Nat} {n j k : Nat} : (restL acc n j).getD k 0 ≤ acc.sum := by
  by_cases hk : k < n + 1
  · rw [restL, tab_getD hk]
    split
    · conv => rhs; rw [← List.take_append_drop k acc, List.sum_append]
      exact Nat.le_add_left _ _
    · exact Nat.zero_le _
  · rw [restL, List.getD, List.getElem?_eq_none (by simp; omega)]; exact Nat.zero_le _
theorem length_restL (acc : List Nat) (n j : Nat) : (restL acc n j).length = n + 1 := by simp [restL]
def lineL (m : Nat) (f : Nat → Nat) (o : Nat) : List Nat := (List.range m).map fun j => if j < o then f j else 0
theorem lineL_nil (m : Nat) (f : Nat → Nat) : List.replicate m 0 = lineL m f 0 := by rw [tab_zero, lineL]; exact List.map_congr_left fun k _ => by rw [if_neg (by omega)]
theorem lineL_step (m : Nat) (f : Nat → Nat) (o : Nat) : (lineL m f o).set o (f o) = lineL m f (o + 1) := by
  rw [lineL, lineL]
  refine set_tab (by rw [if_pos (by omega)]) fun j hj => ?_
  by_cases h : j < o
  · rw [if_pos (by omega), if_pos h]
  · rw [if_neg (by omega), if_neg h]
theorem length_lineL (m : Nat) (f : Nat → Nat) (o : Nat) : (lineL m f o).length = m := by simp [lineL]
def LeA (acc : List Nat) (n N1 rg : Nat) (w1 : World) (v8 : Value) (wr : World) : Prop :=
  (∃ p : Nat, v8 = .int .i64 p ∧ p < n ∧ IOn w1 (restL acc n (p + 1)) (.slice (some ⟨rg, 0, none⟩) N1 N1) wr) ∨ (v8 = .int .i64 (-1) ∧ IOn w1 (restL acc n 0) (.slice (some ⟨rg, 0, none⟩) N1 N1) wr)
def lvlF (W : List Nat) (n : Nat) : Nat → Option (Nat → Nat → Nat)
  | 0 => none
  | d + 1 => some (docOne W n d)
theorem lvlF_at (W : List Nat) (n d : Nat) : docAt W n (lvlF W n d) = docOne W n d := by cases d <;> rfl
def LeB (W : List Nat) (n N1 N2 L : Nat) (w3 : World) (v9 v10 : Value) (wr : World) : Prop :=
  ∃ d q : Nat, v10 = .int .i64 q ∧ d + q = L ∧ (d = 0 → v9 = .slice none 0 0) ∧ (∀ f, lvlF W n d = some f → RowsR wr v9 N1 N2 f) ∧ Ext w3 wr
def LeC (g : Nat → Nat → Nat) (N1 N2 : Nat) (w4 : World) (v11 v12 : Value) (wr : World) : Prop := ∃ k : Nat, v12 = .int .i64 k ∧ k ≤ N1 ∧ RowsW w4 wr v11 k N2 g
def LeD (f : Nat → Nat) (N2 lb : Nat) (w5 : World) (v14 : Value) (wr : World) : Prop := ∃ o : Nat, v14 = .int .i64 o ∧ o ≤ N2 ∧ IOn w5 (lineL N2 f o) (.slice (some ⟨lb, 0, none⟩) N2 N2) wr
theorem RowsR.ext {w wx : World} {v : Value} {n m : Nat} {g : Nat → Nat → Nat} (h : RowsR w v n m g) (hx : Ext w wx) : RowsR wx v n m g := by
  obtain ⟨b, o, c, rfl, h1⟩ := h
  refine ⟨b, o, c, rfl, fun k hk => ?_⟩
  obtain ⟨b2, o2, c2, a1, a2⟩ := h1 k hk
  exact ⟨b2, o2, c2, cell_touch hx a1 (fun f => f), fun j hj => cell_touch hx (a2 j hj) (fun f => f)⟩
def LeRes (D : Nat) (w : World) (e : Ending) (w' : World) : Prop := e = .returned (.int .i64 (D : Nat)) ∧ Ext w w'
set_option maxHeartbeats 8000000 in
set_option maxRecDepth 100000 in
theorem ref_least (F P : List Nat) (v : Value) (L : Nat) (w : World) (hv : ViewL w v (intsL F)) (hl : F.length ≤ 40) (hF : ∀ x ∈ F, x ≤ 2 ^ 40) (hP : IsOrd F P) (h2 : 2 ≤ P.length) (h1 : 1 ≤ L) (h17 : L ≤ 17) (hs : docOne (wtsOf F P) P.length (L - 1) 0 2 < 2 ^ 60) :
    Calls Try.prog 14 #[v, .int .i64 L] w (LeRes (docOne (wtsOf F P) P.length (L - 1) 0 2) w) := by
  have hfall := ref_fall F v w hv (by omega)
  obtain ⟨W, hW⟩ : ∃ W, W = wtsOf F P := ⟨_, rfl⟩
  obtain ⟨n, hn⟩ : ∃ n, n = P.length := ⟨_, rfl⟩
  rw [← hW, ← hn] at hs ⊢
  have hWr : Rises W := by rw [hW]; exact ord_rises hP
  have hWp : W.Perm (F.filter fun x => decide (0 < x)) := by rw [hW]; exact wts_perm hP
  have hWn : W.length = n := by rw [hW, hn, wtsOf, List.length_map]
  have hn40 : n ≤ 40 := by
    rw [← hWn, hWp.length_eq]
    exact Nat.le_trans (List.length_filter_le _ _) hl
  have hWs : W.sum ≤ 40 * 2 ^ 40 := by
    have h1 : ∀ x ∈ W, x ≤ 2 ^ 40 := fun x hx => hF x (List.mem_filter.1 (hWp.mem_iff.1 hx)).1
    exact Nat.le_trans (sum_le' h1) (Nat.mul_le_mul_right _ (by omega))
  have HW := Lib.hid (show Rises W ∧ W.Perm (F.filter fun x => decide (0 < x)) ∧ W.length = n ∧ W.sum ≤ 40 * 2 ^ 40 ∧ 2 ≤ n ∧ n ≤ 40 ∧ 1 ≤ L ∧ L ≤ 17 from ⟨hWr, hWp, hWn, hWs, by omega, hn40, h1, h17⟩)
  obtain ⟨D, hD⟩ : ∃ D, D = docOne W n (L - 1) 0 2 := ⟨_, rfl⟩
  rw [← hD] at hs ⊢
  have HD := Lib.hid (And.intro hD hs)
  have HFALL := Lib.hid hfall
  have hn2z : ¬ (n : Int) < 2 := by omega
  have hn40z : (n : Int) ≤ 40 := by omega
  have h17z : (L : Int) ≤ 17 := by omega
  obtain ⟨N1, hN1⟩ : ∃ N1, N1 = n + 1 := ⟨_, rfl⟩
  obtain ⟨N2, hN2⟩ : ∃ N2, N2 = n + 2 := ⟨_, rfl⟩
  obtain ⟨n0, hn0⟩ : ∃ n0, n0 = n - 1 := ⟨_, rfl⟩
  have wN1 : IntKind.i64.wrap ((n : Int) + 1) = (N1 : Int) := by rw [show (n : Int) + 1 = ((N1 : Nat) : Int) by omega]; exact IntWalk.i64_in _ (by omega)
  have wN2 : IntKind.i64.wrap ((n : Int) + 2) = (N2 : Int) := by rw [show (n : Int) + 2 = ((N2 : Nat) : Int) by omega]; exact IntWalk.i64_in _ (by omega)
  have wn0 : IntKind.i64.wrap ((n : Int) - 1) = (n0 : Int) := by rw [show (n : Int) - 1 = ((n0 : Nat) : Int) by omega]; exact IntWalk.i64_in _ (by omega)
  have HN := Lib.hid (show N1 = n + 1 ∧ N2 = n + 2 ∧ n0 = n - 1 from ⟨hN1, hN2, hn0⟩)
  clear hfall hW hn hWr hWp hWn hn40 hWs hD hs hv hl hF hP h2 h1 h17 hN1 hN2 hn0
  go_enter Try.func14, Try.ntmps14
  go_wp2_with fail
  refine Calls.mono HFALL.out ?_
  rintro e w1 ⟨fv, acc, rfl, hio, hperm, hpw⟩
  have hacc : acc.reverse = W := rises_same _ _ ((List.reverse_perm acc).trans (hperm.trans HW.out.2.1.symm)) ((rises_pairwise _).2 (List.pairwise_reverse.2 hpw)) HW.out.1
  have hal : acc.length = n := by rw [← HW.out.2.2.1, ← hacc, List.length_reverse]
  obtain ⟨fa, fc, rfl⟩ := hio.shape
  rw [hal] at hio ⊢
  obtain ⟨fg, rfl⟩ : ∃ g, fa = some ⟨g, 0, none⟩ := by
    obtain ⟨og, b1, _⟩ := hio
    rcases b1.form with ⟨_, h, h', _⟩ | ⟨g, _, _, _, h, _⟩
    · have := HW.out; omega
    · cases h; exact ⟨g, rfl⟩
  have HA := Lib.hid (show IOn w acc (.slice (some ⟨fg, 0, none⟩) n fc) w1 ∧ acc.reverse = W ∧ n = acc.length ∧ acc.sum ≤ 40 * 2 ^ 40 from ⟨hio, hacc, hal.symm, by rw [← List.sum_reverse, hacc]; exact HW.out.2.2.2.1⟩)
  clear hio hperm hpw hacc hal HFALL
  obtain ⟨w2, hmk, hr0⟩ := make_ints w1 N1 (by have := HN.out; omega)
  have HR0 := Lib.hid hr0
  clear hr0
  go_wp2_with fail
  clear hmk wN1
  obtain ⟨rg, hrg⟩ : ∃ rg, rg = w1.heap.size := ⟨_, rfl⟩
  rw [← hrg] at HR0 ⊢
  have HRG := Lib.hid hrg
  clear hrg
  go_loopw [8] (fun v8 wr => LeA acc n N1 rg w1 v8 wr) (fun v8 _ => match v8 with | .int _ q => (q + 1).toNat | _ => 0)
  case atStart => exact Or.inl ⟨n0, by first | rfl | (congr 1), by have := HN.out; have := HW.out; omega, by rw [show n0 + 1 = n by have := HN.out; have := HW.out; omega, ← restL_top HA.out.2.2.1, ← HN.out.1]; exact HR0.out⟩
  case round =>
    rcases hrel with ⟨p, rfl, hp, hio⟩ | ⟨rfl, hio⟩
    · have HI := Lib.hid (show p < n ∧ IOn w1 (restL acc n (p + 1)) (.slice (some ⟨rg, 0, none⟩) N1 N1) wr from ⟨hp, hio⟩)
      have hpz : (p : Int) < (n : Int) := by omega
      obtain ⟨p1, hp1⟩ : ∃ p1, p1 = p + 1 := ⟨_, rfl⟩
      have hp1z : (p1 : Int) < (N1 : Int) := by have := HN.out; omega
      have hpN1 : (p : Int) < (N1 : Int) := by have := HN.out; omega
      have wp1 : IntKind.i64.wrap ((p : Int) + 1) = (p1 : Int) := by rw [show (p : Int) + 1 = ((p1 : Nat) : Int) by omega]; exact IntWalk.i64_in _ (by omega)
      have hlen : (restL acc n (p + 1)).length = N1 := by rw [length_restL, HN.out.1]
      obtain ⟨c1, _, _⟩ := hio.at (k := p1) (by rw [hlen]; omega)
      obtain ⟨e1, e2, hge⟩ := hio.at (k := p) (by rw [hlen]; omega)
      have c2 : wr.cell? ⟨fg, p, none⟩ = some (.int .i64 (acc.getD p 0 : Nat)) := cell_touch hio.toExt (HA.out.1.at (by rw [← HA.out.2.2.1]; exact hp)).1 (fun f => f)
      obtain ⟨a, ha⟩ : ∃ a, a = acc.getD p 0 := ⟨_, rfl⟩
      obtain ⟨r, hr⟩ : ∃ r, r = (restL acc n (p + 1)).getD p1 0 := ⟨_, rfl⟩
      obtain ⟨z, hz⟩ : ∃ z, z = (restL acc n (p + 1)).getD p 0 := ⟨_, rfl⟩
      rw [← ha] at c2
      rw [← hr] at c1
      rw [← hz] at e1
      have har : a ≤ 40 * 2 ^ 40 ∧ r ≤ 40 * 2 ^ 40 := by
        constructor
        · rw [ha]
          by_cases hpl : p < acc.length
          · have hm : acc.getD p 0 ∈ acc := getD_mem hpl
            exact Nat.le_trans (mem_le_sum hm) HA.out.2.2.2
          · rw [List.getD, List.getElem?_eq_none (by omega)]; exact Nat.zero_le _
        · rw [hr]; exact Nat.le_trans restL_le HA.out.2.2.2
      obtain ⟨s, hs⟩ : ∃ s, s = r + a := ⟨_, rfl⟩
      have ws : IntKind.i64.wrap ((r : Int) + (a : Int)) = (s : Int) := by rw [show (r : Int) + (a : Int) = ((s : Nat) : Int) by omega]; exact IntWalk.i64_in _ (by omega)
      have HIX := Lib.hid (show IOn w1 (restL acc n p) (.slice (some ⟨rg, 0, none⟩) N1 N1) (wr.setCell ⟨rg, p, none⟩ (.int .i64 s)).drew from by
        have h := (io_set hio (k := p) (by rw [hlen]; omega) s).ext ((Ext.refl _).drew)
        have e : (restL acc n (p + 1)).set p s = restL acc n p := by rw [hs, hr, ha, hp1]; exact restL_step HA.out.2.2.1 hp
        rw [e] at h
        exact h)
      have HP1 := Lib.hid hp1
      clear hp hio hp1 hlen hge ha hr hz har hs
      go_wp2_with fail
      go_still_tail 13, (by kernel_rfl)
      clear c1 c2 wp1 ws
      by_cases hp0 : p = 0
      · subst hp0
        go_wp2_with fail
        exact ⟨Or.inr ⟨by first | rfl | go_num, HIX.out⟩, by simp⟩
      · obtain ⟨q, hq⟩ : ∃ q, p = q + 1 := ⟨p - 1, by omega⟩
        have wq : IntKind.i64.wrap ((p : Int) - 1) = (q : Int) := by rw [show (p : Int) - 1 = ((q : Nat) : Int) by omega]; exact IntWalk.i64_in _ (by omega)
        have HQ := Lib.hid hq
        clear hq hp0
        go_wp2_with fail
        exact ⟨Or.inl ⟨q, rfl, by have := HI.out.1; have := HQ.out; omega, by rw [← HQ.out]; exact HIX.out⟩, by have := HQ.out; simp; omega⟩
    · have HI := Lib.hid hio
      clear hio
      obtain ⟨w3, rfl⟩ : ∃ w3 : World, w3 = wr := ⟨_, rfl⟩
      have HX3 := Lib.hid (show Ext w w3 from HA.out.1.toExt.trans HI.out.toExt)
      have HREST := Lib.hid (show ∀ wx, Ext w3 wx → ∃ rb ro rc, (.slice (some ⟨rg, 0, none⟩) N1 N1 : Value) = .slice (some ⟨rb, ro, none⟩) (n + 1) rc ∧ ∀ j, j ≤ n → wx.cell? ⟨rb, ro + j, none⟩ = some (.int .i64 (sumT W (n - j) : Nat)) from fun wx hx => ⟨rg, 0, N1, by rw [HN.out.1], fun j hj => by
        have h := cell_touch hx (HI.out.at (k := j) (by rw [length_restL]; omega)).1 (fun f => f)
        rw [restL, tab_getD (by omega), if_pos (Nat.zero_le _), ← HW.out.2.2.1, ← rev_drop_sum, ← HA.out.2.1, List.reverse_reverse] at *
        rw [Nat.zero_add]; exact h⟩)
      have HS60 := Lib.hid (show ∀ j, sumT W j ≤ 2 ^ 60 from fun j => by have := sumT_le W j; have := HW.out; omega)
      go_wp2_with fail
      go_loopw [9, 10] (fun v9 v10 wr => LeB W n N1 N2 L w3 v9 v10 wr) (fun _ v10 _ => (intOf v10).toNat)
      case atStart => exact ⟨0, L, rfl, by omega, fun _ => rfl, fun f h => (by cases h), Ext.refl _⟩
      case round =>
        obtain ⟨d, q, rfl, hdq, hnil, hrow, hx⟩ := hrel
        obtain ⟨w4, rfl⟩ : ∃ w4 : World, w4 = wr := ⟨_, rfl⟩
        have HB := Lib.hid (show d + q = L ∧ (∀ f, lvlF W n d = some f → RowsR w4 u9 (n + 1) (n + 2) f) ∧ Ext w3 w4 from ⟨hdq, by rw [← HN.out.1, ← HN.out.2.1]; exact hrow, hx⟩)
        have HNIL := Lib.hid hnil
        clear hdq hnil hrow hx
        by_cases hq0 : q = 0
        · subst hq0
          obtain ⟨d1, hd1⟩ : ∃ d1, d = d1 + 1 := ⟨d - 1, by have := HB.out.1; have := HW.out; omega⟩
          subst hd1
          obtain ⟨b, o, c, rfl, hcc⟩ := HB.out.2.1 (docOne W n d1) rfl
          obtain ⟨b2, o2, c2, k1, k2⟩ := hcc 0 (by omega)
          have k3 := k2 2 (by have := HW.out; omega)
          have hdd : docOne W n d1 0 2 = D := by rw [HD.out.1, show L - 1 = d1 by have := HB.out.1; omega]
          rw [hdd] at k3
          rw [Nat.add_zero] at k1
          have hDz : ¬ (4611686018427387904 : Int) ≤ (D : Int) := by have := HD.out.2; omega
          have hN2z : (2 : Int) < (N2 : Int) := by have := HN.out; have := HW.out; omega
          have hN1z : (0 : Int) < (N1 : Int) := by have := HN.out; have := HW.out; omega
          have eN1 : n + 1 = N1 := HN.out.1.symm
          have eN2 : n + 2 = N2 := HN.out.2.1.symm
          rw [eN2] at k1
          rw [eN1]
          clear hcc k2 hdd eN1 eN2
          go_wp2_with fail
          go_ret
          exact ⟨rfl, HX3.out.trans HB.out.2.2⟩
        · have hq1 : (1 : Int) ≤ (q : Int) := by omega
          obtain ⟨q1, hq1'⟩ : ∃ q1, q = q1 + 1 := ⟨q - 1, by omega⟩
          have wq : IntKind.i64.wrap ((q : Int) - 1) = (q1 : Int) := by rw [show (q : Int) - 1 = ((q1 : Nat) : Int) by omega]; exact IntWalk.i64_in _ (by have := HB.out.1; omega)
          have HQ := Lib.hid (show q = q1 + 1 ∧ q ≤ L from ⟨hq1', by have := HB.out.1; omega⟩)
          obtain ⟨last, hlast⟩ : ∃ last, last = ((q : Int) == (L : Int)) := ⟨_, rfl⟩
          have HLAST := Lib.hid (show last = (lvlF W n d).isNone from by
            rw [hlast]
            cases d with
            | zero => simp [lvlF]; have := HB.out.1; omega
            | succ d => simp [lvlF]; have := HB.out.1; omega)
          obtain ⟨g, hg⟩ : ∃ g, g = docOne W n d := ⟨_, rfl⟩
          have HG := Lib.hid (show docAt W n (lvlF W n d) = g from by rw [hg]; exact lvlF_at W n d)
          clear hq0 hq1' hg
          go_wp2_with fail
          go_loopw [11, 12] (fun v11 v12 wr => LeC g N1 N2 w4 v11 v12 wr) (fun _ v12 _ => N1 - (intOf v12).toNat)
          case atStart => exact ⟨0, by go_num, Nat.zero_le _, RowsW.nil _ _ _⟩
          case round =>
            obtain ⟨k, rfl, hk, hrows⟩ := hrel
            obtain ⟨w5, rfl⟩ : ∃ w5 : World, w5 = wr := ⟨_, rfl⟩
            obtain ⟨ra, rc, rfl⟩ := hrows.shape
            have HC := Lib.hid (show k ≤ N1 ∧ RowsW w4 w5 (.slice ra k rc) k N2 g from ⟨hk, hrows⟩)
            clear hk hrows
            by_cases hkn : k ≤ n
            · have hknz : (k : Int) ≤ (n : Int) := by omega
              obtain ⟨k1, hk1⟩ : ∃ k1, k1 = k + 1 := ⟨_, rfl⟩
              have wk : IntKind.i64.wrap ((k : Int) + 1) = (k1 : Int) := by rw [show (k : Int) + 1 = ((k1 : Nat) : Int) by omega]; exact IntWalk.i64_in _ (by omega)
              have HK := Lib.hid (show k1 = k + 1 ∧ k ≤ n from ⟨hk1, hkn⟩)
              obtain ⟨w6, hmk, hl0⟩ := make_ints w5 N2 (by have := HN.out; have := HW.out; omega)
              have HL0 := Lib.hid hl0
              clear hk1 hkn hl0
              go_wp2_with fail
              clear hmk
              obtain ⟨lb, hlb⟩ : ∃ lb, lb = w5.heap.size := ⟨_, rfl⟩
              rw [← hlb] at HL0 ⊢
              have HLB := Lib.hid hlb
              clear hlb
              go_loopw [14] (fun v14 wr => LeD (g k) N2 lb w5 v14 wr) (fun v14 _ => N2 - (intOf v14).toNat)
              case atStart => exact ⟨0, by go_num, Nat.zero_le _, by rw [← lineL_nil]; exact HL0.out⟩
              case round =>
                obtain ⟨o, rfl, ho, hio⟩ := hrel
                have HO := Lib.hid (show o ≤ N2 ∧ IOn w5 (lineL N2 (g k) o) (.slice (some ⟨lb, 0, none⟩) N2 N2) wr from ⟨ho, hio⟩)
                by_cases hon : o < N2
                · have honz : (o : Int) ≤ (N1 : Int) := by have := HN.out; omega
                  have honz2 : (o : Int) < (N2 : Int) := by omega
                  obtain ⟨o1, ho1⟩ : ∃ o1, o1 = o + 1 := ⟨_, rfl⟩
                  have wo : IntKind.i64.wrap ((o : Int) + 1) = (o1 : Int) := by rw [show (o : Int) + 1 = ((o1 : Nat) : Int) by omega]; exact IntWalk.i64_in _ (by have := HN.out; omega)
                  have wN1 : IntKind.i64.wrap ((n : Int) + 1) = (N1 : Int) := by rw [show (n : Int) + 1 = ((N1 : Nat) : Int) by have := HN.out; omega]; exact IntWalk.i64_in _ (by have := HN.out; omega)
                  obtain ⟨e1, e2, _⟩ := hio.at (k := o) (by rw [length_lineL]; exact hon)
                  have hX4r : Ext w4 wr := HC.out.2.toExt.trans hio.toExt
                  have HONE := Lib.hid (ref_one W n k o (lvlF W n d) u9 (.slice (some ⟨rg, 0, none⟩) N1 N1) wr (HREST.out wr (HB.out.2.2.trans hX4r)) (fun f hf => (HB.out.2.1 f hf).ext hX4r) HK.out.2 (by have := HN.out; omega) (by have := HW.out; omega) HS60.out last HLAST.out)
                  obtain ⟨x, hxx⟩ : ∃ x, x = g k o := ⟨_, rfl⟩
                  have hx2 : docAt W n (lvlF W n d) k o = x := by rw [HG.out, hxx]
                  rw [hx2] at HONE
                  obtain ⟨wx, hwx⟩ : ∃ wx, wx = wr.setCell ⟨lb, o, none⟩ (.int .i64 x) := ⟨_, rfl⟩
                  have HIX := Lib.hid (show IOn w5 (lineL N2 (g k) (o + 1)) (.slice (some ⟨lb, 0, none⟩) N2 N2) wx from by
                    have h := io_set hio (k := o) (by rw [length_lineL]; exact hon) x
                    rw [hxx, lineL_step, ← hxx] at h
                    rw [hwx]; exact h)
                  have HO1 := Lib.hid (show o1 = o + 1 ∧ o < N2 from ⟨ho1, hon⟩)
                  clear ho hio hon ho1 hX4r hxx hx2
                  go_wp2_with fail
                  rw [← hlast]
                  refine Calls.mono HONE.out ?_
                  rintro e w' ⟨rfl, rfl⟩
                  clear HONE
                  go_wp2_with fail
                  rw [← hwx]
                  clear hwx e1 e2
                  exact ⟨⟨o1, rfl, by have := HO1.out; omega, by rw [HO1.out.1]; exact HIX.out⟩, by simp [intOf]; have := HO1.out; omega⟩
                · have honz : ¬ (o : Int) ≤ (N1 : Int) := by have := HN.out; omega
                  have wN1 : IntKind.i64.wrap ((n : Int) + 1) = (N1 : Int) := by rw [show (n : Int) + 1 = ((N1 : Nat) : Int) by have := HN.out; omega]; exact IntWalk.i64_in _ (by have := HN.out; omega)
                  obtain rfl : o = N2 := by omega
                  obtain ⟨w7, rfl⟩ : ∃ w7 : World, w7 = wr := ⟨_, rfl⟩
                  have HR7 := Lib.hid (HC.out.2.ext hio.toExt)
                  have HCL := Lib.hid (show ∀ i, i < o → w7.cell? ⟨lb, i, none⟩ = some (.int .i64 (g k i : Nat)) from fun i hi => by
                    have h := (hio.at (k := i) (by rw [length_lineL]; exact hi)).1
                    rw [lineL, tab_getD hi, if_pos hi] at h
                    exact h)
                  have hlt7 : lb < w7.heap.size := World.block_lt_of_cell? w7 _ (hio.at (k := 0) (by rw [length_lineL]; have := HN.out; omega)).1
                  have HFAR := Lib.hid (show lb < w7.heap.size ∧ ∀ q, (Value.slice ra k rc).ownBlock = some q → q ≠ lb from ⟨hlt7, fun q e => by
                    obtain ⟨og, vs, r1, _⟩ := HC.out.2
                    have := r1.lt q (by rw [← r1.2]; exact e)
                    have := HLB.out
                    omega⟩)
                  obtain ⟨og, vs, r1, r2, r3, r4, r5⟩ := HR7.out
                  obtain ⟨i0, hi, hz0', hz1, hz2⟩ := info_parts info_ints
                  have HOWN := Lib.hid r1.1
                  clear ho hio hon hlt7 r1 r2 r3 r4 r5
                  have hk41 : k ≤ 40 := by have := HK.out; omega
                  go_wp2_with (at_builtin; go_must (refine wpList_append_own_at _ rfl (.tmp 72) (.tmp 74) 51 rfl 0 24 i0 (.slice none 0 0) 1 24 Try.underlying51 hi hz0' hz1 hz2 rfl (by decide) _ k vs rfl (HOWN.out.alloc _) ⟨w7.heap.size, 0, none⟩ 1 1 [.slice (some ⟨lb, 0, none⟩) o o] rfl rfl (news _ _ _ _) (by simp [Value.oneCell']) (by unfold maxLen; omega) (by omega) (Nat.zero_le _) ?_))
                  intro v' w8 hown' hgrow _ hat
                  have HR8 := Lib.hid (show RowsW w4 w8 v' (k + 1) o g from HR7.out.more HFAR.out.1 HFAR.out.2 HCL.out (fun vs2 h2 => by
                    have e : vs2 = vs := ownsRow_same h2 HOWN.out
                    rw [e]; exact hown') hgrow (by rw [World.size_alloc]; exact hat))
                  clear hown' hgrow hat hk41
                  go_wp2_with fail
                  exact ⟨⟨k1, rfl, by have := HK.out; have := HN.out; omega, by rw [HK.out.1]; exact HR8.out⟩, by simp [intOf]; have := HK.out; have := HN.out; omega⟩
            · have hknz : ¬ (k : Int) ≤ (n : Int) := by omega
              obtain rfl : k = N1 := by have := HC.out.1; have := HN.out; omega
              clear hkn
              go_wp2_with fail
              exact ⟨⟨d + 1, q1, rfl, by have := HB.out.1; have := HQ.out; omega, fun h => by omega, fun f hf => by
                have e : docOne W n d = f := by simpa [lvlF] using hf
                rw [← e, ← lvlF_at, HG.out]
                exact HC.out.2.read (by have := HN.out; omega), HB.out.2.2.trans HC.out.2.toExt⟩, by simp [intOf]; have := HQ.out; omega⟩
end Go.Proofs.Ytblbggdglndiiaa
