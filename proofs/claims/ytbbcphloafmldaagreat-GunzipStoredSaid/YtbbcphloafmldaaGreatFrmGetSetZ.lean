/- The ways out of frame.Get, from its four result cells. -/
import Derived.Test.YtbbcphloafmldaaGreatBnd24
import Derived.Test.YtbbcphloafmldaaGreatBnd22
namespace Go.Proofs.YtbbcphloafmldaaGreat
open Go.RowKit
set_option linter.unusedVariables false
set_option linter.unusedSimpArgs false

def GotH (w : World) (bs : List Nat) (e : Ending) (w' : World) : Prop :=
  match getH bs with
  | some (h, n, wr) => ∃ ev og, e = .returned (.tuple #[.agg (hcells h ev), .int .i64 n, .bool wr, .int .i64 0]) ∧ Owns w' 5 1 ev og h.extra.length (u8s h.extra) ∧ (∀ g, og = some g → w.heap.size ≤ g) ∧ Ext w w'
  | none => e = .returned (.tuple #[.agg (hcells hdZ (.slice none 0 0)), .int .i64 0, .bool false, .int .i64 2]) ∧ Ext w w'
theorem gotH_none {w w' : World} {bs : List Nat} {e : Ending} (h : getH bs = none) (he : e = .returned (.tuple #[.agg (hcells hdZ (.slice none 0 0)), .int .i64 0, .bool false, .int .i64 2])) (hx : Ext w w') : GotH w bs e w' := by
  unfold GotH; rw [h]; exact ⟨he, hx⟩
/-- the four result cells. -/
def w4of (w : World) : World := (((w.alloc (.cells (hcells hdZ (.slice none 0 0)) 34)).alloc (.cells #[.int .i64 0] 3)).alloc (.cells #[.bool false] 4)).alloc (.cells #[.int .i64 0] 25)
theorem w4_size (w : World) : (w4of w).heap.size = w.heap.size + 4 := by simp [w4of]
theorem w4_ext (w : World) : Ext w (w4of w) := ((((Ext.refl w).alloc _).alloc _).alloc _).alloc _
theorem w4_boxes (w : World) : IsBox (w4of w) w.heap.size hdZ (.slice none 0 0) ∧ (w4of w).heap[w.heap.size + 1]? = some (.cells #[.int .i64 0] 3 (0, 0)) ∧ (w4of w).heap[w.heap.size + 1 + 1]? = some (.cells #[.bool false] 4 (0, 0)) ∧ (w4of w).heap[w.heap.size + 1 + 1 + 1]? = some (.cells #[.int .i64 0] 25 (0, 0)) := by
  have n1 := heap_alloc_new w (.cells (hcells hdZ (.slice none 0 0)) 34)
  have n2 := heap_alloc_new (w.alloc (.cells (hcells hdZ (.slice none 0 0)) 34)) (.cells #[.int .i64 0] 3)
  have n3 := heap_alloc_new ((w.alloc (.cells (hcells hdZ (.slice none 0 0)) 34)).alloc (.cells #[.int .i64 0] 3)) (.cells #[.bool false] 4)
  have n4 := heap_alloc_new (((w.alloc (.cells (hcells hdZ (.slice none 0 0)) 34)).alloc (.cells #[.int .i64 0] 3)).alloc (.cells #[.bool false] 4)) (.cells #[.int .i64 0] 25)
  simp only [World.size_alloc] at n1 n2 n3 n4
  refine ⟨?_, ?_, ?_, n4⟩
  · exact ((((Ext.refl _).alloc _).alloc _).alloc _).keep n1 (fun f => f)
  · exact (((Ext.refl _).alloc _).alloc _).keep n2 (fun f => f)
  · exact ((Ext.refl _).alloc _).keep n3 (fun f => f)
/-- the way of a panic. -/
theorem get_bad {w wx : World} {bs : List Nat} {tmps : Array Value} (hn : getH bs = none) (hx : Ext (w4of w) wx)
    (t2 : tmps[2]? = some (.pointer (some ⟨w.heap.size, 0, none⟩))) (t3 : tmps[3]? = some (.pointer (some ⟨w.heap.size + 1, 0, none⟩))) (t4 : tmps[4]? = some (.pointer (some ⟨w.heap.size + 1 + 1, 0, none⟩))) (t5 : tmps[5]? = some (.pointer (some ⟨w.heap.size + 1 + 1 + 1, 0, none⟩))) :
    bodyPostD Tryz.prog Tryz.f36 (GotH w bs) (Exit.panic [formF]) { tmps := tmps, defers := [{ target := .fn (.func 46) #[.pointer (some ⟨w.heap.size, 0, none⟩), .pointer (some ⟨w.heap.size + 1, 0, none⟩), .pointer (some ⟨w.heap.size + 1 + 1, 0, none⟩), .pointer (some ⟨w.heap.size + 1 + 1 + 1, 0, none⟩)], args := #[] }] } wx := by
  obtain ⟨b1, b2, b3, b4⟩ := w4_boxes w
  refine get_panic t2 t3 t4 t5 (hx.keep b1 (fun f => f)) (hx.keep b2 (fun f => f)) (hx.keep b3 (fun f => f)) (hx.keep b4 (fun f => f)) (by omega) (by omega) (by omega) (by omega) (by omega) (by omega) (fun w' ht => gotH_none hn rfl ?_)
  exact ((w4_ext w).trans hx).touch ht (fun i hi e => by omega)
/-- the result cells, in any world behind. -/
theorem w4_cells {w wx : World} (hx : Ext (w4of w) wx) : wx.cell? ⟨w.heap.size, 0, none⟩ = some (.bool false) ∧ wx.frozen? ⟨w.heap.size, 0, none⟩ = false ∧ wx.cell? ⟨w.heap.size, 1, none⟩ = some (.int .u32 0) ∧ wx.frozen? ⟨w.heap.size, 1, none⟩ = false ∧ wx.cell? ⟨w.heap.size, 2, none⟩ = some (.int .u8 0) ∧ wx.frozen? ⟨w.heap.size, 2, none⟩ = false ∧ wx.cell? ⟨w.heap.size, 3, none⟩ = some (.int .u8 0) ∧ wx.frozen? ⟨w.heap.size, 3, none⟩ = false ∧ wx.cell? ⟨w.heap.size, 4, none⟩ = some (.slice none 0 0) ∧ wx.frozen? ⟨w.heap.size, 4, none⟩ = false ∧ wx.cell? ⟨w.heap.size, 5, none⟩ = some (.string ⟨#[]⟩) ∧ wx.frozen? ⟨w.heap.size, 5, none⟩ = false ∧ wx.cell? ⟨w.heap.size, 6, none⟩ = some (.string ⟨#[]⟩) ∧ wx.frozen? ⟨w.heap.size, 6, none⟩ = false ∧ wx.cell? ⟨w.heap.size, 7, none⟩ = some (.int .u8 0) ∧ wx.frozen? ⟨w.heap.size, 7, none⟩ = false ∧ wx.cell? ⟨w.heap.size, 8, none⟩ = some (.bool false) ∧ wx.frozen? ⟨w.heap.size, 8, none⟩ = false ∧ wx.cell? ⟨w.heap.size + 1, 0, none⟩ = some (.int .i64 0) ∧ wx.frozen? ⟨w.heap.size + 1, 0, none⟩ = false ∧ wx.cell? ⟨w.heap.size + 1 + 1, 0, none⟩ = some (.bool false) ∧ wx.frozen? ⟨w.heap.size + 1 + 1, 0, none⟩ = false ∧ wx.cell? ⟨w.heap.size + 1 + 1 + 1, 0, none⟩ = some (.int .i64 0) ∧ wx.frozen? ⟨w.heap.size + 1 + 1 + 1, 0, none⟩ = false := by
  obtain ⟨b1, b2, b3, b4⟩ := w4_boxes w
  have b1 : IsBox wx w.heap.size hdZ (.slice none 0 0) := hx.keep b1 (fun f => f)
  have b2 := hx.keep b2 (fun f => f)
  have b3 := hx.keep b3 (fun f => f)
  have b4 := hx.keep b4 (fun f => f)
  refine ⟨b1.cell 0, Lib.frozen_of_heap b1 _, b1.cell 1, Lib.frozen_of_heap b1 _, b1.cell 2, Lib.frozen_of_heap b1 _, b1.cell 3, Lib.frozen_of_heap b1 _, b1.cell 4, Lib.frozen_of_heap b1 _, b1.cell 5, Lib.frozen_of_heap b1 _, b1.cell 6, Lib.frozen_of_heap b1 _, b1.cell 7, Lib.frozen_of_heap b1 _, b1.cell 8, Lib.frozen_of_heap b1 _, ?_, Lib.frozen_of_heap b2 _, ?_, Lib.frozen_of_heap b3 _, ?_, Lib.frozen_of_heap b4 _⟩
  · simp [World.cell?, b2]
  · simp [World.cell?, b3]
  · simp [World.cell?, b4]
set_option maxRecDepth 100000 in
set_option maxHeartbeats 1000000 in
/-- the way of a return: the result cells were just set. -/
theorem get_set {R : Ending → World → Prop} {wr : World} {p q r s : Nat} {h0 : Hd} {ev0 : Value} {n0 : Int} {b0 : Bool} {x0 : Int} {h : Hd} {ev : Value} {n : Int} {b : Bool} {x : Int} {tmps : Array Value} (t2 : tmps[2]? = some (.pointer (some ⟨p, 0, none⟩))) (t3 : tmps[3]? = some (.pointer (some ⟨q, 0, none⟩))) (t4 : tmps[4]? = some (.pointer (some ⟨r, 0, none⟩))) (t5 : tmps[5]? = some (.pointer (some ⟨s, 0, none⟩)))
    (hp : IsBox wr p h0 ev0) (hq : wr.heap[q]? = some (.cells #[.int .i64 n0] 3 (0, 0))) (hr : wr.heap[r]? = some (.cells #[.bool b0] 4 (0, 0))) (hs : wr.heap[s]? = some (.cells #[.int .i64 x0] 25 (0, 0))) (d1 : q ≠ p) (d2 : r ≠ p) (d3 : s ≠ p) (d4 : r ≠ q) (d5 : s ≠ q) (d6 : s ≠ r)
    (hR : ∀ w', Touch (fun k => k = p ∨ k = q ∨ k = r ∨ k = s) wr w' → R (.returned (.tuple #[.agg (hcells h ev), .int .i64 n, .bool b, .int .i64 x])) w') :
    bodyPostD Tryz.prog Tryz.f36 R Exit.ret { tmps := tmps, defers := [{ target := .fn (.func 46) #[.pointer (some ⟨p, 0, none⟩), .pointer (some ⟨q, 0, none⟩), .pointer (some ⟨r, 0, none⟩), .pointer (some ⟨s, 0, none⟩)], args := #[] }] } ((((((((((((wr.setCell ⟨p, 0, none⟩ (.bool h.text)).setCell ⟨p, 1, none⟩ (.int .u32 h.time)).setCell ⟨p, 2, none⟩ (.int .u8 h.xfl)).setCell ⟨p, 3, none⟩ (.int .u8 h.os)).setCell ⟨p, 4, none⟩ (ev)).setCell ⟨p, 5, none⟩ (.string h.name)).setCell ⟨p, 6, none⟩ (.string h.comment)).setCell ⟨p, 7, none⟩ (.int .u8 h.has)).setCell ⟨p, 8, none⟩ (.bool h.sum)).setCell ⟨q, 0, none⟩ (.int .i64 n)).setCell ⟨r, 0, none⟩ (.bool b)).setCell ⟨s, 0, none⟩ (.int .i64 x)) := by
  refine leaves_cons (f := 46) (args := #[.pointer (some ⟨p, 0, none⟩), .pointer (some ⟨q, 0, none⟩), .pointer (some ⟨r, 0, none⟩), .pointer (some ⟨s, 0, none⟩)]) (by simp) (by simp [go_sem]) ?_
  refine (frm_get_idle _ _ _ _ _).mono ?_
  rintro e u' w'' ⟨rfl, rfl, rfl⟩
  have c0 : wr.cell? ⟨p, 0, none⟩ = some (.bool h0.text) := hp.cell 0
  have c1 : wr.cell? ⟨p, 1, none⟩ = some (.int .u32 h0.time) := hp.cell 1
  have c2 : wr.cell? ⟨p, 2, none⟩ = some (.int .u8 h0.xfl) := hp.cell 2
  have c3 : wr.cell? ⟨p, 3, none⟩ = some (.int .u8 h0.os) := hp.cell 3
  have c4 : wr.cell? ⟨p, 4, none⟩ = some (ev0) := hp.cell 4
  have c5 : wr.cell? ⟨p, 5, none⟩ = some (.string h0.name) := hp.cell 5
  have c6 : wr.cell? ⟨p, 6, none⟩ = some (.string h0.comment) := hp.cell 6
  have c7 : wr.cell? ⟨p, 7, none⟩ = some (.int .u8 h0.has) := hp.cell 7
  have c8 : wr.cell? ⟨p, 8, none⟩ = some (.bool h0.sum) := hp.cell 8
  have cq : wr.cell? ⟨q, 0, none⟩ = some (.int .i64 n0) := by simp [World.cell?, hq]
  have cr : wr.cell? ⟨r, 0, none⟩ = some (.bool b0) := by simp [World.cell?, hr]
  have cs : wr.cell? ⟨s, 0, none⟩ = some (.int .i64 x0) := by simp [World.cell?, hs]
  simp [Leaves, settle, results, Tryz.results36, go_sem, t2, t3, t4, t5, c0, c1, c2, c3, c4, c5, c6, c7, c8, cq, cr, cs, d1, d2, d3, d4, d5, d6, d1.symm, d2.symm, d3.symm, d4.symm, d5.symm, d6.symm]
  refine hR _ ?_
  repeat (refine Touch.setCell ?_ (Or.inl (by simp)) _)
  exact Touch.refl _ _
set_option maxRecDepth 100000 in
set_option maxHeartbeats 1000000 in
/-- the same, behind a draw. -/
theorem get_setD {R : Ending → World → Prop} {wr : World} {p q r s : Nat} {h0 : Hd} {ev0 : Value} {n0 : Int} {b0 : Bool} {x0 : Int} {h : Hd} {ev : Value} {n : Int} {b : Bool} {x : Int} {tmps : Array Value} (t2 : tmps[2]? = some (.pointer (some ⟨p, 0, none⟩))) (t3 : tmps[3]? = some (.pointer (some ⟨q, 0, none⟩))) (t4 : tmps[4]? = some (.pointer (some ⟨r, 0, none⟩))) (t5 : tmps[5]? = some (.pointer (some ⟨s, 0, none⟩)))
    (hp : IsBox wr p h0 ev0) (hq : wr.heap[q]? = some (.cells #[.int .i64 n0] 3 (0, 0))) (hr : wr.heap[r]? = some (.cells #[.bool b0] 4 (0, 0))) (hs : wr.heap[s]? = some (.cells #[.int .i64 x0] 25 (0, 0))) (d1 : q ≠ p) (d2 : r ≠ p) (d3 : s ≠ p) (d4 : r ≠ q) (d5 : s ≠ q) (d6 : s ≠ r)
    (hR : ∀ w', Touch (fun k => k = p ∨ k = q ∨ k = r ∨ k = s) wr w' → R (.returned (.tuple #[.agg (hcells h ev), .int .i64 n, .bool b, .int .i64 x])) w') :
    bodyPostD Tryz.prog Tryz.f36 R Exit.ret { tmps := tmps, defers := [{ target := .fn (.func 46) #[.pointer (some ⟨p, 0, none⟩), .pointer (some ⟨q, 0, none⟩), .pointer (some ⟨r, 0, none⟩), .pointer (some ⟨s, 0, none⟩)], args := #[] }] } ((((((((((((wr.setCell ⟨p, 0, none⟩ (.bool h.text)).setCell ⟨p, 1, none⟩ (.int .u32 h.time)).setCell ⟨p, 2, none⟩ (.int .u8 h.xfl)).setCell ⟨p, 3, none⟩ (.int .u8 h.os)).setCell ⟨p, 4, none⟩ (ev)).setCell ⟨p, 5, none⟩ (.string h.name)).setCell ⟨p, 6, none⟩ (.string h.comment)).setCell ⟨p, 7, none⟩ (.int .u8 h.has)).setCell ⟨p, 8, none⟩ (.bool h.sum)).setCell ⟨q, 0, none⟩ (.int .i64 n)).setCell ⟨r, 0, none⟩ (.bool b)).setCell ⟨s, 0, none⟩ (.int .i64 x)).drew := by
  refine leaves_cons (f := 46) (args := #[.pointer (some ⟨p, 0, none⟩), .pointer (some ⟨q, 0, none⟩), .pointer (some ⟨r, 0, none⟩), .pointer (some ⟨s, 0, none⟩)]) (by simp) (by simp [go_sem]) ?_
  refine (frm_get_idle _ _ _ _ _).mono ?_
  rintro e u' w'' ⟨rfl, rfl, rfl⟩
  have c0 : wr.cell? ⟨p, 0, none⟩ = some (.bool h0.text) := hp.cell 0
  have c1 : wr.cell? ⟨p, 1, none⟩ = some (.int .u32 h0.time) := hp.cell 1
  have c2 : wr.cell? ⟨p, 2, none⟩ = some (.int .u8 h0.xfl) := hp.cell 2
  have c3 : wr.cell? ⟨p, 3, none⟩ = some (.int .u8 h0.os) := hp.cell 3
  have c4 : wr.cell? ⟨p, 4, none⟩ = some (ev0) := hp.cell 4
  have c5 : wr.cell? ⟨p, 5, none⟩ = some (.string h0.name) := hp.cell 5
  have c6 : wr.cell? ⟨p, 6, none⟩ = some (.string h0.comment) := hp.cell 6
  have c7 : wr.cell? ⟨p, 7, none⟩ = some (.int .u8 h0.has) := hp.cell 7
  have c8 : wr.cell? ⟨p, 8, none⟩ = some (.bool h0.sum) := hp.cell 8
  have cq : wr.cell? ⟨q, 0, none⟩ = some (.int .i64 n0) := by simp [World.cell?, hq]
  have cr : wr.cell? ⟨r, 0, none⟩ = some (.bool b0) := by simp [World.cell?, hr]
  have cs : wr.cell? ⟨s, 0, none⟩ = some (.int .i64 x0) := by simp [World.cell?, hs]
  simp [Leaves, settle, results, Tryz.results36, go_sem, t2, t3, t4, t5, c0, c1, c2, c3, c4, c5, c6, c7, c8, cq, cr, cs, d1, d2, d3, d4, d5, d6, d1.symm, d2.symm, d3.symm, d4.symm, d5.symm, d6.symm]
  refine hR _ (Touch.drew ?_)
  repeat (refine Touch.setCell ?_ (Or.inl (by simp)) _)
  exact Touch.refl _ _
/-- the way of a head that is none. -/
theorem get_no {w wx : World} {bs : List Nat} {tmps : Array Value} (hn : getH bs = none) (hx : Ext (w4of w) wx)
    (t2 : tmps[2]? = some (.pointer (some ⟨w.heap.size, 0, none⟩))) (t3 : tmps[3]? = some (.pointer (some ⟨w.heap.size + 1, 0, none⟩))) (t4 : tmps[4]? = some (.pointer (some ⟨w.heap.size + 1 + 1, 0, none⟩))) (t5 : tmps[5]? = some (.pointer (some ⟨w.heap.size + 1 + 1 + 1, 0, none⟩))) :
    bodyPostD Tryz.prog Tryz.f36 (GotH w bs) Exit.ret { tmps := tmps, defers := [{ target := .fn (.func 46) #[.pointer (some ⟨w.heap.size, 0, none⟩), .pointer (some ⟨w.heap.size + 1, 0, none⟩), .pointer (some ⟨w.heap.size + 1 + 1, 0, none⟩), .pointer (some ⟨w.heap.size + 1 + 1 + 1, 0, none⟩)], args := #[] }] }
      ((((((((((((wx.setCell ⟨w.heap.size, 0, none⟩ (.bool false)).setCell ⟨w.heap.size, 1, none⟩ (.int .u32 0)).setCell ⟨w.heap.size, 2, none⟩ (.int .u8 0)).setCell ⟨w.heap.size, 3, none⟩ (.int .u8 0)).setCell ⟨w.heap.size, 4, none⟩ (.slice none 0 0)).setCell ⟨w.heap.size, 5, none⟩ (.string ⟨#[]⟩)).setCell ⟨w.heap.size, 6, none⟩ (.string ⟨#[]⟩)).setCell ⟨w.heap.size, 7, none⟩ (.int .u8 0)).setCell ⟨w.heap.size, 8, none⟩ (.bool false)).setCell ⟨w.heap.size + 1, 0, none⟩ (.int .i64 0)).setCell ⟨w.heap.size + 1 + 1, 0, none⟩ (.bool false)).setCell ⟨w.heap.size + 1 + 1 + 1, 0, none⟩ (.int .i64 2)) := by
  obtain ⟨b1, b2, b3, b4⟩ := w4_boxes w
  refine get_set (h := hdZ) t2 t3 t4 t5 (hx.keep b1 (fun f => f)) (hx.keep b2 (fun f => f)) (hx.keep b3 (fun f => f)) (hx.keep b4 (fun f => f)) (by omega) (by omega) (by omega) (by omega) (by omega) (by omega) (fun w' ht => gotH_none hn rfl ?_)
  exact ((w4_ext w).trans hx).touch ht (fun i hi e => by omega)
/-- the way of a head. -/
theorem get_yes {w wx : World} {bs : List Nat} {tmps : Array Value} {h : Hd} {n : Nat} {wr : Bool} {ev : Value} (hn : getH bs = some (h, n, wr)) (hx : Ext (w4of w) wx) (ho : ∃ og, Owns wx 5 1 ev og h.extra.length (u8s h.extra) ∧ ∀ g, og = some g → (w4of w).heap.size ≤ g)
    (t2 : tmps[2]? = some (.pointer (some ⟨w.heap.size, 0, none⟩))) (t3 : tmps[3]? = some (.pointer (some ⟨w.heap.size + 1, 0, none⟩))) (t4 : tmps[4]? = some (.pointer (some ⟨w.heap.size + 1 + 1, 0, none⟩))) (t5 : tmps[5]? = some (.pointer (some ⟨w.heap.size + 1 + 1 + 1, 0, none⟩))) :
    bodyPostD Tryz.prog Tryz.f36 (GotH w bs) Exit.ret { tmps := tmps, defers := [{ target := .fn (.func 46) #[.pointer (some ⟨w.heap.size, 0, none⟩), .pointer (some ⟨w.heap.size + 1, 0, none⟩), .pointer (some ⟨w.heap.size + 1 + 1, 0, none⟩), .pointer (some ⟨w.heap.size + 1 + 1 + 1, 0, none⟩)], args := #[] }] }
      (((((((((((((wx.setCell ⟨w.heap.size, 0, none⟩ (.bool h.text)).setCell ⟨w.heap.size, 1, none⟩ (.int .u32 h.time)).setCell ⟨w.heap.size, 2, none⟩ (.int .u8 h.xfl)).setCell ⟨w.heap.size, 3, none⟩ (.int .u8 h.os)).setCell ⟨w.heap.size, 4, none⟩ ev).setCell ⟨w.heap.size, 5, none⟩ (.string h.name)).setCell ⟨w.heap.size, 6, none⟩ (.string h.comment)).setCell ⟨w.heap.size, 7, none⟩ (.int .u8 h.has)).setCell ⟨w.heap.size, 8, none⟩ (.bool h.sum)).setCell ⟨w.heap.size + 1, 0, none⟩ (.int .i64 n)).setCell ⟨w.heap.size + 1 + 1, 0, none⟩ (.bool wr)).setCell ⟨w.heap.size + 1 + 1 + 1, 0, none⟩ (.int .i64 0))).drew := by
  obtain ⟨b1, b2, b3, b4⟩ := w4_boxes w
  obtain ⟨og, k1, k2⟩ := ho
  rw [w4_size] at k2
  refine get_setD t2 t3 t4 t5 (hx.keep b1 (fun f => f)) (hx.keep b2 (fun f => f)) (hx.keep b3 (fun f => f)) (hx.keep b4 (fun f => f)) (by omega) (by omega) (by omega) (by omega) (by omega) (by omega) (fun w' ht => ?_)
  unfold GotH
  rw [hn]
  exact ⟨ev, og, rfl, k1.keep ht (fun g e e2 => by have := k2 g e; omega), fun g e => by have := k2 g e; omega, ((w4_ext w).trans hx).touch ht (fun i hi e => by omega)⟩
end Go.Proofs.YtbbcphloafmldaaGreat
