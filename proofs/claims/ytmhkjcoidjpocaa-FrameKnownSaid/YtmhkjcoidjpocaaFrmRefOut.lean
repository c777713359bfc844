/- The document's Get: what its variable is; its ways out. -/
import Derived.Test.YtmhkjcoidjpocaaFrmZero
import Derived.Test.YtmhkjcoidjpocaaFrmGet
namespace Go.Proofs.Ytmhkjcoidjpocaa
open Go.RowKit
set_option linter.unusedVariables false
set_option linter.unusedSimpArgs false

/-- the result's cells are as they were made; the variable is h. -/
structure RS (w : World) (h : Hd) (ev : Value) (wr : World) : Prop where
  box : IsBox wr (w.heap.size + 1) h ev
  res : IsBox wr w.heap.size hdZ (.slice none 0 0)
  ext : Ext w wr
  own : ∃ og, Owns wr 5 1 ev og h.extra.length (u8s h.extra) ∧ ∀ g, og = some g → w.heap.size + 2 ≤ g
theorem RS.start (w : World) : RS w hdZ (.slice none 0 0) ((w.alloc (.cells (hcells hdZ (.slice none 0 0)) 25)).alloc (.cells (hcells hdZ (.slice none 0 0)) 25)) := by
  have n1 := heap_alloc_new w (.cells (hcells hdZ (.slice none 0 0)) 25)
  have n2 := heap_alloc_new (w.alloc (.cells (hcells hdZ (.slice none 0 0)) 25)) (.cells (hcells hdZ (.slice none 0 0)) 25)
  rw [World.size_alloc] at n2
  exact ⟨n2, ((Ext.refl _).alloc _).keep n1 (fun f => f), ((Ext.refl _).alloc _).alloc _, none, Owns.nil _ _ _, fun g e => by cases e⟩
section
variable {w wr w1 : World} {h : Hd} {ev : Value}
theorem RS.up (r : RS w h ev wr) (t : Ext wr w1) : RS w h ev w1 := by
  obtain ⟨og, k1, k2⟩ := r.own
  exact ⟨t.keep r.box (fun f => f), t.keep r.res (fun f => f), r.ext.trans t, og, k1.ext' t, k2⟩
theorem RS.set {h2 : Hd} {ev2 : Value} (r : RS w h ev wr) (i : Nat) (u : Value) (he : (hcells h ev).setIfInBounds i u = hcells h2 ev2)
    (ho : ∃ og, Owns wr 5 1 ev2 og h2.extra.length (u8s h2.extra) ∧ ∀ g, og = some g → w.heap.size + 2 ≤ g) : RS w h2 ev2 (wr.setCell ⟨w.heap.size + 1, i, none⟩ u) := by
  have ht : Touch (fun k => k = w.heap.size + 1) wr (wr.setCell ⟨w.heap.size + 1, i, none⟩ u) := (Touch.refl (fun k => k = w.heap.size + 1) wr).setCell (Or.inl rfl) _
  obtain ⟨og, k1, k2⟩ := ho
  refine ⟨?_, ht.keep r.res (by omega), r.ext.touch ht (fun i hi e => by omega), og, k1.keep ht (fun g e hk => by have := k2 g e; omega), k2⟩
  show _ = _
  rw [heap_setCell_at (w := wr) (a := ⟨w.heap.size + 1, i, none⟩) (u := u) r.box rfl, ← he]
theorem RS.free (r : RS w h ev wr) (i : Nat) : wr.frozen? ⟨w.heap.size + 1, i, none⟩ = false := Lib.frozen_of_heap r.box _
theorem RS.rfree (r : RS w h ev wr) (i : Nat) : wr.frozen? ⟨w.heap.size, i, none⟩ = false := Lib.frozen_of_heap r.res _
end
theorem RS.rcells {w wr : World} {h : Hd} {ev : Value} (r : RS w h ev wr) : wr.cell? ⟨w.heap.size, 0, none⟩ = some (.bool false) ∧ wr.frozen? ⟨w.heap.size, 0, none⟩ = false ∧ wr.cell? ⟨w.heap.size, 1, none⟩ = some (.int .u32 0) ∧ wr.frozen? ⟨w.heap.size, 1, none⟩ = false ∧ wr.cell? ⟨w.heap.size, 2, none⟩ = some (.int .u8 0) ∧ wr.frozen? ⟨w.heap.size, 2, none⟩ = false ∧ wr.cell? ⟨w.heap.size, 3, none⟩ = some (.int .u8 0) ∧ wr.frozen? ⟨w.heap.size, 3, none⟩ = false ∧ wr.cell? ⟨w.heap.size, 4, none⟩ = some (.slice none 0 0) ∧ wr.frozen? ⟨w.heap.size, 4, none⟩ = false ∧ wr.cell? ⟨w.heap.size, 5, none⟩ = some (.string ⟨#[]⟩) ∧ wr.frozen? ⟨w.heap.size, 5, none⟩ = false ∧ wr.cell? ⟨w.heap.size, 6, none⟩ = some (.string ⟨#[]⟩) ∧ wr.frozen? ⟨w.heap.size, 6, none⟩ = false ∧ wr.cell? ⟨w.heap.size, 7, none⟩ = some (.int .u8 0) ∧ wr.frozen? ⟨w.heap.size, 7, none⟩ = false ∧ wr.cell? ⟨w.heap.size, 8, none⟩ = some (.bool false) ∧ wr.frozen? ⟨w.heap.size, 8, none⟩ = false :=
  ⟨r.res.cell 0, r.rfree 0, r.res.cell 1, r.rfree 1, r.res.cell 2, r.rfree 2, r.res.cell 3, r.rfree 3, r.res.cell 4, r.rfree 4, r.res.cell 5, r.rfree 5, r.res.cell 6, r.rfree 6, r.res.cell 7, r.rfree 7, r.res.cell 8, r.rfree 8⟩
theorem RS.vcells {w wr : World} {h : Hd} {ev : Value} (r : RS w h ev wr) : wr.cell? ⟨w.heap.size + 1, 0, none⟩ = some (.bool h.text) ∧ wr.frozen? ⟨w.heap.size + 1, 0, none⟩ = false ∧ wr.cell? ⟨w.heap.size + 1, 1, none⟩ = some (.int .u32 h.time) ∧ wr.frozen? ⟨w.heap.size + 1, 1, none⟩ = false ∧ wr.cell? ⟨w.heap.size + 1, 2, none⟩ = some (.int .u8 h.xfl) ∧ wr.frozen? ⟨w.heap.size + 1, 2, none⟩ = false ∧ wr.cell? ⟨w.heap.size + 1, 3, none⟩ = some (.int .u8 h.os) ∧ wr.frozen? ⟨w.heap.size + 1, 3, none⟩ = false ∧ wr.cell? ⟨w.heap.size + 1, 4, none⟩ = some ev ∧ wr.frozen? ⟨w.heap.size + 1, 4, none⟩ = false ∧ wr.cell? ⟨w.heap.size + 1, 5, none⟩ = some (.string h.name) ∧ wr.frozen? ⟨w.heap.size + 1, 5, none⟩ = false ∧ wr.cell? ⟨w.heap.size + 1, 6, none⟩ = some (.string h.comment) ∧ wr.frozen? ⟨w.heap.size + 1, 6, none⟩ = false ∧ wr.cell? ⟨w.heap.size + 1, 7, none⟩ = some (.int .u8 h.has) ∧ wr.frozen? ⟨w.heap.size + 1, 7, none⟩ = false ∧ wr.cell? ⟨w.heap.size + 1, 8, none⟩ = some (.bool h.sum) ∧ wr.frozen? ⟨w.heap.size + 1, 8, none⟩ = false :=
  ⟨r.box.cell 0, r.free 0, r.box.cell 1, r.free 1, r.box.cell 2, r.free 2, r.box.cell 3, r.free 3, r.box.cell 4, r.free 4, r.box.cell 5, r.free 5, r.box.cell 6, r.free 6, r.box.cell 7, r.free 7, r.box.cell 8, r.free 8⟩
/- a way out: the result is just stored. -/
set_option maxHeartbeats 1000000 in
theorem ref_out {R : Ending → World → Prop} {w wr : World} {h0 : Hd} {ev0 : Value} {h : Hd} {ev : Value} {n x : Int} {b : Bool} {tmps : Array Value} (r : RS w h0 ev0 wr)
    (t2 : tmps[2]? = some (.pointer (some ⟨w.heap.size, 0, none⟩))) (t3 : tmps[3]? = some (.int .i64 n)) (t4 : tmps[4]? = some (.bool b)) (t5 : tmps[5]? = some (.int .i64 x))
    (hR : ∀ w', Ext w w' → Touch (fun k => k = w.heap.size) wr w' → R (.returned (.tuple #[.agg (hcells h ev), .int .i64 n, .bool b, .int .i64 x])) w') :
    bodyPost Try.prog Try.f16 R Exit.ret { tmps := tmps, defers := [] } (((((((((wr.setCell ⟨w.heap.size, 0, none⟩ (.bool h.text)).setCell ⟨w.heap.size, 1, none⟩ (.int .u32 h.time)).setCell ⟨w.heap.size, 2, none⟩ (.int .u8 h.xfl)).setCell ⟨w.heap.size, 3, none⟩ (.int .u8 h.os)).setCell ⟨w.heap.size, 4, none⟩ ev).setCell ⟨w.heap.size, 5, none⟩ (.string h.name)).setCell ⟨w.heap.size, 6, none⟩ (.string h.comment)).setCell ⟨w.heap.size, 7, none⟩ (.int .u8 h.has)).setCell ⟨w.heap.size, 8, none⟩ (.bool h.sum)) := by
  have ht : Touch (fun k => k = w.heap.size) wr (((((((((wr.setCell ⟨w.heap.size, 0, none⟩ (.bool h.text)).setCell ⟨w.heap.size, 1, none⟩ (.int .u32 h.time)).setCell ⟨w.heap.size, 2, none⟩ (.int .u8 h.xfl)).setCell ⟨w.heap.size, 3, none⟩ (.int .u8 h.os)).setCell ⟨w.heap.size, 4, none⟩ ev).setCell ⟨w.heap.size, 5, none⟩ (.string h.name)).setCell ⟨w.heap.size, 6, none⟩ (.string h.comment)).setCell ⟨w.heap.size, 7, none⟩ (.int .u8 h.has)).setCell ⟨w.heap.size, 8, none⟩ (.bool h.sum)) := by
    repeat (refine Touch.setCell ?_ (Or.inl (by simp)) _)
    exact Touch.refl _ _
  obtain ⟨c0, f0, c1, f1, c2, f2, c3, f3, c4, f4, c5, f5, c6, f6, c7, f7, c8, f8⟩ := r.rcells
  refine bodyPost_ret (v := .tuple #[.agg (hcells h ev), .int .i64 n, .bool b, .int .i64 x]) ?_ rfl (hR _ (r.ext.touch ht (fun i hi e => by omega)) ht)
  simp [results, Try.results16, go_sem, t2, t3, t4, t5, c0, c1, c2, c3, c4, c5, c6, c7, c8, hcells]
theorem ref_no {w wr : World} {bs : List Nat} {h0 : Hd} {ev0 : Value} {tmps : Array Value} (hn : getH bs = none) (r : RS w h0 ev0 wr)
    (t2 : tmps[2]? = some (.pointer (some ⟨w.heap.size, 0, none⟩))) (t3 : tmps[3]? = some (.int .i64 0)) (t4 : tmps[4]? = some (.bool false)) (t5 : tmps[5]? = some (.int .i64 2)) :
    bodyPost Try.prog Try.f16 (GotH w bs) Exit.ret { tmps := tmps, defers := [] } (((((((((wr.setCell ⟨w.heap.size, 0, none⟩ (.bool false)).setCell ⟨w.heap.size, 1, none⟩ (.int .u32 0)).setCell ⟨w.heap.size, 2, none⟩ (.int .u8 0)).setCell ⟨w.heap.size, 3, none⟩ (.int .u8 0)).setCell ⟨w.heap.size, 4, none⟩ (.slice none 0 0)).setCell ⟨w.heap.size, 5, none⟩ (.string ⟨#[]⟩)).setCell ⟨w.heap.size, 6, none⟩ (.string ⟨#[]⟩)).setCell ⟨w.heap.size, 7, none⟩ (.int .u8 0)).setCell ⟨w.heap.size, 8, none⟩ (.bool false)) :=
  ref_out (h := hdZ) (ev := .slice none 0 0) r t2 t3 t4 t5 (fun w' hx _ => gotH_none hn rfl hx)
/-- the same, where the result's cells were never stored anew. -/
theorem ref_no0 {w wr : World} {bs : List Nat} {h0 : Hd} {ev0 : Value} {tmps : Array Value} (hn : getH bs = none) (r : RS w h0 ev0 wr)
    (t2 : tmps[2]? = some (.pointer (some ⟨w.heap.size, 0, none⟩))) (t3 : tmps[3]? = some (.int .i64 0)) (t4 : tmps[4]? = some (.bool false)) (t5 : tmps[5]? = some (.int .i64 2)) :
    bodyPost Try.prog Try.f16 (GotH w bs) Exit.ret { tmps := tmps, defers := [] } wr := by
  obtain ⟨c0, f0, c1, f1, c2, f2, c3, f3, c4, f4, c5, f5, c6, f6, c7, f7, c8, f8⟩ := r.rcells
  refine bodyPost_ret (v := .tuple #[.agg (hcells hdZ (.slice none 0 0)), .int .i64 0, .bool false, .int .i64 2]) ?_ rfl (gotH_none hn rfl r.ext)
  simp [results, Try.results16, go_sem, t2, t3, t4, t5, c0, c1, c2, c3, c4, c5, c6, c7, c8, hcells, hdZ]
theorem ref_yes {w wr : World} {bs : List Nat} {h : Hd} {ev : Value} {n : Nat} {b : Bool} {tmps : Array Value} (hn : getH bs = some (h, n, b)) (r : RS w h ev wr)
    (t2 : tmps[2]? = some (.pointer (some ⟨w.heap.size, 0, none⟩))) (t3 : tmps[3]? = some (.int .i64 n)) (t4 : tmps[4]? = some (.bool b)) (t5 : tmps[5]? = some (.int .i64 0)) :
    bodyPost Try.prog Try.f16 (GotH w bs) Exit.ret { tmps := tmps, defers := [] } (((((((((wr.setCell ⟨w.heap.size, 0, none⟩ (.bool h.text)).setCell ⟨w.heap.size, 1, none⟩ (.int .u32 h.time)).setCell ⟨w.heap.size, 2, none⟩ (.int .u8 h.xfl)).setCell ⟨w.heap.size, 3, none⟩ (.int .u8 h.os)).setCell ⟨w.heap.size, 4, none⟩ ev).setCell ⟨w.heap.size, 5, none⟩ (.string h.name)).setCell ⟨w.heap.size, 6, none⟩ (.string h.comment)).setCell ⟨w.heap.size, 7, none⟩ (.int .u8 h.has)).setCell ⟨w.heap.size, 8, none⟩ (.bool h.sum)) := by
  refine ref_out (h := h) (ev := ev) r t2 t3 t4 t5 (fun w' hx ht => ?_)
  obtain ⟨og, k1, k2⟩ := r.own
  unfold GotH
  rw [hn]
  exact ⟨ev, og, rfl, k1.keep ht (fun g e e2 => by have := k2 g e; omega), fun g e => by have := k2 g e; omega, hx⟩
end Go.Proofs.Ytmhkjcoidjpocaa
