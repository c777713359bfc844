/- Rows of ints in new memory; the world behind the sort; the sort of nothing. -/
import Derived.Test.YtblbggdglndiiaaLimStab
namespace Go.Proofs.Ytblbggdglndiiaa
open Go.RowKit Go.Sort
set_option linter.unusedVariables false

/-- ints in new memory. -/
def IOn (w : World) (acc : List Nat) (ov : Value) (wr : World) : Prop := ∃ og, Owns wr 3 1 ov og acc.length (intsL acc) ∧ (∀ g, og = some g → w.heap.size ≤ g) ∧ Ext w wr
theorem intsL_append (a b : List Nat) : intsL (a ++ b) = intsL a ++ intsL b := by simp [intsL]
theorem IOn.nil (w : World) : IOn w [] (.slice none 0 0) w := ⟨none, Owns.nil _ _ _, fun g e => (by cases e), Ext.refl w⟩
theorem IOn.ext {w wr w' : World} {acc : List Nat} {ov : Value} (h : IOn w acc ov wr) (hx : Ext wr w') : IOn w acc ov w' := by
  obtain ⟨og, h1, h2, h3⟩ := h
  exact ⟨og, h1.ext' hx, h2, h3.trans hx⟩
theorem IOn.pre {w w0 wr : World} {acc : List Nat} {ov : Value} (h : IOn w0 acc ov wr) (hx : Ext w w0) : IOn w acc ov wr := by
  obtain ⟨og, h1, h2, h3⟩ := h
  exact ⟨og, h1, fun g e => Nat.le_trans hx.size (h2 g e), hx.trans h3⟩
theorem IOn.toExt {w wr : World} {l : List Nat} {v : Value} (h : IOn w l v wr) : Ext w wr := h.choose_spec.2.2
theorem IOn.viewL {w wr : World} {l : List Nat} {v : Value} (h : IOn w l v wr) : ViewL wr v (intsL l) := h.choose_spec.1.viewL
theorem IOn.shape {w wr : World} {l : List Nat} {v : Value} (h : IOn w l v wr) : ∃ ao cap, v = .slice ao l.length cap := h.choose_spec.1.shape
theorem io_snoc {w w1 w2 : World} {acc : List Nat} {ov v' : Value} {y : Nat} {o : Obj} (h : IOn w acc ov w1) (hown' : w2.ownsRow 0 3 1 v' (acc.length + 1) (intsL acc ++ [.int .i64 y]))
    (hgrow : (w1.alloc o).grownBy w2 ov.ownBlock) (hat : v'.ownBlock = ov.ownBlock ∨ v'.ownBlock = some (w1.heap.size + 1)) : IOn w (acc ++ [y]) v' w2 := by
  obtain ⟨og, h1, h2, h3⟩ := h
  refine ⟨v'.ownBlock, ⟨by rw [intsL_append, List.length_append]; exact hown', rfl⟩, fun g e => ?_, Touch.grown (h3.alloc _) hgrow (fun i e => Or.inr (h2 i (by rw [← h1.2]; exact e)))⟩
  rcases hat with hat | hat
  · rw [hat, h1.2] at e; exact h2 g e
  · rw [hat] at e; cases e; have := h3.size; omega
theorem news (w : World) (cs : List Value) (e : TypeId) (fr : Nat × Nat) : ∀ j u, cs[j]? = some u → (w.alloc (.cells cs.toArray e fr)).cell? ((⟨w.heap.size, 0, none⟩ : Addr).add j) = some u := by
  intro j u hu
  have e2 : (⟨w.heap.size, 0, none⟩ : Addr).add j = ⟨w.heap.size, j, none⟩ := by unfold Addr.add; split <;> simp_all
  rw [e2, World.cell?, heap_alloc_new]
  simpa using hu
theorem info_int : (Try.prog.info? 3).map (fun i => (i.zero, i.size, i.bytes)) = some (some (.int .i64 0), 1, 8) := by kernel_rfl
/-- where the world in which a row is sorted is as it was. -/
theorem SW_heap (w : World) (blk off : Nat) (l : List Nat) (m k : Nat) (h : k ≠ blk) : (SW w blk off l m).heap[k]? = w.heap[k]? := by
  have : blk ≠ k := fun e => h e.symm
  simp [SW, putRow, mapBlock, World.drewN, Array.getElem?_modify, this]
theorem SW_size (w : World) (blk off : Nat) (l : List Nat) (m : Nat) : (SW w blk off l m).heap.size = w.heap.size := by
  simp [SW, putRow, mapBlock, World.drewN]
theorem SW_touch (w : World) (blk off : Nat) (l : List Nat) (m : Nat) : Touch (fun k => k = blk) w (SW w blk off l m) :=
  ⟨rfl, rfl, rfl, by rw [SW_size]; exact Nat.le_refl _, fun k _ hk => SW_heap w blk off l m k hk⟩
theorem take_putN (cur : Array Value) (ts : List Nat) (h : ts.length ≤ cur.size) : (putCells encN 0 ts.toArray cur).toList.take ts.length = intsL ts := by
  apply List.ext_getElem?
  intro j
  by_cases hj : j < ts.length
  · rw [List.getElem?_take_of_lt hj, Array.getElem?_toList]
    simp [putCells, hj, show j < cur.size by omega, intsL, encN]
  · rw [List.getElem?_take_eq_none (by omega), List.getElem?_eq_none (by simp [intsL]; omega)]
theorem SW_owns {w : World} {g cap n : Nat} {acc M : List Nat} (h : Owns w 3 1 (.slice (some ⟨g, 0, none⟩) n cap) (some g) acc.length (intsL acc)) (hM : M.length = acc.length) (m : Nat) :
    Owns (SW w g 0 M m) 3 1 (.slice (some ⟨g, 0, none⟩) n cap) (some g) M.length (intsL M) := by
  rcases h.form with ⟨h1, _⟩ | ⟨g', cap', cur, h1, h2, hh, hn, hm, hs, ht⟩
  · cases h1
  · cases h1
    cases h2
    have hb : (SW w g 0 M m).heap[g]? = some (.cells (putCells encN 0 M.toArray cur) 3 (0, 0)) := by
      simp [SW, putRow, mapBlock, World.drewN, Array.getElem?_modify, hh, onCells]
    refine ⟨⟨by simp [intsL], Or.inr ⟨g, cap, _, by rw [hM], Nat.zero_le _, hb, by omega, hm, by simp [putCells, hs], by rw [Nat.mul_one]; exact take_putN cur M (by omega)⟩⟩, rfl⟩
theorem holds_own {w : World} {g cap n : Nat} {acc : List Nat} (h : Owns w 3 1 (.slice (some ⟨g, 0, none⟩) n cap) (some g) acc.length (intsL acc)) : Holds encN w g 0 acc.toArray := by
  intro j hj
  have hj' : j < acc.length := by simpa using hj
  refine ⟨?_, ?_⟩
  · rw [get_toArray, Nat.zero_add]
    refine h.cell j _ ?_
    simp [intsL, encN, hj', List.getD]
  · rw [Nat.zero_add]; exact h.free j
theorem lim_insertion_nil (ao : Option Addr) (cap : Nat) (fv : Value) (w : World) :
    Calls Try.prog 33 #[.slice ao 0 cap, .int .i64 0, .int .i64 0, fv] w fun e w' => e = .returned (.tuple #[]) ∧ w' = w := by
  go_enter Try.func33, Try.ntmps33
  go_wp2_with fail
  go_loopw [8] (fun vi wr => vi = .int .i64 1 ∧ wr = w) (fun vi _ => 0)
  case atStart => exact ⟨by go_num, rfl⟩
  case round =>
    obtain ⟨rfl, rfl⟩ := hrel
    go_wp2_with fail
    go_end0
    exact ⟨rfl, rfl⟩
theorem lim_stable_nil (ao : Option Addr) (cap : Nat) (fv : Value) (w : World) :
    Calls Try.prog 30 #[.slice ao 0 cap, .int .i64 0, fv] w fun e w' => e = .returned (.tuple #[]) ∧ w' = w := by
  go_enter Try.func30, Try.ntmps30
  go_wp2_with fail
  go_loopw [7, 8] (fun va vb wr => va = .int .i64 0 ∧ vb = .int .i64 20 ∧ wr = w) (fun va vb _ => 0)
  case atStart => exact ⟨by go_num, by go_num, rfl⟩
  case round =>
    obtain ⟨rfl, rfl, rfl⟩ := hrel
    go_wp2_with fail
    refine (lim_insertion_nil ao cap fv wr).mono ?_
    rintro e w' ⟨rfl, rfl⟩
    go_wp2_with fail
    go_loopw [6] (fun vs wr => vs = .int .i64 20 ∧ wr = w') (fun vs _ => 0)
    case atStart => exact ⟨by go_num, rfl⟩
    case round =>
      obtain ⟨rfl, rfl⟩ := hrel
      go_wp2_with fail
      go_end0
      exact ⟨rfl, rfl⟩
theorem lim_sort_nil (ao : Option Addr) (cap : Nat) (fv : Value) (w : World) :
    Calls Try.prog 24 #[.slice ao 0 cap, fv] w fun e w' => e = .returned (.tuple #[]) ∧ w' = w := by
  go_enter Try.func24, Try.ntmps24
  go_wp2_with fail
  refine (lim_stable_nil ao cap fv w).mono ?_
  rintro e w' ⟨rfl, rfl⟩
  go_wp2_with fail
  go_end0
  exact ⟨rfl, rfl⟩
end Go.Proofs.Ytblbggdglndiiaa
