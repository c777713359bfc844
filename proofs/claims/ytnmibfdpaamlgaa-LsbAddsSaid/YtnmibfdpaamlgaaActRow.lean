/- Plain laws: the row that acts leave, and what is read of it. -/
import Derived.Test.YtnmibfdpaamlgaaAct
import Derived.Test.YtnmibfdpaamlgaaBitsTwo
namespace Go.Proofs.Ytnmibfdpaamlgaa
open Go.RowKit

def stepB (hi : Bool) (row : List Bool) (x : ActV) : List Bool := if x.al then alignB row else putL hi row x.v x.n
def rowOf (hi : Bool) (l : List ActV) : List Bool := l.foldl (stepB hi) []
def okAct (x : ActV) : Bool := x.al || mayPut x.v x.n
def didOf (l : List ActV) : List ActV := l.filter okAct
theorem rowOf_succ (hi : Bool) (l : List ActV) (k : Nat) (x : ActV) (h : l[k]? = some x) : rowOf hi (l.take (k + 1)) = stepB hi (rowOf hi (l.take k)) x := by
  obtain ⟨hk, rfl⟩ := List.getElem?_eq_some_iff.1 h
  rw [List.take_succ_eq_append_getElem hk, rowOf, rowOf, List.foldl_append]; rfl
theorem didOf_succ (l : List ActV) (k : Nat) (x : ActV) (h : l[k]? = some x) : didOf (l.take (k + 1)) = if okAct x then didOf (l.take k) ++ [x] else didOf (l.take k) := by
  obtain ⟨hk, rfl⟩ := List.getElem?_eq_some_iff.1 h
  rw [List.take_succ_eq_append_getElem hk, didOf, List.filter_append]
  split <;> simp_all [didOf]
theorem stepB_bad (hi : Bool) (row : List Bool) (x : ActV) (h : okAct x = false) : stepB hi row x = row := by
  simp only [okAct, Bool.or_eq_false_iff] at h
  simp [stepB, h.1, putL, h.2]
theorem foldl_did (hi : Bool) (l : List ActV) : ∀ row, (didOf l).foldl (stepB hi) row = l.foldl (stepB hi) row := by
  induction l with
  | nil => intro row; rfl
  | cons x l ih =>
    intro row
    by_cases h : okAct x = true
    · rw [didOf, List.filter_cons_of_pos h]; exact ih _
    · have h' : okAct x = false := by simpa using h
      rw [didOf, List.filter_cons_of_neg h, List.foldl_cons, stepB_bad hi row x h']; exact ih _
theorem rowOf_did (hi : Bool) (l : List ActV) : rowOf hi (didOf l) = rowOf hi l := foldl_did hi l []
theorem stepB_app (hi : Bool) (row : List Bool) (x : ActV) : ∃ t, stepB hi row x = row ++ t ∧ t.length ≤ 32 := by
  unfold stepB
  split
  · exact ⟨_, rfl, by simp; omega⟩
  · unfold putL
    split
    · rename_i h; simp [mayPut] at h; exact ⟨_, rfl, by rw [length_bitsOf]; omega⟩
    · exact ⟨[], by simp, by simp⟩
theorem foldl_app (hi : Bool) (l : List ActV) : ∀ row, ∃ t, l.foldl (stepB hi) row = row ++ t ∧ t.length ≤ 32 * l.length := by
  induction l with
  | nil => intro row; exact ⟨[], by simp, by simp⟩
  | cons x l ih =>
    intro row
    obtain ⟨t, h1, h2⟩ := stepB_app hi row x
    obtain ⟨t', h3, h4⟩ := ih (stepB hi row x)
    refine ⟨t ++ t', by rw [List.foldl_cons, h3, h1, List.append_assoc], by simp; omega⟩
theorem rowOf_len (hi : Bool) (l : List ActV) : (rowOf hi l).length ≤ 32 * l.length := by
  obtain ⟨t, h1, h2⟩ := foldl_app hi l []
  rw [rowOf, h1]; simpa using h2
theorem rowOf_prefix (hi : Bool) (l : List ActV) (k : Nat) : ∃ t, rowOf hi l = rowOf hi (l.take k) ++ t := by
  obtain ⟨t, h1, _⟩ := foldl_app hi (l.drop k) (rowOf hi (l.take k))
  refine ⟨t, ?_⟩
  rw [← h1, rowOf, rowOf, ← List.foldl_append, List.take_append_drop]
theorem rowOf_take_le (hi : Bool) (l : List ActV) (k : Nat) : (rowOf hi (l.take k)).length ≤ (rowOf hi l).length := by
  obtain ⟨t, h⟩ := rowOf_prefix hi l k
  rw [h]; simp
/-- what was laid is read. -/
theorem read_put (hi : Bool) (D : List ActV) (k : Nat) (x : ActV) (h : D[k]? = some x) (hx : x.al = false) (hm : mayPut x.v x.n = true) :
    getR hi (packs hi (rowOf hi D)) (rowOf hi (D.take k)).length x.n = (x.v, (rowOf hi (D.take (k + 1))).length, 0) := by
  obtain ⟨t, ht⟩ := rowOf_prefix hi D (k + 1)
  have hs := rowOf_succ hi D k x h
  have hb : stepB hi (rowOf hi (D.take k)) x = rowOf hi (D.take k) ++ bitsOf hi x.v x.n.toNat := by simp [stepB, hx, putL, hm]
  have hm' := hm
  simp only [mayPut, decide_eq_true_eq] at hm'
  obtain ⟨N, hN⟩ := Int.eq_ofNat_of_zero_le hm'.1
  rw [hN] at hb hm' ⊢
  rw [Int.toNat_natCast] at hb hm'
  rw [ht, hs, hb, List.append_assoc]
  have := getR_at hi (rowOf hi (D.take k)) (bitsOf hi x.v N) t x.v N hm'.2.2 (by omega) rfl
  rw [this, List.length_append, length_bitsOf]
theorem read_align (hi : Bool) (D : List ActV) (k : Nat) (x : ActV) (h : D[k]? = some x) (hx : x.al = true) : ((rowOf hi (D.take k)).length + 7) / 8 * 8 = (rowOf hi (D.take (k + 1))).length := by
  rw [rowOf_succ hi D k x h]
  simp only [stepB, hx, if_true, length_alignB]
  omega
theorem numOf_zeros (hi : Bool) (n : Nat) : numOf hi (List.replicate n false) = 0 := by
  cases hi
  · simp only [numOf, Bool.false_eq_true, if_false]
    induction n with
    | zero => rfl
    | succ n ih => rw [List.replicate_succ, List.foldr_cons, ih]; rfl
  · simp only [numOf, if_true]
    induction n with
    | zero => rfl
    | succ n ih => rw [List.replicate_succ, List.foldl_cons]; simpa using ih
/-- behind a row's end bits 0 are read. -/
theorem read_end (hi : Bool) (row : List Bool) : getR hi (packs hi row) row.length (8 * ((packs hi row).length : Int) - row.length) = (0, 8 * (packs hi row).length, 0) := by
  have hlen := length_packs hi row
  obtain ⟨n, hn⟩ : ∃ n, n = 8 * (packs hi row).length - row.length := ⟨_, rfl⟩
  have e : (8 * ((packs hi row).length : Int) - row.length) = (n : Int) := by omega
  rw [e, getR_ok hi _ _ _ (by omega) (by omega)]
  have hz : bitsAt hi (packs hi row) row.length n = List.replicate n false := by
    apply List.ext_getElem
    · simp [length_bitsAt]
    · intro j h1 _
      simp [bitsAt, rbit_packs, List.getD]
  rw [hz, numOf_zeros]
  have e2 : row.length + n = 8 * (packs hi row).length := by omega
  rw [e2]

/-- acts as cells. -/
def cells4 (x : ActV) : List Value := [.int .u32 x.v, .int .i64 x.n, .bool x.al, .bool x.ad]
def acells (l : List ActV) : List Value := l.flatMap cells4
theorem length_acells (l : List ActV) : (acells l).length = l.length * 4 := by
  induction l with
  | nil => rfl
  | cons x l ih => simp only [acells, List.flatMap_cons, List.length_append, List.length_cons] at *; rw [ih]; simp [cells4]; omega
theorem acells_get (l : List ActV) : ∀ (i j : Nat) (x : ActV), l[i]? = some x → j < 4 → (acells l)[i * 4 + j]? = (cells4 x)[j]? := by
  induction l with
  | nil => intro i j x h; simp at h
  | cons y l ih =>
    intro i j x h hj
    rw [acells, List.flatMap_cons]
    cases i with
    | zero =>
      simp at h; subst h
      rw [List.getElem?_append_left (by simp [cells4]; omega)]; simp
    | succ i =>
      rw [List.getElem?_append_right (by simp [cells4]; omega)]
      have := ih i j x (by simpa using h) hj
      rw [← this, acells]; congr 1; simp [cells4]; omega
theorem acells_snoc (l : List ActV) (x : ActV) : acells (l ++ [x]) = acells l ++ cells4 x := by simp [acells]
/-- what acts that are owned hold. -/
theorem owns_act {w : World} {e : TypeId} {v : Value} {g n : Nat} {D : List ActV} (h : Owns w e 4 v (some g) n (acells D)) (i : Nat) (x : ActV) (hx : D[i]? = some x) : ActAt w g (i * 4) x := by
  have hc := h.1.cells (g := g) h.2
  have key : ∀ j u, j < 4 → (cells4 x)[j]? = some u → w.cell? ⟨g, i * 4 + j, none⟩ = some u := by
    intro j u hj hu
    have := hc (i * 4 + j) u (by rw [acells_get D i j x hx hj]; exact hu)
    rw [← this]; congr 1; unfold Addr.add; split <;> simp_all
  exact ⟨key 0 _ (by omega) rfl, key 1 _ (by omega) rfl, key 2 _ (by omega) rfl, key 3 _ (by omega) rfl⟩
theorem ActAt.keep {S : Nat → Prop} {w w' : World} {b o : Nat} {x : ActV} (h : ActAt w b o x) (ht : Touch S w w') (hn : ¬ S b) : ActAt w' b o x :=
  ⟨cell_touch ht h.1 hn, cell_touch ht h.2.1 hn, cell_touch ht h.2.2.1 hn, cell_touch ht h.2.2.2 hn⟩
theorem ActAt.ext {w w' : World} {b o : Nat} {x : ActV} (h : ActAt w b o x) (ht : Ext w w') : ActAt w' b o x := h.keep ht id
theorem grown_alloc {w w' : World} {o : Obj} {row : Option Nat} (h : (w.alloc o).grownBy w' row) : w.grownBy w' row :=
  ⟨h.os, h.tape, h.output, Nat.le_trans (by simp) h.size, fun k hk hn => (h.block k (by simp; omega) hn).trans (Below.heap_alloc _ _ _ hk)⟩
/-- the cells of a block that has just been laid. -/
theorem news_new (w : World) (cs : List Value) (e : TypeId) (fr : Nat × Nat) : ∀ j u, cs[j]? = some u → (w.alloc (.cells cs.toArray e fr)).cell? ((⟨w.heap.size, 0, none⟩ : Addr).add j) = some u := by
  intro j u hu
  have e2 : (⟨w.heap.size, 0, none⟩ : Addr).add j = ⟨w.heap.size, j, none⟩ := by unfold Addr.add; split <;> simp_all
  rw [e2, World.cell?, heap_alloc_new]
  simpa using hu
end Go.Proofs.Ytnmibfdpaamlgaa
