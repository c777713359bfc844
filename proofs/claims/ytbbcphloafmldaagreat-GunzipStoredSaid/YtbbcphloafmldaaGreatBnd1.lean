/- Plain laws on worlds: what a call leaves alone ('Touch'), which blocks a value owns. No program is named here. From a walk that ends in 'true' and turns nothing that was there, to what a statement asks behind the call. -/
import Derived.WalkKit
import Derived.Lib.Hide
import Derived.Deep.QuietTactic
import Derived.Maps.AppendAt
import Derived.Test.YtbbcphloafmldaaGreatRows
import Derived.ProofKit
import Derived.OpenShut
import Derived.SizedLaws
/-! Plain laws on worlds: what a call leaves alone ('Touch'), which blocks a value owns. No program is named here. -/
namespace Go.Proofs.YtbbcphloafmldaaGreat
open Go.RowKit

/-- w' is w, but for the blocks of S, and for new blocks. -/
structure Touch (S : Nat → Prop) (w w' : World) : Prop where
  os : w'.os = w.os
  tape : w'.tape = w.tape
  output : w'.output = w.output
  size : w.heap.size ≤ w'.heap.size
  block : ∀ k, k < w.heap.size → ¬ S k → w'.heap[k]? = w.heap[k]?

theorem Touch.refl (S : Nat → Prop) (w : World) : Touch S w w := ⟨rfl, rfl, rfl, Nat.le_refl _, fun _ _ _ => rfl⟩
theorem Touch.mono {S T : Nat → Prop} {w w' : World} (h : Touch S w w') (hst : ∀ k, k < w.heap.size → S k → T k) : Touch T w w' :=
  ⟨h.os, h.tape, h.output, h.size, fun k hk hn => h.block k hk (fun hs => hn (hst k hk hs))⟩
theorem Touch.trans {S T : Nat → Prop} {a b c : World} (h : Touch S a b) (k : Touch T b c) (hst : ∀ k, k < a.heap.size → T k → S k) : Touch S a c :=
  ⟨k.os.trans h.os, k.tape.trans h.tape, k.output.trans h.output, Nat.le_trans h.size k.size, fun i hi hn =>
    (k.block i (Nat.lt_of_lt_of_le hi h.size) (fun ht => hn (hst i hi ht))).trans (h.block i hi hn)⟩
theorem Touch.drew {S : Nat → Prop} {w w' : World} (h : Touch S w w') : Touch S w w'.drew := ⟨h.os, h.tape, h.output, h.size, h.block⟩
theorem Touch.drewN {S : Nat → Prop} {w w' : World} (h : Touch S w w') (n : Nat) : Touch S w (w'.drewN n) := ⟨h.os, h.tape, h.output, h.size, h.block⟩
theorem Touch.drew_l {S : Nat → Prop} {w w' : World} (h : Touch S w.drew w') : Touch S w w' := ⟨h.os, h.tape, h.output, h.size, h.block⟩
theorem Touch.drewN_l {S : Nat → Prop} {w w' : World} {n : Nat} (h : Touch S (w.drewN n) w') : Touch S w w' := ⟨h.os, h.tape, h.output, h.size, h.block⟩
theorem Touch.alloc {S : Nat → Prop} {w w' : World} (h : Touch S w w') (o : Obj) : Touch S w (w'.alloc o) :=
  ⟨h.os, h.tape, h.output, Nat.le_trans h.size (by simp), fun k hk hn => (Below.heap_alloc _ _ _ (Nat.lt_of_lt_of_le hk h.size)).trans (h.block k hk hn)⟩
theorem Touch.alloc_l {S : Nat → Prop} {w w' : World} {o : Obj} (h : Touch S (w.alloc o) w') : Touch S w w' :=
  ⟨h.os, h.tape, h.output, Nat.le_trans (by simp) h.size, fun k hk hn => (h.block k (by simp; omega) hn).trans (Below.heap_alloc _ _ _ hk)⟩
theorem Touch.setCell {S : Nat → Prop} {w w' : World} (h : Touch S w w') {a : Addr} (ha : S a.block ∨ w.heap.size ≤ a.block) (u : Value) : Touch S w (w'.setCell a u) :=
  ⟨h.os, h.tape, h.output, Nat.le_trans h.size (by simp [World.setCell]), fun k hk hn => by
    rw [Below.heap_setCell _ _ _ _ (by intro e; subst e; rcases ha with ha | ha <;> first | exact hn ha | omega)]
    exact h.block k hk hn⟩
theorem Touch.grown {S : Nat → Prop} {w w' w'' : World} {row : Option Nat} (h : Touch S w w') (hg : w'.grownBy w'' row) (hr : ∀ k, row = some k → S k ∨ w.heap.size ≤ k) : Touch S w w'' :=
  ⟨hg.os.trans h.os, hg.tape.trans h.tape, hg.output.trans h.output, Nat.le_trans h.size hg.size, fun k hk hn =>
    (hg.block k (Nat.lt_of_lt_of_le hk h.size) (fun e => by rcases hr k e.symm with h1 | h1 <;> first | exact hn h1 | omega)).trans (h.block k hk hn)⟩
theorem Touch.below {B : Nat} {w w' : World} (h : Touch (fun k => B ≤ k) w w') (hB : B ≤ w.heap.size) : Below B w w' :=
  ⟨h.os, h.tape, h.output, h.size, fun k hk => h.block k (by omega) (by omega)⟩
theorem Touch.of_below {S : Nat → Prop} {w w' : World} (h : Below w.heap.size w w') : Touch S w w' :=
  ⟨h.os, h.tape, h.output, h.size, fun k hk _ => h.block k hk⟩
theorem Touch.cell {S : Nat → Prop} {w w' : World} (h : Touch S w w') {p : Addr} (hp : p.block < w.heap.size) (hn : ¬ S p.block) : w'.cell? p = w.cell? p :=
  World.cell?_of_block (w := w) (h.block p.block hp hn)
theorem Touch.frozen {S : Nat → Prop} {w w' : World} (h : Touch S w w') {p : Addr} (hp : p.block < w.heap.size) (hn : ¬ S p.block) : w'.frozen? p = w.frozen? p :=
  World.frozen?_of_block (w := w) (h.block p.block hp hn)

theorem block_lt {w : World} {b : Nat} {o : Obj} (h : w.heap[b]? = some o) : b < w.heap.size := (Array.getElem?_eq_some_iff.1 h).1
theorem Touch.keep {S : Nat → Prop} {w w' : World} (h : Touch S w w') {b : Nat} {o : Obj} (hb : w.heap[b]? = some o) (hn : ¬ S b) : w'.heap[b]? = some o :=
  (h.block b (block_lt hb) hn).trans hb

/-- what a slice value owns, its block told: 'none' is the nil slice, 'some g' a row that begins at the head of block g. -/
def Owns (w : World) (e : TypeId) (size : Nat) (v : Value) (og : Option Nat) (n : Nat) (xs : List Value) : Prop :=
  w.ownsRow 0 e size v n xs ∧ v.ownBlock = og

theorem Owns.nil (w : World) (e : TypeId) (size : Nat) : Owns w e size (.slice none 0 0) none 0 [] := ⟨World.ownsRow_nil _ _ _ _, rfl⟩
theorem Owns.lt {w : World} {e : TypeId} {size : Nat} {v : Value} {og : Option Nat} {n : Nat} {xs : List Value} (h : Owns w e size v og n xs) : ∀ g, og = some g → g < w.heap.size :=
  fun g hg => (h.1.lt g (h.2.trans hg)).2
theorem Owns.keep {w w' : World} {e : TypeId} {size : Nat} {v : Value} {og : Option Nat} {n : Nat} {xs : List Value} {S : Nat → Prop} (h : Owns w e size v og n xs) (ht : Touch S w w')
    (hn : ∀ g, og = some g → ¬ S g) : Owns w' e size v og n xs := by
  obtain ⟨⟨h1, h2⟩, h3⟩ := h
  refine ⟨⟨h1, ?_⟩, h3⟩
  rcases h2 with h2 | ⟨g, cap, cur, hv, hg, hh, r⟩
  · exact Or.inl h2
  · refine Or.inr ⟨g, cap, cur, hv, hg, ?_, r⟩
    exact ht.keep hh (hn g (by rw [← h3, hv]; rfl))
theorem Owns.form {w : World} {e : TypeId} {size : Nat} {v : Value} {og : Option Nat} {n : Nat} {xs : List Value} (h : Owns w e size v og n xs) :
    (og = none ∧ v = .slice none 0 0 ∧ n = 0 ∧ xs = []) ∨
    ∃ g cap cur, og = some g ∧ v = .slice (some ⟨g, 0, none⟩) n cap ∧ w.heap[g]? = some (.cells cur e (0, 0)) ∧ n ≤ cap ∧ cap ≤ maxLen ∧ cur.size = cap * size ∧ cur.toList.take (n * size) = xs := by
  obtain ⟨⟨h1, h2⟩, h3⟩ := h
  rcases h2 with ⟨rfl, rfl⟩ | ⟨g, cap, cur, rfl, hg, hh, r⟩
  · exact Or.inl ⟨h3.symm, rfl, rfl, List.eq_nil_of_length_eq_zero (by simpa using h1)⟩
  · exact Or.inr ⟨g, cap, cur, h3.symm, rfl, hh, r⟩

theorem heap_setCell_at {w : World} {a : Addr} {u : Value} {cur : Array Value} {e : TypeId} {f : Nat × Nat} (h : w.heap[a.block]? = some (.cells cur e f)) (hs : a.spot = none) :
    (w.setCell a u).heap[a.block]? = some (.cells (cur.setIfInBounds a.off u) e f) := by
  have hlt := block_lt h
  have h' : w.heap[a.block] = .cells cur e f := by simpa [Array.getElem?_eq_getElem hlt] using h
  show (w.heap.modify a.block _)[a.block]? = _
  rw [Array.getElem?_eq_getElem (by simpa using hlt), Array.getElem_modify_self, h']
  simp [hs]
theorem heap_setCell_ne {w : World} {a : Addr} {u : Value} {k : Nat} (h : k ≠ a.block) : (w.setCell a u).heap[k]? = w.heap[k]? := Below.heap_setCell w a u k h
/-- an element of what is owned is stored anew. -/
theorem Owns.set {w : World} {e : TypeId} {v : Value} {g n : Nat} {xs : List Value} (h : Owns w e 1 v (some g) n xs) (i : Nat) (u : Value) (_hi : i < n) :
    Owns (w.setCell ⟨g, i, none⟩ u) e 1 v (some g) n (xs.set i u) := by
  obtain ⟨⟨h1, h2⟩, h3⟩ := h
  refine ⟨⟨by simpa using h1, ?_⟩, h3⟩
  rcases h2 with ⟨rfl, _⟩ | ⟨g', cap, cur, rfl, hg, hh, hn, hm, hs, ht⟩
  · simp [Value.ownBlock] at h3
  · obtain rfl : g' = g := by simpa [Value.ownBlock] using h3
    refine Or.inr ⟨g', cap, cur.setIfInBounds i u, rfl, hg, heap_setCell_at (a := ⟨g', i, none⟩) hh rfl, hn, hm, by simpa using hs, ?_⟩
    rw [← ht]
    simp [List.take_set]
theorem Owns.cell {w : World} {e : TypeId} {v : Value} {g n : Nat} {xs : List Value} (h : Owns w e 1 v (some g) n xs) (i : Nat) (u : Value) (hu : xs[i]? = some u) :
    w.cell? ⟨g, i, none⟩ = some u := by
  have := h.1.cells (g := g) h.2 i u hu
  rw [← this]; congr 1; unfold Addr.add; split <;> simp_all
theorem Owns.free {w : World} {e : TypeId} {size : Nat} {v : Value} {g n : Nat} {xs : List Value} (h : Owns w e size v (some g) n xs) (i : Nat) : w.frozen? ⟨g, i, none⟩ = false := by
  rcases h.form with ⟨h, _⟩ | ⟨g', cap, cur, hg, _, hh, _⟩
  · cases h
  · cases hg; simp [World.frozen?, hh]
/-- a value's block stays, or is a new one. -/
def Near (og og' : Option Nat) (w : World) : Prop := og' = og ∨ ∃ g, og' = some g ∧ w.heap.size ≤ g
def FP (B : Nat) (og : Option Nat) : Nat → Prop := fun k => k = B ∨ og = some k
theorem Near.refl (og : Option Nat) (w : World) : Near og og w := Or.inl rfl
theorem Near.trans {a b c : Option Nat} {w w' : World} (h : Near a b w) (k : Near b c w') (hs : w.heap.size ≤ w'.heap.size) : Near a c w := by
  rcases k with rfl | ⟨g, rfl, hg⟩
  · exact h
  · exact Or.inr ⟨g, rfl, Nat.le_trans hs hg⟩
theorem Near.fp {a b : Option Nat} {w : World} (h : Near a b w) (B k : Nat) (hk : k < w.heap.size) : FP B b k → FP B a k := by
  rintro (rfl | e)
  · exact Or.inl rfl
  · rcases h with rfl | ⟨g, rfl, hg⟩
    · exact Or.inr e
    · cases e; omega
theorem ownsRow_form {w : World} {base : Nat} {e : TypeId} {size : Nat} {v : Value} {k : Nat} {xs : List Value} (h : w.ownsRow base e size v k xs) (hk : 0 < k) : ∃ g cap, v = .slice (some ⟨g, 0, none⟩) k cap := by
  rcases h.2 with ⟨_, h0⟩ | ⟨g, cap, _, rfl, _⟩
  · omega
  · exact ⟨g, cap, rfl⟩
theorem cell_alloc {w : World} {a : Addr} {u : Value} (o : Obj) (h : w.cell? a = some u) : (w.alloc o).cell? a = some u :=
  (World.cell?_of_block (Below.heap_alloc w o a.block (World.block_lt_of_cell? w a h))).trans h
theorem cell_touch {S : Nat → Prop} {w w' : World} (ht : Touch S w w') {a : Addr} {u : Value} (h : w.cell? a = some u) (hn : ¬ S a.block) : w'.cell? a = some u :=
  (ht.cell (World.block_lt_of_cell? w a h) hn).trans h
theorem ownsRow_zero {w : World} {base : Nat} {e : TypeId} {size : Nat} {v : Value} {n : Nat} {xs : List Value} (h : w.ownsRow base e size v n xs) : w.ownsRow 0 e size v n xs := by
  obtain ⟨h1, h2⟩ := h
  refine ⟨h1, ?_⟩
  rcases h2 with h2 | ⟨g, cap, cur, hv, _, r⟩
  · exact Or.inl h2
  · exact Or.inr ⟨g, cap, cur, hv, Nat.zero_le _, r⟩
theorem Owns.shape {w : World} {e : TypeId} {size : Nat} {v : Value} {og : Option Nat} {n : Nat} {xs : List Value} (h : Owns w e size v og n xs) : ∃ ao cap, v = .slice ao n cap := by
  rcases h.form with ⟨_, rfl, h0, _⟩ | ⟨g, cap, _, _, rfl, _⟩
  · exact ⟨none, 0, by rw [h0]⟩
  · exact ⟨_, _, rfl⟩
/-- nothing that was there is turned. -/
def Ext (w w' : World) : Prop := Touch (fun _ => False) w w'
theorem Ext.refl (w : World) : Ext w w := Touch.refl _ _
theorem Ext.trans {a b c : World} (h : Ext a b) (k : Ext b c) : Ext a c := Touch.trans h k fun _ _ h => h
theorem Ext.touch {S : Nat → Prop} {a b c : World} (h : Ext a b) (k : Touch S b c) (hS : ∀ i, i < a.heap.size → ¬ S i) : Ext a c := Touch.trans h k fun i hi hs => hS i hi hs
theorem Ext.alloc {a b : World} (h : Ext a b) (o : Obj) : Ext a (b.alloc o) := Touch.alloc h o
theorem Ext.drewN {a b : World} (h : Ext a b) (n : Nat) : Ext a (b.drewN n) := Touch.drewN h n
theorem Ext.drew {a b : World} (h : Ext a b) : Ext a b.drew := Touch.drew h
theorem Ext.below {w w' : World} (h : Ext w w') : Below w.heap.size w w' := ⟨h.os, h.tape, h.output, h.size, fun k hk => h.block k hk (fun f => f)⟩
theorem Ext.trans' {S : Nat → Prop} {a b c : World} (h : Ext a b) (k : Touch S b c) : Touch S a c := (h.mono (fun _ _ f => f.elim)).trans k fun _ _ h => h
theorem Owns.ext' {w w' : World} {e : TypeId} {size : Nat} {v : Value} {og : Option Nat} {n : Nat} {xs : List Value} (h : Owns w e size v og n xs) (he : Ext w w') : Owns w' e size v og n xs := h.keep he (fun _ _ f => f)
end Go.Proofs.YtbbcphloafmldaaGreat

/-! From a walk that ends in 'true' and turns nothing that was there, to what a statement asks behind the call. -/
namespace Go.Proofs.YtbbcphloafmldaaGreat
open Go.ChangeShapes Go.WideShapes Go.ChangeAt Go.RowKit

theorem own : ownKnob Tryz.prog.godebug = none := by kernel_rfl
theorem laidOut : laidOutB Tryz.prog = true := by kernel_rfl

theorem trodAll_ext {H : Type} {enc : TypeId × Value → H} {P : Program} (hl : laidOutB P = true) {W W' : World} (hb : Below W.heap.size W W') :
    ∀ (ts : List TypeId) (vs : List Value) (ds : List (DataW H)) (ps : List MemPlace), (∀ t ∈ ts, P.readableRec t = true ∧ t < P.types.size) →
      DataW.TrodAll enc P W 0 (fun _ => true) true ts vs ds ps → (∀ x ∈ ps, x.block < W.heap.size) → DataW.TrodAll enc P W' 0 (fun b => decide (b < W.heap.size)) true ts vs ds ps := by
  intro ts
  induction ts with
  | nil =>
    intro vs ds ps _ h _
    obtain ⟨rfl, rfl, rfl⟩ := trodAll_nil h
    exact trodAll_mk0
  | cons t ts ih =>
    intro vs ds ps ht h hlt
    obtain ⟨v, vs', d, ds', p, q, rfl, rfl, rfl, h0, r0⟩ := trodAll_cons h
    have h1 := ht t (List.mem_cons_self ..)
    exact trodAll_cons_mk (Below.trod hl h1.1 h1.2 h0 hb (fun x hx => hlt x (List.mem_append_left _ hx))) (ih _ _ _ (fun u hu => ht u (List.mem_cons_of_mem _ hu)) r0 (fun x hx => hlt x (List.mem_append_right _ hx)))

/-- what the statement asks behind the call. -/
theorem law_post {H : Type} {enc : TypeId × Value → H} {fn : Func} {s : ChangeSpec} {W W' : World} {args : Array Value} {ds gs : List (DataW H)} {before : List MemPlace}
    (hs : s.vars = []) (hres : fn.resultTypes = #[4]) (hpar : ∀ t ∈ fn.params.toList, Tryz.prog.readableRec t = true ∧ t < Tryz.prog.types.size)
    (hspec : (s.fn H ds) = { results := [.lit (.bool true)], args := ds })
    (hW : DataW.Whole enc Tryz.prog fn.params.toList s.vars false W args.toList ds gs before) (he : Ext W W') :
    s.post enc Tryz.prog fn false true false false W args (.bool true) W' := by
  have hW' := hW
  obtain ⟨p, q, hA, hV, rfl, _, _⟩ := hW
  have hV0 := hV
  rw [hs] at hV0
  obtain ⟨rfl, rfl⟩ := trodVars_none hV0
  have hlt : ∀ x ∈ p, x.block < W.heap.size := fun x hx => by simpa using hW'.lt x (List.mem_append_left _ hx)
  refine ⟨ds, [], _, [], p, [], hW', ?_, ?_, ?_, he.below.frame _, fun h => by cases h⟩
  · rw [hres, List.append_nil, hspec]
    have e : Value.resultList 1 (.bool true) = [.bool true] := rfl
    show DataW.TrodAll enc Tryz.prog W' W.heap.size (fun _ => false) false [4] (Value.resultList 1 (.bool true)) [.lit (.bool true)] []
    rw [e]
    exact trodAll_mk1 (shut_bool Tryz.underlying4 true)
  · rw [List.append_nil, hspec]
    exact trodAll_ext laidOut he.below _ _ _ _ hpar hA hlt
  · rw [List.append_nil, hspec, hs]; rfl
end Go.Proofs.YtbbcphloafmldaaGreat
