/- Maps of words: what they hold, looked up and stored. What a writer of bits is in memory. -/
import Derived.DeepKeys4
import Derived.Maps.Own
import Derived.Test.YtbbcphloafmldaaGreatBnd1
import Derived.Test.YtbbcphloafmldaaGreatBits
import Derived.Test.YtbbcphloafmldaaGreatRows
/-! Maps of words: what they hold, looked up and stored. -/
namespace Go.Proofs.YtbbcphloafmldaaGreat
open Go.RowKit Go.ChangeMaps Go.WideMaps
set_option linter.unusedVariables false

/-- a word as a key. -/
def wk (v k : Nat) : Value := .agg #[.int .u32 v, .int .u8 k]
theorem pre_laidOut : laidOutB Tryz.prog = true := by kernel_rfl
theorem pre_row : (156 : TypeId) < Tryz.prog.types.size := of_decide_eq_true (by kernel_rfl)
theorem pre_wide : (match Tryz.prog.underlying 156 with | some (.array _ _) | some (.struct _) => true | _ => false) = true := by rw [Tryz.underlying156]
set_option maxRecDepth 100000 in
theorem pre_law : KeyLaw Tryz.prog 156 := deep_law_laid pre_laidOut (m := 2) (by omega) pre_row (by kernel_rfl) pre_wide
theorem pre_cells : Tryz.prog.cellsOf 156 = 2 := by kernel_rfl
theorem pre_keyType : Tryz.prog.keyType 156 = true := by kernel_rfl
theorem pre_cells1 : Tryz.prog.cellsOf 32 = 1 := by kernel_rfl
theorem pre_cells2 : Tryz.prog.cellsOf 5 = 1 := by kernel_rfl
theorem wf_u32 (v : Nat) (h : v < 4294967296) : (Lit.int .u32 v).wf = true := by simp [Lit.wf, IntKind.min, IntKind.max, IntKind.signed, IntKind.bits]; omega
theorem wf_u8 (v : Nat) (h : v < 256) : (Lit.int .u8 v).wf = true := by simp [Lit.wf, IntKind.min, IntKind.max, IntKind.signed, IntKind.bits]; omega
theorem pre_lits (d v k : Nat) (hv : v < 4294967296) (hk : k < 256) : Tryz.prog.keyLits (d + 2) 156 [.int .u32 v, .int .u8 k] = some [.int .u32 v, .int .u8 k] := by
  have e1 := wf_u32 v hv
  have e2 := wf_u8 k hk
  simp [Program.keyLits, Tryz.underlying156, pre_cells, Tryz.underlying32, Tryz.underlying5, pre_cells1, pre_cells2, e1, e2]
theorem key_word (v k : Nat) (hv : v < 4294967296) (hk : k < 256) : ∃ l, keyOf Tryz.prog 156 (wk v k) = some l := by
  have h2 : (wk v k).formed Tryz.prog 156 = true := by simp [wk, Value.formed, Tryz.underlying156, pre_cells]
  obtain ⟨d, hd⟩ : ∃ d, Tryz.prog.types.size + 1 = d + 2 := ⟨Tryz.prog.types.size - 1, by have : 1 ≤ Tryz.prog.types.size := Nat.one_le_of_lt pre_row; omega⟩
  have h3 := pre_lits d v k hv hk
  rw [← hd] at h3
  refine ⟨.string (keyBytes [.int .u32 v, .int .u8 k]), ?_⟩
  unfold keyOf
  rw [Tryz.underlying156]
  simp only [pre_keyType, h2, Bool.and_self, if_true]
  show (Tryz.prog.keyLits (Tryz.prog.types.size + 1) 156 [.int .u32 v, .int .u8 k]).map _ = _
  rw [h3]; rfl
theorem wk_inj {v k v' k' : Nat} (h : wk v k = wk v' k') : v = v' ∧ k = k' := by
  simp only [wk, Value.agg.injEq, Array.mk.injEq, List.cons.injEq, Value.int.injEq, true_and, and_true] at h
  omega
/-- block b is a map of words that holds what R says. -/
structure MapIs (w : World) (b : Nat) (R : Nat → Nat → Int → Prop) : Prop where
  is : ∃ es clock, w.heap[b]? = some (.map es clock) ∧ (∀ e ∈ es.toList, ∃ v k a, e.key = wk v k ∧ v < 4294967296 ∧ k < 256 ∧ e.val = .int .i64 a ∧ R v k a) ∧ ∀ v k a, R v k a → ∃ e ∈ es.toList, e.key = wk v k
theorem MapIs.keep {w w' : World} {b : Nat} {R : Nat → Nat → Int → Prop} {S : Nat → Prop} (h : MapIs w b R) (t : Touch S w w') (hn : ¬ S b) : MapIs w' b R := by
  obtain ⟨es, clock, h1, h2⟩ := h
  exact ⟨es, clock, t.keep h1 hn, h2⟩
theorem MapIs.lt {w : World} {b : Nat} {R : Nat → Nat → Int → Prop} (h : MapIs w b R) : b < w.heap.size := by
  obtain ⟨es, clock, h1, h2⟩ := h
  exact block_lt h1
theorem MapIs.new (w : World) {R : Nat → Nat → Int → Prop} (hR : ∀ v k a, ¬ R v k a) : MapIs (w.alloc (.map #[] 0)) w.heap.size R :=
  ⟨#[], 0, heap_alloc_new w _, by simp, fun v k a h => (hR v k a h).elim⟩
theorem MapIs.cong {w : World} {b : Nat} {R R' : Nat → Nat → Int → Prop} (h : MapIs w b R) (e : ∀ v k a, R v k a ↔ R' v k a) : MapIs w b R' := by
  obtain ⟨es, clock, h1, h2, h3⟩ := h
  refine ⟨es, clock, h1, fun x hx => ?_, fun v k a hr => h3 v k a ((e v k a).2 hr)⟩
  obtain ⟨v, k, a, q1, q2, q3, q4, q5⟩ := h2 x hx
  exact ⟨v, k, a, q1, q2, q3, q4, (e v k a).1 q5⟩
theorem MapIs.find {w : World} {b v k : Nat} {R : Nat → Nat → Int → Prop} (h : MapIs w b R) (hv : v < 4294967296) (hk : k < 256) :
    ∃ es clock, w.heap[b]? = some (.map es clock) ∧ (∀ e ∈ es.toList, ∃ v k a, e.key = wk v k ∧ v < 4294967296 ∧ k < 256 ∧ e.val = .int .i64 a ∧ R v k a) ∧ (∀ v k a, R v k a → ∃ e ∈ es.toList, e.key = wk v k) ∧
      (((Instr.findKey 156 (wk v k) es.toList).run Tryz.prog w = .ok none w ∧ ∀ a, ¬ R v k a) ∨
       ∃ j e a, (Instr.findKey 156 (wk v k) es.toList).run Tryz.prog w = .ok (some (j, e.val)) w ∧ es.toList[j]? = some e ∧ e.key = wk v k ∧ e.val = .int .i64 a ∧ R v k a) := by
  obtain ⟨es, clock, h1, h2, h3⟩ := h
  refine ⟨es, clock, h1, h2, h3, ?_⟩
  obtain ⟨l, hl⟩ := key_word v k hv hk
  rcases pre_law.find w hl es.toList (fun e he => by
    obtain ⟨v, k, a, q1, q2, q3, _⟩ := h2 e he
    rw [q1]; exact key_word v k q2 q3) with ⟨r1, r2⟩ | ⟨j, e, r1, r2, r3⟩
  · refine Or.inl ⟨r1, fun a hr => ?_⟩
    obtain ⟨e, he, hk⟩ := h3 v k a hr
    exact r2 e he hk
  · obtain ⟨v', k', a, q1, q2, q3, q4, q5⟩ := h2 e (List.mem_of_getElem? r2)
    rw [r3] at q1
    obtain ⟨rfl, rfl⟩ := wk_inj q1
    exact Or.inr ⟨j, e, a, r1, r2, r3, q4, q5⟩
/-- 'v, ok := m[word]'. -/
theorem MapIs.look {w : World} {b v k : Nat} {R : Nat → Nat → Int → Prop} (h : MapIs w b R) (hv : v < 4294967296) (hk : k < 256) :
    (∃ a, R v k a ∧ (Instr.lookup 152 (.map (some b)) (wk v k) true).run Tryz.prog w = .ok (.tuple #[.int .i64 a, .bool true]) w) ∨
    ((∀ a, ¬ R v k a) ∧ (Instr.lookup 152 (.map (some b)) (wk v k) true).run Tryz.prog w = .ok (.tuple #[.int .i64 0, .bool false]) w) := by
  obtain ⟨es, clock, h1, h2, h3, h4⟩ := h.find hv hk
  obtain ⟨l, hl⟩ := key_word v k hv hk
  have hz : (zeroValue 3).run Tryz.prog w = .ok (.int .i64 0) w := by kernel_rfl
  rcases h4 with ⟨r1, r2⟩ | ⟨j, e, a, r1, r2, r3, r4, r5⟩
  · exact Or.inr ⟨r2, by simp [Instr.lookup, run_underlying Tryz.underlying152, MapKept.run_getObj_map h1, pre_law.check w _ hl, r1, hz, Result.andThen]⟩
  · exact Or.inl ⟨a, r5, by simp [Instr.lookup, run_underlying Tryz.underlying152, MapKept.run_getObj_map h1, pre_law.check w _ hl, r1, r4, Result.andThen]⟩
/-- 'm[word] = a', where the word holds nothing yet, or that. -/
theorem MapIs.store {w : World} {b v k : Nat} {R : Nat → Nat → Int → Prop} (h : MapIs w b R) (hv : v < 4294967296) (hk : k < 256) (a : Int) (ha : ∀ a', R v k a' → a' = a) :
    ∃ w', (Instr.mapUpdate 152 (.map (some b)) (wk v k) (.int .i64 a)).run Tryz.prog w = .ok () w' ∧ MapIs w' b (fun v' k' a' => R v' k' a' ∨ (v' = v ∧ k' = k ∧ a' = a)) ∧ Touch (fun i => i = b) w w' := by
  obtain ⟨es, clock, h1, h2, h3, h4⟩ := h.find hv hk
  obtain ⟨l, hl⟩ := key_word v k hv hk
  have ht : ∀ o, Touch (fun i => i = b) w (setBlock w b o) := fun o => ⟨rfl, rfl, rfl, by simp [setBlock], fun i _ hi => heap_setBlock_other h1 _ hi⟩
  rcases h4 with ⟨r1, r2⟩ | ⟨j, e, a', r1, r2, r3, r4, r5⟩
  · refine ⟨setBlock w b (.map (es.push ⟨wk v k, .int .i64 a, clock⟩) (clock + 1)), ?_, ⟨_, _, heap_setBlock_same h1 _, fun x hx => ?_, fun v' k' a' hr => ?_⟩, ht _⟩
    · simp [Instr.mapUpdate, run_underlying Tryz.underlying152, MapKept.run_getObj_map h1, pre_law.check w false hl, r1, MapKept.run_setObj_map _ h1, Result.andThen, setBlock]
    · simp only [Array.toList_push, List.mem_append, List.mem_singleton] at hx
      rcases hx with hx | rfl
      · obtain ⟨v', k', a', q1, q2, q3, q4, q5⟩ := h2 x hx
        exact ⟨v', k', a', q1, q2, q3, q4, Or.inl q5⟩
      · exact ⟨v, k, a, rfl, hv, hk, rfl, Or.inr ⟨rfl, rfl, rfl⟩⟩
    · simp only [Array.toList_push, List.mem_append, List.mem_singleton]
      rcases hr with hr | ⟨rfl, rfl, rfl⟩
      · obtain ⟨x, hx, hxk⟩ := h3 v' k' a' hr
        exact ⟨x, Or.inl hx, hxk⟩
      · exact ⟨_, Or.inr rfl, rfl⟩
  · obtain rfl := ha a' r5
    have hj : es[j]? = some e := by simpa using r2
    have hjl : j < es.toList.length := (List.getElem?_eq_some_iff.1 r2).1
    have hlist : (es.modify j (fun e' => { e' with key := wk v k, val := .int .i64 a' })).toList = es.toList.set j { e with key := wk v k, val := .int .i64 a' } := by rw [Array.toList_modify, modify_eq_set _ _ _ _ r2]
    have hsame : es.toList.set j { e with key := wk v k, val := .int .i64 a' } = es.toList := by
      rw [← r3, ← r4]
      have : es.toList[j] = e := by rw [List.getElem?_eq_getElem hjl] at r2; exact Option.some.inj r2
      conv => rhs; rw [← List.set_getElem_self hjl]
      rw [this]
    refine ⟨setBlock w b (.map (es.modify j (fun e' => { e' with key := wk v k, val := .int .i64 a' })) clock), ?_, ⟨_, _, heap_setBlock_same h1 _, fun x hx => ?_, fun v' k' b' hr => ?_⟩, ht _⟩
    · simp [Instr.mapUpdate, run_underlying Tryz.underlying152, MapKept.run_getObj_map h1, pre_law.check w false hl, r1, hj, r3, pre_law.stays w hl, MapKept.run_setObj_map _ h1, Result.andThen, setBlock]
    · rw [hlist, hsame] at hx
      obtain ⟨v', k', a', q1, q2, q3, q4, q5⟩ := h2 x hx
      exact ⟨v', k', a', q1, q2, q3, q4, Or.inl q5⟩
    · rw [hlist, hsame]
      rcases hr with hr | ⟨rfl, rfl, rfl⟩
      · exact h3 v' k' b' hr
      · exact h3 _ _ _ r5
end Go.Proofs.YtbbcphloafmldaaGreat

/-! What a writer of bits is in memory. -/
namespace Go.Proofs.YtbbcphloafmldaaGreat
open Go.RowKit

/-- block B is a writer (of type T) of the bits l; its bytes lie in block og. -/
def IsW (T : Nat) (hi : Bool) (w : World) (B : Nat) (og : Option Nat) (l : List Bool) : Prop :=
  ∃ v, w.heap[B]? = some (.cells #[v, .int .i64 l.length] T (0, 0)) ∧ Owns w 5 1 v og ((l.length + 7) / 8) (u8s (packs hi l)) ∧ og ≠ some B
theorem IsW.keep {T : Nat} {hi : Bool} {w w' : World} {B : Nat} {og : Option Nat} {l : List Bool} {S : Nat → Prop} (h : IsW T hi w B og l) (ht : Touch S w w') (hB : ¬ S B) (hg : ∀ g, og = some g → ¬ S g) : IsW T hi w' B og l := by
  obtain ⟨v, h1, h2, h3⟩ := h
  exact ⟨v, ht.keep h1 hB, h2.keep ht hg, h3⟩
theorem IsW.lt {T : Nat} {hi : Bool} {w : World} {B : Nat} {og : Option Nat} {l : List Bool} (h : IsW T hi w B og l) : B < w.heap.size := block_lt h.choose_spec.1
theorem IsW.glt {T : Nat} {hi : Bool} {w : World} {B : Nat} {og : Option Nat} {l : List Bool} (h : IsW T hi w B og l) : ∀ g, og = some g → g < w.heap.size := by
  obtain ⟨v, _, h2, _⟩ := h; exact h2.lt
/-- what an act on a writer leaves. -/
def WPost (T : Nat) (hi : Bool) (w : World) (B : Nat) (og : Option Nat) (l' : List Bool) (w' : World) : Prop :=
  ∃ og', IsW T hi w' B og' l' ∧ Near og og' w ∧ Touch (FP B og) w w'
theorem WPost.refl {T : Nat} {hi : Bool} {w : World} {B : Nat} {og : Option Nat} {l : List Bool} (h : IsW T hi w B og l) : WPost T hi w B og l w := ⟨og, h, Near.refl _ _, Touch.refl _ _⟩
theorem WPost.step {T : Nat} {hi : Bool} {w w' w'' : World} {B : Nat} {og og' : Option Nat} {l' : List Bool} (hn : Near og og' w) (ht : Touch (FP B og) w w') (k : WPost T hi w' B og' l' w'') : WPost T hi w B og l' w'' := by
  obtain ⟨og2, k1, k2, k3⟩ := k
  exact ⟨og2, k1, hn.trans k2 ht.size, ht.trans k3 fun i hi => hn.fp B i hi⟩
theorem WPost.trans {T : Nat} {hi : Bool} {w w' w'' : World} {B : Nat} {og : Option Nat} {l' l'' : List Bool} (h : WPost T hi w B og l' w') (k : ∀ og', IsW T hi w' B og' l' → WPost T hi w' B og' l'' w'') : WPost T hi w B og l'' w'' := by
  obtain ⟨og', h1, h2, h3⟩ := h
  obtain ⟨og2, k1, k2, k3⟩ := k og' h1
  exact ⟨og2, k1, h2.trans k2 h3.size, h3.trans k3 fun i hi => h2.fp B i hi⟩

/-- the world behind a bit that went into a byte that was there. -/
theorem bit_mid_post {T : Nat} {hi : Bool} {w : World} {B g : Nat} {l : List Bool} {b : Bool} (h : IsW T hi w B (some g) l) (h8 : 0 < l.length % 8) :
    WPost T hi w B (some g) (l ++ [b]) ((w.drew.setCell ⟨g, l.length / 8, none⟩ (.int .u8 (byteB hi (l ++ [b]) (l.length / 8)))).setCell ⟨B, 1, none⟩ (.int .i64 (l.length + 1))) := by
  obtain ⟨v, h1, h2, h3⟩ := h
  have hgB : g ≠ B := fun e => h3 (by rw [e])
  refine ⟨some g, ⟨v, ?_, ?_, h3⟩, Near.refl _ _, ?_⟩
  · have e := heap_setCell_at (w := w.drew.setCell ⟨g, l.length / 8, none⟩ (.int .u8 (byteB hi (l ++ [b]) (l.length / 8)))) (a := ⟨B, 1, none⟩) (u := .int .i64 (l.length + 1)) (cur := #[v, .int .i64 l.length]) (e := T) (f := (0, 0))
      (by rw [heap_setCell_ne (fun e => hgB e.symm)]; exact h1) rfl
    simpa using e
  · have hs := (Owns.keep (w' := w.drew) h2 ((Touch.refl (fun _ => False) w).drew) (fun _ _ h => h)).set (l.length / 8) (.int .u8 (byteB hi (l ++ [b]) (l.length / 8))) (by omega)
    rw [← u8s_set, packs_snoc_mid hi l b h8] at hs
    have hl : ((l ++ [b]).length + 7) / 8 = (l.length + 7) / 8 := by simp; omega
    rw [hl]
    exact hs.keep ((Touch.refl (fun k => k = B) _).setCell (Or.inl rfl) _) (fun g' e h => by cases e; exact hgB h)
  · exact (((Touch.refl _ w).drew.setCell (Or.inl (Or.inr rfl)) _).setCell (Or.inl (Or.inl rfl)) _)
/-- the world behind a bit for which a byte was laid. -/
theorem bit_new_post {T : Nat} {hi : Bool} {w w1 : World} {B g cap : Nat} {og : Option Nat} {l : List Bool} {b : Bool} (h : IsW T hi w B og l) (h8 : l.length % 8 = 0)
    (ho : w1.ownsRow 0 5 1 (.slice (some ⟨g, 0, none⟩) ((packs hi l).length + 1) cap) ((packs hi l).length + 1) (u8s (packs hi l) ++ [.int .u8 0])) (hg : w.grownBy w1 og) (hat : og = some g ∨ g = w.heap.size + 1) (hgB : g ≠ B) :
    WPost T hi w B og (l ++ [b]) ((((w1.setCell ⟨B, 0, none⟩ (.slice (some ⟨g, 0, none⟩) ((packs hi l).length + 1) cap)).setCell ⟨g, l.length / 8, none⟩ (.int .u8 (byteB hi (l ++ [b]) (l.length / 8)))).setCell ⟨B, 1, none⟩ (.int .i64 (l.length + 1)))).drew := by
  obtain ⟨v, h1, h2, h3⟩ := h
  have hB1 : w1.heap[B]? = some (.cells #[v, .int .i64 l.length] T (0, 0)) := (hg.block B (block_lt h1) (fun e => h3 e.symm)).trans h1
  have hlen : (packs hi l).length = l.length / 8 := by rw [length_packs]; omega
  refine ⟨some g, ⟨.slice (some ⟨g, 0, none⟩) ((packs hi l).length + 1) cap, ?_, ?_, fun e => hgB (by simpa using e)⟩, ?_, ?_⟩
  · have e0 := heap_setCell_at (w := w1) (a := ⟨B, 0, none⟩) (u := .slice (some ⟨g, 0, none⟩) ((packs hi l).length + 1) cap) hB1 rfl
    have e := heap_setCell_at (w := ((w1.setCell ⟨B, 0, none⟩ (.slice (some ⟨g, 0, none⟩) ((packs hi l).length + 1) cap)).setCell ⟨g, l.length / 8, none⟩ (.int .u8 (byteB hi (l ++ [b]) (l.length / 8))))) (a := ⟨B, 1, none⟩) (u := .int .i64 (l.length + 1)) (cur := #[.slice (some ⟨g, 0, none⟩) ((packs hi l).length + 1) cap, .int .i64 l.length]) (e := T) (f := (0, 0))
      (by rw [heap_setCell_ne (fun e => hgB e.symm)]; simpa using e0) rfl
    have e2 : ((((w1.setCell ⟨B, 0, none⟩ (.slice (some ⟨g, 0, none⟩) ((packs hi l).length + 1) cap)).setCell ⟨g, l.length / 8, none⟩ (.int .u8 (byteB hi (l ++ [b]) (l.length / 8)))).setCell ⟨B, 1, none⟩ (.int .i64 (l.length + 1)))).drew.heap[B]? = _ := e
    rw [e2]; simp
  · have hs := (Owns.keep (w' := w1.setCell ⟨B, 0, none⟩ (.slice (some ⟨g, 0, none⟩) ((packs hi l).length + 1) cap)) (S := fun k => k = B) (⟨ho, rfl⟩ : Owns w1 5 1 _ (some g) _ _) ((Touch.refl (fun k => k = B) w1).setCell (Or.inl rfl) _) (fun g' e h => hgB (by cases e; exact h))).set (l.length / 8) (.int .u8 (byteB hi (l ++ [b]) (l.length / 8))) (by omega)
    have e0 : u8s (packs hi l) ++ [.int .u8 0] = u8s (packs hi l ++ [0]) := by simp [u8s]
    rw [e0, ← u8s_set, packs_snoc_new hi l b h8] at hs
    have hl : ((l ++ [b]).length + 7) / 8 = (packs hi l).length + 1 := by simp; omega
    rw [hl]
    exact (hs.keep ((Touch.refl (fun k => k = B) _).setCell (Or.inl rfl) _) (fun g' e h => hgB (by cases e; exact h))).keep ((Touch.refl (fun _ => False) _).drew) (fun _ _ h => h)
  · rcases hat with h | h
    · exact Or.inl h.symm
    · exact Or.inr ⟨g, rfl, by omega⟩
  · have hk : ∀ k, k = g → FP B og k ∨ w.heap.size ≤ k := by
      rintro k rfl
      rcases hat with h | h
      · exact Or.inl (Or.inr h)
      · exact Or.inr (by omega)
    exact (((((Touch.refl (FP B og) w).grown hg (fun k e => Or.inl (Or.inr e))).setCell (Or.inl (Or.inl rfl)) _).setCell (hk g rfl) _).setCell (Or.inl (Or.inl rfl)) _).drew
theorem align_post {T : Nat} {hi : Bool} {w : World} {B : Nat} {og : Option Nat} {l : List Bool} (h : IsW T hi w B og l) :
    WPost T hi w B og (alignB l) (w.setCell ⟨B, 1, none⟩ (.int .i64 (8 * (((l.length : Int) + 7) / 8)))) := by
  obtain ⟨v, h1, h2, h3⟩ := h
  refine ⟨og, ⟨v, ?_, ?_, h3⟩, Near.refl _ _, (Touch.refl _ w).setCell (Or.inl (Or.inl rfl)) _⟩
  · have e := heap_setCell_at (w := w) (a := ⟨B, 1, none⟩) (u := .int .i64 (8 * (((l.length : Int) + 7) / 8))) h1 rfl
    rw [e]; simp [length_alignB]
  · rw [packs_alignB, length_alignB, show (8 * ((l.length + 7) / 8) + 7) / 8 = (l.length + 7) / 8 by omega]
    exact h2.keep ((Touch.refl (fun k => k = B) w).setCell (Or.inl rfl) _) (fun g e hk => h3 (by rw [e]; exact congrArg some hk))
theorem IsW.ext {T : Nat} {hi : Bool} {w w' : World} {B : Nat} {og : Option Nat} {l : List Bool} (h : IsW T hi w B og l) (ht : Ext w w') : IsW T hi w' B og l := h.keep ht (fun f => f) (fun _ _ f => f)
/-- a writer whose blocks are new ones, from block n on. -/
def NewW (n : Nat) (B : Nat) (og : Option Nat) : Prop := n ≤ B ∧ ∀ g, og = some g → n ≤ g
theorem NewW.near {n B : Nat} {og og' : Option Nat} {w : World} (h : NewW n B og) (hn : Near og og' w) (hw : n ≤ w.heap.size) : NewW n B og' := by
  refine ⟨h.1, fun g e => ?_⟩
  rcases hn with rfl | ⟨g', rfl, hg⟩
  · exact h.2 g e
  · cases e; omega
theorem NewW.fp {n B : Nat} {og : Option Nat} (h : NewW n B og) : ∀ i, i < n → ¬ FP B og i := by
  rintro i hi (rfl | e)
  · have := h.1; omega
  · have := h.2 i e; omega
/-- two things in memory that share no block: each a block of its own, and one that it points to. -/
def Dis (A : Nat) (oa : Option Nat) (B : Nat) (ob : Option Nat) : Prop := A ≠ B ∧ oa ≠ some B ∧ ob ≠ some A ∧ ∀ g, oa = some g → ob ≠ some g
theorem Dis.symm {A : Nat} {oa : Option Nat} {B : Nat} {ob : Option Nat} (h : Dis A oa B ob) : Dis B ob A oa := ⟨fun e => h.1 e.symm, h.2.2.1, h.2.1, fun g e e2 => h.2.2.2 g e2 e⟩
theorem Dis.near {A : Nat} {oa oa' : Option Nat} {B : Nat} {ob : Option Nat} {w : World} (h : Dis A oa B ob) (hn : Near oa oa' w) (hB : B < w.heap.size) (hb : ∀ g, ob = some g → g < w.heap.size) : Dis A oa' B ob := by
  rcases hn with rfl | ⟨g, rfl, hg⟩
  · exact h
  · exact ⟨h.1, fun e => by cases e; omega, h.2.2.1, fun g' e e2 => by cases e; have := hb g e2; omega⟩
theorem Dis.fp {A : Nat} {oa : Option Nat} {B : Nat} {ob : Option Nat} (h : Dis A oa B ob) : ¬ FP A oa B ∧ ∀ g, ob = some g → ¬ FP A oa g :=
  ⟨fun e => by rcases e with e | e; exact h.1 e.symm; exact h.2.1 e, fun g e f => by rcases f with f | f; exact h.2.2.1 (by rw [e, f]); exact h.2.2.2 g f e⟩
theorem Dis.keep {T : Nat} {hi : Bool} {A : Nat} {oa : Option Nat} {B : Nat} {ob : Option Nat} {l : List Bool} {w w' : World} (h : Dis A oa B ob) (hw : IsW T hi w B ob l) (ht : Touch (FP A oa) w w') : IsW T hi w' B ob l :=
  hw.keep ht h.fp.1 h.fp.2
/-- an act on a new thing turns nothing that was there. -/
theorem NewW.ext {A : Nat} {oa : Option Nat} {w0 w w' : World} (h : NewW w0.heap.size A oa) (he : Ext w0 w) (ht : Touch (FP A oa) w w') : Ext w0 w' := he.touch ht (fun i hi => h.fp i hi)
/-- a second writer beside a first, the third world behind an act on the first. -/
theorem act {T : Nat} {hi : Bool} {A : Nat} {oa : Option Nat} {l : List Bool} {w0 w w' : World} (h : WPost T hi w A oa l w') (hn : NewW w0.heap.size A oa) (he : Ext w0 w) :
    ∃ oa', IsW T hi w' A oa' l ∧ NewW w0.heap.size A oa' ∧ Near oa oa' w ∧ Ext w0 w' ∧ Touch (FP A oa) w w' := by
  obtain ⟨oa', h1, h2, h3⟩ := h
  exact ⟨oa', h1, hn.near h2 he.size, h2, hn.ext he h3, h3⟩
end Go.Proofs.YtbbcphloafmldaaGreat
