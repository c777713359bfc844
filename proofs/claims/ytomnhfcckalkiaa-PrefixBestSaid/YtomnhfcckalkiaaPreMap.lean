/- Maps of words: what they hold, looked up and stored. -/
import Derived.DeepKeys4
import Derived.Maps.Own
import Derived.Test.YtomnhfcckalkiaaTouch
import Derived.Test.YtomnhfcckalkiaaBits
import Derived.Test.YtomnhfcckalkiaaRows
namespace Go.Proofs.Ytomnhfcckalkiaa
open Go.RowKit Go.ChangeMaps Go.WideMaps
set_option linter.unusedVariables false

/-- a word as a key. -/
def wk (v k : Nat) : Value := .agg #[.int .u32 v, .int .u8 k]
theorem pre_laidOut : laidOutB Try.prog = true := by kernel_rfl
theorem pre_row : (71 : TypeId) < Try.prog.types.size := of_decide_eq_true (by kernel_rfl)
theorem pre_wide : (match Try.prog.underlying 71 with | some (.array _ _) | some (.struct _) => true | _ => false) = true := by rw [Try.underlying71]
set_option maxRecDepth 100000 in
theorem pre_law : KeyLaw Try.prog 71 := deep_law_laid pre_laidOut (m := 2) (by omega) pre_row (by kernel_rfl) pre_wide
theorem pre_cells : Try.prog.cellsOf 71 = 2 := by kernel_rfl
theorem pre_keyType : Try.prog.keyType 71 = true := by kernel_rfl
theorem pre_cells1 : Try.prog.cellsOf 69 = 1 := by kernel_rfl
theorem pre_cells2 : Try.prog.cellsOf 5 = 1 := by kernel_rfl
theorem wf_u32 (v : Nat) (h : v < 4294967296) : (Lit.int .u32 v).wf = true := by simp [Lit.wf, IntKind.min, IntKind.max, IntKind.signed, IntKind.bits]; omega
theorem wf_u8 (v : Nat) (h : v < 256) : (Lit.int .u8 v).wf = true := by simp [Lit.wf, IntKind.min, IntKind.max, IntKind.signed, IntKind.bits]; omega
theorem pre_lits (d v k : Nat) (hv : v < 4294967296) (hk : k < 256) : Try.prog.keyLits (d + 2) 71 [.int .u32 v, .int .u8 k] = some [.int .u32 v, .int .u8 k] := by
  have e1 := wf_u32 v hv
  have e2 := wf_u8 k hk
  simp [Program.keyLits, Try.underlying71, pre_cells, Try.underlying69, Try.underlying5, pre_cells1, pre_cells2, e1, e2]
theorem key_word (v k : Nat) (hv : v < 4294967296) (hk : k < 256) : ∃ l, keyOf Try.prog 71 (wk v k) = some l := by
  have h2 : (wk v k).formed Try.prog 71 = true := by simp [wk, Value.formed, Try.underlying71, pre_cells]
  obtain ⟨d, hd⟩ : ∃ d, Try.prog.types.size + 1 = d + 2 := ⟨Try.prog.types.size - 1, by have : 1 ≤ Try.prog.types.size := Nat.one_le_of_lt pre_row; omega⟩
  have h3 := pre_lits d v k hv hk
  rw [← hd] at h3
  refine ⟨.string (keyBytes [.int .u32 v, .int .u8 k]), ?_⟩
  unfold keyOf
  rw [Try.underlying71]
  simp only [pre_keyType, h2, Bool.and_self, if_true]
  show (Try.prog.keyLits (Try.prog.types.size + 1) 71 [.int .u32 v, .int .u8 k]).map _ = _
  rw [h3]; rfl
theorem wk_inj {v k v' k' : Nat} (h : wk v k = wk v' k') : v = v' ∧ k = k' := by
  simp only [wk, Value.agg.injEq, Array.mk.injEq, List.cons.injEq, Value.int.injEq, true_and, and_true] at h
  omega
/-- block b is a map of words that holds what R says. -/
structure MapIs (w : World) (b : Nat) (R : Nat → Nat → Int → Prop) : Prop where
  is : ∃ es clock, w.heap[b]? = some (.map es clock) ∧ (∀ e ∈ es.toList, ∃ v k a, e.key = wk v k ∧ v < 4294967296 ∧ k < 256 ∧ e.val = .int .i64 a ∧ R v k a) ∧ ∀ v k a, R v k a → ∃ e ∈ es.toList, e.key = wk v k
theorem MapIs.keep {w w' : World} {b : Nat} {R : Nat → Nat → Int → Prop} {S : Nat → Prop} (h : MapIs w b R) (t : Touch S w w') (hn : ¬ S b) : MapIs w' b R := by
  obtain ⟨es, clock, h1, h2⟩ := h
  exact ⟨es, clock, t.keep h1 hn, h2⟩
theorem MapIs.lt {w : World} {b : Nat} {R : Nat → Nat → Int → Prop} (h : MapIs w b R) : b < w.heap.size := by
  obtain ⟨es, clock, h1, h2⟩ := h
  exact block_lt h1
theorem MapIs.new (w : World) {R : Nat → Nat → Int → Prop} (hR : ∀ v k a, ¬ R v k a) : MapIs (w.alloc (.map #[] 0)) w.heap.size R :=
  ⟨#[], 0, heap_alloc_new w _, by simp, fun v k a h => (hR v k a h).elim⟩
theorem MapIs.cong {w : World} {b : Nat} {R R' : Nat → Nat → Int → Prop} (h : MapIs w b R) (e : ∀ v k a, R v k a ↔ R' v k a) : MapIs w b R' := by
  obtain ⟨es, clock, h1, h2, h3⟩ := h
  refine ⟨es, clock, h1, fun x hx => ?_, fun v k a hr => h3 v k a ((e v k a).2 hr)⟩
  obtain ⟨v, k, a, q1, q2, q3, q4, q5⟩ := h2 x hx
  exact ⟨v, k, a, q1, q2, q3, q4, (e v k a).1 q5⟩
theorem MapIs.find {w : World} {b v k : Nat} {R : Nat → Nat → Int → Prop} (h : MapIs w b R) (hv : v < 4294967296) (hk : k < 256) :
    ∃ es clock, w.heap[b]? = some (.map es clock) ∧ (∀ e ∈ es.toList, ∃ v k a, e.key = wk v k ∧ v < 4294967296 ∧ k < 256 ∧ e.val = .int .i64 a ∧ R v k a) ∧ (∀ v k a, R v k a → ∃ e ∈ es.toList, e.key = wk v k) ∧
      (((Instr.findKey 71 (wk v k) es.toList).run Try.prog w = .ok none w ∧ ∀ a, ¬ R v k a) ∨
       ∃ j e a, (Instr.findKey 71 (wk v k) es.toList).run Try.prog w = .ok (some (j, e.val)) w ∧ es.toList[j]? = some e ∧ e.key = wk v k ∧ e.val = .int .i64 a ∧ R v k a) := by
  obtain ⟨es, clock, h1, h2, h3⟩ := h
  refine ⟨es, clock, h1, h2, h3, ?_⟩
  obtain ⟨l, hl⟩ := key_word v k hv hk
  rcases pre_law.find w hl es.toList (fun e he => by
    obtain ⟨v, k, a, q1, q2, q3, _⟩ := h2 e he
    rw [q1]; exact key_word v k q2 q3) with ⟨r1, r2⟩ | ⟨j, e, r1, r2, r3⟩
  · refine Or.inl ⟨r1, fun a hr => ?_⟩
    obtain ⟨e, he, hk⟩ := h3 v k a hr
    exact r2 e he hk
  · obtain ⟨v', k', a, q1, q2, q3, q4, q5⟩ := h2 e (List.mem_of_getElem? r2)
    rw [r3] at q1
    obtain ⟨rfl, rfl⟩ := wk_inj q1
    exact Or.inr ⟨j, e, a, r1, r2, r3, q4, q5⟩
/-- 'v, ok := m[word]'. -/
theorem MapIs.look {w : World} {b v k : Nat} {R : Nat → Nat → Int → Prop} (h : MapIs w b R) (hv : v < 4294967296) (hk : k < 256) :
    (∃ a, R v k a ∧ (Instr.lookup 66 (.map (some b)) (wk v k) true).run Try.prog w = .ok (.tuple #[.int .i64 a, .bool true]) w) ∨
    ((∀ a, ¬ R v k a) ∧ (Instr.lookup 66 (.map (some b)) (wk v k) true).run Try.prog w = .ok (.tuple #[.int .i64 0, .bool false]) w) := by
  obtain ⟨es, clock, h1, h2, h3, h4⟩ := h.find hv hk
  obtain ⟨l, hl⟩ := key_word v k hv hk
  have hz : (zeroValue 3).run Try.prog w = .ok (.int .i64 0) w := by kernel_rfl
  rcases h4 with ⟨r1, r2⟩ | ⟨j, e, a, r1, r2, r3, r4, r5⟩
  · exact Or.inr ⟨r2, by simp [Instr.lookup, run_underlying Try.underlying66, MapKept.run_getObj_map h1, pre_law.check w _ hl, r1, hz, Result.andThen]⟩
  · exact Or.inl ⟨a, r5, by simp [Instr.lookup, run_underlying Try.underlying66, MapKept.run_getObj_map h1, pre_law.check w _ hl, r1, r4, Result.andThen]⟩
/-- 'm[word] = a', where the word holds nothing yet, or that. -/
theorem MapIs.store {w : World} {b v k : Nat} {R : Nat → Nat → Int → Prop} (h : MapIs w b R) (hv : v < 4294967296) (hk : k < 256) (a : Int) (ha : ∀ a', R v k a' → a' = a) :
    ∃ w', (Instr.mapUpdate 66 (.map (some b)) (wk v k) (.int .i64 a)).run Try.prog w = .ok () w' ∧ MapIs w' b (fun v' k' a' => R v' k' a' ∨ (v' = v ∧ k' = k ∧ a' = a)) ∧ Touch (fun i => i = b) w w' := by
  obtain ⟨es, clock, h1, h2, h3, h4⟩ := h.find hv hk
  obtain ⟨l, hl⟩ := key_word v k hv hk
  have ht : ∀ o, Touch (fun i => i = b) w (setBlock w b o) := fun o => ⟨rfl, rfl, rfl, by simp [setBlock], fun i _ hi => heap_setBlock_other h1 _ hi⟩
  rcases h4 with ⟨r1, r2⟩ | ⟨j, e, a', r1, r2, r3, r4, r5⟩
  · refine ⟨setBlock w b (.map (es.push ⟨wk v k, .int .i64 a, clock⟩) (clock + 1)), ?_, ⟨_, _, heap_setBlock_same h1 _, fun x hx => ?_, fun v' k' a' hr => ?_⟩, ht _⟩
    · simp [Instr.mapUpdate, run_underlying Try.underlying66, MapKept.run_getObj_map h1, pre_law.check w false hl, r1, MapKept.run_setObj_map _ h1, Result.andThen, setBlock]
    · simp only [Array.toList_push, List.mem_append, List.mem_singleton] at hx
      rcases hx with hx | rfl
      · obtain ⟨v', k', a', q1, q2, q3, q4, q5⟩ := h2 x hx
        exact ⟨v', k', a', q1, q2, q3, q4, Or.inl q5⟩
      · exact ⟨v, k, a, rfl, hv, hk, rfl, Or.inr ⟨rfl, rfl, rfl⟩⟩
    · simp only [Array.toList_push, List.mem_append, List.mem_singleton]
      rcases hr with hr | ⟨rfl, rfl, rfl⟩
      · obtain ⟨x, hx, hxk⟩ := h3 v' k' a' hr
        exact ⟨x, Or.inl hx, hxk⟩
      · exact ⟨_, Or.inr rfl, rfl⟩
  · obtain rfl := ha a' r5
    have hj : es[j]? = some e := by simpa using r2
    have hjl : j < es.toList.length := (List.getElem?_eq_some_iff.1 r2).1
    have hlist : (es.modify j (fun e' => { e' with key := wk v k, val := .int .i64 a' })).toList = es.toList.set j { e with key := wk v k, val := .int .i64 a' } := by rw [Array.toList_modify, modify_eq_set _ _ _ _ r2]
    have hsame : es.toList.set j { e with key := wk v k, val := .int .i64 a' } = es.toList := by
      rw [← r3, ← r4]
      have : es.toList[j] = e := by rw [List.getElem?_eq_getElem hjl] at r2; exact Option.some.inj r2
      conv => rhs; rw [← List.set_getElem_self hjl]
      rw [this]
    refine ⟨setBlock w b (.map (es.modify j (fun e' => { e' with key := wk v k, val := .int .i64 a' })) clock), ?_, ⟨_, _, heap_setBlock_same h1 _, fun x hx => ?_, fun v' k' b' hr => ?_⟩, ht _⟩
    · simp [Instr.mapUpdate, run_underlying Try.underlying66, MapKept.run_getObj_map h1, pre_law.check w false hl, r1, hj, r3, pre_law.stays w hl, MapKept.run_setObj_map _ h1, Result.andThen, setBlock]
    · rw [hlist, hsame] at hx
      obtain ⟨v', k', a', q1, q2, q3, q4, q5⟩ := h2 x hx
      exact ⟨v', k', a', q1, q2, q3, q4, Or.inl q5⟩
    · rw [hlist, hsame]
      rcases hr with hr | ⟨rfl, rfl, rfl⟩
      · exact h3 v' k' b' hr
      · exact h3 _ _ _ r5
end Go.Proofs.Ytomnhfcckalkiaa
