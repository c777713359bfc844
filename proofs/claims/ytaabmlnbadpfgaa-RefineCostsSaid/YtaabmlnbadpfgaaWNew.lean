/- A new writer; bytes just laid. -/
import Derived.Test.YtaabmlnbadpfgaaBO
import Derived.Test.YtaabmlnbadpfgaaWriter
import Derived.Test.YtaabmlnbadpfgaaStr
namespace Go.Proofs.Ytaabmlnbadpfgaa
open Go.RowKit
set_option linter.unusedVariables false

theorem pick_zero (w : World) : IsW 46 true (w.alloc (.cells #[.slice none 0 0, .int .i64 0] 46)) w.heap.size none [] :=
  ⟨.slice none 0 0, by simpa using heap_alloc_new w (.cells #[.slice none 0 0, .int .i64 0] 46), ⟨World.ownsRow_nil _ _ _ _, rfl⟩, by simp⟩
/-- bytes in a block just laid. -/
theorem viewL_new (w : World) (bs : List Nat) (xs : List Value) (hx : xs = u8s bs) (e : TypeId) (fr : Nat × Nat) : ViewL (w.alloc (.cells xs.toArray e fr)) (.slice (some ⟨w.heap.size, 0, none⟩) bs.length bs.length) (u8s bs) := by
  subst hx
  have h := view_new w bs e fr
  refine h.viewL (fun a n cap e => ?_)
  cases e; exact Nat.le_refl _
theorem writer_new (w w' : World) (x : Ext (w.alloc (.cells #[.slice none 0 0, .int .i64 0] 46)) w') : IsW 46 true w' w.heap.size none [] := (pick_zero w).ext x
theorem fp_new (w : World) (og : Option Nat) (h : Near none og w) : ∀ i, i < w.heap.size → ¬ FP w.heap.size og i := fun i hi e => by
  rcases e with e | e
  · omega
  · rcases h with h | ⟨g, h, hg⟩
    · rw [h] at e; cases e
    · rw [h] at e; cases e; omega
theorem view_block {w : World} {v : Value} {bs : List Nat} (h : ViewL w v (u8s bs)) (h0 : 0 < bs.length) : ∀ b o n c, v = .slice (some ⟨b, o, none⟩) n c → b < w.heap.size := fun b o n c e => by
  obtain ⟨ao', cap', e', _, _, h3⟩ := h
  obtain ⟨b', o', rfl, hc⟩ := h3 (by rwa [length_u8s])
  rw [e] at e'
  cases e'
  exact World.block_lt_of_cell? _ _ (hc 0 _ (by rw [getElem?_u8s _ _ h0]))
end Go.Proofs.Ytaabmlnbadpfgaa
