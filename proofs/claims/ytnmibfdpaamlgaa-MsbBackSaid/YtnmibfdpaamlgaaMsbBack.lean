/- pressworklaw02.MsbBack: its walk. -/
import Derived.Test.YtnmibfdpaamlgaaMsbLays
import Derived.Test.YtnmibfdpaamlgaaActRow
import Derived.Test.YtnmibfdpaamlgaaMsbActs
import Derived.StillTailTactics
namespace Go.Proofs.Ytnmibfdpaamlgaa
open Go.RowKit
set_option linter.unusedVariables false

theorem msb_infoA : (Try.prog.info? 53).map (fun i => (i.zero, i.size, i.bytes)) = some (some (.agg #[.int .u32 0, .int .i64 0, .bool false, .bool false]), 4, 24) := by kernel_rfl

/-- between two acts: the writer, and those that were done. -/
def MsbSt (w : World) (B : Nat) (row : List Bool) (D : List ActV) (dv : Value) (wr : World) : Prop :=
  ∃ og od, IsW 37 true wr B og row ∧ Owns wr 53 4 dv od D.length (acells D) ∧ NewW w.heap.size B og ∧ (∀ g, od = some g → w.heap.size ≤ g ∧ g ≠ B ∧ og ≠ some g) ∧ Ext w wr
theorem msb_st_row {w wr w' : World} {B : Nat} {row' : List Bool} {D : List ActV} {dv : Value} {og od : Option Nat} (h2 : Owns wr 53 4 dv od D.length (acells D)) (h3 : NewW w.heap.size B og)
    (h4 : ∀ g, od = some g → w.heap.size ≤ g ∧ g ≠ B ∧ og ≠ some g) (h5 : Ext w wr) (hp : WPost 37 true wr B og row' w') : MsbSt w B row' D dv w' := by
  obtain ⟨og', p1, p2, p3⟩ := hp
  have hfp : ∀ g, od = some g → ¬ FP B og g := fun g e f => by
    obtain ⟨_, q1, q2⟩ := h4 g e
    rcases f with f | f
    · exact q1 f
    · exact q2 f
  refine ⟨og', od, p1, h2.keep p3 hfp, h3.near p2 h5.size, fun g e => ?_, h3.ext h5 p3⟩
  obtain ⟨q0, q1, q2⟩ := h4 g e
  refine ⟨q0, q1, fun e2 => ?_⟩
  rcases p2 with rfl | ⟨g', rfl, hg⟩
  · exact q2 e2
  · cases e2; have := h2.lt g e; omega
/-- one more that was done. -/
theorem msb_st_push {w w1 w2 : World} {B : Nat} {row : List Bool} {D : List ActV} {dv v' : Value} {x : ActV} {o : Obj} (h : MsbSt w B row D dv w1) (hown : w2.ownsRow 0 53 4 v' (D.length + 1) (acells D ++ cells4 x))
    (hg : (w1.alloc o).grownBy w2 dv.ownBlock) (hat : v'.ownBlock = dv.ownBlock ∨ v'.ownBlock = some (w1.heap.size + 1)) : MsbSt w B row (D ++ [x]) v' w2 := by
  obtain ⟨og, od, h1, h2, h3, h4, h5⟩ := h
  have hg1 := grown_alloc hg
  have ht : Touch (fun k => od = some k) w1 w2 := (Touch.refl _ w1).grown hg1 (fun k e => Or.inl (by rw [← h2.2]; exact e))
  have hB : ¬ (od = some B) := fun e => (h4 B e).2.1 rfl
  refine ⟨og, v'.ownBlock, h1.keep ht hB (fun g e f => (h4 g f).2.2 e), ⟨by rw [acells_snoc, List.length_append]; exact hown, rfl⟩, h3, fun g e => ?_, h5.touch ht (fun i hi e => by have := (h4 i e).1; omega)⟩
  rcases hat with hat | hat
  · rw [hat, h2.2] at e; exact h4 g e
  · rw [hat] at e
    have e' : w1.heap.size + 1 = g := by simpa using e
    have := h1.lt
    refine ⟨by have := h5.size; omega, by omega, fun e2 => ?_⟩
    have := h1.glt g e2; omega
end Go.Proofs.Ytnmibfdpaamlgaa
