/- Bytes in memory, wherever they lie; clones. -/
import Derived.Test.YtaabmlnbadpfgaaWriter
import Derived.Test.YtaabmlnbadpfgaaRows
import Derived.Outline
import Derived.WalkSpells
import Derived.Deep.DeepMust
namespace Go.Proofs.Ytaabmlnbadpfgaa
open Go.RowKit

/-- a value that reads as bytes: nil, or a row wherever it lies. -/
def View (w : World) (v : Value) (bs : List Nat) : Prop :=
  (v = .slice none 0 0 ∧ bs = []) ∨ ∃ a cap, v = .slice (some a) bs.length cap ∧ ∀ j u, (u8s bs)[j]? = some u → w.cell? (a.add j) = some u
theorem Owns.view {w : World} {e : TypeId} {v : Value} {og : Option Nat} {bs : List Nat} (h : Owns w e 1 v og bs.length (u8s bs)) : View w v bs := by
  rcases h.form with ⟨_, h1, h2, h3⟩ | ⟨g, cap, cur, rfl, rfl, hh, hcap, _, _, htake⟩
  · exact Or.inl ⟨h1, by simpa [u8s] using h3⟩
  · exact Or.inr ⟨_, cap, rfl, fun j u hu => h.1.cells (g := g) rfl j u hu⟩
theorem View.ext {w w' : World} {v : Value} {bs : List Nat} (h : View w v bs) (ht : Ext w w') : View w' v bs := by
  rcases h with h | ⟨a, cap, rfl, hc⟩
  · exact Or.inl h
  · exact Or.inr ⟨a, cap, rfl, fun j u hu => cell_touch ht (hc j u hu) (fun f => f)⟩
theorem View.shape {w : World} {v : Value} {bs : List Nat} (h : View w v bs) : ∃ ao cap, v = .slice ao bs.length cap := by
  rcases h with ⟨rfl, rfl⟩ | ⟨a, cap, rfl, _⟩
  · exact ⟨none, 0, rfl⟩
  · exact ⟨_, _, rfl⟩
/-- bytes in a block that has just been laid. -/
theorem view_new (w : World) (bs : List Nat) (e : TypeId) (fr : Nat × Nat) : View (w.alloc (.cells (u8s bs).toArray e fr)) (.slice (some ⟨w.heap.size, 0, none⟩) bs.length bs.length) bs := by
  refine Or.inr ⟨_, _, rfl, fun j u hu => ?_⟩
  have e2 : (⟨w.heap.size, 0, none⟩ : Addr).add j = ⟨w.heap.size, j, none⟩ := by unfold Addr.add; split <;> simp_all
  rw [e2, World.cell?, heap_alloc_new]
  simpa using hu
/-- what a clone is. -/
def CloneOf (w : World) (bs : List Nat) (e : Ending) (w' : World) : Prop :=
  ∃ v og, e = .returned v ∧ Owns w' 5 1 v og bs.length (u8s bs) ∧ (∀ g, og = some g → w.heap.size ≤ g) ∧ Touch (fun _ => False) w w'
theorem u8s_one (bs : List Nat) : ∀ u ∈ u8s bs, u.oneCell' = true := by
  intro u hu
  obtain ⟨b, _, rfl⟩ := List.mem_map.1 hu
  rfl
theorem info_u8 : (Try.prog.info? 5).map (fun i => (i.zero, i.size, i.bytes)) = some (some (.int .u8 0), 1, 1) := by kernel_rfl

theorem run_eql_slice_nil_any {P : Program} (w : World) (t e : TypeId) (a : Option Addr) (n c : Nat) (h : P.underlying t = some (.slice e)) :
    (binOp .eql t (.slice a n c) (.slice none 0 0)).run P w = .ok (.bool a.isNone) w := by
  simp only [binOp]
  simp [Op.equal, Op.maxDepth, Lib.run_equalIn_slice_nil w 9999 t e a n c 0 0 h]

end Go.Proofs.Ytaabmlnbadpfgaa
