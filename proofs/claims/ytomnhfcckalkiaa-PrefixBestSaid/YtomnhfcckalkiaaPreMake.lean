/- Rows of 32-bit numbers; rows just made. -/
import Derived.Test.YtomnhfcckalkiaaWNew
namespace Go.Proofs.Ytomnhfcckalkiaa
open Go.RowKit
set_option linter.unusedVariables false

def u32s (l : List Nat) : List Value := l.map fun (b : Nat) => Value.int .u32 b
theorem length_u32s (l : List Nat) : (u32s l).length = l.length := by simp [u32s]
theorem u32s_set (l : List Nat) (i : Nat) (b : Nat) : u32s (l.set i b) = (u32s l).set i (.int .u32 b) := by simp [u32s, List.map_set]
theorem getElem?_u32s (l : List Nat) (i : Nat) (h : i < l.length) : (u32s l)[i]? = some (.int .u32 (l.getD i 0 : Nat)) := by
  simp [u32s, List.getD, List.getElem?_eq_getElem h]
theorem info_u32 : (Try.prog.info? 69).map (fun i => (i.zero, i.size, i.bytes)) = some (some (.int .u32 0), 1, 4) := by kernel_rfl
theorem make_owns (w : World) (t e : TypeId) (i : TypeInfo) (z : Value) (n : Nat) (h1 : Try.prog.underlying t = some (.slice e)) (h2 : Try.prog.info? e = some i) (h3 : i.zero = some z) (h4 : i.size = 1) (h5 : i.bytes ≤ 8) (hz : z.cells = #[z]) (hn : n ≤ 2 ^ 40) :
    ∃ w', (Instr.makeSlice t (.int .i64 (n : Int)) (.int .i64 (n : Int))).run Try.prog w = .ok (.slice (some ⟨w.heap.size, 0, none⟩) n n) w' ∧ Owns w' e 1 (.slice (some ⟨w.heap.size, 0, none⟩) n n) (some w.heap.size) n (List.replicate n z) ∧ Ext w w' := by
  obtain ⟨w', hrun, r1, r2⟩ := run_make_full (P := Try.prog) w 0 t e i z 1 h1 h2 h3 h4 .i64 .i64 n (by
    have : i.bytes * n ≤ 8 * 2 ^ 40 := Nat.mul_le_mul h5 hn
    omega) (by unfold maxLen; omega) (Nat.zero_le _)
  refine ⟨w', hrun, ⟨?_, rfl⟩, (Touch.refl _ w).grown r2 (fun k e => by cases e)⟩
  rw [hz, Nat.mul_one, made_one] at r1
  exact r1
/-- a row of 32-bit numbers, all 0, just made. -/
theorem make_u32 (w : World) (n : Nat) (hn : n ≤ 2 ^ 40) :
    ∃ w', (Instr.makeSlice 62 (.int .i64 (n : Int)) (.int .i64 (n : Int))).run Try.prog w = .ok (.slice (some ⟨w.heap.size, 0, none⟩) n n) w' ∧ Owns w' 69 1 (.slice (some ⟨w.heap.size, 0, none⟩) n n) (some w.heap.size) n (u32s (List.replicate n 0)) ∧ Ext w w' := by
  obtain ⟨i0, hi, hz0, hz1, hz2⟩ := info_parts info_u32
  have := make_owns w 62 69 i0 (.int .u32 0) n Try.underlying62 hi hz0 hz1 (by omega) rfl hn
  have e : u32s (List.replicate n 0) = List.replicate n (.int .u32 0) := by simp [u32s]
  rw [e]; exact this
/-- a row of 32-bit numbers in new memory. -/
def NewU (w : World) (l : List Nat) (v : Value) (w' : World) : Prop := ∃ og, Owns w' 69 1 v og l.length (u32s l) ∧ (∀ g, og = some g → w.heap.size ≤ g) ∧ Ext w w'
end Go.Proofs.Ytomnhfcckalkiaa
