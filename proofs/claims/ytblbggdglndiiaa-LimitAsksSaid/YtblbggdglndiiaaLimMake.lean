/- Rows just made: bytes, and rows of the work. -/
import Derived.Test.YtblbggdglndiiaaLimPut
import Derived.Test.YtblbggdglndiiaaBO
namespace Go.Proofs.Ytblbggdglndiiaa
open Go.RowKit
set_option linter.unusedVariables false

theorem make_ownsL (w : World) (t e : TypeId) (i : TypeInfo) (z : Value) (n : Nat) (h1 : Try.prog.underlying t = some (.slice e)) (h2 : Try.prog.info? e = some i) (h3 : i.zero = some z) (h4 : i.size = 1) (h5 : i.bytes ≤ 8) (hz : z.cells = #[z]) (hn : n ≤ 2 ^ 40) :
    ∃ w', (Instr.makeSlice t (.int .i64 (n : Int)) (.int .i64 (n : Int))).run Try.prog w = .ok (.slice (some ⟨w.heap.size, 0, none⟩) n n) w' ∧ Owns w' e 1 (.slice (some ⟨w.heap.size, 0, none⟩) n n) (some w.heap.size) n (List.replicate n z) ∧ Ext w w' := by
  obtain ⟨w', hrun, r1, r2⟩ := run_make_full (P := Try.prog) w 0 t e i z 1 h1 h2 h3 h4 .i64 .i64 n (by
    have : i.bytes * n ≤ 8 * 2 ^ 40 := Nat.mul_le_mul h5 hn
    omega) (by unfold maxLen; omega) (Nat.zero_le _)
  refine ⟨w', hrun, ⟨?_, rfl⟩, (Touch.refl _ w).grown r2 (fun k e => by cases e)⟩
  rw [hz, Nat.mul_one, made_one] at r1
  exact r1
/-- bytes, all 0, just made. -/
theorem make_u8 (w : World) (n : Nat) (hn : n ≤ 2 ^ 40) :
    ∃ w', (Instr.makeSlice 26 (.int .i64 (n : Int)) (.int .i64 (n : Int))).run Try.prog w = .ok (.slice (some ⟨w.heap.size, 0, none⟩) n n) w' ∧ BO w (List.replicate n 0) (.slice (some ⟨w.heap.size, 0, none⟩) n n) w' := by
  obtain ⟨i0, hi, hz0, hz1, hz2⟩ := info_parts info_u8
  obtain ⟨w', h1, h2, h3⟩ := make_ownsL w 26 5 i0 (.int .u8 0) n Try.underlying26 hi hz0 hz1 (by omega) rfl hn
  refine ⟨w', h1, some w.heap.size, ?_, fun g e => (by cases e; exact Nat.le_refl _), h3⟩
  have e : u8s (List.replicate n 0) = List.replicate n (.int .u8 0) := by simp [u8s]
  rw [List.length_replicate, e]; exact h2
theorem info_lrow : (Try.prog.info? 45).map (fun i => (i.size, i.bytes)) = some (2, 48) := by kernel_rfl
theorem zero_row : ((Try.prog.info? 45).bind (·.zero)).isSome = true := by kernel_rfl
/-- rows of the work, just made. -/
theorem make_rows (w : World) (n : Nat) (hn : n ≤ 2 ^ 20) :
    ∃ w' cur, (Instr.makeSlice 43 (.int .i64 (n : Int)) (.int .i64 (n : Int))).run Try.prog w = .ok (.slice (some ⟨w.heap.size, 0, none⟩) n n) w' ∧ w'.heap[w.heap.size]? = some (.cells cur 45 (0, 0)) ∧ cur.size = 2 * n ∧ Ext w w' := by
  have hi := info_lrow
  have hz := zero_row
  cases h : Try.prog.info? 45 with
  | none => rw [h] at hi; cases hi
  | some i =>
    rw [h] at hi hz
    simp only [Option.map_some, Option.some.injEq, Prod.mk.injEq] at hi
    cases hzz : i.zero with
    | none => simp [hzz] at hz
    | some z =>
      obtain ⟨w', hrun, r1, r2⟩ := run_make_full (P := Try.prog) w 0 43 45 i z 2 Try.underlying43 h hzz hi.1 .i64 .i64 n (by rw [hi.2]; omega) (by unfold maxLen; omega) (Nat.zero_le _)
      rcases r1.2 with ⟨h1, _⟩ | ⟨g, cap, cur, h1, _, hh, _, _, hs, _⟩
      · cases h1
      · cases h1
        exact ⟨w', cur, hrun, hh, by omega, (Touch.refl _ w).grown r2 (fun k e => by cases e)⟩
end Go.Proofs.Ytblbggdglndiiaa
