/- frame.Get's deferred closure: its walk. -/
import Derived.Defers
import Derived.Recover
import Derived.Test.YtmhkjcoidjpocaaFrmTail
namespace Go.Proofs.Ytmhkjcoidjpocaa
open Go.RowKit
set_option linter.unusedVariables false
set_option linter.unusedSimpArgs false

theorem frm_assert (w : World) : (Instr.typeAssert (.iface 27 (.int .i64 2)) 20 27 true).run Try.prog w = .ok (.tuple #[.int .i64 2, .bool true]) w := by kernel_rfl
theorem frm_assert_nil (w : World) : (Instr.typeAssert .nilIface 20 27 true).run Try.prog w = .ok (.tuple #[.int .i64 0, .bool false]) w := by kernel_rfl
theorem frm_get_idle (p q r s : Addr) (w : World) :
    CallsD Try.prog 26 #[.pointer (some p), .pointer (some q), .pointer (some r), .pointer (some s)] .returning w fun e u' w' => e = .returned (.tuple #[]) ∧ u' = .returning ∧ w' = w := by
  refine callsD_of_wpS Try.func26 rfl fun c₀ cs hu => ?_
  have ha := frm_assert_nil
  simp only [Try.ntmps26, List.size_toArray, List.length_cons, List.length_nil, Nat.reduceAdd, Nat.reduceSub, Array.replicate_succ, Array.replicate_zero, List.push_toArray, List.append_toArray, List.nil_append, List.cons_append]
  apply wpS_seq
  apply wpS_region
  simp [wpOpsS, go_sem, recoverD, hu, ha, Exit.thenS]
  apply wpS_seq
  apply wpS_region
  simp [wpOpsS, go_sem, Exit.thenS]
  refine wpS_cond (t := false) (by simp [Act.eval]) ?_
  simp only [Bool.false_eq_true, if_false]
  refine wpS_of_wp (wp_skip ?_)
  cases c₀
  simp_all [bodyPostS, results, Try.results26]
theorem frm_get_catch (p q r s : Nat) (h : Hd) (ev : Value) (n : Int) (wr : Bool) (x : Int) (w : World) (hp : IsBox w p h ev) (hq : w.heap[q]? = some (.cells #[.int .i64 n] 3 (0, 0))) (hr : w.heap[r]? = some (.cells #[.bool wr] 4 (0, 0))) (hs : w.heap[s]? = some (.cells #[.int .i64 x] 27 (0, 0))) (d1 : q ≠ p) (d2 : r ≠ p) (d3 : s ≠ p) (d4 : r ≠ q) (d5 : s ≠ q) (d6 : s ≠ r) :
    CallsD Try.prog 26 #[.pointer (some ⟨p, 0, none⟩), .pointer (some ⟨q, 0, none⟩), .pointer (some ⟨r, 0, none⟩), .pointer (some ⟨s, 0, none⟩)] (.panicking [formF]) w fun e u' w' =>
      e = .returned (.tuple #[]) ∧ u' = .panicking [{ formF with recovered := true }] ∧ w' = (((((((((((w.setCell ⟨p, 0, none⟩ (.bool false)).setCell ⟨p, 1, none⟩ (.int .u32 0)).setCell ⟨p, 2, none⟩ (.int .u8 0)).setCell ⟨p, 3, none⟩ (.int .u8 0)).setCell ⟨p, 4, none⟩ (.slice none 0 0)).setCell ⟨p, 5, none⟩ (.string ⟨#[]⟩)).setCell ⟨p, 6, none⟩ (.string ⟨#[]⟩)).setCell ⟨p, 7, none⟩ (.int .u8 0)).setCell ⟨p, 8, none⟩ (.bool false)).setCell ⟨q, 0, none⟩ (.int .i64 0)).setCell ⟨r, 0, none⟩ (.bool false)).setCell ⟨s, 0, none⟩ (.int .i64 2) := by
  refine callsD_of_wpS Try.func26 rfl fun c₀ cs hu => ?_
  unfold formF at hu
  have ha := frm_assert
  simp only [Try.ntmps26, List.size_toArray, List.length_cons, List.length_nil, Nat.reduceAdd, Nat.reduceSub, Array.replicate_succ, Array.replicate_zero, List.push_toArray, List.append_toArray, List.nil_append, List.cons_append]
  apply wpS_seq
  apply wpS_region
  simp [wpOpsS, go_sem, recoverD, hu, ha, Exit.thenS]
  apply wpS_seq
  apply wpS_region
  simp [wpOpsS, go_sem, Exit.thenS]
  refine wpS_cond (t := true) (by simp [Act.eval]) ?_
  simp only [if_true]
  apply wpS_region
  have c0 : w.cell? ⟨p, 0, none⟩ = some (.bool h.text) := hp.cell 0
  have f0 : w.frozen? ⟨p, 0, none⟩ = false := Lib.frozen_of_heap hp _
  have c1 : w.cell? ⟨p, 1, none⟩ = some (.int .u32 h.time) := hp.cell 1
  have f1 : w.frozen? ⟨p, 1, none⟩ = false := Lib.frozen_of_heap hp _
  have c2 : w.cell? ⟨p, 2, none⟩ = some (.int .u8 h.xfl) := hp.cell 2
  have f2 : w.frozen? ⟨p, 2, none⟩ = false := Lib.frozen_of_heap hp _
  have c3 : w.cell? ⟨p, 3, none⟩ = some (.int .u8 h.os) := hp.cell 3
  have f3 : w.frozen? ⟨p, 3, none⟩ = false := Lib.frozen_of_heap hp _
  have c4 : w.cell? ⟨p, 4, none⟩ = some (ev) := hp.cell 4
  have f4 : w.frozen? ⟨p, 4, none⟩ = false := Lib.frozen_of_heap hp _
  have c5 : w.cell? ⟨p, 5, none⟩ = some (.string h.name) := hp.cell 5
  have f5 : w.frozen? ⟨p, 5, none⟩ = false := Lib.frozen_of_heap hp _
  have c6 : w.cell? ⟨p, 6, none⟩ = some (.string h.comment) := hp.cell 6
  have f6 : w.frozen? ⟨p, 6, none⟩ = false := Lib.frozen_of_heap hp _
  have c7 : w.cell? ⟨p, 7, none⟩ = some (.int .u8 h.has) := hp.cell 7
  have f7 : w.frozen? ⟨p, 7, none⟩ = false := Lib.frozen_of_heap hp _
  have c8 : w.cell? ⟨p, 8, none⟩ = some (.bool h.sum) := hp.cell 8
  have f8 : w.frozen? ⟨p, 8, none⟩ = false := Lib.frozen_of_heap hp _
  have cq : w.cell? ⟨q, 0, none⟩ = some (.int .i64 n) := by simp [World.cell?, hq]
  have fq : w.frozen? ⟨q, 0, none⟩ = false := Lib.frozen_of_heap hq _
  have cr : w.cell? ⟨r, 0, none⟩ = some (.bool wr) := by simp [World.cell?, hr]
  have fr : w.frozen? ⟨r, 0, none⟩ = false := Lib.frozen_of_heap hr _
  have cs : w.cell? ⟨s, 0, none⟩ = some (.int .i64 x) := by simp [World.cell?, hs]
  have fs : w.frozen? ⟨s, 0, none⟩ = false := Lib.frozen_of_heap hs _
  simp [wpOpsS, go_sem, c0, f0, c1, f1, c2, f2, c3, f3, c4, f4, c5, f5, c6, f6, c7, f7, c8, f8, cq, fq, cr, fr, cs, fs, bodyPostS, results, Try.results26, formF, d1, d2, d3, d4, d5, d6, d1.symm, d2.symm, d3.symm, d4.symm, d5.symm, d6.symm]
end Go.Proofs.Ytmhkjcoidjpocaa
