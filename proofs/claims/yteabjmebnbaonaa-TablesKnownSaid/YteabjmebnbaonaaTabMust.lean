/- tables.must; the deferred closures of lengths and chosen: their walks. -/
import Derived.WalkLawsBesides
import Derived.Defers
import Derived.Recover
import Derived.Test.YteabjmebnbaonaaTabSize
namespace Go.Proofs.Yteabjmebnbaonaa
open Go.RowKit
set_option linter.unusedVariables false

/-- the panic of the form. -/
def formP : PanicEntry := { v := .iface 23 (.int .i64 2), recovered := false }
theorem tab_must_ok (v : Nat) (w : World) (hv : v < 2 ^ 32) : Calls Try.prog 68 #[.int .u32 v, .int .i64 0] w fun e w' => e = .returned (.int .i64 v) ∧ w = w' := by
  go_enter Try.func68, Try.ntmps68
  go_wp2_with fail
  go_ret
  exact ⟨rfl, rfl⟩
theorem tab_must_bad (v x : Int) (w : World) (hx : x ≠ 0) : Calls Try.prog 68 #[.int .u32 v, .int .i64 x] w fun e w' => e = .panicked [formP] ∧ w = w' := by
  have h1 : (x == 0) = false := by rw [beq_eq_false_iff_ne]; exact hx
  have h2 : (x != 0) = true := by rw [bne_iff_ne]; exact hx
  go_enter Try.func68, Try.ntmps68
  go_wp2_with fail
  exact ⟨rfl, rfl, rfl⟩
theorem tab_assert (w : World) : (Instr.typeAssert (.iface 23 (.int .i64 2)) 20 23 true).run Try.prog w = .ok (.tuple #[.int .i64 2, .bool true]) w := by kernel_rfl
theorem tab_assert_nil (w : World) : (Instr.typeAssert .nilIface 20 23 true).run Try.prog w = .ok (.tuple #[.int .i64 0, .bool false]) w := by kernel_rfl
theorem tab_lengths_catch (p : Addr) (w : World) (x : Int) (hc : w.cell? p = some (.int .i64 x)) (hz : w.frozen? p = false) :
    CallsD Try.prog 67 #[.pointer (some p)] (.panicking [formP]) w fun e u' w' =>
      e = .returned (.tuple #[]) ∧ u' = .panicking [{ formP with recovered := true }] ∧ w' = w.setCell p (.int .i64 2) := by
  refine callsD_of_wpS Try.func67 rfl fun c₀ cs hu => ?_
  unfold formP at hu
  have ha := tab_assert
  simp only [Try.ntmps67, List.size_toArray, List.length_cons, List.length_nil, Nat.reduceAdd, Nat.reduceSub, Array.replicate_succ, Array.replicate_zero, List.push_toArray, List.append_toArray, List.nil_append, List.cons_append]
  apply wpS_seq
  apply wpS_region
  simp [wpOpsS, go_sem, recoverD, hu, ha, Exit.thenS]
  apply wpS_seq
  apply wpS_region
  simp [wpOpsS, go_sem, Exit.thenS]
  refine wpS_cond (t := true) (by simp [Act.eval]) ?_
  simp only [if_true]
  apply wpS_region
  simp [wpOpsS, go_sem, hc, hz, bodyPostS, results, Try.results67, formP]
theorem tab_lengths_idle (p : Addr) (w : World) :
    CallsD Try.prog 67 #[.pointer (some p)] .returning w fun e u' w' => e = .returned (.tuple #[]) ∧ u' = .returning ∧ w' = w := by
  refine callsD_of_wpS Try.func67 rfl fun c₀ cs hu => ?_
  have ha := tab_assert_nil
  simp only [Try.ntmps67, List.size_toArray, List.length_cons, List.length_nil, Nat.reduceAdd, Nat.reduceSub, Array.replicate_succ, Array.replicate_zero, List.push_toArray, List.append_toArray, List.nil_append, List.cons_append]
  apply wpS_seq
  apply wpS_region
  simp [wpOpsS, go_sem, recoverD, hu, ha, Exit.thenS]
  apply wpS_seq
  apply wpS_region
  simp [wpOpsS, go_sem, Exit.thenS]
  refine wpS_cond (t := false) (by simp [Act.eval]) ?_
  simp only [Bool.false_eq_true, if_false]
  refine wpS_of_wp (wp_skip ?_)
  cases c₀
  simp_all [bodyPostS, results, Try.results67]
theorem tab_chosen_catch (p : Addr) (w : World) (x : Int) (hc : w.cell? p = some (.int .i64 x)) (hz : w.frozen? p = false) :
    CallsD Try.prog 69 #[.pointer (some p)] (.panicking [formP]) w fun e u' w' =>
      e = .returned (.tuple #[]) ∧ u' = .panicking [{ formP with recovered := true }] ∧ w' = w.setCell p (.int .i64 2) := by
  refine callsD_of_wpS Try.func69 rfl fun c₀ cs hu => ?_
  unfold formP at hu
  have ha := tab_assert
  simp only [Try.ntmps69, List.size_toArray, List.length_cons, List.length_nil, Nat.reduceAdd, Nat.reduceSub, Array.replicate_succ, Array.replicate_zero, List.push_toArray, List.append_toArray, List.nil_append, List.cons_append]
  apply wpS_seq
  apply wpS_region
  simp [wpOpsS, go_sem, recoverD, hu, ha, Exit.thenS]
  apply wpS_seq
  apply wpS_region
  simp [wpOpsS, go_sem, Exit.thenS]
  refine wpS_cond (t := true) (by simp [Act.eval]) ?_
  simp only [if_true]
  apply wpS_region
  simp [wpOpsS, go_sem, hc, hz, bodyPostS, results, Try.results69, formP]
theorem tab_chosen_idle (p : Addr) (w : World) :
    CallsD Try.prog 69 #[.pointer (some p)] .returning w fun e u' w' => e = .returned (.tuple #[]) ∧ u' = .returning ∧ w' = w := by
  refine callsD_of_wpS Try.func69 rfl fun c₀ cs hu => ?_
  have ha := tab_assert_nil
  simp only [Try.ntmps69, List.size_toArray, List.length_cons, List.length_nil, Nat.reduceAdd, Nat.reduceSub, Array.replicate_succ, Array.replicate_zero, List.push_toArray, List.append_toArray, List.nil_append, List.cons_append]
  apply wpS_seq
  apply wpS_region
  simp [wpOpsS, go_sem, recoverD, hu, ha, Exit.thenS]
  apply wpS_seq
  apply wpS_region
  simp [wpOpsS, go_sem, Exit.thenS]
  refine wpS_cond (t := false) (by simp [Act.eval]) ?_
  simp only [Bool.false_eq_true, if_false]
  refine wpS_of_wp (wp_skip ?_)
  cases c₀
  simp_all [bodyPostS, results, Try.results69]
end Go.Proofs.Yteabjmebnbaonaa
