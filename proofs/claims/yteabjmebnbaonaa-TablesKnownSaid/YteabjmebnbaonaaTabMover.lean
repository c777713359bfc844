/- tables.mover and its closure: their walks. -/
import Derived.StillTailTactics
import Derived.Laws.CopyRow
import Derived.Test.YteabjmebnbaonaaTabSelLaw
import Derived.Test.YteabjmebnbaonaaMem
namespace Go.Proofs.Yteabjmebnbaonaa
open Go.RowKit
set_option linter.unusedVariables false

def i64s (l : List Nat) : List Value := l.map fun (b : Nat) => Value.int .i64 b
theorem length_i64s (l : List Nat) : (i64s l).length = l.length := by simp [i64s]
theorem i64s_append (l m : List Nat) : i64s (l ++ m) = i64s l ++ i64s m := by simp [i64s]
theorem i64s_one (l : List Nat) : ∀ u ∈ i64s l, u.oneCell' = true := by
  intro u hu
  obtain ⟨b, _, rfl⟩ := List.mem_map.1 hu
  rfl
theorem getElem?_i64s (l : List Nat) (i : Nat) (h : i < l.length) : (i64s l)[i]? = some (.int .i64 (l.getD i 0 : Nat)) := by
  simp [i64s, List.getD, List.getElem?_eq_getElem h]
/-- a mover's list: its variable in block C, its array in block A. -/
def IsM (w : World) (C A : Nat) (l : List Nat) : Prop :=
  w.heap[C]? = some (.cells #[.pointer (some ⟨A, 0, none⟩)] 79 (0, 0)) ∧ w.heap[A]? = some (.cells (i64s l).toArray 90 (0, 0)) ∧ l.length = 6 ∧ A ≠ C
theorem IsM.keep {S : Nat → Prop} {w w' : World} {C A : Nat} {l : List Nat} (h : IsM w C A l) (ht : Touch S w w') (hC : ¬ S C) (hA : ¬ S A) : IsM w' C A l := ⟨ht.keep h.1 hC, ht.keep h.2.1 hA, h.2.2⟩
theorem IsM.lt {w : World} {C A : Nat} {l : List Nat} (h : IsM w C A l) : C < w.heap.size ∧ A < w.heap.size := ⟨block_lt h.1, block_lt h.2.1⟩
theorem IsM.cell {w : World} {C A : Nat} {l : List Nat} (h : IsM w C A l) (k : Nat) (hk : k < 6) : w.cell? ⟨A, k, none⟩ = some (.int .i64 (l.getD k 0 : Nat)) := by
  have := getElem?_i64s l k (by rw [h.2.2.1]; exact hk)
  rw [World.cell?, h.2.1]; simpa using this
theorem tab_mover (w : World) : Calls Try.prog 55 #[] w fun e w' => ∃ C A, e = .returned (.tuple #[.pointer (some ⟨A, 0, none⟩), .func (.func 66) #[] #[.pointer (some ⟨C, 0, none⟩)]]) ∧ IsM w' C A lst0 ∧ Ext w w' ∧ w.heap.size ≤ C ∧ w.heap.size ≤ A := by
  have hmf : ∀ (fn : Fn) (first cap : Array Value) (w : World), (Instr.makeFunc fn first cap).run Try.prog w = .ok (.func fn first cap) w := fun _ _ _ _ => rfl
  have HC := heap_alloc_new w (.cells #[.pointer (some ⟨w.heap.size + 1, 0, none⟩)] 79)
  have x1 : Ext w (w.alloc (.cells #[.pointer (some ⟨w.heap.size + 1, 0, none⟩)] 79)) := (Ext.refl w).alloc _
  have HA := heap_alloc_new (w.alloc (.cells #[.pointer (some ⟨w.heap.size + 1, 0, none⟩)] 79)) (.cells #[.int .i64 0, .int .i64 1, .int .i64 2, .int .i64 3, .int .i64 4, .int .i64 5] 90)
  rw [World.size_alloc] at HA
  have HM := Lib.hid (show IsM _ w.heap.size (w.heap.size + 1) lst0 from ⟨(Below.heap_alloc _ (.cells #[.int .i64 0, .int .i64 1, .int .i64 2, .int .i64 3, .int .i64 4, .int .i64 5] 90) _ (by rw [World.size_alloc]; omega)).trans HC, HA, rfl, by omega⟩)
  clear HC HA
  go_enter Try.func55, Try.ntmps55
  go_wp2_with fail
  refine bodyPost_ret (v := .tuple #[.pointer (some ⟨w.heap.size + 1, 0, none⟩), .func (.func 66) #[] #[.pointer (some ⟨w.heap.size, 0, none⟩)]]) ?_ rfl ⟨w.heap.size, w.heap.size + 1, rfl, HM.out, x1.alloc _, Nat.le_refl _, by omega⟩
  have hc : ((w.alloc (.cells #[.pointer (some ⟨w.heap.size + 1, 0, none⟩)] 79)).alloc (.cells #[.int .i64 0, .int .i64 1, .int .i64 2, .int .i64 3, .int .i64 4, .int .i64 5] 90)).cell? ⟨w.heap.size, 0, none⟩ = some (.pointer (some ⟨w.heap.size + 1, 0, none⟩)) := by rw [World.cell?, HM.out.1]; rfl
  simp [results, Try.results55, go_sem, hc]
theorem tab_at (C A k : Nat) (l : List Nat) (w : World) (h : IsM w C A l) (hk : k < 6) : Calls Try.prog 66 #[.int .i64 k, .pointer (some ⟨C, 0, none⟩)] w fun e w' => e = .returned (.int .i64 (l.getD k 0 : Nat)) ∧ IsM w' C A (mtf l k) ∧ Touch (fun b => b = A) w w' := by
  have hal : Try.prog.arrayLen 90 = 6 := by kernel_rfl
  have hcC : w.cell? ⟨C, 0, none⟩ = some (.pointer (some ⟨A, 0, none⟩)) := by rw [World.cell?, h.1]; rfl
  have hck := h.cell k hk
  obtain ⟨y, hy⟩ : ∃ y, y = l.getD k 0 := ⟨_, rfl⟩
  rw [← hy] at hck ⊢
  have k1 : (k : Int) < 6 := by omega
  have k2 : (1 : Int) ≤ (k : Int) + 1 := by omega
  have k3 : (k : Int) + 1 ≤ 6 := by omega
  have k4 : (k : Int) ≤ 6 := by omega
  have k5 : IntKind.i64.wrap ((k : Int) + 1) = (k : Int) + 1 := IntWalk.i64_in _ (by omega)
  have HM := Lib.hid h
  have HY := Lib.hid hy
  have hcp : (Builtin.copy_ #[48, 48] 3 #[.slice (some ⟨A, 1, none⟩) k 5, .slice (some ⟨A, 0, none⟩) k 6]).run Try.prog w.drew = .ok (goInt (i64s (l.take k)).length) (w.drew.setRow A ((i64s l).toArray.toList.take 1 ++ i64s (l.take k) ++ (i64s l).toArray.toList.drop (1 + (i64s (l.take k)).length)).toArray) := by
    refine run_copy_row (P := Try.prog) w.drew 48 48 3 3 A 1 k 5 ⟨A, 0, none⟩ k 6 _ 90 (i64s (l.take k)) Try.underlying48 (by kernel_rfl) h.2.1 ?_ ?_ ?_ (i64s_one _)
    · rw [length_i64s, List.length_take, h.2.2.1]; show min k 6 = min k k; omega
    · intro j v hj
      have hjk : j < k := by have := (List.getElem?_eq_some_iff.1 hj).1; rw [length_i64s, List.length_take] at this; omega
      rw [show (⟨A, 0, none⟩ : Addr).add j = ⟨A, j, none⟩ by unfold Addr.add; split <;> simp_all]
      rw [show w.drew.cell? ⟨A, j, none⟩ = w.cell? ⟨A, j, none⟩ from rfl, h.cell j (by omega), ← hj]
      simp [i64s, hjk, List.getD, show j < l.length by have := h.2.2.1; omega]
    · rw [length_i64s, List.length_take, List.size_toArray, length_i64s, h.2.2.1]; omega
  obtain ⟨w2, m, hcp2, hC2, hA2, t2⟩ : ∃ w2 m, (Builtin.copy_ #[48, 48] 3 #[.slice (some ⟨A, 1, none⟩) k 5, .slice (some ⟨A, 0, none⟩) k 6]).run Try.prog w.drew = .ok (.int .i64 m) w2 ∧ w2.heap[C]? = some (.cells #[.pointer (some ⟨A, 0, none⟩)] 79 (0, 0)) ∧
      w2.heap[A]? = some (.cells (i64s (l.take 1 ++ l.take k ++ l.drop (1 + k))).toArray 90 (0, 0)) ∧ Touch (fun b => b = A) w w2 := by
    refine ⟨_, _, hcp, ?_, ?_, ?_⟩
    · rw [setRow_other _ _ _ _ h.2.2.2.symm]; exact h.1
    · have e := setRow_heap w.drew A _ ((i64s l).toArray.toList.take 1 ++ i64s (l.take k) ++ (i64s l).toArray.toList.drop (1 + (i64s (l.take k)).length)).toArray _ _ h.2.1
      rw [e]
      have hl : (i64s (l.take k)).length = k := by rw [length_i64s, List.length_take, h.2.2.1]; omega
      rw [hl]
      simp [i64s]
    · exact ⟨rfl, rfl, rfl, by simp, fun b hb hn => setRow_other _ _ _ _ hn⟩
  have hcC2 : w2.cell? ⟨C, 0, none⟩ = some (.pointer (some ⟨A, 0, none⟩)) := by rw [World.cell?, hC2]; rfl
  have h6 := h.2.2.1
  have hA0 : ∃ u, w2.cell? ⟨A, 0, none⟩ = some u := by
    rw [World.cell?, hA2]
    cases l with
    | nil => simp at h6
    | cons x r => exact ⟨.int .i64 x, by simp [i64s]⟩
  obtain ⟨u0, hu0⟩ := hA0
  have hf0 : w2.frozen? ⟨A, 0, none⟩ = false := by simp [World.frozen?, hA2]
  have HFIN := Lib.hid (show IsM (w2.setCell ⟨A, 0, none⟩ (.int .i64 y)) C A (mtf l k) ∧ Touch (fun b => b = A) w (w2.setCell ⟨A, 0, none⟩ (.int .i64 y)) from by
    refine ⟨⟨by rw [heap_setCell_ne h.2.2.2.symm]; exact hC2, ?_, by rw [(mtf_perm l k (by omega)).length_eq, h6], h.2.2.2⟩, t2.setCell (Or.inl rfl) _⟩
    rw [heap_setCell_at hA2 rfl, mtf, ← hy]
    congr 1
    cases l with
    | nil => simp at h6
    | cons x r => simp [i64s, Nat.add_comm])
  clear h hy hcp hC2 hA2 t2 h6
  go_enter Try.func66, Try.ntmps66
  go_wp2_with fail
  go_still_tail 9, (by kernel_rfl)
  clear k1 k2 k3 k4 k5
  change wpList _ _ _ _ _ w.drew
  generalize w.drew = wd at hcp2 ⊢
  go_wp2_with fail
  go_ret
  exact ⟨rfl, HFIN.out.1, HFIN.out.2⟩
end Go.Proofs.Yteabjmebnbaonaa
