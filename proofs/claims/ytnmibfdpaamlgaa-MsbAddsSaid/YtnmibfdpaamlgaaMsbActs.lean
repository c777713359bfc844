/- Arguments that are acts on rows, opened. -/
import Derived.Test.YtnmibfdpaamlgaaAct
namespace Go.Proofs.Ytnmibfdpaamlgaa
open Go.ChangeShapes Go.WideShapes Go.ChangeAt Go.RowKit Go.Deep

theorem msb_cells_act : Try.prog.cellsOf 53 = 4 := by kernel_rfl
theorem msb_c32 : Try.prog.cellsOf 22 = 1 := by kernel_rfl
theorem msb_c64 : Try.prog.cellsOf 3 = 1 := by kernel_rfl
theorem msb_cb : Try.prog.cellsOf 4 = 1 := by kernel_rfl
/-- acts that came in. -/
theorem msb_open_acts {H : Type} {enc : TypeId × Value → H} (W : World) {base : Nat} {v : Value} {d : DataW H} {p : List MemPlace} (hv : Value.okWide Try.prog W .any base 50 v)
    (h : DataW.Trod enc Try.prog W 0 (fun _ => true) true 50 v d p) : ∃ l : List ActV, ViewA W v l ∧ l.length ≤ maxLen := by
  obtain ⟨a0, len, cap, rfl⟩ := okWide_slice Try.underlying50 hv
  obtain ⟨fuel, hf⟩ := h
  rcases open_slice Try.underlying50 hf with ⟨hcs, _⟩ | ⟨a, len', cap', m, n, D, Pl, hcs, _, hl, hm, hmm, _, hi⟩
  · simp [Value.cells] at hcs
    obtain ⟨rfl, rfl, rfl⟩ := hcs
    exact ⟨[], ⟨none, 0, rfl, fun h => by simp at h⟩, by simp⟩
  · simp [Value.cells] at hcs
    obtain ⟨rfl, rfl, rfl⟩ := hcs
    simp only [if_true] at hmm
    refine view_of_cells W a len cap (by omega) fun i hil => ?_
    obtain ⟨cs, hc, ht⟩ := hi i (by omega)
    rw [msb_cells_act] at hc
    obtain ⟨xs, n', _, _, _, hxl, hg⟩ := DataW.trod_struct Try.underlying53 ht
    obtain ⟨_, hcl, hat⟩ := World.cells?_some hc
    match cs, hcl with
    | [c0, c1, c2, c3], _ =>
      have g0 : DataW.trod enc Try.prog W 0 (fun _ => true) true n' 22 (([c0, c1, c2, c3].drop 0).take (Try.prog.cellsOf 22)) = xs[0]? := hg 0 _ rfl
      have g1 : DataW.trod enc Try.prog W 0 (fun _ => true) true n' 3 (([c0, c1, c2, c3].drop 1).take (Try.prog.cellsOf 3)) = xs[1]? := hg 1 _ rfl
      have g2 : DataW.trod enc Try.prog W 0 (fun _ => true) true n' 4 (([c0, c1, c2, c3].drop 2).take (Try.prog.cellsOf 4)) = xs[2]? := hg 2 _ rfl
      have g3 : DataW.trod enc Try.prog W 0 (fun _ => true) true n' 4 (([c0, c1, c2, c3].drop 3).take (Try.prog.cellsOf 4)) = xs[3]? := hg 3 _ rfl
      rw [msb_c32] at g0
      rw [msb_c64] at g1
      rw [msb_cb] at g2 g3
      simp only [List.drop_succ_cons, List.drop_zero, List.take_succ_cons, List.take_zero] at g0 g1 g2 g3
      have hxl : xs.length = 4 := hxl
      obtain ⟨v, e0, _, w0⟩ := DataW.trod_int Try.underlying22 (g0.trans (List.getElem?_eq_getElem (by omega)))
      obtain ⟨k, e1, _, w1⟩ := DataW.trod_int Try.underlying3 (g1.trans (List.getElem?_eq_getElem (by omega)))
      obtain ⟨b, e2, _⟩ := DataW.trod_bool Try.underlying4 (g2.trans (List.getElem?_eq_getElem (by omega)))
      obtain ⟨b', e3, _⟩ := DataW.trod_bool Try.underlying4 (g3.trans (List.getElem?_eq_getElem (by omega)))
      simp only [List.cons.injEq, and_true] at e0 e1 e2 e3
      subst e0 e1 e2 e3
      have w0' : 0 ≤ v ∧ v ≤ 4294967295 := by simpa [Lit.wf, IntKind.min, IntKind.max, IntKind.signed, IntKind.bits] using w0
      have w1' : -9223372036854775808 ≤ k ∧ k ≤ 9223372036854775807 := by simpa [Lit.wf, IntKind.min, IntKind.max, IntKind.signed, IntKind.bits] using w1
      refine ⟨⟨v.toNat, k, b, b'⟩, by simp only []; omega, w1', ?_, ?_, ?_, ?_⟩
      · have := hat 0 (by omega)
        have e : ((v.toNat : Nat) : Int) = v := Int.toNat_of_nonneg w0'.1
        simpa [add_add, e] using this
      · have := hat 1 (by omega); simpa [add_add] using this
      · have := hat 2 (by omega); simpa [add_add] using this
      · have := hat 3 (by omega); simpa [add_add] using this
end Go.Proofs.Ytnmibfdpaamlgaa
