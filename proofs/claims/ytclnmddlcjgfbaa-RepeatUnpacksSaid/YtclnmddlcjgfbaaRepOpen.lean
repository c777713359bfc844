/- Arguments that are signs, opened. -/
import Derived.Test.YtclnmddlcjgfbaaAct
import Derived.Test.YtclnmddlcjgfbaaRepUnHas
namespace Go.Proofs.Ytclnmddlcjgfbaa
open Go.ChangeShapes Go.WideShapes Go.ChangeAt Go.RowKit Go.Deep

theorem view_of_signs (W : World) (a : Addr) (len cap : Nat) (hm : len ≤ maxLen)
    (h : ∀ i, i < len → ∃ x : Nat × Nat, x.1 < 256 ∧ x.2 < 256 ∧ W.cell? (a.add (i * 2)) = some (.int .u8 x.1) ∧ W.cell? (a.add (i * 2 + 1)) = some (.int .u8 x.2)) :
    ∃ l : List (Nat × Nat), (ViewS W (.slice (some a) len cap) l ∧ ∀ s ∈ l, s.1 < 256 ∧ s.2 < 256) ∧ l.length ≤ maxLen := by
  have hex : ∀ n, n ≤ len → ∃ l : List (Nat × Nat), l.length = n ∧ ∀ i x, l[i]? = some x → x.1 < 256 ∧ x.2 < 256 ∧ W.cell? (a.add (i * 2)) = some (.int .u8 x.1) ∧ W.cell? (a.add (i * 2 + 1)) = some (.int .u8 x.2) := by
    intro n
    induction n with
    | zero => exact fun _ => ⟨[], rfl, fun i x hi => by simp at hi⟩
    | succ n ih =>
      intro hn
      obtain ⟨l, hl, hx⟩ := ih (by omega)
      obtain ⟨y, hy⟩ := h n (by omega)
      refine ⟨l ++ [y], by simp [hl], fun i x hi => ?_⟩
      by_cases hil : i < l.length
      · rw [List.getElem?_append_left hil] at hi; exact hx i x hi
      · have hin : i < (l ++ [y]).length := (List.getElem?_eq_some_iff.1 hi).1
        have : i = n := by simp at hin; omega
        subst this
        rw [← hl] at hi
        simp at hi
        subst hi
        exact hy
  obtain ⟨l, hl, hx⟩ := hex len (Nat.le_refl _)
  refine ⟨l, ⟨⟨some a, cap, by rw [hl], fun h0 => ?_⟩, fun s hs => ?_⟩, by omega⟩
  · obtain ⟨x0, _, _, hc0, _⟩ := h 0 (by omega)
    have hs : a.spot = none := cell_spot (by simpa [Addr.add] using hc0)
    refine ⟨a.block, a.off, by cases a; simp_all, fun i x hi => ?_⟩
    have e : ∀ k, a.add k = ⟨a.block, a.off + k, none⟩ := by
      intro k; unfold Addr.add; split
      · rename_i hk; subst hk; cases a; simp_all
      · rfl
    obtain ⟨_, _, c0, c1⟩ := hx i x hi
    rw [e] at c0 c1
    exact ⟨c0, c1⟩
  · obtain ⟨i, hi⟩ := List.getElem?_of_mem hs
    exact ⟨(hx i s hi).1, (hx i s hi).2.1⟩
theorem rep_cells_sign : Try.prog.cellsOf 31 = 2 := by kernel_rfl
theorem rep_c8 : Try.prog.cellsOf 5 = 1 := by kernel_rfl
/-- signs that came in. -/
theorem rep_open_signs {H : Type} {enc : TypeId × Value → H} (W : World) {base : Nat} {v : Value} {d : DataW H} {p : List MemPlace} (hv : Value.okWide Try.prog W .any base 23 v)
    (h : DataW.Trod enc Try.prog W 0 (fun _ => true) true 23 v d p) : ∃ l : List (Nat × Nat), (ViewS W v l ∧ ∀ s ∈ l, s.1 < 256 ∧ s.2 < 256) ∧ l.length ≤ maxLen := by
  obtain ⟨a0, len, cap, rfl⟩ := okWide_slice Try.underlying23 hv
  obtain ⟨fuel, hf⟩ := h
  rcases open_slice Try.underlying23 hf with ⟨hcs, _⟩ | ⟨a, len', cap', m, n, D, Pl, hcs, _, hl, hm, hmm, _, hi⟩
  · simp [Value.cells] at hcs
    obtain ⟨rfl, rfl, rfl⟩ := hcs
    exact ⟨[], ⟨⟨none, 0, rfl, fun h => by simp at h⟩, fun s hs => by cases hs⟩, by simp⟩
  · simp [Value.cells] at hcs
    obtain ⟨rfl, rfl, rfl⟩ := hcs
    simp only [if_true] at hmm
    refine view_of_signs W a len cap (by omega) fun i hil => ?_
    obtain ⟨cs, hc, ht⟩ := hi i (by omega)
    rw [rep_cells_sign] at hc
    obtain ⟨xs, n', _, _, _, hxl, hg⟩ := DataW.trod_struct Try.underlying31 ht
    obtain ⟨_, hcl, hat⟩ := World.cells?_some hc
    match cs, hcl with
    | [c0, c1], _ =>
      have g0 : DataW.trod enc Try.prog W 0 (fun _ => true) true n' 5 (([c0, c1].drop 0).take (Try.prog.cellsOf 5)) = xs[0]? := hg 0 _ rfl
      have g1 : DataW.trod enc Try.prog W 0 (fun _ => true) true n' 5 (([c0, c1].drop 1).take (Try.prog.cellsOf 5)) = xs[1]? := hg 1 _ rfl
      rw [rep_c8] at g0 g1
      simp only [List.drop_succ_cons, List.drop_zero, List.take_succ_cons, List.take_zero] at g0 g1
      have hxl : xs.length = 2 := hxl
      obtain ⟨v, e0, _, w0⟩ := DataW.trod_int Try.underlying5 (g0.trans (List.getElem?_eq_getElem (by omega)))
      obtain ⟨k, e1, _, w1⟩ := DataW.trod_int Try.underlying5 (g1.trans (List.getElem?_eq_getElem (by omega)))
      simp only [List.cons.injEq, and_true] at e0 e1
      subst e0 e1
      have w0' : 0 ≤ v ∧ v ≤ 255 := by simpa [Lit.wf, IntKind.min, IntKind.max, IntKind.signed, IntKind.bits] using w0
      have w1' : 0 ≤ k ∧ k ≤ 255 := by simpa [Lit.wf, IntKind.min, IntKind.max, IntKind.signed, IntKind.bits] using w1
      refine ⟨(v.toNat, k.toNat), by simp only []; omega, by simp only []; omega, ?_, ?_⟩
      · have := hat 0 (by omega)
        have e : ((v.toNat : Nat) : Int) = v := Int.toNat_of_nonneg w0'.1
        simpa [add_add, e] using this
      · have := hat 1 (by omega)
        have e : ((k.toNat : Nat) : Int) = k := Int.toNat_of_nonneg w1'.1
        simpa [add_add, e] using this
end Go.Proofs.Ytclnmddlcjgfbaa
