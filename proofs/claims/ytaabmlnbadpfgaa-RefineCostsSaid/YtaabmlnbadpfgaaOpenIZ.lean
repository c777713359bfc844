/- Arguments that are ints, opened. -/
import Derived.Test.YtaabmlnbadpfgaaOpen
import Derived.Test.YtaabmlnbadpfgaaBnd5
namespace Go.Proofs.Ytaabmlnbadpfgaa
open Go.ChangeShapes Go.WideShapes Go.ChangeAt Go.RowKit Go.Deep

theorem cells_int : Try.prog.cellsOf 3 = 1 := by kernel_rfl
theorem bytes_int : Try.prog.bytesOf 3 = 8 := by kernel_rfl
set_option maxRecDepth 100000 in
/-- ints that came in. -/
theorem open_intl {H : Type} {enc : TypeId × Value → H} (W : World) {base : Nat} {v : Value} {d : DataW H} {p : List MemPlace} (hv : Value.okWide Try.prog W .any base 23 v)
    (h : DataW.Trod enc Try.prog W 0 (fun _ => true) true 23 v d p) (hsz : ∀ el sp, d = .slice el sp → (el.length + sp.length) * Try.prog.bytesOf 3 ≤ reachBytes) :
    ∃ xs : List Int, ViewL W v (ints xs) ∧ xs.length ≤ 140737488351232 := by
  obtain ⟨a0, len, cap, rfl⟩ := okWide_slice Try.underlying23 hv
  obtain ⟨fuel, hf⟩ := h
  rcases open_ints Try.underlying23 Try.underlying3 cells_int hf with ⟨hcs, _⟩ | ⟨a, len', cap', zs, hcs, _, hl, _, hz, hx, hcell, hwz⟩
  · simp [Value.cells] at hcs
    obtain ⟨rfl, rfl, rfl⟩ := hcs
    exact ⟨[], ⟨none, 0, rfl, Nat.le_refl _, fun _ => rfl, fun h => by simp [ints] at h⟩, by simp⟩
  · simp [Value.cells] at hcs
    obtain ⟨rfl, rfl, rfl⟩ := hcs
    simp only [if_true] at hz
    simp only [Prod.mk.injEq] at hx
    have hlen : (zs.take len).length = len := by rw [List.length_take]; omega
    refine ⟨zs.take len, ⟨some a, cap, by rw [length_ints, hlen], by rw [length_ints, hlen]; omega, fun e => (by cases e), fun h0 => ?_⟩, ?_⟩
    · rw [length_ints, hlen] at h0
      have hs : a.spot = none := by
        have h1 := hcell 0 (by omega)
        have : a.add 0 = a := by simp [Addr.add]
        rw [this] at h1
        unfold World.cell? at h1
        split at h1
        · split at h1
          · cases h1
          · rename_i hs; simpa using hs
        · cases h1
      refine ⟨a.block, a.off, by cases a; simp_all, fun j u hu => ?_⟩
      have hj : j < len := by
        have := (List.getElem?_eq_some_iff.1 hu).1
        rw [length_ints, hlen] at this; exact this
      have hjz : j < zs.length := by omega
      have e : a.add j = ⟨a.block, a.off + j, none⟩ := by
        unfold Addr.add; split
        · rename_i hk; subst hk; cases a; simp_all
        · rfl
      rw [← e, hcell j hjz, ← hu]
      simp [ints, hj, List.getElem?_eq_getElem hjz]
    · have h1 := hsz _ _ hx.1
      rw [bytes_int] at h1
      simp only [lits, List.length_map, List.length_take, List.length_drop, reachBytes] at h1
      rw [hlen]; omega
end Go.Proofs.Ytaabmlnbadpfgaa
