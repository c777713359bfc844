/- Arguments that are rows of numbers of one kind, opened. -/
import Derived.Test.YtaabmlnbadpfgaaOpen
import Derived.Test.YtaabmlnbadpfgaaInts
namespace Go.Proofs.Ytaabmlnbadpfgaa
open Go.ChangeShapes Go.WideShapes Go.ChangeAt Go.RowKit Go.Deep


set_option maxRecDepth 100000 in
theorem open_kints {H : Type} {enc : TypeId × Value → H} (W : World) (t e : TypeId) (k : IntKind) (by1 : Nat) (ht : Try.prog.underlying t = some (.slice e)) (he : Try.prog.underlying e = some (.int k)) (hc : Try.prog.cellsOf e = 1) (hb : Try.prog.bytesOf e = by1) (hb1 : 1 ≤ by1)
    {base : Nat} {v : Value} {d : DataW H} {p : List MemPlace} (hv : Value.okWide Try.prog W .any base t v)
    (h : DataW.Trod enc Try.prog W 0 (fun _ => true) true t v d p) (hsz : ∀ el sp, d = .slice el sp → (el.length + sp.length) * Try.prog.bytesOf e ≤ reachBytes) :
    ∃ xs : List Int, (ViewL W v (kints k xs) ∧ xs.length ≤ 140737488351232) ∧ ∀ x ∈ xs, (Lit.int k x).wf = true := by
  obtain ⟨a0, len, cap, rfl⟩ := okWide_slice ht hv
  obtain ⟨fuel, hf⟩ := h
  rcases open_ints ht he hc hf with ⟨hcs, _⟩ | ⟨a, len', cap', zs, hcs, _, hl, _, hz, hx, hcell, hwz⟩
  · simp [Value.cells] at hcs
    obtain ⟨rfl, rfl, rfl⟩ := hcs
    exact ⟨[], ⟨⟨none, 0, rfl, Nat.le_refl _, fun _ => rfl, fun h => by simp [kints] at h⟩, by simp⟩, by simp⟩
  · simp [Value.cells] at hcs
    obtain ⟨rfl, rfl, rfl⟩ := hcs
    simp only [if_true] at hz
    simp only [Prod.mk.injEq] at hx
    have hlen : (zs.take len).length = len := by rw [List.length_take]; omega
    refine ⟨zs.take len, ⟨⟨some a, cap, by rw [length_kints, hlen], by rw [length_kints, hlen]; omega, fun e => (by cases e), fun h0 => ?_⟩, ?_⟩, fun x hx => hwz x (List.mem_of_mem_take hx)⟩
    · rw [length_kints, hlen] at h0
      have hs : a.spot = none := by
        have h1 := hcell 0 (by omega)
        have : a.add 0 = a := by simp [Addr.add]
        rw [this] at h1
        unfold World.cell? at h1
        split at h1
        · split at h1
          · cases h1
          · rename_i hs; simpa using hs
        · cases h1
      refine ⟨a.block, a.off, by cases a; simp_all, fun j u hu => ?_⟩
      have hj : j < len := by
        have := (List.getElem?_eq_some_iff.1 hu).1
        rw [length_kints, hlen] at this; exact this
      have hjz : j < zs.length := by omega
      have e : a.add j = ⟨a.block, a.off + j, none⟩ := by
        unfold Addr.add; split
        · rename_i hk; subst hk; cases a; simp_all
        · rfl
      rw [← e, hcell j hjz, ← hu]
      simp [kints, hj, List.getElem?_eq_getElem hjz]
    · have h1 := hsz _ _ hx.1
      rw [hb] at h1
      simp only [lits, List.length_map, List.length_take, List.length_drop, reachBytes] at h1
      rw [hlen]
      have h2 : min len zs.length + (zs.length - len) ≤ (min len zs.length + (zs.length - len)) * by1 := Nat.le_mul_of_pos_right _ hb1
      have h3 : len ≤ min len zs.length + (zs.length - len) := by omega
      have h4 := Nat.le_trans h3 (Nat.le_trans h2 h1)
      omega
end Go.Proofs.Ytaabmlnbadpfgaa
