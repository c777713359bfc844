/- Arguments that are bytes, opened. -/
import Derived.Test.YtbbcphloafmldaaBnd6
import Derived.Test.YtbbcphloafmldaaBnd1
import Derived.Deep.Slices
namespace Go.Proofs.Ytbbcphloafmldaa
open Go.ChangeShapes Go.WideShapes Go.ChangeAt Go.RowKit Go.Deep

theorem cells_u8 : Try.prog.cellsOf 5 = 1 := by kernel_rfl
theorem bytes_u8 : Try.prog.bytesOf 5 = 1 := by kernel_rfl
set_option maxRecDepth 100000 in
/-- bytes that came in. -/
theorem open_bytes {H : Type} {enc : TypeId × Value → H} (W : World) {base : Nat} {v : Value} {d : DataW H} {p : List MemPlace} (hv : Value.okWide Try.prog W .any base 22 v)
    (h : DataW.Trod enc Try.prog W 0 (fun _ => true) true 22 v d p) (hsz : ∀ el sp, d = .slice el sp → (el.length + sp.length) * Try.prog.bytesOf 5 ≤ reachBytes) :
    ∃ bs : List Nat, (View W v bs ∧ ViewL W v (u8s bs)) ∧ (∀ b ∈ bs, b < 256) ∧ bs.length ≤ 140737488351232 := by
  obtain ⟨a0, len, cap, rfl⟩ := okWide_slice Try.underlying22 hv
  obtain ⟨fuel, hf⟩ := h
  rcases open_ints Try.underlying22 Try.underlying5 cells_u8 hf with ⟨hcs, _⟩ | ⟨a, len', cap', zs, hcs, _, hl, _, hz, hx, hcell, hwz⟩
  · simp [Value.cells] at hcs
    obtain ⟨rfl, rfl, rfl⟩ := hcs
    exact ⟨[], ⟨Or.inl ⟨rfl, rfl⟩, View.viewL (Or.inl ⟨rfl, rfl⟩) (fun a n cap e => by cases e)⟩, by simp, by simp⟩
  · simp [Value.cells] at hcs
    obtain ⟨rfl, rfl, rfl⟩ := hcs
    simp only [if_true] at hz
    simp only [Prod.mk.injEq] at hx
    have hw : ∀ z ∈ zs, 0 ≤ z ∧ z ≤ 255 := fun z hz => by simpa [Lit.wf, IntKind.min, IntKind.max, IntKind.signed, IntKind.bits] using hwz z hz
    have hlen : ((zs.take len).map Int.toNat).length = len := by rw [List.length_map, List.length_take]; omega
    have hv : View W (.slice (some a) len cap) ((zs.take len).map Int.toNat) := by
      refine Or.inr ⟨a, cap, by rw [hlen], ?_⟩
      intro j u hu
      have hj : j < len := by
        have := (List.getElem?_eq_some_iff.1 hu).1
        rw [length_u8s, hlen] at this; exact this
      have hjz : j < zs.length := by omega
      rw [hcell j hjz, ← hu]
      have h0 := hw (zs[j]) (List.getElem_mem hjz)
      simp [u8s, hj, List.getD, List.getElem?_eq_getElem hjz]
      omega
    refine ⟨(zs.take len).map Int.toNat, ⟨hv, hv.viewL (fun a' n' c' e => by cases e; omega)⟩, ?_, ?_⟩
    · intro b hb
      obtain ⟨z, hz', rfl⟩ := List.mem_map.1 hb
      have := hw z (List.mem_of_mem_take hz')
      omega
    · have h1 := hsz _ _ hx.1
      rw [bytes_u8] at h1
      simp only [lits, List.length_map, List.length_take, List.length_drop, reachBytes] at h1
      rw [hlen]; omega
end Go.Proofs.Ytbbcphloafmldaa
