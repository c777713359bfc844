/- Arguments that are rows of bytes, opened. -/
import Derived.Test.YtaabmlnbadpfgaaRefPlainZ
import Derived.Test.YtaabmlnbadpfgaaOpen
namespace Go.Proofs.Ytaabmlnbadpfgaa
open Go.ChangeShapes Go.WideShapes Go.ChangeAt Go.RowKit Go.Deep
set_option linter.unusedVariables false

theorem cells_row : Try.prog.cellsOf 24 = 1 := by kernel_rfl
/-- one row. -/
theorem row_bytes {H : Type} {enc : TypeId × Value → H} {W : World} {v : Value} {n : Nat} {y : DataW H × List MemPlace} (hf : DataW.trod enc Try.prog W 0 (fun _ => true) true n 24 [v] = some y) :
    ∃ bs : List Nat, ViewL W v (u8s bs) ∧ (∀ b ∈ bs, b < 256) ∧ bs.length ≤ maxLen := by
  rcases open_ints Try.underlying24 Try.underlying5 cells_u8 hf with ⟨hcs, _⟩ | ⟨a, len, cap, zs, hcs, _, hl, hmx, hz, hx, hcell, hwz⟩
  · simp at hcs
    subst hcs
    exact ⟨[], View.viewL (Or.inl ⟨rfl, rfl⟩) (fun a n cap e => by cases e), by simp, by simp⟩
  · simp at hcs
    subst hcs
    simp only [if_true] at hz
    have hw : ∀ z ∈ zs, 0 ≤ z ∧ z ≤ 255 := fun z hz => by simpa [Lit.wf, IntKind.min, IntKind.max, IntKind.signed, IntKind.bits] using hwz z hz
    have hlen : ((zs.take len).map Int.toNat).length = len := by rw [List.length_map, List.length_take]; omega
    have hv : View W (.slice (some a) len cap) ((zs.take len).map Int.toNat) := by
      refine Or.inr ⟨a, cap, by rw [hlen], ?_⟩
      intro j u hu
      have hj : j < len := by
        have := (List.getElem?_eq_some_iff.1 hu).1
        rw [length_u8s, hlen] at this; exact this
      have hjz : j < zs.length := by omega
      rw [hcell j hjz, ← hu]
      have h0 := hw (zs[j]) (List.getElem_mem hjz)
      simp [u8s, hj, List.getD, List.getElem?_eq_getElem hjz]
      omega
    refine ⟨(zs.take len).map Int.toNat, hv.viewL (fun a' n' c' e => by cases e; omega), ?_, by rw [hlen]; omega⟩
    intro b hb
    obtain ⟨z, hz', rfl⟩ := List.mem_map.1 hb
    have := hw z (List.mem_of_mem_take hz')
    omega
set_option maxRecDepth 100000 in
/-- rows of bytes that came in. -/
theorem open_rows {H : Type} {enc : TypeId × Value → H} (W : World) {base : Nat} {v : Value} {d : DataW H} {p : List MemPlace} (hv : Value.okWide Try.prog W .any base 22 v)
    (h : DataW.Trod enc Try.prog W 0 (fun _ => true) true 22 v d p) :
    ∃ Ls : List (List Nat), RowsV W v Ls ∧ (∀ L ∈ Ls, L.length ≤ maxLen ∧ ∀ b ∈ L, b < 256) ∧ Ls.length ≤ maxLen := by
  obtain ⟨a0, len, cap, rfl⟩ := okWide_slice Try.underlying22 hv
  obtain ⟨fuel, hf⟩ := h
  rcases open_slice1 Try.underlying22 cells_row hf with ⟨hcs, _⟩ | ⟨a, len', cap', m, n, V, D, Pl, hcs, _, hl, hm, hmm, _, hi⟩
  · simp [Value.cells] at hcs
    obtain ⟨rfl, rfl, rfl⟩ := hcs
    exact ⟨[], ⟨[], ⟨none, 0, rfl, Nat.le_refl _, fun _ => rfl, fun h => by simp at h⟩, rfl, fun k u L h => by simp at h⟩, by simp, by simp⟩
  · simp [Value.cells] at hcs
    obtain ⟨rfl, rfl, rfl⟩ := hcs
    simp only [if_true] at hmm
    have hi2 : ∀ i, i < len → ∃ bs : List Nat, ViewL W (V i) (u8s bs) ∧ (∀ b ∈ bs, b < 256) ∧ bs.length ≤ maxLen := fun i hil => row_bytes (hi i (by omega)).2
    obtain ⟨f, hfb⟩ := choose_lt (α := List Nat) (p := fun i bs => ViewL W (V i) (u8s bs) ∧ (∀ b ∈ bs, b < 256) ∧ bs.length ≤ maxLen) hi2
    refine ⟨(List.range len).map f, ⟨(List.range len).map V, ⟨some a, cap, by simp, by simpa using hl, fun e => (by cases e), fun h0 => ?_⟩, by simp, fun k u L hu hL => ?_⟩, fun L hL => ?_, by simp; omega⟩
    · simp at h0
      have hs : a.spot = none := by
        have h1 := (hi 0 (by omega)).1
        have : a.add 0 = a := by simp [Addr.add]
        rw [this] at h1
        unfold World.cell? at h1
        split at h1
        · split at h1
          · cases h1
          · rename_i hs; simpa using hs
        · cases h1
      refine ⟨a.block, a.off, by cases a; simp_all, fun j u hu => ?_⟩
      have hj : j < len := by
        have := (List.getElem?_eq_some_iff.1 hu).1
        simpa using this
      have e : a.add j = ⟨a.block, a.off + j, none⟩ := by
        unfold Addr.add; split
        · rename_i hk; subst hk; cases a; simp_all
        · rfl
      rw [← e, (hi j (by omega)).1, ← hu]
      simp [hj]
    · have hk : k < len := by
        have := (List.getElem?_eq_some_iff.1 hu).1
        simpa using this
      simp [hk] at hu hL
      subst hu
      subst hL
      exact (hfb k hk).1
    · obtain ⟨i, hil, rfl⟩ := List.mem_map.1 hL
      have := hfb i (List.mem_range.1 hil)
      exact ⟨this.2.2, this.2.1⟩
end Go.Proofs.Ytaabmlnbadpfgaa
