/- refine: groups, codes, costs: plain. No program is named here. -/
import Derived.Test.YtaabmlnbadpfgaaView
import Derived.Test.YtaabmlnbadpfgaaPreLaw
import Derived.Test.YtaabmlnbadpfgaaPreKraft
import Derived.Test.YtaabmlnbadpfgaaBnd4
namespace Go.Proofs.Ytaabmlnbadpfgaa
open Go.RowKit
set_option linter.unusedVariables false

/-- bits of symbols by a code. -/
def bitsR (L : List Nat) (l : List Nat) : Nat := (l.map fun s => L.getD s 0).sum
theorem bitsR_snoc (L l : List Nat) (s : Nat) : bitsR L (l ++ [s]) = bitsR L l + L.getD s 0 := by simp [bitsR]
theorem bitsR_le {L : List Nat} (h : ∀ x ∈ L, x < 256) : ∀ l : List Nat, bitsR L l ≤ 256 * l.length
  | [] => by simp [bitsR]
  | s :: l => by
    have ih := bitsR_le h l
    have hs : L.getD s 0 ≤ 256 := by
      by_cases hl : s < L.length
      · have := h _ (List.getElem_mem hl)
        simp [List.getD, hl]; omega
      · simp [List.getD, List.getElem?_eq_none (show L.length ≤ s by omega)]
    simp only [bitsR, List.map_cons, List.sum_cons, List.length_cons] at ih ⊢
    omega
/-- the symbols of a group. -/
def grpS (sy : List Nat) (i : Nat) : List Nat := (sy.drop (50 * i)).take 50
/-- is a code one of n symbols? -/
def GoodC (L : List Nat) (n : Nat) : Prop := L.length = n ∧ (∀ x ∈ L, 1 ≤ x ∧ x ≤ 17) ∧ weightL L ≤ 2 ^ 20
instance (L : List Nat) (n : Nat) : Decidable (GoodC L n) := by unfold GoodC; exact inferInstance
theorem GoodC.may {L : List Nat} {n : Nat} (h : GoodC L n) (hn : n ≤ 258) : MayK L := ⟨by have := h.1; omega, fun x hx => by have := h.2.1 x hx; omega⟩
/-- rows of bytes, to be read. -/
def RowsV (w : World) (v : Value) (Ls : List (List Nat)) : Prop := ∃ us : List Value, ViewL w v us ∧ us.length = Ls.length ∧ ∀ (k : Nat) (u : Value) (L : List Nat), us[k]? = some u → Ls[k]? = some L → ViewL w u (u8s L)
theorem RowsV.ext {w w' : World} {v : Value} {Ls : List (List Nat)} (h : RowsV w v Ls) (hx : Ext w w') : RowsV w' v Ls := by
  obtain ⟨us, h1, h2, h3⟩ := h
  exact ⟨us, h1.ext hx, h2, fun k u L a b => (h3 k u L a b).ext hx⟩
theorem RowsV.shape {w : World} {v : Value} {Ls : List (List Nat)} (h : RowsV w v Ls) : ∃ ao cap, v = .slice ao Ls.length cap := by
  obtain ⟨us, h1, h2, _⟩ := h
  obtain ⟨ao, cap, rfl⟩ := h1.shape
  exact ⟨ao, cap, by rw [h2]⟩
/-- a row of them. -/
theorem RowsV.at {w : World} {ao : Option Addr} {n cap : Nat} {Ls : List (List Nat)} (h : RowsV w (.slice ao n cap) Ls) {k : Nat} {L : List Nat} {m : Nat} (hk : Ls[k]? = some L) (hm : L.length = m) :
    ∃ b o uo uc, ao = some ⟨b, o, none⟩ ∧ w.cell? ⟨b, o + k, none⟩ = some (.slice uo m uc) ∧ ViewL w (.slice uo m uc) (u8s L) := by
  obtain ⟨us, h1, h2, h3⟩ := h
  have hkl := (List.getElem?_eq_some_iff.1 hk).1
  obtain ⟨b, o, rfl, _, hc⟩ := viewL_cells h1 (by omega)
  have hu : us[k]? = some us[k] := List.getElem?_eq_getElem (by omega)
  have hv := h3 k _ L hu hk
  obtain ⟨uo, uc, e⟩ := hv.shape
  rw [length_u8s, hm] at e
  refine ⟨b, o, uo, uc, rfl, by rw [← e]; exact hc k _ hu, by rw [← e]; exact hv⟩
end Go.Proofs.Ytaabmlnbadpfgaa
