/- Bytes in new memory; the cells of what reads as a list. -/
import Derived.Test.YtaabmlnbadpfgaaView
import Derived.Test.YtaabmlnbadpfgaaAppend
namespace Go.Proofs.Ytaabmlnbadpfgaa
open Go.RowKit
set_option linter.unusedVariables false

/-- bytes in new memory. -/
def BO (w : World) (acc : List Nat) (ov : Value) (wr : World) : Prop := ∃ og, Owns wr 5 1 ov og acc.length (u8s acc) ∧ (∀ g, og = some g → w.heap.size ≤ g) ∧ Ext w wr
theorem BO.ext {w wr w' : World} {acc : List Nat} {ov : Value} (h : BO w acc ov wr) (hx : Ext wr w') : BO w acc ov w' := by
  obtain ⟨og, h1, h2, h3⟩ := h
  exact ⟨og, h1.ext' hx, h2, h3.trans hx⟩
theorem BO.toExt {w wr : World} {l : List Nat} {v : Value} (h : BO w l v wr) : Ext w wr := h.choose_spec.2.2
theorem BO.view {w wr : World} {l : List Nat} {v : Value} (h : BO w l v wr) : View wr v l := h.choose_spec.1.view
theorem BO.viewL {w wr : World} {l : List Nat} {v : Value} (h : BO w l v wr) : ViewL wr v (u8s l) := h.choose_spec.1.viewL
theorem bo_snoc {w w1 w2 : World} {acc : List Nat} {ov v' : Value} {y : Nat} {o : Obj} (h : BO w acc ov w1) (hown' : w2.ownsRow 0 5 1 v' (acc.length + 1) (u8s acc ++ [.int .u8 y]))
    (hgrow : (w1.alloc o).grownBy w2 ov.ownBlock) (hat : v'.ownBlock = ov.ownBlock ∨ v'.ownBlock = some (w1.heap.size + 1)) : BO w (acc ++ [y]) v' w2 := by
  obtain ⟨og, h1, h2, h3⟩ := h
  refine ⟨v'.ownBlock, ⟨by rw [u8s_append, List.length_append]; exact hown', rfl⟩, fun g e => ?_, Touch.grown (h3.alloc _) hgrow (fun i e => Or.inr (h2 i (by rw [← h1.2]; exact e)))⟩
  rcases hat with hat | hat
  · rw [hat, h1.2] at e; exact h2 g e
  · rw [hat] at e; cases e; have := h3.size; omega
theorem viewL_cells {w : World} {ao : Option Addr} {n cap : Nat} {xs : List Value} (h : ViewL w (.slice ao n cap) xs) (h0 : 0 < xs.length) : ∃ b o, ao = some ⟨b, o, none⟩ ∧ xs.length ≤ cap ∧ ∀ j u, xs[j]? = some u → w.cell? ⟨b, o + j, none⟩ = some u := by
  obtain ⟨ao', cap', e, hc, _, h3⟩ := h
  injection e with e1 e2 e3
  subst e1
  subst e3
  obtain ⟨b, o, h4, h5⟩ := h3 h0
  exact ⟨b, o, h4, hc, h5⟩
end Go.Proofs.Ytaabmlnbadpfgaa
