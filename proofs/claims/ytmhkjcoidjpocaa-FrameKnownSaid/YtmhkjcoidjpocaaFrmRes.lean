/- What both Gets answer, in one form. -/
import Derived.Test.YtmhkjcoidjpocaaFrmRefGet
import Derived.Test.YtmhkjcoidjpocaaFrmFrames
namespace Go.Proofs.Ytmhkjcoidjpocaa
open Go.RowKit
set_option linter.unusedVariables false
set_option linter.unusedSimpArgs false

structure Res where
  h : Hd
  n : Nat
  wrong : Bool
  e : Nat
def resH (bs : List Nat) : Res := match getH bs with | some (h, n, wr) => ⟨h, n, wr, 0⟩ | none => ⟨hdZ, 0, false, 2⟩
def GR (w : World) (R : Res) (e : Ending) (w' : World) : Prop :=
  ∃ so sc og, e = .returned (.tuple #[.agg #[.bool R.h.text, .int .u32 R.h.time, .int .u8 R.h.xfl, .int .u8 R.h.os, .slice so R.h.extra.length sc, .string R.h.name, .string R.h.comment, .int .u8 R.h.has, .bool R.h.sum], .int .i64 R.n, .bool R.wrong, .int .i64 R.e]) ∧ Owns w' 5 1 (.slice so R.h.extra.length sc) og R.h.extra.length (u8s R.h.extra) ∧ (∀ g, og = some g → w.heap.size ≤ g) ∧ Ext w w'
theorem gr_of {w w' : World} {bs : List Nat} {e : Ending} (h : GotH w bs e w') : GR w (resH bs) e w' := by
  unfold GotH at h
  unfold resH GR
  cases hg : getH bs with
  | none =>
    rw [hg] at h
    obtain ⟨rfl, hx⟩ := h
    exact ⟨none, 0, none, rfl, Owns.nil _ _ _, fun g e => (by cases e), hx⟩
  | some r =>
    obtain ⟨hd, n, wr⟩ := r
    rw [hg] at h
    obtain ⟨ev, og, rfl, h1, h2, h3⟩ := h
    obtain ⟨so, sc, rfl⟩ := h1.shape
    exact ⟨so, sc, og, rfl, h1, h2, h3⟩
theorem hdZ_ok : HOk hdZ := ⟨by decide, by decide, by decide, by decide, fun b hb => by cases hb⟩
theorem res_ok (bs : List Nat) (hb : ∀ b ∈ bs, b < 256) : HOk (resH bs).h := by
  unfold resH
  cases hg : getH bs with
  | none => exact hdZ_ok
  | some r => exact (getH_inv hb hg).ok
theorem frm_get_res (v : Value) (bs : List Nat) (w : World) (hv : ViewL w v (u8s bs)) (hl : bs.length ≤ 2 ^ 40) (hb : ∀ b ∈ bs, b < 256) : Calls Try.prog 15 #[v] w (GR w (resH bs)) := (frm_get v bs w hv hl hb).mono fun _ _ h => gr_of h
theorem frm_ref_get_res (v : Value) (bs : List Nat) (w : World) (hv : ViewL w v (u8s bs)) (hl : bs.length ≤ 2 ^ 40) (hb : ∀ b ∈ bs, b < 256) : Calls Try.prog 16 #[v] w (GR w (resH bs)) := (frm_ref_get v bs w hv hl hb).mono fun _ _ h => gr_of h
/-- a head's cells at a block. -/
theorem head_cells {w : World} {B : Nat} {h : Hd} {so : Option Addr} {sc : Nat} (hb : IsBox w B h (.slice so h.extra.length sc)) :
    w.cell? ⟨B, 0, none⟩ = some (.bool h.text) ∧ w.cell? ⟨B, 1, none⟩ = some (.int .u32 h.time) ∧ w.cell? ⟨B, 2, none⟩ = some (.int .u8 h.xfl) ∧ w.cell? ⟨B, 3, none⟩ = some (.int .u8 h.os) ∧ w.cell? ⟨B, 4, none⟩ = some (.slice so h.extra.length sc) ∧ w.cell? ⟨B, 5, none⟩ = some (.string h.name) ∧ w.cell? ⟨B, 6, none⟩ = some (.string h.comment) ∧ w.cell? ⟨B, 7, none⟩ = some (.int .u8 h.has) ∧ w.cell? ⟨B, 8, none⟩ = some (.bool h.sum) :=
  ⟨hb.cell 0, hb.cell 1, hb.cell 2, hb.cell 3, hb.cell 4, hb.cell 5, hb.cell 6, hb.cell 7, hb.cell 8⟩
theorem head_box {w wx : World} {h : Hd} {so : Option Addr} {sc : Nat} (hx : Ext (w.alloc (.cells (hcells h (.slice so h.extra.length sc)) 25)) wx) : IsBox wx w.heap.size h (.slice so h.extra.length sc) := Touch.keep hx (heap_alloc_new w _) (fun f => f)
/-- a copy of bytes: append([]byte{}, b...). -/
theorem copy_bo {w w1 w2 : World} {bs : List Nat} {v' : Value} (hx : Ext w w1) (hown' : w2.ownsRow w1.heap.size 5 1 v' (u8s bs).length (u8s bs)) (hgrow : (w1.alloc (.cells #[] 5)).grownBy w2 (some w1.heap.size)) : CloneOf w bs (.returned v') w2 := by
  have hx3 : Ext w1 w2 := Touch.grown ((Ext.refl w1).alloc _) hgrow (fun k e => Or.inr (by cases e; exact Nat.le_refl _))
  refine ⟨v', v'.ownBlock, rfl, ⟨by simpa [length_u8s] using ownsRow_zero hown', rfl⟩, fun g e => Nat.le_trans hx.size (own_block_ge hown' g e), hx.trans hx3⟩
end Go.Proofs.Ytmhkjcoidjpocaa
