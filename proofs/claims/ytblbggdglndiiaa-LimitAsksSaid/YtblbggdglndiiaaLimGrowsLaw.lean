/- What LimitGrows asks of the lengths, plain; copies of ints. -/
import Derived.Test.YtblbggdglndiiaaLimFallLaw
namespace Go.Proofs.Ytblbggdglndiiaa
open Go.RowKit
set_option linter.unusedVariables false

theorem growsP {F P G Q : List Nat} (h : IsOrd F P) (g : IsOrd G Q) {k b : Nat} (hl : G.length = F.length) (hk : k < F.length) (h0 : 0 < F.getD k 0) (h1 : ∀ s, s ≠ k → G.getD s 0 = F.getD s 0) (h2 : G.getD k 0 = F.getD k 0 + b) (hpl : Q.length = P.length) (i : Nat) (hn : P.length ≤ 2 ^ (i + 1)) :
    costF F (lenP F P i) + b * lenP G Q i k ≤ costF G (lenP G Q i) ∧ costF G (lenP G Q i) ≤ costF F (lenP F P i) + b * lenP F P i k := by
  have e1 : costF F (lenP F P i) = costF F (lenInit P) + costF F (lenOf F P i) := costF_add F _ _
  have e2 : costF G (lenP G Q i) = costF G (lenInit Q) + costF G (lenOf G Q i) := costF_add G _ _
  obtain ⟨q1, q2⟩ := grows h g hl hk h0 h1 h2 i hn
  have hkP : k ∈ P := (h.mem k).2 ⟨hk, h0⟩
  have hkQ : k ∈ Q := (g.mem k).2 ⟨by omega, by omega⟩
  rw [e1, e2, init_cost h, init_cost g, lenP, lenP, hpl, Nat.mul_add, Nat.mul_add]
  by_cases hP : P.length = 1
  · rw [if_pos hP, if_pos hP, lenInit, lenInit, if_pos ⟨by omega, hkQ⟩, if_pos ⟨hP, hkP⟩]
    have hs : G.sum = F.sum + b := by
      have a1 := cost_grown hl hk h1 h2 (fun _ => 1)
      have c : ∀ X : List Nat, costF X (fun _ => 1) = X.sum := fun X => by
        rw [costF]
        conv => rhs; rw [← range_getD X]
        congr 1
        exact List.map_congr_left fun s _ => Nat.mul_one _
      rw [c, c] at a1
      omega
    omega
  · rw [if_neg hP, if_neg hP, lenInit, lenInit, if_neg (fun e => hP (by omega)), if_neg (fun e => hP e.1)]
    omega
theorem ord_set_len {F P G Q : List Nat} (h : IsOrd F P) (g : IsOrd G Q) (hl : G.length = F.length) (hp : ∀ s, s < F.length → (0 < G.getD s 0 ↔ 0 < F.getD s 0)) : Q.length = P.length := by
  refine ((List.perm_ext_iff_of_nodup (before_nodup g.up) (before_nodup h.up)).2 fun s => ?_).length_eq
  rw [g.mem, h.mem, hl]
  constructor
  · rintro ⟨a, b⟩; exact ⟨a, (hp s a).1 b⟩
  · rintro ⟨a, b⟩; exact ⟨a, (hp s a).2 b⟩
theorem own_block_geI {w : World} {base : Nat} {v : Value} {n : Nat} {xs : List Value} (h : w.ownsRow base 3 1 v n xs) : ∀ g, v.ownBlock = some g → base ≤ g := fun g e => by
  rcases h.2 with ⟨rfl, _⟩ | ⟨g', cap, cur, rfl, hg, _⟩
  · cases e
  · cases e; exact hg
/-- a copy of ints: append([]int{}, f...). -/
theorem copy_io {w w2 : World} {F : List Nat} {v' : Value} (hown' : w2.ownsRow w.heap.size 3 1 v' (intsL F).length (intsL F)) (hgrow : (w.alloc (.cells #[] 3)).grownBy w2 (some w.heap.size)) : IOn w F v' w2 := by
  have hx3 : Ext w w2 := Touch.grown ((Ext.refl w).alloc _) hgrow (fun k e => Or.inr (by cases e; exact Nat.le_refl _))
  rw [length_intsL] at hown'
  exact ⟨v'.ownBlock, ⟨ownsRow_zero hown', rfl⟩, fun g e => own_block_geI hown' g e, hx3⟩
/-- one of the ints is stored anew. -/
theorem io_set {w wr : World} {F : List Nat} {g c k n : Nat} (h : IOn w F (.slice (some ⟨g, 0, none⟩) n c) wr) (hk : k < F.length) (x : Nat) : IOn w (F.set k x) (.slice (some ⟨g, 0, none⟩) n c) (wr.setCell ⟨g, k, none⟩ (.int .i64 x)) := by
  obtain ⟨og, h1, h2, h3⟩ := h
  rcases h1.form with ⟨_, e, _⟩ | ⟨g', cap', cur, e1, e2, _⟩
  · cases e
  · cases e2
    subst e1
    have := h1.set k (.int .i64 x) hk
    have e : (intsL F).set k (.int .i64 x) = intsL (F.set k x) := by simp [intsL, List.map_set]
    rw [e] at this
    exact ⟨some g, by rw [List.length_set]; exact this, h2, Touch.setCell (S := fun _ => False) h3 (Or.inr (h2 g rfl)) _⟩
end Go.Proofs.Ytblbggdglndiiaa
