/- Rows of ints that grow; the law of bytes that were cut. -/
import Derived.Test.YteabjmebnbaonaaTabStB
namespace Go.Proofs.Yteabjmebnbaonaa
open Go.RowKit
set_option linter.unusedVariables false

theorem St.snocN {w0 w w' : World} {Ts : List Thing} {v v' : Value} {l : List Nat} {y : Nat} {o : Obj} {n : Nat} (h : St w0 w Ts) (j : Nat) (hj : Ts[j]? = some (tO 3 v (i64s l))) (hn : n = l.length) (hown' : w'.ownsRow 0 3 1 v' (n + 1) (i64s l ++ [.int .i64 y]))
    (hgrow : (w.alloc o).grownBy w' v.ownBlock) (hat : v'.ownBlock = v.ownBlock ∨ v'.ownBlock = some (w.heap.size + 1)) : St w0 w' (Ts.set j (tO 3 v' (i64s (l ++ [y])))) := by
  rw [i64s_append]
  exact h.app1 j hj (by rw [length_i64s, hn]) hown' hgrow hat
theorem St.rowN {w0 w : World} {Ts : List Thing} {v : Value} {l : List Nat} {n : Nat} (h : St w0 w Ts) (j : Nat) (hj : Ts[j]? = some (tO 3 v (i64s l))) (hn : l.length = n) : w.ownsRow 0 3 1 v n (i64s l) := by
  subst hn
  have := h.row j hj; rwa [length_i64s] at this
theorem ViewL.take' {w : World} {ao : Option Addr} {n cap : Nat} {bs : List Nat} (h : View w (.slice ao n cap) bs) (k : Nat) (hk : k ≤ n) (h0 : 0 < n) : View w (.slice ao k cap) (bs.take k) := by
  rcases h with ⟨e, _⟩ | ⟨a, cap', e, hc⟩
  · cases e; omega
  · cases e
    refine Or.inr ⟨a, cap, by rw [List.length_take]; congr 1; omega, fun j u hu => hc j u ?_⟩
    simp only [u8s, List.map_take] at hu ⊢
    rw [List.getElem?_take] at hu
    split at hu
    · exact hu
    · cases hu
theorem atn_take (l : List Bool) (m : Nat) : AtN (rbit true ((packs true l).take m)) (8 * m) 0 l := fun i hi hN => by
  rw [Nat.zero_add, ← rbit_packs true l i, rbit, rbit]
  congr 1
  simp only [List.getD, List.getElem?_take]
  rw [if_pos (by omega)]
/-- bits cut by a byte: either the lengths are none, or the selectors are. -/
theorem cut_two (a vs : List Nat) (t : Nat) (ha : MayP a) (hv : MayN vs t) (M : List Bool) (hM : M = lenBits a ++ selBits vs) (m : Nat) (hm : m + 1 = (packs true M).length) :
    ((packs true M).take m).length = m ∧ (gLens (rbit true ((packs true M).take m)) (8 * m) 0 a.length = none ∨
      (gLens (rbit true ((packs true M).take m)) (8 * m) 0 a.length = some (a, (lenBits a).length) ∧ (lenBits a).length ≤ 8 * m ∧ gSel (rbit true ((packs true M).take m)) (8 * m) (lenBits a).length t = none)) := by
  have hat := atn_take M m
  have hl := length_packs true M
  refine ⟨by rw [List.length_take]; omega, ?_⟩
  have h1 := gLens_put (rbit true ((packs true M).take m)) (8 * m) 0 a ha (by rw [hM] at hat ⊢; exact hat.left)
  rw [Nat.zero_add] at h1
  by_cases hc : (lenBits a).length ≤ 8 * m
  · rw [if_pos hc] at h1
    refine Or.inr ⟨h1, hc, ?_⟩
    have hr : AtN (rbit true ((packs true M).take m)) (8 * m) (lenBits a).length (selBits vs) := by
      have := (show AtN (rbit true ((packs true M).take m)) (8 * m) 0 (lenBits a ++ selBits vs) by rw [hM] at hat ⊢; exact hat).right
      rwa [Nat.zero_add] at this
    rw [gSel_put _ _ _ t vs hv hr, if_neg]
    have : M.length = (lenBits a).length + (selBits vs).length := by rw [hM, List.length_append]
    omega
  · rw [if_neg hc] at h1; exact Or.inl h1
end Go.Proofs.Yteabjmebnbaonaa
