/- The row that is sorted, as a list; its world; what is asked of the comparison. -/
import Derived.Test.YtblbggdglndiiaaLimSwap
import Derived.Test.YtblbggdglndiiaaLimPlain
namespace Go.Proofs.Ytblbggdglndiiaa
open Go.RowKit Go.Sort
set_option linter.unusedVariables false

/-- the world in which the row is l, m draws on. -/
def SW (w : World) (blk off : Nat) (l : List Nat) (m : Nat) : World := (putRow encN w blk off l.toArray).drewN m
theorem get_toArray (l : List Nat) (j : Nat) : l.toArray[j]! = l.getD j 0 := by
  rw [List.getElem!_toArray, List.getD_eq_getElem?_getD]
  simp [getElem!_def]
  cases h : l[j]? <;> rfl
theorem SW_self {w : World} {blk off : Nat} {l : List Nat} (h : Holds encN w blk off l.toArray) : SW w blk off l 0 = w := putRow_self encN w blk off l.toArray h
theorem SW_drewN (w : World) (blk off : Nat) (l : List Nat) (m q : Nat) : (SW w blk off l m).drewN q = SW w blk off l (m + q) := by
  unfold SW; rw [World.drewN_drewN]
theorem SW_cell {w : World} {blk off : Nat} {l0 : List Nat} (h : Holds encN w blk off l0.toArray) {l : List Nat} (hl : l.length = l0.length) (m j : Nat) (hj : j < l0.length) :
    (SW w blk off l m).cell? ⟨blk, off + j, none⟩ = some (.int .i64 (l.getD j 0 : Nat)) := by
  have := (holds_putRow encN w blk off l0.toArray l.toArray h (by simpa using hl) j (by simpa using hl ▸ hj)).1
  rw [get_toArray] at this
  exact this
theorem SW_frozen {w : World} {blk off : Nat} {l0 : List Nat} (h : Holds encN w blk off l0.toArray) {l : List Nat} (hl : l.length = l0.length) (m j : Nat) (hj : j < l0.length) :
    (SW w blk off l m).frozen? ⟨blk, off + j, none⟩ = false :=
  (holds_putRow encN w blk off l0.toArray l.toArray h (by simpa using hl) j (by simpa using hl ▸ hj)).2
theorem SW_swap (w : World) (blk off : Nat) (l l' : List Nat) (m i j : Nat) (hi : i < l.length) (hj : j < l.length) (h : swp l.toArray i j = l'.toArray) :
    (((SW w blk off l m).setCell ⟨blk, off + i, none⟩ (.int .i64 (l.getD j 0 : Nat))).setCell ⟨blk, off + j, none⟩ (.int .i64 (l.getD i 0 : Nat))).drew = SW w blk off l' (m + 1) := by
  have := swap_worldC encN w blk off l.toArray m i j (by simpa using hi) (by simpa using hj)
  rw [get_toArray, get_toArray, h] at this
  exact this
theorem SW_of_holds {w : World} {blk off : Nat} {l0 : List Nat} (h : Holds encN w blk off l0.toArray) {l : List Nat} (hl : l.length = l0.length) (m : Nat) : Holds encN (SW w blk off l m) blk off l.toArray :=
  holds_putRow encN w blk off l0.toArray l.toArray h (by simpa using hl)
theorem SW_SW {w : World} {blk off : Nat} {l l' : List Nat} {m m' : Nat} (hl : l'.length = l.length) : SW (SW w blk off l m) blk off l' m' = SW w blk off l' (m + m') := by
  unfold SW
  rw [show putRow encN ((putRow encN w blk off l.toArray).drewN m) blk off l'.toArray = (putRow encN (putRow encN w blk off l.toArray) blk off l'.toArray).drewN m from rfl, putRow_putRow _ _ _ _ _ _ (by simpa using hl), World.drewN_drewN]
/-- two that lie beside each other, exchanged. -/
theorem swp_beside (A B : List Nat) (x y : Nat) : swp (A ++ x :: y :: B).toArray A.length (A.length + 1) = (A ++ y :: x :: B).toArray := by
  apply Array.toList_inj.1
  rw [swp, get_toArray, get_toArray]
  simp
theorem swp_beside' (A B : List Nat) (x y : Nat) : swp (A ++ x :: y :: B).toArray (A.length + 1) A.length = (A ++ y :: x :: B).toArray := by
  apply Array.toList_inj.1
  rw [swp, get_toArray, get_toArray]
  simp
theorem swp_apart (A B C : List Nat) (x y i j : Nat) (hi : i = A.length) (hj : j = (A ++ x :: B).length) : swp (A ++ x :: B ++ y :: C).toArray i j = (A ++ y :: B ++ x :: C).toArray := by
  subst hi hj
  apply Array.toList_inj.1
  rw [swp, get_toArray, get_toArray]
  have e1 : (A ++ x :: B ++ y :: C).getD A.length 0 = x := by simp
  have e2 : (A ++ x :: B ++ y :: C).getD (A ++ x :: B).length 0 = y := by
    rw [List.getD_eq_getElem?_getD, List.getElem?_append_right (Nat.le_refl _)]; simp
  rw [e1, e2]
  simp only [Array.toList_setIfInBounds]
  rw [List.append_assoc, List.set_append_right _ _ (Nat.le_refl _), Nat.sub_self]
  rw [show (x :: B ++ y :: C).set 0 y = y :: B ++ y :: C from rfl, ← List.append_assoc, List.set_append_right _ _ (by simp)]
  simp
/-- rows of like length, exchanged. -/
theorem swpR_lists (P Y S X Z : List Nat) (hl : X.length = Z.length) : ∀ t, t ≤ X.length → swpR (P ++ X ++ Y ++ Z ++ S).toArray P.length (P ++ X ++ Y).length t = (P ++ Z.take t ++ X.drop t ++ Y ++ X.take t ++ Z.drop t ++ S).toArray
  | 0, _ => by simp [swpR]
  | t + 1, h => by
    rw [swpR, swpR_lists P Y S X Z hl t (by omega)]
    have hx : X.drop t = X[t]'(by omega) :: X.drop (t + 1) := (List.drop_eq_getElem_cons (by omega))
    have hz : Z.drop t = Z[t]'(by omega) :: Z.drop (t + 1) := (List.drop_eq_getElem_cons (by omega))
    have hx2 : X.take (t + 1) = X.take t ++ [X[t]'(by omega)] := by rw [List.take_add_one, List.getElem?_eq_getElem (by omega)]; rfl
    have hz2 : Z.take (t + 1) = Z.take t ++ [Z[t]'(by omega)] := by rw [List.take_add_one, List.getElem?_eq_getElem (by omega)]; rfl
    have := swp_apart (P ++ Z.take t) (X.drop (t + 1) ++ Y ++ X.take t) (Z.drop (t + 1) ++ S) (X[t]'(by omega)) (Z[t]'(by omega)) (P.length + t) ((P ++ X ++ Y).length + t) (by simp; omega) (by simp; omega)
    rw [hx, hz, hx2, hz2]
    simp only [List.append_assoc, List.cons_append, List.nil_append] at this ⊢
    exact this
theorem swpR_all {P Y S X Z : List Nat} (hl : X.length = Z.length) {a b n : Nat} (ha : a = P.length) (hb : b = (P ++ X ++ Y).length) (hn : n = X.length) : swpR (P ++ X ++ Y ++ Z ++ S).toArray a b n = (P ++ Z ++ Y ++ X ++ S).toArray := by
  subst ha hb hn
  rw [swpR_lists P Y S X Z hl X.length (Nat.le_refl _)]
  rw [List.drop_length, List.take_length, hl, List.drop_length, List.take_length]
  simp
/-- the walk of an exchange of rows, in lists. -/
theorem lim_swapRange_l (blk off cap : Nat) (fv : Value) (l0 P Y S X Z : List Nat) (w : World) (m0 a b n N : Nat) (hH : Holds encN w blk off l0.toArray) (hN : N = l0.length) (hl0 : (P ++ X ++ Y ++ Z ++ S).length = l0.length) (hl : X.length = Z.length) (ha : a = P.length) (hb : b = (P ++ X ++ Y).length) (hn : n = X.length) (hsz : l0.length ≤ 2 ^ 40) :
    Calls Try.prog 36 #[.slice (some ⟨blk, off, none⟩) N cap, .int .i64 a, .int .i64 b, .int .i64 n, fv] (SW w blk off (P ++ X ++ Y ++ Z ++ S) m0) fun e w' => e = .returned (.tuple #[]) ∧ ∃ m, w' = SW w blk off (P ++ Z ++ Y ++ X ++ S) m := by
  have hs : (P ++ X ++ Y ++ Z ++ S).toArray.size = N := by rw [hN, ← hl0, List.size_toArray]
  have h := lim_swapRange blk off cap a b n fv (P ++ X ++ Y ++ Z ++ S).toArray (SW w blk off (P ++ X ++ Y ++ Z ++ S) m0) (SW_of_holds hH hl0 m0) (by subst ha hb hn; simp) (by rw [hs, hN, ← hl0]; subst hb hn; simp; omega) (by rw [hs, hN]; exact hsz)
  rw [hs] at h
  refine h.mono ?_
  rintro e w' ⟨rfl, m, rfl⟩
  refine ⟨rfl, m0 + m, ?_⟩
  rw [swpR_all hl ha hb hn]
  exact SW_SW (by simp; omega)
end Go.Proofs.Ytblbggdglndiiaa
