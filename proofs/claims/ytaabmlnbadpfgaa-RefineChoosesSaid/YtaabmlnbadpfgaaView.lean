/- Values that read as lists of one-cell elements, wherever they lie. -/
import Derived.Test.YtaabmlnbadpfgaaMem
namespace Go.Proofs.Ytaabmlnbadpfgaa
open Go.RowKit

def ViewL (w : World) (v : Value) (xs : List Value) : Prop :=
  ∃ ao cap, v = .slice ao xs.length cap ∧ xs.length ≤ cap ∧ (ao = none → cap = 0) ∧ (0 < xs.length → ∃ b o, ao = some ⟨b, o, none⟩ ∧ ∀ j u, xs[j]? = some u → w.cell? ⟨b, o + j, none⟩ = some u)
theorem add_lit (g j : Nat) : (⟨g, 0, none⟩ : Addr).add j = ⟨g, j, none⟩ := by unfold Addr.add; split <;> simp_all
theorem Owns.viewL {w : World} {e : TypeId} {v : Value} {og : Option Nat} {n : Nat} {xs : List Value} (h : Owns w e 1 v og n xs) : ViewL w v xs := by
  have hl : xs.length = n := by simpa using h.1.1
  rcases h.form with ⟨_, rfl, rfl, rfl⟩ | ⟨g, cap, cur, rfl, rfl, hh, hcap, _, _, htake⟩
  · exact ⟨none, 0, rfl, Nat.le_refl _, fun _ => rfl, fun h => by simp at h⟩
  · refine ⟨_, cap, by rw [hl], by omega, fun e => by simp at e, fun _ => ⟨g, 0, rfl, fun j u hu => ?_⟩⟩
    have := h.1.cells (g := g) rfl j u hu
    rw [add_lit] at this; simpa using this
theorem ViewL.keep {S : Nat → Prop} {w w' : World} {v : Value} {xs : List Value} (h : ViewL w v xs) (ht : Touch S w w') (hn : ∀ b o n cap, v = .slice (some ⟨b, o, none⟩) n cap → ¬ S b) : ViewL w' v xs := by
  obtain ⟨ao, cap, rfl, h1, h2, h3⟩ := h
  refine ⟨ao, cap, rfl, h1, h2, fun h0 => ?_⟩
  obtain ⟨b, o, rfl, hc⟩ := h3 h0
  exact ⟨b, o, rfl, fun j u hu => cell_touch ht (hc j u hu) (hn b o _ _ rfl)⟩
theorem ViewL.ext {w w' : World} {v : Value} {xs : List Value} (h : ViewL w v xs) (he : Ext w w') : ViewL w' v xs := h.keep he (fun _ _ _ _ _ f => f)
theorem ViewL.shape {w : World} {v : Value} {xs : List Value} (h : ViewL w v xs) : ∃ ao cap, v = .slice ao xs.length cap := by
  obtain ⟨ao, cap, rfl, _⟩ := h; exact ⟨ao, cap, rfl⟩
theorem View.viewL {w : World} {v : Value} {bs : List Nat} (h : View w v bs) (hcap : ∀ a n cap, v = .slice (some a) n cap → n ≤ cap) : ViewL w v (u8s bs) := by
  rcases h with ⟨rfl, rfl⟩ | ⟨a, cap, rfl, hc⟩
  · exact ⟨none, 0, rfl, Nat.le_refl _, fun _ => rfl, fun h => by simp [u8s] at h⟩
  · refine ⟨some a, cap, by rw [length_u8s], by rw [length_u8s]; exact hcap a _ _ rfl, fun e => (by cases e), fun h0 => ?_⟩
    have h1 : w.cell? (a.add 0) = some ((u8s bs)[0]) := hc 0 _ (List.getElem?_eq_getElem h0)
    have hs : a.spot = none := by
      have : a.add 0 = a := by simp [Addr.add]
      rw [this] at h1
      unfold World.cell? at h1
      split at h1
      · split at h1
        · cases h1
        · rename_i hs; simpa using hs
      · cases h1
    refine ⟨a.block, a.off, by cases a; simp_all, fun j u hu => ?_⟩
    have e : a.add j = ⟨a.block, a.off + j, none⟩ := by
      unfold Addr.add; split
      · rename_i hk; subst hk; cases a; simp_all
      · rfl
    rw [← e]; exact hc j u hu

def bls (l : List Bool) : List Value := l.map Value.bool
theorem length_bls (l : List Bool) : (bls l).length = l.length := by simp [bls]
theorem getElem?_bls (l : List Bool) (i : Nat) (h : i < l.length) : (bls l)[i]? = some (.bool l[i]) := by simp [bls, h]
theorem bls_append (l m : List Bool) : bls (l ++ m) = bls l ++ bls m := by simp [bls]
theorem bls_one (l : List Bool) : ∀ u ∈ bls l, u.oneCell' = true := by
  intro u hu
  obtain ⟨b, _, rfl⟩ := List.mem_map.1 hu
  rfl
/-- a row of bits in new memory. -/
def NewRow (w : World) (l : List Bool) (e : Ending) (w' : World) : Prop :=
  ∃ v og, e = .returned v ∧ Owns w' 4 1 v og l.length (bls l) ∧ (∀ g, og = some g → w.heap.size ≤ g) ∧ Ext w w'
theorem set_low (B : List Bool) (k n : Nat) (hn : B.length = n) (hk : k < n) : (B.take k ++ List.replicate (n - k) false).set k B[k] = B.take (k + 1) ++ List.replicate (n - (k + 1)) false := by
  have hkl : (B.take k).length = k := by rw [List.length_take]; omega
  have e : n - k = (n - (k + 1)) + 1 := by omega
  rw [List.set_append_right _ _ (by omega), e, List.replicate_succ, hkl, Nat.sub_self, List.set_cons_zero, List.take_succ_eq_append_getElem (show k < B.length by omega), List.append_assoc, List.singleton_append]
theorem set_high (B : List Bool) (k n : Nat) (hn : B.length = n) (hk : k < n) : (List.replicate (n - k) false ++ B.drop (n - k)).set (n - 1 - k) B[n - 1 - k] = List.replicate (n - (k + 1)) false ++ B.drop (n - (k + 1)) := by
  rw [show n - k = (n - (k + 1)) + 1 by omega, List.replicate_succ', List.append_assoc, List.set_append_right _ _ (by simp; omega)]
  rw [List.length_replicate, show n - 1 - k - (n - (k + 1)) = 0 by omega, List.singleton_append, List.set_cons_zero]
  congr 1
  rw [List.drop_eq_getElem_cons (show n - (k + 1) < B.length by omega)]
  congr 2; omega
theorem made_one (z : Value) (n : Nat) : (madeCells #[z] n).toList = List.replicate n z := by
  apply List.ext_getElem
  · simp [madeCells]
  · intro j h1 h2
    simp [madeCells, Nat.mod_one]
/-- a piece of a value that reads as a list. -/
theorem ViewL.piece {w : World} {ao : Option Addr} {cap : Nat} {xs : List Value} (h : ViewL w (.slice ao xs.length cap) xs) (i n : Nat) (hi : i + n ≤ xs.length) (hc : cap ≠ i) :
    ViewL w (.slice (ao.map fun x => x.add i) n (cap - i)) ((xs.drop i).take n) := by
  obtain ⟨ao', cap', e, h1, h2, h3⟩ := h
  cases e
  have hl : ((xs.drop i).take n).length = n := by simp; omega
  refine ⟨_, _, by rw [hl], by rw [hl]; omega, fun e => ?_, fun h0 => ?_⟩
  · have : ao = none := by cases ao <;> simp_all
    have := h2 this; omega
  · rw [hl] at h0
    obtain ⟨b, o, rfl, hx⟩ := h3 (by omega)
    refine ⟨b, o + i, ?_, fun j u hu => ?_⟩
    · simp only [Option.map_some, Option.some.injEq]
      unfold Addr.add; split
      · rename_i hk; subst hk; rfl
      · rfl
    · have hj : j < n := by have := (List.getElem?_eq_some_iff.1 hu).1; omega
      have := hx (i + j) u (by rw [List.getElem?_take, if_pos hj, List.getElem?_drop] at hu; exact hu)
      rw [← this, show o + (i + j) = o + i + j by omega]
theorem ViewL.piece_end {w : World} {ao : Option Addr} {cap : Nat} {xs : List Value} (h : ViewL w (.slice ao xs.length cap) xs) (n : Nat) (hi : cap + n ≤ xs.length) : n = 0 ∧ ViewL w (.slice ao 0 0) [] := by
  obtain ⟨ao', cap', e, h1, h2, h3⟩ := h
  cases e
  exact ⟨by omega, ao, 0, rfl, Nat.le_refl _, fun _ => rfl, fun h => by simp at h⟩
end Go.Proofs.Ytaabmlnbadpfgaa
