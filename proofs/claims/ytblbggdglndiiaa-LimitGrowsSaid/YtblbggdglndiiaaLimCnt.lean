/- Rows of the work as they lie: counts, and the steps of 'next', plain. No program is named here. -/
import Derived.Test.YtblbggdglndiiaaLimLaws
namespace Go.Proofs.Ytblbggdglndiiaa
set_option linter.unusedVariables false

/-- how many of the first, and of one more .., are symbols. -/
def cnts (l : List (Nat × Bool)) : List Nat := (List.range l.length).map fun i => syms l (i + 1)
theorem cnts_len (l : List (Nat × Bool)) : (cnts l).length = l.length := by simp [cnts]
theorem cnts_get (l : List (Nat × Bool)) (k : Nat) (hk : k ≤ l.length) : (if k = 0 then 0 else (cnts l).getD (k - 1) 0) = syms l k := by
  by_cases h : k = 0
  · rw [if_pos h, h]; simp [syms]
  · rw [if_neg h, List.getD_eq_getElem?_getD, cnts, List.getElem?_map, List.getElem?_range (by omega)]
    simp only [Option.map_some, Option.getD_some]
    rw [show k - 1 + 1 = k by omega]
theorem syms_snoc (l : List (Nat × Bool)) (e : Nat × Bool) : syms (l ++ [e]) (l.length + 1) = syms l l.length + (if e.2 then 1 else 0) := by
  rw [syms, List.take_of_length_le (by simp), List.filter_append, List.length_append, syms, List.take_length]
  cases h : e.2 <;> simp [h]
theorem syms_more (l : List (Nat × Bool)) (e : Nat × Bool) (k : Nat) (hk : k ≤ l.length) : syms (l ++ [e]) k = syms l k := by
  rw [syms, List.take_append_of_le_length hk, syms]
theorem cnts_snoc (l : List (Nat × Bool)) (e : Nat × Bool) : cnts (l ++ [e]) = cnts l ++ [syms l l.length + (if e.2 then 1 else 0)] := by
  rw [cnts, List.length_append, List.length_singleton, List.range_succ, List.map_append, List.map_singleton, syms_snoc]
  congr 1
  refine List.map_congr_left fun i hi => ?_
  rw [List.mem_range] at hi
  exact syms_more l e (i + 1) hi
theorem wts_snoc (l : List (Nat × Bool)) (e : Nat × Bool) : wts (l ++ [e]) = wts l ++ [e.1] := by simp [wts]
/-- what is still to be mixed. -/
def restM (W L : List Nat) (i k : Nat) : List (Nat × Bool) := mix (W.drop i) (pairs (L.drop k))
theorem drop_getD (l : List Nat) (i : Nat) (h : i < l.length) : l.drop i = l.getD i 0 :: l.drop (i + 1) := by
  rw [List.drop_eq_getElem_cons h, List.getD_eq_getElem?_getD, List.getElem?_eq_getElem h]; rfl
theorem pairs_more (L : List Nat) (k : Nat) (h : k + 1 < L.length) : pairs (L.drop k) = (L.getD k 0 + L.getD (k + 1) 0) :: pairs (L.drop (k + 2)) := by
  rw [drop_getD L k (by omega), drop_getD L (k + 1) h, pairs]
theorem pairs_out (L : List Nat) (k : Nat) (h : ¬ k + 1 < L.length) : pairs (L.drop k) = [] := by
  have : (L.drop k).length ≤ 1 := by rw [List.length_drop]; omega
  match hh : L.drop k with
  | [] => rfl
  | [_] => rfl
  | a :: b :: l => rw [hh] at this; simp at this
theorem rest_sym (W L : List Nat) (i k : Nat) (hi : i < W.length) (h : k + 1 < L.length → W.getD i 0 ≤ L.getD k 0 + L.getD (k + 1) 0) : restM W L i k = (W.getD i 0, true) :: restM W L (i + 1) k := by
  rw [restM, restM, drop_getD W i hi]
  by_cases hk : k + 1 < L.length
  · rw [pairs_more L k hk, mix_cons, if_pos (h hk)]
  · rw [pairs_out L k hk, mix_nil_r, mix_nil_r]; rfl
theorem rest_pack (W L : List Nat) (i k : Nat) (hk : k + 1 < L.length) (h : i < W.length → ¬ W.getD i 0 ≤ L.getD k 0 + L.getD (k + 1) 0) : restM W L i k = (L.getD k 0 + L.getD (k + 1) 0, false) :: restM W L i (k + 2) := by
  rw [restM, restM, pairs_more L k hk]
  by_cases hi : i < W.length
  · rw [drop_getD W i hi, mix_cons, if_neg (h hi)]
  · rw [List.drop_of_length_le (by omega), mix_nil_l, mix_nil_l]; rfl
theorem rest_end (W L : List Nat) (i k : Nat) (hi : ¬ i < W.length) (hk : ¬ k + 1 < L.length) : restM W L i k = [] := by
  rw [restM, pairs_out L k hk, List.drop_of_length_le (by omega), mix_nil_l]; rfl
end Go.Proofs.Ytblbggdglndiiaa
