/- How much of all there is a code takes, plain (a part of group prefix's text). No program is named here. -/
import Derived.Test.YtaabmlnbadpfgaaView
namespace Go.Proofs.Ytaabmlnbadpfgaa
set_option linter.unusedVariables false

/-- how much of all there is a code takes. -/
def weightL (L : List Nat) : Nat := (L.map fun n => if n = 0 then 0 else 2 ^ (20 - n)).sum
theorem weightL_snoc (L : List Nat) (n : Nat) : weightL (L ++ [n]) = weightL L + if n = 0 then 0 else 2 ^ (20 - n) := by simp [weightL]
theorem weightL_take (L : List Nat) (i : Nat) (h : i < L.length) : weightL (L.take (i + 1)) = weightL (L.take i) + if L.getD i 0 = 0 then 0 else 2 ^ (20 - L.getD i 0) := by
  rw [List.take_add_one, List.getElem?_eq_getElem h, Option.toList_some, weightL_snoc]
  simp [List.getD, List.getElem?_eq_getElem h]
theorem weightL_le (L : List Nat) : weightL L ≤ L.length * 2 ^ 20 := by
  induction L with
  | nil => simp [weightL]
  | cons n L ih =>
    have : (if n = 0 then 0 else 2 ^ (20 - n)) ≤ 2 ^ 20 := by
      split
      · simp
      · exact Nat.pow_le_pow_right (by decide) (by omega)
    simp only [weightL, List.map_cons, List.sum_cons, List.length_cons, Nat.succ_mul] at ih ⊢
    omega
end Go.Proofs.Ytaabmlnbadpfgaa
