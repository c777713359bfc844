/- Rows of ints, as values. No program is named here. -/
import Derived.Test.YtaabmlnbadpfgaaView
namespace Go.Proofs.Ytaabmlnbadpfgaa
open Go.RowKit

def ints (l : List Int) : List Value := l.map (Value.int .i64)
theorem length_ints (l : List Int) : (ints l).length = l.length := by simp [ints]
theorem getElem?_ints (l : List Int) (i : Nat) (h : i < l.length) : (ints l)[i]? = some (.int .i64 l[i]) := by simp [ints, h]
theorem ints_append (l m : List Int) : ints (l ++ m) = ints l ++ ints m := by simp [ints]
theorem ints_one (l : List Int) : ∀ u ∈ ints l, u.oneCell' = true := fun u hu => by
  obtain ⟨x, _, rfl⟩ := List.mem_map.1 hu; rfl
def kints (k : IntKind) (l : List Int) : List Value := l.map (Value.int k)
theorem length_kints (k : IntKind) (l : List Int) : (kints k l).length = l.length := by simp [kints]
theorem getElem?_kints (k : IntKind) (l : List Int) (i : Nat) (h : i < l.length) : (kints k l)[i]? = some (.int k l[i]) := by simp [kints, h]
def i64n (l : List Nat) : List Value := l.map fun (s : Nat) => Value.int .i64 s
theorem length_i64n (l : List Nat) : (i64n l).length = l.length := by simp [i64n]
theorem getElem?_i64n (l : List Nat) (i : Nat) (h : i < l.length) : (i64n l)[i]? = some (.int .i64 (l.getD i 0 : Nat)) := by simp [i64n, h]
theorem i64n_append (l m : List Nat) : i64n (l ++ m) = i64n l ++ i64n m := by simp [i64n]
end Go.Proofs.Ytaabmlnbadpfgaa
