/- slices.symMergeCmpFunc of ints: its walk (both blocks of two or more), and the whole by induction. -/
import Derived.Test.YtblbggdglndiiaaLimMrgB
import Derived.Test.YtblbggdglndiiaaLimRot
namespace Go.Proofs.Ytblbggdglndiiaa
open Go.RowKit Go.Sort
set_option linter.unusedVariables false

/-- what the merge says, of blocks that are together so long at most. -/
def MrgSays (F : List Nat) (cb : Value) (blk off cap : Nat) (l0 : List Nat) (w : World) (sz : Nat) : Prop :=
  ∀ (P L R S : List Nat) (m0 a m b N : Nat), L.length + R.length ≤ sz → L ≠ [] → R ≠ [] → N = l0.length → (P ++ L ++ R ++ S).length = l0.length → a = P.length → m = (P ++ L).length → b = (P ++ L ++ R).length →
    (∀ x ∈ L ++ R, x < F.length) → (∀ x ∈ L, ∀ y ∈ R, x < y) → L.Pairwise (Before F) → R.Pairwise (Before F) →
    Calls Try.prog 34 #[.slice (some ⟨blk, off, none⟩) N cap, .int .i64 a, .int .i64 m, .int .i64 b, .func (.func 25) #[] #[cb]] (SW w blk off (P ++ L ++ R ++ S) m0) fun e w' => e = .returned (.tuple #[]) ∧ ∃ M k, M.Perm (L ++ R) ∧ M.Pairwise (Before F) ∧ w' = SW w blk off (P ++ M ++ S) k
/-- where the search stands. -/
def McI (F l : List Nat) (w : World) (blk off s0 r0 pp : Nat) (vi vj : Value) (wr : World) : Prop :=
  ∃ (s r k : Nat), vi = .int .i64 s ∧ vj = .int .i64 r ∧ s0 ≤ s ∧ s ≤ r ∧ r ≤ r0 ∧ (s = s0 ∨ Before F (l.getD (s - 1) 0) (l.getD (pp - (s - 1)) 0)) ∧ (r = r0 ∨ Before F (l.getD (pp - r) 0) (l.getD r 0)) ∧ wr = SW w blk off l k
theorem getD_mem_left (P L R S : List Nat) (h : Nat) (h1 : P.length ≤ h) (h2 : h < P.length + L.length) : (P ++ L ++ R ++ S).getD h 0 ∈ L := by
  have := getD_left P L (R ++ S) (h - P.length) (by omega)
  rw [show P.length + (h - P.length) = h by omega, show P ++ L ++ (R ++ S) = P ++ L ++ R ++ S by simp] at this
  rw [this]
  exact getD_mem (by omega)
theorem getD_mem_right (P L R S : List Nat) (h : Nat) (h1 : P.length + L.length ≤ h) (h2 : h < P.length + L.length + R.length) : (P ++ L ++ R ++ S).getD h 0 ∈ R := by
  have := getD_left (P ++ L) R S (h - (P ++ L).length) (by simp; omega)
  rw [show (P ++ L).length + (h - (P ++ L).length) = h by simp; omega] at this
  rw [this]
  exact getD_mem (by simp; omega)
theorem last_getD {l : List Nat} {z : Nat} (h : l.getLast? = some z) (A B : List Nat) : (A ++ l ++ B).getD (A.length + l.length - 1) 0 = z := by
  obtain ⟨l', rfl⟩ := List.getLast?_eq_some_iff.1 h
  rw [show A ++ (l' ++ [z]) ++ B = (A ++ l') ++ z :: B by simp]
  exact getD_mid _ _ _ _ (by simp; try omega)
theorem head_getD {l : List Nat} {z : Nat} (h : l.head? = some z) (A B : List Nat) : (A ++ l ++ B).getD A.length 0 = z := by
  cases l with
  | nil => cases h
  | cons y l => cases h; rw [show A ++ z :: l ++ B = A ++ z :: (l ++ B) by simp]; exact getD_mid _ _ _ _ rfl
end Go.Proofs.Ytblbggdglndiiaa
