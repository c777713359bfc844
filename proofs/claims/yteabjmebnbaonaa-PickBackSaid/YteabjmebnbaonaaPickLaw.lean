/- Plain laws on maps of used bytes (chapter 23): what bits say; no program is named here. -/
import Derived.Test.YteabjmebnbaonaaBitsTwo
namespace Go.Proofs.Yteabjmebnbaonaa
set_option linter.unusedVariables false

/-- of 16 bits from p on the bytes of group g. -/
def selN (f : Nat → Bool) (p g : Nat) : Nat → List Nat
  | 0 => []
  | k + 1 => selN f p g k ++ if f (p + k) then [16 * g + k] else []
/-- behind g groups: the bytes, the place, whether all was there. -/
def pgLoop (f : Nat → Bool) (N at_ : Nat) : Nat → List Nat × Nat × Bool
  | 0 => ([], at_ + 16, true)
  | g + 1 => if (pgLoop f N at_ g).2.2 then (if f (at_ + g) then (if N < (pgLoop f N at_ g).2.1 + 16 then ((pgLoop f N at_ g).1, (pgLoop f N at_ g).2.1, false) else ((pgLoop f N at_ g).1 ++ selN f (pgLoop f N at_ g).2.1 g 16, (pgLoop f N at_ g).2.1 + 16, true)) else pgLoop f N at_ g) else pgLoop f N at_ g
/-- what Get answers: the bytes, the place behind, the error. -/
def pickGet (f : Nat → Bool) (N at_ : Nat) : List Nat × Nat × Int :=
  if N < at_ + 16 then ([], at_, 2) else
  if (pgLoop f N at_ 16).2.2 then (if (pgLoop f N at_ 16).1 = [] then ([], (pgLoop f N at_ 16).2.1, 2) else ((pgLoop f N at_ 16).1, (pgLoop f N at_ 16).2.1, 0)) else ([], (pgLoop f N at_ 16).2.1, 2)
theorem pg_stuck (f : Nat → Bool) (N a : Nat) : ∀ (j g : Nat), (pgLoop f N a g).2.2 = false → pgLoop f N a (g + j) = pgLoop f N a g
  | 0, g, h => rfl
  | j + 1, g, h => by
    rw [show g + (j + 1) = (g + j) + 1 by omega, pgLoop, pg_stuck f N a j g h, h]; rfl
theorem selN_len (f : Nat → Bool) (p g : Nat) : ∀ k, (selN f p g k).length ≤ k
  | 0 => Nat.le_refl _
  | k + 1 => by
    have := selN_len f p g k
    rw [selN, List.length_append]
    split <;> simp <;> omega
theorem selN_lt (f : Nat → Bool) (p g : Nat) (hg : g < 16) : ∀ k, k ≤ 16 → ∀ b ∈ selN f p g k, b < 256
  | 0, _, b, h => by cases h
  | k + 1, hk, b, h => by
    rw [selN, List.mem_append] at h
    rcases h with h | h
    · exact selN_lt f p g hg k (by omega) b h
    · split at h
      · rcases List.mem_cons.1 h with rfl | h
        · omega
        · cases h
      · cases h
theorem pg_len (f : Nat → Bool) (N a : Nat) : ∀ g, (pgLoop f N a g).1.length ≤ 16 * g
  | 0 => by simp [pgLoop]
  | g + 1 => by
    have := pg_len f N a g
    have h2 := selN_len f (pgLoop f N a g).2.1 g 16
    rw [pgLoop]
    split
    · split
      · split
        · simp only; omega
        · simp only [List.length_append]; omega
      · omega
    · omega
theorem pg_place (f : Nat → Bool) (N a : Nat) (h : a + 16 ≤ N) : ∀ g, a + 16 ≤ (pgLoop f N a g).2.1 ∧ (pgLoop f N a g).2.1 ≤ N
  | 0 => by simp [pgLoop]; exact h
  | g + 1 => by
    have := pg_place f N a h g
    rw [pgLoop]
    split
    · split
      · split
        · exact this
        · simp only; omega
      · exact this
    · exact this
/-- a bit of a number that was read, the first the highest. -/
theorem numOf_bit : ∀ (l : List Bool) (k : Nat), k < l.length → (numOf true l).testBit (l.length - 1 - k) = l.getD k false := by
  refine snoc_ind (fun k h => by simp at h) (fun l b ih k h => ?_)
  rw [numOf_high, List.length_append, List.length_cons, List.length_nil]
  rw [List.length_append, List.length_cons, List.length_nil] at h
  by_cases hk : k < l.length
  · rw [show l.length + (0 + 1) - 1 - k = (l.length - 1 - k) + 1 by omega, Nat.testBit_succ]
    have e : (2 * numOf true l + b.toNat) / 2 = numOf true l := by cases b <;> simp <;> omega
    rw [e, ih k hk]
    simp [List.getD, List.getElem?_append, hk]
  · obtain rfl : k = l.length := by omega
    rw [show l.length + (0 + 1) - 1 - l.length = 0 by omega, Nat.testBit_zero]
    cases b <;> simp [List.getD] <;> omega
theorem numOf_rbit (bs : List Nat) (p k : Nat) (hk : k < 16) : (numOf true (bitsAt true bs p 16)).testBit (15 - k) = rbit true bs (p + k) := by
  have h := numOf_bit (bitsAt true bs p 16) k (by rw [length_bitsAt]; exact hk)
  rw [length_bitsAt] at h
  rw [show 15 - k = 16 - 1 - k by omega, h]
  simp [bitsAt, List.getD, hk]
end Go.Proofs.Yteabjmebnbaonaa
