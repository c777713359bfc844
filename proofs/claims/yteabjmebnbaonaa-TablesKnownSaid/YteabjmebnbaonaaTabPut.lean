/- tables.may, PutLengths, Size: their walks. -/
import Derived.Test.YteabjmebnbaonaaTabMin
import Derived.Test.YteabjmebnbaonaaMsbPut
import Derived.Test.YteabjmebnbaonaaMsbWr
import Derived.Test.YteabjmebnbaonaaWNew
namespace Go.Proofs.Yteabjmebnbaonaa
open Go.RowKit
set_option linter.unusedVariables false

/-- may lengths be? -/
def MayP (bs : List Nat) : Prop := 3 ≤ bs.length ∧ bs.length ≤ 258 ∧ ∀ b ∈ bs, 1 ≤ b ∧ b ≤ 20
def upB (k : Nat) : List Bool := (List.replicate k [true, false]).flatten
def downB (k : Nat) : List Bool := (List.replicate k [true, true]).flatten
theorem upB_succ (k : Nat) : upB (k + 1) = upB k ++ [true, false] := by simp [upB, List.replicate_succ']
theorem downB_succ (k : Nat) : downB (k + 1) = downB k ++ [true, true] := by simp [downB, List.replicate_succ']
theorem upB_len (k : Nat) : (upB k).length = 2 * k := by
  induction k with
  | zero => rfl
  | succ k ih => rw [upB_succ, List.length_append, ih]; simp; omega
theorem downB_len (k : Nat) : (downB k).length = 2 * k := by
  induction k with
  | zero => rfl
  | succ k ih => rw [downB_succ, List.length_append, ih]; simp; omega
/-- where a writer of lengths stands ahead of the k-th. -/
def atK (bs : List Nat) (k : Nat) : Nat := if k = 0 then bs.getD 0 0 else bs.getD (k - 1) 0
/-- the bits of the first k lengths. -/
def lenTo (bs : List Nat) : Nat → List Bool
  | 0 => bitsOf true (bs.getD 0 0) 5
  | k + 1 => lenTo bs k ++ (upB (bs.getD k 0 - atK bs k) ++ (downB (atK bs k - bs.getD k 0) ++ [false]))
def lenBits (bs : List Nat) : List Bool := lenTo bs bs.length
theorem atK_le (bs : List Nat) (h : ∀ b ∈ bs, 1 ≤ b ∧ b ≤ 20) (k : Nat) : atK bs k ≤ 20 := by
  have hd : ∀ i, bs.getD i 0 ≤ 20 := fun i => by
    by_cases hi : i < bs.length
    · have := h (bs[i]) (List.getElem_mem hi)
      simp [List.getD, hi]; omega
    · simp [List.getD, hi]
  rw [atK]; split <;> exact hd _
theorem lenTo_len (bs : List Nat) (h : ∀ b ∈ bs, 1 ≤ b ∧ b ≤ 20) : ∀ k, (lenTo bs k).length ≤ 5 + 81 * k
  | 0 => by simp [lenTo, length_bitsOf]
  | k + 1 => by
    have ih := lenTo_len bs h k
    have h1 := atK_le bs h k
    have h2 : bs.getD k 0 ≤ 20 := by have := atK_le bs h (k + 1); simpa [atK] using this
    simp only [lenTo, List.length_append, upB_len, downB_len, List.length_cons, List.length_nil]
    omega
set_option maxHeartbeats 1000000 in
theorem tab_may (v : Value) (bs : List Nat) (w : World) (hv : ViewL w v (u8s bs)) (hl : bs.length ≤ 2 ^ 40) :
    Calls Try.prog 52 #[v] w fun e w' => (e = .returned (.bool true) ∧ MayP bs ∨ e = .returned (.bool false) ∧ ¬ MayP bs) ∧ w = w' := by
  obtain ⟨ao, cap, rfl⟩ := hv.shape
  rw [length_u8s] at *
  have HV := Lib.hid hv
  clear hv
  go_enter Try.func52, Try.ntmps52
  by_cases h3 : 3 ≤ bs.length
  · have h3i : (3 : Int) ≤ (bs.length : Int) := by omega
    by_cases h258 : bs.length ≤ 258
    · have h258i : (bs.length : Int) ≤ 258 := by omega
      go_wp2_with fail
      refine (tab_min _ bs _ HV.out (by omega) hl).mono ?_
      rintro e w' ⟨m, rfl, hm1, hm2, rfl⟩
      by_cases hm : 1 ≤ m
      · have hmi : (1 : Int) ≤ (m : Int) := by omega
        have HM := Lib.hid hm2
        clear hm2 hm1
        go_wp2_with fail
        refine (tab_max _ bs _ HV.out (by omega) hl).mono ?_
        rintro e w' ⟨x, rfl, hx1, hx2, rfl⟩
        by_cases hx : x ≤ 20
        · have hxi : (x : Int) ≤ 20 := by omega
          have HX := Lib.hid hx2
          clear hx2 hx1
          go_wp2_with fail
          go_ret
          exact ⟨Or.inl ⟨rfl, h3, h258, fun b hb => ⟨Nat.le_trans hm (HM.out b hb), Nat.le_trans (HX.out b hb) hx⟩⟩, rfl⟩
        · have hxi : decide ((x : Int) ≤ 20) = false := decide_eq_false (by omega)
          have hxi2 : ¬ (x : Int) ≤ 20 := by omega
          have HX := Lib.hid hx1
          clear hx2 hx1
          go_wp2_with fail
          go_ret
          exact ⟨Or.inr ⟨rfl, fun h => hx (h.2.2 x HX.out).2⟩, rfl⟩
      · have hmi : decide ((1 : Int) ≤ (m : Int)) = false := decide_eq_false (by omega)
        have hmi2 : ¬ (1 : Int) ≤ (m : Int) := by omega
        have HM := Lib.hid hm1
        clear hm2 hm1
        go_wp2_with fail
        go_ret
        exact ⟨Or.inr ⟨rfl, fun h => hm (h.2.2 m HM.out).1⟩, rfl⟩
    · have h258i : decide ((bs.length : Int) ≤ 258) = false := decide_eq_false (by omega)
      have h258j : ¬ (bs.length : Int) ≤ 258 := by omega
      go_wp2_with fail
      go_ret
      exact ⟨Or.inr ⟨rfl, fun h => h258 h.2.1⟩, rfl⟩
  · have h3i : decide ((3 : Int) ≤ (bs.length : Int)) = false := decide_eq_false (by omega)
    have h3j : ¬ (3 : Int) ≤ (bs.length : Int) := by omega
    go_wp2_with fail
    go_ret
    exact ⟨Or.inr ⟨rfl, fun h => h3 h.1⟩, rfl⟩
end Go.Proofs.Yteabjmebnbaonaa
