/- kraft: may, weight, Classify; the reference's May, Weight: their walks. -/
import Derived.BigQuiet
import Derived.Test.YtaabmlnbadpfgaaPreMax
import Derived.Test.YtaabmlnbadpfgaaPreLaw
namespace Go.Proofs.Ytaabmlnbadpfgaa
open Go.RowKit
set_option linter.unusedVariables false

/-- may lengths be? -/
def MayK (L : List Nat) : Prop := L.length ≤ 512 ∧ ∀ b ∈ L, b ≤ 20
instance (L : List Nat) : Decidable (MayK L) := by unfold MayK; exact inferInstance
def errW (L : List Nat) : Int := if ¬ MayK L then 5 else if 2 ^ 20 < weightL L then 2 else 0
set_option maxHeartbeats 1000000 in
theorem kraft_may (v : Value) (bs : List Nat) (w : World) (hv : ViewL w v (u8s bs)) (hl : bs.length ≤ 2 ^ 40) :
    Calls Try.prog 34 #[v] w fun e w' => e = .returned (.bool (decide (MayK bs))) ∧ w = w' := by
  obtain ⟨ao, cap, rfl⟩ := hv.shape
  rw [length_u8s] at *
  have HV := Lib.hid hv
  clear hv
  by_cases h5 : bs.length ≤ 512
  · have h5i : (bs.length : Int) ≤ 512 := by omega
    by_cases h0 : bs.length = 0
    · have h0i : (bs.length : Int) = 0 := by omega
      have hd : decide (MayK bs) = true := by
        obtain rfl := List.eq_nil_of_length_eq_zero h0
        simp [MayK]
      go_enter Try.func34, Try.ntmps34
      go_wp2_with fail
      go_ret
      exact ⟨by rw [hd]; rfl, rfl⟩
    · have h0i : ¬ (bs.length : Int) = 0 := by omega
      have h0b : ((bs.length : Int) == 0) = false := by simpa using h0i
      go_enter Try.func34, Try.ntmps34
      go_wp2_with fail
      refine (pre_max _ bs _ HV.out (by omega) hl).mono ?_
      rintro e w' ⟨m, rfl, hm, hall, rfl⟩
      have HM := Lib.hid (And.intro hm hall)
      clear hm hall
      go_wp2_with fail
      go_ret
      refine ⟨?_, rfl⟩
      show Ending.returned (.bool (decide ((m : Int) ≤ 20))) = _
      congr 2
      apply decide_eq_decide.2
      obtain ⟨hm, hall⟩ := HM.out
      constructor
      · intro h
        exact ⟨h5, fun b hb => by have := hall b hb; omega⟩
      · rintro ⟨_, h⟩
        have := h m hm; omega
  · have h5i : ¬ (bs.length : Int) ≤ 512 := by omega
    have hd : decide (MayK bs) = false := by
      rw [decide_eq_false_iff_not]; exact fun h => h5 h.1
    go_enter Try.func34, Try.ntmps34
    go_wp2_with fail
    go_ret
    exact ⟨rfl, rfl⟩
theorem pow_part (n : Nat) (hn : n ≤ 20) : 2 ^ (20 - n) ≤ 2 ^ 20 := Nat.pow_le_pow_right (by decide) (by omega)
theorem cast_pow (k : Nat) : (2 : Int) ^ k = ((2 ^ k : Nat) : Int) := by simp
theorem sum_part (W W' k : Nat) (hk : k ≤ 20) (hw : W ≤ 512 * 2 ^ 20) (h : W' = W + 2 ^ k) : wrap64 ((W : Int) + wrap64 (2 ^ k)) = (W' : Int) := by
  have hp : 2 ^ k ≤ 2 ^ 20 := Nat.pow_le_pow_right (by decide) hk
  rw [cast_pow]
  generalize 2 ^ k = P at *
  rw [IntWalk.wrap64_in (P : Int) (by omega), IntWalk.wrap64_in _ (by omega), h]
  omega
set_option maxHeartbeats 1000000 in
theorem kraft_weight (v : Value) (bs : List Nat) (w : World) (hv : ViewL w v (u8s bs)) (hm : MayK bs) :
    Calls Try.prog 35 #[v] w fun e w' => e = .returned (.int .i64 (weightL bs)) ∧ w = w' := by
  obtain ⟨ao, cap, rfl⟩ := hv.shape
  rw [length_u8s] at *
  have hl := hm.1
  have HV := Lib.hid hv
  have HM := Lib.hid hm
  clear hv hm
  go_enter Try.func35, Try.ntmps35
  go_wp2_with fail
  go_loopw [3, 5, 8] (fun nv bv iv wr => ∃ k : Nat, iv = .int .i64 k ∧ nv = .int .i64 (weightL (bs.take k)) ∧ k ≤ bs.length ∧ wr = w) (fun _ _ iv _ => bs.length - (intOf iv).toNat)
  case atStart => exact ⟨0, rfl, by simp [weightL], Nat.zero_le _, rfl⟩
  case round =>
    obtain ⟨k, rfl, rfl, hk, hwr⟩ := hrel
    obtain rfl : w = wr := hwr.symm
    have hwl := weightL_le (bs.take k)
    rw [List.length_take] at hwl
    have hw : weightL (bs.take k) ≤ 512 * 2 ^ 20 := Nat.le_trans hwl (Nat.mul_le_mul_right _ (by omega))
    clear hwl
    by_cases hlt : k < bs.length
    · have hlti : (k : Int) < (bs.length : Int) := by omega
      obtain ⟨b, o, rfl, _, hc⟩ := viewL_cells HV.out (by rw [length_u8s]; omega)
      obtain ⟨y, hy⟩ : ∃ y, bs.getD k 0 = y := ⟨_, rfl⟩
      have c1 := hc k (.int .u8 y) (by rw [getElem?_u8s _ _ hlt, hy])
      have hy20 : y ≤ 20 := by
        rw [← hy, List.getD, List.getElem?_eq_getElem hlt]; exact HM.out.2 _ (List.getElem_mem _)
      have HT := Lib.hid (weightL_take bs k hlt)
      rw [hy] at HT
      obtain ⟨W', hW'⟩ : ∃ W', weightL (bs.take (k + 1)) = W' := ⟨_, rfl⟩
      rw [hW'] at HT
      have HW' := Lib.hid hW'
      clear hW'
      generalize weightL (bs.take k) = W at *
      clear hc hy
      by_cases hy0 : y = 0
      · subst hy0
        go_wp2_with fail
        go_roundw
        case rel => exact ⟨k + 1, by go_num, by rw [HW'.out]; have := HT.out; simp at this; rw [this], by omega, trivial⟩
        case measure => simp [intOf]; omega
      · have hy0i : (0 : Int) < (y : Int) := by omega
        have hp := pow_part y hy20
        go_wp2_with fail
        go_roundw
        case rel => exact ⟨k + 1, by go_num, by rw [HW'.out]; have := HT.out; rw [if_neg hy0] at this; exact congrArg (Value.int .i64) (sum_part W W' (20 - y) (by omega) hw this), by omega, trivial⟩
        case measure => simp [intOf]; omega
    · obtain rfl : k = bs.length := by omega
      go_wp2_with fail
      go_ret
      exact ⟨rfl, rfl⟩
/-- what a code is. -/
def classL (L : List Nat) : Nat := if weightL L = 0 then 0 else if weightL L < 1048576 then 1 else if weightL L = 1048576 then 2 else 3
set_option maxRecDepth 100000 in
set_option maxHeartbeats 1000000 in
theorem kraft_classify (v : Value) (bs : List Nat) (w : World) (hv : ViewL w v (u8s bs)) (hl : bs.length ≤ 2 ^ 40) :
    Calls Try.prog 14 #[v] w fun e w' => ((MayK bs ∧ e = .returned (.tuple #[.int .u8 (classL bs), .int .i64 0])) ∨ (¬ MayK bs ∧ e = .returned (.tuple #[.int .u8 0, .int .i64 5]))) ∧ w = w' := by
  have HV := Lib.hid hv
  clear hv
  go_enter Try.func14, Try.ntmps14
  go_wp2_with fail
  refine (kraft_may v bs _ HV.out hl).mono ?_
  rintro e w' ⟨rfl, rfl⟩
  by_cases hm : MayK bs
  · have hd : decide (MayK bs) = true := by simpa using hm
    rw [hd]
    go_wp2_with fail
    refine (kraft_weight v bs _ HV.out hm).mono ?_
    rintro e w' ⟨rfl, rfl⟩
    obtain ⟨W, hW⟩ : ∃ W, weightL bs = W := ⟨_, rfl⟩
    have hc : classL bs = if W = 0 then 0 else if W < 1048576 then 1 else if W = 1048576 then 2 else 3 := by rw [← hW]; rfl
    have HC := Lib.hid hc
    rw [hW]
    clear hc hW
    by_cases h0 : W = 0
    · subst h0
      go_wp2_with fail
      go_ret2
      exact ⟨Or.inl ⟨hm, by rw [HC.out]; rfl⟩, rfl⟩
    · have h0i : ¬ (W : Int) = 0 := by omega
      have h0b : ((W : Int) == 0) = false := by simpa using h0i
      by_cases h1 : W < 1048576
      · have h1i : (W : Int) < 1048576 := by omega
        go_wp2_with fail
        go_ret2
        exact ⟨Or.inl ⟨hm, by rw [HC.out, if_neg h0, if_pos h1]; rfl⟩, rfl⟩
      · have h1i : ¬ (W : Int) < 1048576 := by omega
        by_cases h2 : W = 1048576
        · have h2i : (W : Int) = 1048576 := by omega
          have h2b : ((W : Int) == 1048576) = true := by simpa using h2i
          go_wp2_with fail
          go_ret2
          exact ⟨Or.inl ⟨hm, by rw [HC.out, if_neg h0, if_neg h1, if_pos h2]; rfl⟩, rfl⟩
        · have h2b : ((W : Int) == 1048576) = false := beq_eq_false_iff_ne.2 (by omega)
          have HC2 := Lib.hid (show classL bs = 3 by rw [HC.out, if_neg h0, if_neg h1, if_neg h2])
          clear h2 h1 h0
          generalize (W : Int) = V at *
          go_wp2_with fail
          go_ret2
          exact ⟨Or.inl ⟨hm, by rw [HC2.out]; rfl⟩, rfl⟩
  · have hd : decide (MayK bs) = false := by simpa using hm
    rw [hd]
    go_wp2_with fail
    go_ret2
    exact ⟨Or.inr ⟨hm, rfl⟩, rfl⟩
end Go.Proofs.Ytaabmlnbadpfgaa
