/- pressworkref02: Number. -/
import Derived.Test.YteabjmebnbaonaaView
import Derived.Test.YteabjmebnbaonaaBitsTwo
import Derived.Test.YteabjmebnbaonaaRows
import Derived.Outline
import Derived.Deep.DeepMust
namespace Go.Proofs.Yteabjmebnbaonaa
open Go.RowKit
set_option linter.unusedVariables false

theorem msb_num_step (l : List Bool) (k : Nat) (hk : k < l.length) : numOf true (l.take (k + 1)) = 2 * numOf true (l.take k) + (l[k]).toNat := by
  rw [List.take_succ_eq_append_getElem hk, numOf_high]
set_option maxHeartbeats 400000 in
theorem msb_number (v : Value) (l : List Bool) (w : World) (hv : ViewL w v (bls l)) (hl : l.length ≤ 32) :
    Calls Try.prog 49 #[v] w fun e w' => e = .returned (.int .u32 (numOf true l)) ∧ w = w' := by
  obtain ⟨ao, cap, rfl, _, _, hc⟩ := hv
  rw [length_bls] at hc ⊢
  have HC := Lib.hid hc; clear hc
  go_enter Try.func49, Try.ntmps49
  go_wp2_with fail
  go_loop [3, 4] (fun a i => ∃ k : Nat, k ≤ l.length ∧ i = .int .i64 k ∧ a = .int .u32 (numOf true (l.take k))) (fun _ i => l.length - (intOf i).toNat)
  case atStart => exact ⟨0, Nat.zero_le _, rfl, by simp [numOf]⟩
  case round =>
    obtain ⟨k, hk, rfl, rfl⟩ := hrel
    by_cases hlt : k < l.length
    · obtain ⟨b, o, rfl, hx⟩ := HC.out (by omega)
      have hs := msb_num_step l k hlt
      have hb := numOf_lt true (l.take k)
      have hb2 : numOf true (l.take k) < 2 ^ 31 := Nat.lt_of_lt_of_le hb (Nat.pow_le_pow_right (by omega) (by simp; omega))
      have hcell := hx k _ (getElem?_bls l _ (by omega))
      generalize numOf true (l.take k) = acc at *
      generalize hbit : l[k] = bit at *
      have HS := Lib.hid hs
      clear hs hb hx hbit
      cases bit
      all_goals
        go_wp2_with fail
        go_round
        case rel =>
          refine ⟨k + 1, by omega, by go_num, ?_⟩
          rw [HS.out]; simp
        case measure => simp [intOf]; omega
    · obtain rfl : k = l.length := by omega
      go_wp2_with fail
      go_ret
      exact ⟨by simp, rfl⟩
end Go.Proofs.Yteabjmebnbaonaa
