/- pressworkref01: Number. -/
import Derived.Test.YtnmibfdpaamlgaaView
import Derived.Test.YtnmibfdpaamlgaaBitsTwo
import Derived.Test.YtnmibfdpaamlgaaRows
import Derived.Outline
import Derived.Deep.DeepMust
namespace Go.Proofs.Ytnmibfdpaamlgaa
open Go.RowKit
set_option linter.unusedVariables false

theorem lsb_num_step (l : List Bool) (k : Nat) (hk : k < l.length) : numOf false (l.drop (l.length - (k + 1))) = 2 * numOf false (l.drop (l.length - k)) + (l[l.length - 1 - k]).toNat := by
  have e : l.drop (l.length - (k + 1)) = l[l.length - 1 - k] :: l.drop (l.length - k) := by
    rw [show l.length - (k + 1) = l.length - 1 - k by omega, List.drop_eq_getElem_cons (by omega)]
    congr 2; omega
  rw [e]; simp [numOf]
set_option maxHeartbeats 400000 in
theorem lsb_number (v : Value) (l : List Bool) (w : World) (hv : ViewL w v (bls l)) (hl : l.length ≤ 32) :
    Calls Try.prog 53 #[v] w fun e w' => e = .returned (.int .u32 (numOf false l)) ∧ w = w' := by
  obtain ⟨ao, cap, rfl, _, _, hc⟩ := hv
  rw [length_bls] at hc ⊢
  have HC := Lib.hid hc; clear hc
  go_enter Try.func53, Try.ntmps53
  go_wp2_with fail
  go_loop [3, 4] (fun a i => ∃ k : Nat, k ≤ l.length ∧ i = .int .i64 k ∧ a = .int .u32 (numOf false (l.drop (l.length - k)))) (fun _ i => l.length - (intOf i).toNat)
  case atStart => exact ⟨0, Nat.zero_le _, rfl, by simp [numOf]⟩
  case round =>
    obtain ⟨k, hk, rfl, rfl⟩ := hrel
    by_cases hlt : k < l.length
    · obtain ⟨b, o, rfl, hx⟩ := HC.out (by omega)
      have hs := lsb_num_step l k hlt
      have hb := numOf_lt false (l.drop (l.length - k))
      have hb2 : numOf false (l.drop (l.length - k)) < 2 ^ 31 := Nat.lt_of_lt_of_le hb (Nat.pow_le_pow_right (by omega) (by simp; omega))
      have hcell := hx (l.length - 1 - k) _ (getElem?_bls l _ (by omega))
      generalize numOf false (l.drop (l.length - k)) = acc at *
      generalize hbit : l[l.length - 1 - k] = bit at *
      have HS := Lib.hid hs
      clear hs hb hx hbit
      have k1 : ((l.length : Int) - 1 - k).toNat = l.length - 1 - k := by omega
      cases bit
      all_goals
        go_wp2_with fail
        go_round
        case rel =>
          refine ⟨k + 1, by omega, by go_num, ?_⟩
          rw [HS.out]; simp
        case measure => simp [intOf]; omega
    · obtain rfl : k = l.length := by omega
      go_wp2_with fail
      go_ret
      exact ⟨by simp, rfl⟩
end Go.Proofs.Ytnmibfdpaamlgaa
