/- pressworkref02: May, Put. -/
import Derived.Test.YtnmibfdpaamlgaaMsbRefBits
import Derived.Test.YtnmibfdpaamlgaaAppend
namespace Go.Proofs.Ytnmibfdpaamlgaa
open Go.RowKit
set_option linter.unusedVariables false

theorem msb_ref_may_neg (v : Nat) (n : Int) (w : World) (h : n < 0) :
    Calls Try.prog 57 #[.int .u32 v, .int .i64 n] w fun e w' => e = .returned (.bool false) ∧ w = w' := by
  go_enter Try.func57, Try.ntmps57
  go_wp2_with fail
  go_ret
  exact ⟨rfl, rfl⟩
theorem msb_ref_may_big (v : Nat) (n : Int) (w : World) (h : 32 < n) :
    Calls Try.prog 57 #[.int .u32 v, .int .i64 n] w fun e w' => e = .returned (.bool false) ∧ w = w' := by
  have h0 : ¬ n < 0 := by omega
  go_enter Try.func57, Try.ntmps57
  go_wp2_with fail
  go_ret
  exact ⟨rfl, rfl⟩
theorem msb_may_end (v n : Nat) : (((v / 2 ^ n : Nat) : Int) == 0) = decide (v < 2 ^ n) := by
  rw [Bool.eq_iff_iff, beq_iff_eq, decide_eq_true_iff]
  constructor
  · intro h
    have h1 : v / 2 ^ n = 0 := by omega
    exact (Nat.div_eq_zero_iff_lt (Nat.two_pow_pos n)).1 h1
  · intro h
    rw [Nat.div_eq_of_lt h]; rfl
set_option maxHeartbeats 800000 in
theorem msb_ref_may_in (v n : Nat) (w : World) (hv : v < 2 ^ 32) (hn : n ≤ 32) :
    Calls Try.prog 57 #[.int .u32 v, .int .i64 n] w fun e w' => e = .returned (.bool (decide (v < 2 ^ n))) ∧ w = w' := by
  have h0 : ¬ (n : Int) < 0 := by omega
  have h1 : ¬ (32 : Int) < (n : Int) := by omega
  go_enter Try.func57, Try.ntmps57
  go_wp2_with fail
  go_loopw [0, 5] (fun a i wr => ∃ k : Nat, k ≤ n ∧ i = .int .i64 k ∧ a = .int .u32 (v / 2 ^ k : Nat) ∧ w = wr) (fun _ i _ => n - (intOf i).toNat)
  case atStart => exact ⟨0, Nat.zero_le _, rfl, by simp, rfl⟩
  case round =>
    obtain ⟨k, hk, rfl, rfl, rfl⟩ := hrel
    by_cases hlt : k < n
    · have hdiv : v / 2 ^ (k + 1) = v / 2 ^ k / 2 := by rw [Nat.pow_succ, Nat.div_div_eq_div_mul]
      have hv2 : v / 2 ^ k < 2 ^ 32 := Nat.lt_of_le_of_lt (Nat.div_le_self _ _) hv
      generalize hq : v / 2 ^ k = q at *
      go_wp2_with fail
      go_roundw
      case rel => exact ⟨k + 1, by omega, by go_num, by rw [hdiv]; rfl, trivial⟩
      case measure => simp [intOf]; omega
    · obtain rfl : k = n := by omega
      have he := msb_may_end v k
      have hv2 : v / 2 ^ k < 2 ^ 32 := Nat.lt_of_le_of_lt (Nat.div_le_self _ _) hv
      generalize hq : v / 2 ^ k = q at *
      go_wp2_with fail
      go_ret
      exact ⟨by rw [← he]; rfl, rfl⟩
theorem msb_ref_may (v : Nat) (n : Int) (w : World) (hv : v < 2 ^ 32) :
    Calls Try.prog 57 #[.int .u32 v, .int .i64 n] w fun e w' => e = .returned (.bool (mayPut v n)) ∧ w = w' := by
  by_cases h0 : n < 0
  · rw [show mayPut v n = false by simp [mayPut]; omega]
    exact msb_ref_may_neg v n w h0
  by_cases h1 : 32 < n
  · rw [show mayPut v n = false by simp [mayPut]; omega]
    exact msb_ref_may_big v n w h1
  obtain ⟨N, rfl⟩ := Int.eq_ofNat_of_zero_le (show 0 ≤ n by omega)
  rw [show mayPut v (N : Int) = decide (v < 2 ^ N) by simp [mayPut]; omega]
  exact msb_ref_may_in v N w hv (by omega)

theorem msb_ref_put_no (rv : Value) (v : Nat) (n : Int) (w : World) (hv : v < 2 ^ 32) (hm : mayPut v n = false) :
    Calls Try.prog 47 #[rv, .int .u32 v, .int .i64 n] w fun e w' => e = .returned (.tuple #[rv, .int .i64 5]) ∧ w = w' := by
  have HM := Lib.hid hm
  clear hm
  go_enter Try.func47, Try.ntmps47
  go_wp2_with fail
  refine (msb_ref_may v n _ hv).mono ?_
  rintro e w' ⟨rfl, rfl⟩
  rw [HM.out]
  go_wp2_with fail
  go_ret2
  exact ⟨rfl, rfl⟩
set_option maxHeartbeats 800000 in
theorem msb_ref_put_ok (rv : Value) (l : List Bool) (v n : Nat) (w : World) (hr : ViewL w rv (bls l)) (hl : l.length ≤ 2 ^ 40) (hv : v < 2 ^ 32) (hm : mayPut v n = true) :
    Calls Try.prog 47 #[rv, .int .u32 v, .int .i64 n] w fun e w' => ∃ v' og, e = .returned (.tuple #[v', .int .i64 0]) ∧ Owns w' 4 1 v' og (l.length + n) (bls (l ++ bitsOf true v n)) ∧ (∀ g, og = some g → w.heap.size ≤ g) ∧ Ext w w' := by
  obtain ⟨i0, hi, hz0, hz1, hz2⟩ := info_parts msb_infoB
  have hn : n ≤ 32 := by have := hm; simp [mayPut] at this; omega
  have HM := Lib.hid hm
  have HR := Lib.hid hr
  clear hm hr
  go_enter Try.func47, Try.ntmps47
  go_wp2_with fail
  refine (msb_ref_may v n _ hv).mono ?_
  rintro e w' ⟨rfl, rfl⟩
  rw [HM.out]
  go_wp2_with (at_builtin; go_must (refine wpList_append_view _ rfl (.tmp 13) (.tmp 14) 51 rfl w.heap.size 4 i0 (.bool false) 1 Try.underlying51 hi hz0 hz1 hz2 rfl (.slice (some ⟨w.heap.size, 0, none⟩) 0 0) 0 [] rfl (World.ownsRow_made w #[] 0 (Nat.le_refl _) (by decide) rfl) rv (bls l) rfl (HR.out.ext ((Ext.refl w).alloc _)) (bls_one l) (by rw [length_bls]; unfold maxLen; omega) (by rw [length_bls]; omega) (by simp) ?_))
  intro inv w1 hown' hgrow hat
  have ho : Owns w1 4 1 inv inv.ownBlock l.length (bls l) := ⟨by have := ownsRow_zero hown'; simpa [length_bls] using this, rfl⟩
  have hx1 : Ext w w1 := Touch.grown ((Ext.refl w).alloc _) hgrow (fun k e => Or.inr (by cases e; exact Nat.le_refl _))
  have hn1 : ∀ g, inv.ownBlock = some g → w.heap.size ≤ g := fun g e => (hown'.lt g e).1
  have HO := Lib.hid ho
  have HX1 := Lib.hid hx1
  have HN1 := Lib.hid hn1
  clear hown' hgrow hat ho hx1 hn1
  go_wp2_with fail
  refine (msb_ref_bits v n _ hv hn).mono ?_
  rintro e w2 ⟨u, ou, rfl, c1, c2, c3⟩
  rw [length_bitsOf] at c1
  have HU := Lib.hid c1.viewL
  have HO1 := Lib.hid (HO.out.keep c3 (fun _ _ f => f))
  have HX2 := Lib.hid (HX1.out.trans c3)
  clear c1 c2 c3
  go_wp2_with (at_builtin; go_must (refine wpList_append_view _ rfl (.tmp 15) (.tmp 18) 51 rfl 0 4 i0 (.bool false) 1 Try.underlying51 hi hz0 hz1 hz2 rfl inv l.length (bls l) rfl HO1.out.1 u (bls (bitsOf true v n)) rfl HU.out (bls_one _) (by rw [length_bls, length_bitsOf]; unfold maxLen; omega) (by rw [length_bls, length_bitsOf]; omega) (Nat.zero_le _) ?_))
  intro v' w3 hown' hgrow hat
  rw [length_bls, length_bitsOf] at hown'
  have hx3 : Ext w w3 := Touch.grown HX2.out hgrow (fun i e => Or.inr (HN1.out i (by rw [← HO1.out.2]; exact e)))
  have hn3 : ∀ g', v'.ownBlock = some g' → w.heap.size ≤ g' := by
    intro g' e
    rcases hat with h | h
    · rw [h, HO1.out.2] at e; exact HN1.out g' e
    · rw [h] at e; cases e; exact HX2.out.size
  have HF := Lib.hid (show Owns w3 4 1 v' v'.ownBlock (l.length + n) (bls (l ++ bitsOf true v n)) from ⟨by rw [bls_append]; exact hown', rfl⟩)
  have HX3 := Lib.hid hx3
  have HN3 := Lib.hid hn3
  clear hown' hgrow hat hx3 hn3
  go_wp2_with fail
  go_ret2
  exact ⟨_, _, rfl, HF.out, HN3.out, HX3.out⟩
end Go.Proofs.Ytnmibfdpaamlgaa
