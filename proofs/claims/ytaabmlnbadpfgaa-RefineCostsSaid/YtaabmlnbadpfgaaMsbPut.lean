/- msb.Writer.Put: its walk. -/
import Derived.Test.YtaabmlnbadpfgaaMsbBit
import Derived.Outline
import Derived.Deep.DeepMust
namespace Go.Proofs.Ytaabmlnbadpfgaa
open Go.RowKit

set_option maxHeartbeats 400000 in
theorem msb_put_neg (B v : Nat) (n : Int) (w : World) (h : n < 0) :
    Calls Try.prog 42 #[.pointer (some ⟨B, 0, none⟩), .int .u32 v, .int .i64 n] w fun e w' => e = .returned (.int .i64 5) ∧ w = w' := by
  go_enter Try.func42, Try.ntmps42
  go_wp2_with fail
  go_ret
  exact ⟨rfl, rfl⟩
set_option maxHeartbeats 400000 in
theorem msb_put_big (B v : Nat) (n : Int) (w : World) (h : 32 < n) :
    Calls Try.prog 42 #[.pointer (some ⟨B, 0, none⟩), .int .u32 v, .int .i64 n] w fun e w' => e = .returned (.int .i64 5) ∧ w = w' := by
  have h0 : ¬ n < 0 := by omega
  go_enter Try.func42, Try.ntmps42
  go_wp2_with fail
  go_ret
  exact ⟨rfl, rfl⟩
set_option maxHeartbeats 400000 in
theorem msb_put_wide (B v n : Nat) (w : World) (h : n ≤ 32) (hv : v < 2 ^ 32) (h1 : 2 ^ n ≤ v) :
    Calls Try.prog 42 #[.pointer (some ⟨B, 0, none⟩), .int .u32 v, .int .i64 n] w fun e w' => e = .returned (.int .i64 5) ∧ w = w' := by
  have h0 : ¬ (n : Int) < 0 := by omega
  have h2 : ¬ (32 : Int) < (n : Int) := by omega
  have h3 : ((v : Int) / 2 ^ n != 0) = true := div_ne v n h1
  have HV := Lib.hid h1; clear h1
  go_enter Try.func42, Try.ntmps42
  go_wp2_with fail
  go_ret
  exact ⟨rfl, rfl⟩

set_option maxHeartbeats 400000 in
theorem msb_put_ok (B v n : Nat) (og : Option Nat) (l : List Bool) (w : World) (hw : IsW 46 true w B og l) (hl : l.length + 32 < 2 ^ 40) (h : n ≤ 32) (hv : v < 2 ^ 32) (h1 : v < 2 ^ n) :
    Calls Try.prog 42 #[.pointer (some ⟨B, 0, none⟩), .int .u32 v, .int .i64 n] w fun e w' => e = .returned (.int .i64 0) ∧ WPost 46 true w B og (l ++ bitsOf true v n) w' := by
  have h0 : ¬ (n : Int) < 0 := by omega
  have h2 : ¬ (32 : Int) < (n : Int) := by omega
  have h3 : ((v : Int) / 2 ^ n != 0) = false := div_eq v n h1
  have HV := Lib.hid h1; clear h1
  go_enter Try.func42, Try.ntmps42
  go_wp2_with fail
  go_loopw [29] (fun i wr => ∃ k : Nat, k ≤ n ∧ i = .int .i64 k ∧ WPost 46 true w B og (l ++ (bitsOf true v n).take k) wr) (fun i _ => n - (intOf i).toNat)
  case atStart => exact ⟨0, Nat.zero_le _, rfl, by simpa using WPost.refl hw⟩
  case round =>
    obtain ⟨k, hk, rfl, hp⟩ := hrel
    by_cases hlt : k < n
    · obtain ⟨og1, hw1, hn1, ht1⟩ := hp
      have HN := Lib.hid hn1; clear hn1
      have HT := Lib.hid ht1; clear ht1
      have HW := Lib.hid hw1; clear hw1
      have hb := shr_range v (n - 1 - k) hv
      go_wp2_with fail
      refine (msb_bit_int B _ og1 _ wr HW.out (by have := List.length_take_le k (bitsOf true v n); simp only [List.length_append]; omega) hb.1 hb.2).mono ?_
      rintro e w' ⟨rfl, hp1⟩
      have HP := Lib.hid hp1; clear hp1
      go_wp2_with fail
      go_roundw
      case rel =>
        refine ⟨k + 1, by omega, by go_num, ?_⟩
        rw [bitsOf_succ _ _ _ _ hlt, ← List.append_assoc, ← shr_bit]
        exact WPost.step HN.out HT.out HP.out
      case measure => simp [intOf]; omega
    · go_wp2_with fail
      go_ret
      refine ⟨rfl, ?_⟩
      rw [List.take_of_length_le (by rw [length_bitsOf]; omega)] at hp
      exact hp
end Go.Proofs.Ytaabmlnbadpfgaa
