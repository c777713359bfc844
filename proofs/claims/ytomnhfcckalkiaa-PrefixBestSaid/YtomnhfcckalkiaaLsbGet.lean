/- lsb.Reader.Get: its walk. -/
import Derived.Test.YtomnhfcckalkiaaLsbRd
namespace Go.Proofs.Ytomnhfcckalkiaa
open Go.RowKit

theorem lsb_get_nil (n : Int) (w : World) : Calls Try.prog 37 #[.pointer none, .int .i64 n] w fun e w' => e = .returned (.tuple #[.int .u32 0, .int .i64 8]) ∧ w = w' := by
  go_enter Try.func37, Try.ntmps37
  go_wp2_with fail
  go_ret2
  exact ⟨rfl, rfl⟩
set_option maxHeartbeats 400000 in
theorem lsb_get_neg (B : Nat) (n : Int) (w : World) (h : n < 0) : Calls Try.prog 37 #[.pointer (some ⟨B, 0, none⟩), .int .i64 n] w fun e w' => e = .returned (.tuple #[.int .u32 0, .int .i64 5]) ∧ w = w' := by
  go_enter Try.func37, Try.ntmps37
  go_wp2_with fail
  go_ret2
  exact ⟨rfl, rfl⟩
set_option maxHeartbeats 400000 in
theorem lsb_get_big (B : Nat) (n : Int) (w : World) (h : 32 < n) : Calls Try.prog 37 #[.pointer (some ⟨B, 0, none⟩), .int .i64 n] w fun e w' => e = .returned (.tuple #[.int .u32 0, .int .i64 5]) ∧ w = w' := by
  have h0 : ¬ n < 0 := by omega
  go_enter Try.func37, Try.ntmps37
  go_wp2_with fail
  go_ret2
  exact ⟨rfl, rfl⟩
set_option maxHeartbeats 400000 in
theorem lsb_get_far (B : Nat) (og : Option Nat) (bs : List Nat) (i n : Nat) (w : World) (hr : IsR 77 w B og bs i) (hl : bs.length ≤ 2 ^ 46) (hi : i ≤ 8 * bs.length) (hn : n ≤ 32) (h : 8 * bs.length < i + n) :
    Calls Try.prog 37 #[.pointer (some ⟨B, 0, none⟩), .int .i64 n] w fun e w' => e = .returned (.tuple #[.int .u32 0, .int .i64 2]) ∧ Drew w w' := by
  have h0 : ¬ (n : Int) < 0 := by omega
  have h1 : ¬ (32 : Int) < (n : Int) := by omega
  have h2 : 8 * (bs.length : Int) - i < (n : Int) := by omega
  go_enter Try.func37, Try.ntmps37
  go_wp2_with fail
  refine (lsb_left B og bs i w hr hl hi).mono ?_
  rintro e w' ⟨rfl, q, rfl⟩
  clear hr
  go_wp2_with fail
  go_ret2
  exact ⟨rfl, q, rfl⟩
set_option maxHeartbeats 800000 in
theorem lsb_get_ok (B : Nat) (og : Option Nat) (bs : List Nat) (i n : Nat) (w : World) (hr : IsR 77 w B og bs i) (hl : bs.length ≤ 2 ^ 46) (hb : ∀ b ∈ bs, b < 256) (hn : n ≤ 32) (h : i + n ≤ 8 * bs.length) :
    Calls Try.prog 37 #[.pointer (some ⟨B, 0, none⟩), .int .i64 n] w fun e w' => e = .returned (.tuple #[.int .u32 (numOf false (bitsAt false bs i n)), .int .i64 0]) ∧ RPost 77 w B og bs (i + n) w' := by
  have h0 : ¬ (n : Int) < 0 := by omega
  have h1 : ¬ (32 : Int) < (n : Int) := by omega
  have h2 : ¬ 8 * (bs.length : Int) - i < (n : Int) := by omega
  have HR := Lib.hid hr
  clear hr
  have HB := Lib.hid hb; clear hb
  go_enter Try.func37, Try.ntmps37
  go_wp2_with fail
  refine (lsb_left B og bs i w HR.out hl (by omega)).mono ?_
  rintro e w' ⟨rfl, q, rfl⟩
  go_wp2_with fail
  go_loopw [6, 25] (fun v i' wr => ∃ k : Nat, k ≤ n ∧ i' = .int .i64 k ∧ v = .int .u32 (numOf false (bitsAt false bs i k)) ∧ RPost 77 w B og bs (i + k) wr) (fun _ i' _ => n - (intOf i').toNat)
  case atStart => exact ⟨0, Nat.zero_le _, rfl, rfl, by simpa using (RPost.refl HR.out).drewN q⟩
  case round =>
    obtain ⟨k, hk, rfl, rfl, hp⟩ := hrel
    by_cases hlt : k < n
    · obtain ⟨⟨v, c1, c2, c3⟩, ht⟩ := id hp
      obtain ⟨p, hpk⟩ : ∃ p, p = i + k := ⟨_, rfl⟩
      rw [← hpk] at hp c1
      rcases c2.form with ⟨_, _, hz, _⟩ | ⟨g, cap, cur, rfl, rfl, _⟩
      · omega
      have hc0 : wr.cell? ⟨B, 0, none⟩ = some (.slice (some ⟨g, 0, none⟩) bs.length cap) := by simp [World.cell?, c1]
      have hc1 : wr.cell? ⟨B, 1, none⟩ = some (.int .i64 p) := by simp [World.cell?, c1]
      have hf1 : wr.frozen? ⟨B, 1, none⟩ = false := by simp [World.frozen?, c1]
      obtain ⟨ob, hob⟩ : ∃ ob, ob = bs.getD (p / 8) 0 := ⟨_, rfl⟩
      have hcg : wr.cell? ⟨g, p / 8, none⟩ = some (.int .u8 ob) := c2.cell _ _ (by rw [getElem?_u8s _ _ (by omega), hob])
      have k1 : IntKind.i64.wrap ((p : Int) / 8) = (p : Int) / 8 := IntWalk.i64_in _ (by omega)
      have k2 : ((p : Int) / 8).toNat = p / 8 := by omega
      have k3 : (0 : Int) ≤ (p : Int) / 8 := by omega
      have k4 : (p : Int) / 8 < (bs.length : Int) := by omega
      have k5 : (p : Int).tmod 8 = (p : Int) % 8 := Int.tmod_eq_emod_of_nonneg (by omega)
      have k6 : (0 : Int) ≤ (p : Int) % 8 := by omega
      have hp50 : p < 2 ^ 50 := by omega
      have HP := Lib.hid hp; clear hp
      have HPK := Lib.hid hpk; clear hpk
      have HOB := Lib.hid hob; clear hob
      clear c1 c2 ht
      obtain ⟨acc, hacc⟩ : ∃ acc, acc = numOf false (bitsAt false bs i k) := ⟨_, rfl⟩
      rw [← hacc]
      have HACC := Lib.hid hacc; clear hacc
      go_wp2_with fail
      go_quiet (fail)
      clear k1 k2 k3 k4 k5 k6
      go_wp2_with fail
      have hob : ob < 256 := HOB.out ▸ getD_lt HB.out _
      have hstep := low_step ob p k (bitsAt false bs i k) hob (length_bitsAt _ _ _ _) (by omega)
      rw [← HACC.out] at hstep
      go_roundw
      case rel =>
        refine ⟨k + 1, by omega, by go_num, ?_, ?_⟩
        · rw [hstep, bitsAt_succ, rbit, ← HPK.out, ← HOB.out]
        · have hs := rset_post HP.out.1 (p + 1)
          have e : i + (k + 1) = p + 1 := by have := HPK.out; omega
          rw [e]
          exact RPost.step (HP.out.drewN nq) (rset_post (HP.out.drewN nq).1 (p + 1))
      case measure => simp [intOf]; omega
    · go_wp2_with fail
      go_ret2
      obtain rfl : k = n := by omega
      exact ⟨rfl, hp⟩
/-- whatever number of bits. -/
theorem lsb_get (B : Nat) (og : Option Nat) (bs : List Nat) (i : Nat) (n : Int) (w : World) (hr : IsR 77 w B og bs i) (hl : bs.length ≤ 2 ^ 46) (hb : ∀ b ∈ bs, b < 256) (hi : i ≤ 8 * bs.length) :
    Calls Try.prog 37 #[.pointer (some ⟨B, 0, none⟩), .int .i64 n] w fun e w' => e = .returned (.tuple #[.int .u32 (getR false bs i n).1, .int .i64 (getR false bs i n).2.2]) ∧ RPost 77 w B og bs (getR false bs i n).2.1 w' := by
  by_cases h0 : n < 0
  · have hm : getR false bs i n = (0, i, 5) := by rw [getR, if_pos (Or.inl h0)]
    rw [hm]
    refine (lsb_get_neg B n w h0).mono ?_
    rintro e w' ⟨rfl, rfl⟩
    exact ⟨rfl, RPost.refl hr⟩
  by_cases h1 : 32 < n
  · have hm : getR false bs i n = (0, i, 5) := by rw [getR, if_pos (Or.inr h1)]
    rw [hm]
    refine (lsb_get_big B n w h1).mono ?_
    rintro e w' ⟨rfl, rfl⟩
    exact ⟨rfl, RPost.refl hr⟩
  obtain ⟨N, rfl⟩ := Int.eq_ofNat_of_zero_le (show 0 ≤ n by omega)
  by_cases h2 : 8 * bs.length < i + N
  · have hm : getR false bs i N = (0, i, 2) := by rw [getR, if_neg (by omega), if_pos (by omega)]
    rw [hm]
    refine (lsb_get_far B og bs i N w hr hl hi (by omega) h2).mono ?_
    rintro e w' ⟨rfl, q, rfl⟩
    exact ⟨rfl, (RPost.refl hr).drewN q⟩
  · have hm : getR false bs i N = (numOf false (bitsAt false bs i N), i + N, 0) := by rw [getR, if_neg (by omega), if_neg (by omega), Int.toNat_natCast]
    rw [hm]
    exact lsb_get_ok B og bs i N w hr hl hb (by omega) (by omega)
end Go.Proofs.Ytomnhfcckalkiaa
