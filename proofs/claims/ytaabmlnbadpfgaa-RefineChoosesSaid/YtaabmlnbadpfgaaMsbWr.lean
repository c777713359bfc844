/- msb.Writer: Len, Align, Bytes, and Put with one contract. -/
import Derived.Test.YtaabmlnbadpfgaaMsbPut
namespace Go.Proofs.Ytaabmlnbadpfgaa
open Go.RowKit

theorem msb_len (B : Nat) (og : Option Nat) (l : List Bool) (w : World) (hw : IsW 46 true w B og l) :
    Calls Try.prog 21 #[.pointer (some ⟨B, 0, none⟩)] w fun e w' => e = .returned (.int .i64 l.length) ∧ w = w' := by
  obtain ⟨v, h1, _, _⟩ := hw
  have hc1 : w.cell? ⟨B, 1, none⟩ = some (.int .i64 l.length) := by simp [World.cell?, h1]
  clear h1
  go_enter Try.func21, Try.ntmps21
  go_wp2_with fail
  go_ret
  exact ⟨rfl, rfl⟩
theorem msb_len_nil (w : World) : Calls Try.prog 21 #[.pointer none] w fun e w' => e = .returned (.int .i64 0) ∧ w = w' := by
  go_enter Try.func21, Try.ntmps21
  go_wp2_with fail
  go_ret
  exact ⟨rfl, rfl⟩
theorem msb_put_nil (v n : Int) (w : World) : Calls Try.prog 42 #[.pointer none, .int .u32 v, .int .i64 n] w fun e w' => e = .returned (.int .i64 8) ∧ w = w' := by
  go_enter Try.func42, Try.ntmps42
  go_wp2_with fail
  go_ret
  exact ⟨rfl, rfl⟩
/-- whatever number, of whatever bits. -/
theorem msb_put (B v : Nat) (n : Int) (og : Option Nat) (l : List Bool) (w : World) (hw : IsW 46 true w B og l) (hl : l.length + 32 < 2 ^ 40) (hv : v < 2 ^ 32) :
    Calls Try.prog 42 #[.pointer (some ⟨B, 0, none⟩), .int .u32 v, .int .i64 n] w fun e w' => e = .returned (.int .i64 (putE v n)) ∧ WPost 46 true w B og (putL true l v n) w' := by
  by_cases h0 : n < 0
  · have hm : mayPut v n = false := by simp [mayPut]; omega
    refine (msb_put_neg B v n w h0).mono ?_
    rintro e w' ⟨rfl, rfl⟩
    exact ⟨by simp [putE, hm], by simpa [putL, hm] using WPost.refl hw⟩
  by_cases h1 : 32 < n
  · have hm : mayPut v n = false := by simp [mayPut]; omega
    refine (msb_put_big B v n w h1).mono ?_
    rintro e w' ⟨rfl, rfl⟩
    exact ⟨by simp [putE, hm], by simpa [putL, hm] using WPost.refl hw⟩
  obtain ⟨N, rfl⟩ := Int.eq_ofNat_of_zero_le (show 0 ≤ n by omega)
  by_cases h2 : v < 2 ^ N
  · have hm : mayPut v N = true := by simp [mayPut, h2]; omega
    refine (msb_put_ok B v N og l w hw hl (by omega) hv h2).mono ?_
    rintro e w' ⟨rfl, hp⟩
    exact ⟨by simp [putE, hm], by simpa [putL, hm] using hp⟩
  · have hm : mayPut v N = false := by simp [mayPut, h2]
    refine (msb_put_wide B v N w (by omega) hv (by omega)).mono ?_
    rintro e w' ⟨rfl, rfl⟩
    exact ⟨by simp [putE, hm], by simpa [putL, hm] using WPost.refl hw⟩
end Go.Proofs.Ytaabmlnbadpfgaa
