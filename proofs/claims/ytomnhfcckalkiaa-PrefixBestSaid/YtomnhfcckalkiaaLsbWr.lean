/- lsb.Writer: Len, Align, Bytes, and Put with one contract. -/
import Derived.Test.YtomnhfcckalkiaaLsbPut
import Derived.Test.YtomnhfcckalkiaaClone
namespace Go.Proofs.Ytomnhfcckalkiaa
open Go.RowKit

theorem lsb_len (B : Nat) (og : Option Nat) (l : List Bool) (w : World) (hw : IsW 33 false w B og l) :
    Calls Try.prog 18 #[.pointer (some ⟨B, 0, none⟩)] w fun e w' => e = .returned (.int .i64 l.length) ∧ w = w' := by
  obtain ⟨v, h1, _, _⟩ := hw
  have hc1 : w.cell? ⟨B, 1, none⟩ = some (.int .i64 l.length) := by simp [World.cell?, h1]
  clear h1
  go_enter Try.func18, Try.ntmps18
  go_wp2_with fail
  go_ret
  exact ⟨rfl, rfl⟩
theorem lsb_len_nil (w : World) : Calls Try.prog 18 #[.pointer none] w fun e w' => e = .returned (.int .i64 0) ∧ w = w' := by
  go_enter Try.func18, Try.ntmps18
  go_wp2_with fail
  go_ret
  exact ⟨rfl, rfl⟩
theorem lsb_bytes (B : Nat) (og : Option Nat) (l : List Bool) (w : World) (hw : IsW 33 false w B og l) (hl : l.length < 2 ^ 40) :
    Calls Try.prog 16 #[.pointer (some ⟨B, 0, none⟩)] w (CloneOf w (packs false l)) := by
  obtain ⟨v, h1, h2, h3⟩ := hw
  have hc0 : w.cell? ⟨B, 0, none⟩ = some v := by simp [World.cell?, h1]
  have hv : View w v (packs false l) := Owns.view (by rw [length_packs]; exact h2)
  have HV := Lib.hid hv
  clear h1 h2 hv
  go_enter Try.func16, Try.ntmps16
  go_wp2_with fail
  refine (clone v _ w HV.out (by rw [length_packs]; omega)).mono ?_
  rintro e w' ⟨u, og', rfl, k1, k2, k3⟩
  have K1 := Lib.hid k1
  have K2 := Lib.hid k2
  have K3 := Lib.hid k3
  clear k1 k2 k3
  go_wp2_with fail
  go_ret
  exact ⟨u, og', rfl, K1.out, K2.out, K3.out⟩
theorem lsb_bytes_nil (w : World) : Calls Try.prog 16 #[.pointer none] w fun e w' => e = .returned (.slice none 0 0) ∧ w = w' := by
  go_enter Try.func16, Try.ntmps16
  go_wp2_with fail
  go_ret
  exact ⟨rfl, rfl⟩
theorem lsb_put_nil (v n : Int) (w : World) : Calls Try.prog 33 #[.pointer none, .int .u32 v, .int .i64 n] w fun e w' => e = .returned (.int .i64 8) ∧ w = w' := by
  go_enter Try.func33, Try.ntmps33
  go_wp2_with fail
  go_ret
  exact ⟨rfl, rfl⟩
/-- whatever number, of whatever bits. -/
theorem lsb_put (B v : Nat) (n : Int) (og : Option Nat) (l : List Bool) (w : World) (hw : IsW 33 false w B og l) (hl : l.length + 32 < 2 ^ 40) (hv : v < 2 ^ 32) :
    Calls Try.prog 33 #[.pointer (some ⟨B, 0, none⟩), .int .u32 v, .int .i64 n] w fun e w' => e = .returned (.int .i64 (putE v n)) ∧ WPost 33 false w B og (putL false l v n) w' := by
  by_cases h0 : n < 0
  · have hm : mayPut v n = false := by simp [mayPut]; omega
    refine (lsb_put_neg B v n w h0).mono ?_
    rintro e w' ⟨rfl, rfl⟩
    exact ⟨by simp [putE, hm], by simpa [putL, hm] using WPost.refl hw⟩
  by_cases h1 : 32 < n
  · have hm : mayPut v n = false := by simp [mayPut]; omega
    refine (lsb_put_big B v n w h1).mono ?_
    rintro e w' ⟨rfl, rfl⟩
    exact ⟨by simp [putE, hm], by simpa [putL, hm] using WPost.refl hw⟩
  obtain ⟨N, rfl⟩ := Int.eq_ofNat_of_zero_le (show 0 ≤ n by omega)
  by_cases h2 : v < 2 ^ N
  · have hm : mayPut v N = true := by simp [mayPut, h2]; omega
    refine (lsb_put_ok B v N og l w hw hl (by omega) hv h2).mono ?_
    rintro e w' ⟨rfl, hp⟩
    exact ⟨by simp [putE, hm], by simpa [putL, hm] using hp⟩
  · have hm : mayPut v N = false := by simp [mayPut, h2]
    refine (lsb_put_wide B v N w (by omega) hv (by omega)).mono ?_
    rintro e w' ⟨rfl, rfl⟩
    exact ⟨by simp [putE, hm], by simpa [putL, hm] using WPost.refl hw⟩
end Go.Proofs.Ytomnhfcckalkiaa
