/- slices.Max of bytes: its walk. -/
import Derived.Lib.SliceRun
import Derived.Lib.SlicesS
import Derived.Test.YtaabmlnbadpfgaaBO
namespace Go.Proofs.Ytaabmlnbadpfgaa
open Go.RowKit
set_option linter.unusedVariables false

set_option maxHeartbeats 1000000 in
theorem pre_max (v : Value) (bs : List Nat) (w : World) (hv : ViewL w v (u8s bs)) (h0 : 0 < bs.length) (hl : bs.length ≤ 2 ^ 40) :
    Calls Try.prog 38 #[v] w fun e w' => ∃ m : Nat, e = .returned (.int .u8 m) ∧ m ∈ bs ∧ (∀ b ∈ bs, b ≤ m) ∧ w = w' := by
  obtain ⟨ao, cap, rfl⟩ := hv.shape
  rw [length_u8s] at *
  have HV := Lib.hid hv
  obtain ⟨b, o, rfl, _, hc⟩ := viewL_cells hv (by rw [length_u8s]; omega)
  obtain ⟨x, hx⟩ : ∃ x, bs[0]? = some x := ⟨_, List.getElem?_eq_getElem h0⟩
  have c0 := hc 0 (.int .u8 x) (by simp [u8s, hx])
  have h1 : ¬ (bs.length : Int) < 1 := by omega
  have h2 : (0 : Int) < (bs.length : Int) := by omega
  have HC := Lib.hid hc
  have HX := Lib.hid hx
  rw [Nat.add_zero] at c0
  clear hv hc hx
  go_enter Try.func38, Try.ntmps38
  go_wp2_with fail
  clear c0
  go_loopw [3, 4] (fun mv iv wr => ∃ k m : Nat, iv = .int .i64 k ∧ mv = .int .u8 m ∧ 1 ≤ k ∧ k ≤ bs.length ∧ m ∈ bs ∧ (∀ i b, i < k → bs[i]? = some b → b ≤ m) ∧ wr = w) (fun _ iv _ => bs.length - (intOf iv).toNat)
  case atStart => exact ⟨1, x, rfl, rfl, Nat.le_refl _, by omega, List.mem_of_getElem? HX.out, fun i b hi hb => by rw [show i = 0 by omega, HX.out] at hb; cases hb; exact Nat.le_refl _, rfl⟩
  case round =>
    obtain ⟨k, m, rfl, rfl, hk1, hk, hmem, hall, hwr⟩ := hrel
    obtain rfl : w = wr := hwr.symm
    have HALL := Lib.hid hall
    have HMEM := Lib.hid hmem
    clear hall hmem
    by_cases hlt : k < bs.length
    · have hlti : (k : Int) < (bs.length : Int) := by omega
      obtain ⟨y, hy⟩ : ∃ y, bs[k]? = some y := ⟨_, List.getElem?_eq_getElem hlt⟩
      have c1 := HC.out k (.int .u8 y) (by simp [u8s, hy])
      have HY := Lib.hid hy
      clear hy
      by_cases hmy : m < y
      · have hmyi : (m : Int) < (y : Int) := by omega
        go_wp2_with fail
        go_roundw
        case rel => exact ⟨k + 1, y, by go_num, rfl, by omega, by omega, List.mem_of_getElem? HY.out, fun i b hi hb => by
          by_cases h : i < k
          · have := HALL.out i b h hb; omega
          · rw [show i = k by omega, HY.out] at hb; cases hb; omega, trivial⟩
        case measure => simp [intOf]; omega
      · have hmyi : ¬ (m : Int) < (y : Int) := by omega
        go_wp2_with fail
        go_roundw
        case rel => exact ⟨k + 1, m, by go_num, rfl, by omega, by omega, HMEM.out, fun i b hi hb => by
          by_cases h : i < k
          · have := HALL.out i b h hb; omega
          · rw [show i = k by omega, HY.out] at hb; cases hb; omega, trivial⟩
        case measure => simp [intOf]; omega
    · obtain rfl : k = bs.length := by omega
      go_wp2_with fail
      go_ret
      exact ⟨m, rfl, HMEM.out, fun b hb => by
        obtain ⟨i, hi, e⟩ := List.getElem_of_mem hb
        exact HALL.out i b hi (by rw [List.getElem?_eq_getElem hi, e]), rfl⟩
end Go.Proofs.Ytaabmlnbadpfgaa
