/- slices.Contains, slices.IsSorted and slices.Compact of bytes: their walks. -/
import Derived.Lib.SliceRun
import Derived.Lib.SlicesS
import Derived.Test.YteabjmebnbaonaaPickRises
namespace Go.Proofs.Yteabjmebnbaonaa
open Go.RowKit
set_option linter.unusedVariables false

theorem pick_nan (x : Nat) (w : World) : Calls Try.prog 70 #[.int .u8 x] w fun e w' => e = .returned (.bool false) ∧ w = w' := by
  go_enter Try.func70, Try.ntmps70
  go_wp2_with fail
  go_ret
  exact ⟨rfl, rfl⟩
theorem pick_less (x y : Nat) (w : World) : Calls Try.prog 61 #[.int .u8 x, .int .u8 y] w fun e w' => e = .returned (.bool (decide (x < y))) ∧ w = w' := by
  by_cases h : x < y
  · have h1 : (x : Int) < (y : Int) := by omega
    rw [show decide (x < y) = true by simpa using h]
    go_enter Try.func61, Try.ntmps61
    go_wp2_with fail
    refine (pick_nan x _).mono ?_
    rintro e w' ⟨rfl, rfl⟩
    go_wp2_with fail
    go_ret
    exact ⟨rfl, rfl⟩
  · have h1 : ¬ (x : Int) < (y : Int) := by omega
    rw [show decide (x < y) = false by simpa using h]
    go_enter Try.func61, Try.ntmps61
    go_wp2_with fail
    refine (pick_nan x _).mono ?_
    rintro e w' ⟨rfl, rfl⟩
    go_wp2_with fail
    go_ret
    exact ⟨rfl, rfl⟩
theorem pick_less_q (x y : Nat) (w : World) : Calls Try.prog 61 #[.int .u8 x, .int .u8 y] w fun e w' => e = .returned (.bool (decide (x < y))) ∧ w' = w := (pick_less x y w).mono (by rintro e w' ⟨h1, h2⟩; exact ⟨h1, h2.symm⟩)
set_option maxHeartbeats 1000000 in
theorem pick_index (v : Value) (bs : List Nat) (c : Nat) (w : World) (hv : ViewL w v (u8s bs)) (hl : bs.length ≤ 2 ^ 40) :
    Calls Try.prog 71 #[v, .int .u8 c] w fun e w' => ∃ i : Int, e = .returned (.int .i64 i) ∧ (0 ≤ i ↔ c ∈ bs) ∧ -1 ≤ i ∧ w = w' := by
  obtain ⟨ao, cap, rfl⟩ := hv.shape
  rw [length_u8s] at *
  have HV := Lib.hid hv
  clear hv
  go_enter Try.func71, Try.ntmps71
  go_wp2_with fail
  go_loopw [8] (fun iv wr => ∃ k : Nat, iv = .int .i64 k ∧ k ≤ bs.length ∧ (∀ i, i < k → bs[i]? ≠ some c) ∧ wr = w) (fun iv _ => bs.length - (intOf iv).toNat)
  case atStart => exact ⟨0, rfl, Nat.zero_le _, fun i h => absurd h (Nat.not_lt_zero _), rfl⟩
  case round =>
    obtain ⟨k, rfl, hk, hall, hwr⟩ := hrel
    obtain rfl : w = wr := hwr.symm
    have HALL := Lib.hid hall
    clear hall
    by_cases hlt : k < bs.length
    · have hlti : (k : Int) < (bs.length : Int) := by omega
      obtain ⟨b, o, rfl, _, hc⟩ := viewL_cells HV.out (by rw [length_u8s]; omega)
      obtain ⟨x, hx⟩ : ∃ x, bs[k]? = some x := ⟨_, List.getElem?_eq_getElem hlt⟩
      have c1 := hc k (.int .u8 x) (by simp [u8s, hx])
      have HX := Lib.hid hx
      clear hc hx
      by_cases hxc : x = c
      · subst hxc
        have HM := Lib.hid (List.mem_of_getElem? HX.out)
        go_wp2_with fail
        go_ret
        exact ⟨k, rfl, ⟨fun _ => HM.out, fun _ => by omega⟩, by omega, rfl⟩
      · have hne2 : ((c : Int) == (x : Int)) = false := by rw [beq_eq_false_iff_ne]; omega
        have hf : ∀ i, i < k + 1 → bs[i]? ≠ some c := fun i hi => by
          by_cases h : i < k
          · exact HALL.out i h
          · rw [show i = k by omega, HX.out]; simpa using hxc
        have HF := Lib.hid hf
        clear hf
        go_wp2_with fail
        go_roundw
        case rel => exact ⟨k + 1, by go_num, by omega, HF.out, trivial⟩
        case measure => simp [intOf]; omega
    · obtain rfl : k = bs.length := by omega
      have hmem : c ∉ bs := fun h => by
        obtain ⟨j, hj, e⟩ := List.getElem_of_mem h
        exact HALL.out j hj (by rw [List.getElem?_eq_getElem hj, e])
      have HM := Lib.hid hmem
      clear hmem
      go_wp2_with fail
      go_ret
      exact ⟨-1, rfl, ⟨fun h => by omega, fun h => absurd h HM.out⟩, by omega, rfl⟩
theorem pick_contains (v : Value) (bs : List Nat) (c : Nat) (w : World) (hv : ViewL w v (u8s bs)) (hl : bs.length ≤ 2 ^ 40) :
    Calls Try.prog 63 #[v, .int .u8 c] w fun e w' => e = .returned (.bool (decide (c ∈ bs))) ∧ w = w' := by
  obtain ⟨ao, cap, rfl⟩ := hv.shape
  rw [length_u8s] at *
  have HI := pick_index _ bs c w hv hl
  clear hv
  go_enter Try.func63, Try.ntmps63
  go_wp2_with fail
  refine HI.mono ?_
  rintro e w' ⟨i, rfl, hi, _, rfl⟩
  have HD := Lib.hid (show decide (0 ≤ i) = decide (c ∈ bs) from decide_eq_decide.2 hi)
  clear hi
  go_wp2_with fail
  go_ret
  exact ⟨by rw [← HD.out]; rfl, rfl⟩
/-- no byte is less than the one ahead of it. -/
def SortedP (bs : List Nat) : Prop := ∀ i x y, bs[i]? = some x → bs[i + 1]? = some y → x ≤ y
set_option maxHeartbeats 1000000 in
theorem pick_sorted (v : Value) (bs : List Nat) (w : World) (hv : ViewL w v (u8s bs)) (hl : bs.length ≤ 2 ^ 40) :
    Calls Try.prog 43 #[v] w fun e w' => (e = .returned (.bool true) ∧ SortedP bs ∨ e = .returned (.bool false) ∧ ¬ SortedP bs) ∧ Ext w w' := by
  obtain ⟨ao, cap, rfl⟩ := hv.shape
  rw [length_u8s] at *
  have HV := Lib.hid hv
  clear hv
  go_enter Try.func43, Try.ntmps43
  go_wp2_with fail
  go_loopw [3] (fun iv wr => ∃ k : Int, iv = .int .i64 k ∧ -1 ≤ k ∧ k < bs.length ∧ (∀ (i : Nat) x y, k ≤ (i : Int) → bs[i]? = some x → bs[i + 1]? = some y → x ≤ y) ∧ Ext w wr) (fun iv _ => (intOf iv + 1).toNat)
  case atStart => exact ⟨bs.length - 1, rfl, by omega, by omega, fun i x y h hx hy => by have := (List.getElem?_eq_some_iff.1 hy).1; omega, Ext.refl w⟩
  case round =>
    obtain ⟨k, rfl, hk1, hk, hall, hext⟩ := hrel
    have HX := Lib.hid hext
    clear hext
    have HALL := Lib.hid hall
    clear hall
    by_cases hlt : 0 < k
    · obtain ⟨n, rfl⟩ : ∃ n : Nat, k = (n : Int) := ⟨k.toNat, by omega⟩
      obtain ⟨b, o, rfl, _, hc⟩ := viewL_cells (HV.out.ext HX.out) (by rw [length_u8s]; omega)
      obtain ⟨x, hx⟩ : ∃ x, bs[n - 1]? = some x := ⟨_, List.getElem?_eq_getElem (by omega)⟩
      obtain ⟨y, hy⟩ : ∃ y, bs[n]? = some y := ⟨_, List.getElem?_eq_getElem (by omega)⟩
      have c1 := hc (n - 1) (.int .u8 x) (by simp [u8s, hx])
      have c2 := hc n (.int .u8 y) (by simp [u8s, hy])
      have k0 : (1 : Int) ≤ (n : Int) := by omega
      have k00 : n < bs.length := by omega
      have k1 : ((n : Int) - 1).toNat = n - 1 := by omega
      have k2 : (0 : Int) ≤ (n : Int) - 1 := by omega
      have k3 : (n : Int).toNat = n := by omega
      have k4 : (0 : Int) ≤ (n : Int) := by omega
      have k5 : (n : Int) - 1 < (bs.length : Int) := by omega
      have k6 : IntKind.i64.wrap ((n : Int) - 1) = (n : Int) - 1 := IntWalk.i64_in _ (by omega)
      have HXY := Lib.hid (And.intro hx hy)
      clear hc hx hy
      by_cases hxy : y < x
      · go_wp2_with fail
        go_quiet (first | (go_at_call 61; exact Calls.quiet_of_same (pick_less_q _ _ _)))
        go_wp2_with fail
        go_ret
        refine ⟨Or.inr ⟨rfl, fun h => ?_⟩, HX.out.drewN _⟩
        have := h (n - 1) x y HXY.out.1 (by rw [show n - 1 + 1 = n by omega]; exact HXY.out.2)
        omega
      · have hf : ∀ (i : Nat) a c, (n : Int) - 1 ≤ (i : Int) → bs[i]? = some a → bs[i + 1]? = some c → a ≤ c := fun i a c hi ha hc => by
          by_cases h : n ≤ i
          · exact HALL.out i a c (by omega) ha hc
          · obtain rfl : i = n - 1 := by omega
            rw [show n - 1 + 1 = n by omega] at hc
            rw [HXY.out.1] at ha
            rw [HXY.out.2] at hc
            cases ha; cases hc
            omega
        have HF := Lib.hid hf
        clear hf
        go_wp2_with fail
        go_quiet (first | (go_at_call 61; exact Calls.quiet_of_same (pick_less_q _ _ _)))
        clear k1 k2 k3 k4 k5 k6 c1 c2
        go_wp2_with fail
        go_roundw
        case rel => exact ⟨(n : Int) - 1, by go_num, by omega, by omega, HF.out, HX.out.drewN _⟩
        case measure => simp [intOf]
    · go_wp2_with fail
      go_ret
      refine ⟨Or.inl ⟨rfl, fun i x y hx hy => ?_⟩, HX.out⟩
      exact HALL.out i x y (by omega) hx hy
end Go.Proofs.Yteabjmebnbaonaa
