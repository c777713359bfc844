/- pressworkref23.Rises, has: their walks. -/
import Derived.Test.YteabjmebnbaonaaPickRefGet
namespace Go.Proofs.Yteabjmebnbaonaa
open Go.RowKit
set_option linter.unusedVariables false

/-- rising, with one at least. -/
def RisesP (bs : List Nat) : Prop := 0 < bs.length ∧ ∀ i x y, bs[i]? = some x → bs[i + 1]? = some y → x < y
set_option maxHeartbeats 1000000 in
theorem pick_rises (v : Value) (bs : List Nat) (w : World) (hv : ViewL w v (u8s bs)) (hl : bs.length ≤ 2 ^ 40) :
    Calls Try.prog 20 #[v] w fun e w' => (e = .returned (.bool true) ∧ RisesP bs ∨ e = .returned (.bool false) ∧ ¬ RisesP bs) ∧ Ext w w' := by
  obtain ⟨ao, cap, rfl⟩ := hv.shape
  rw [length_u8s] at *
  have HV := Lib.hid hv
  clear hv
  go_enter Try.func20, Try.ntmps20
  go_wp2_with fail
  go_loopw [3] (fun iv wr => ∃ k q : Nat, iv = .int .i64 k ∧ 1 ≤ k ∧ (k ≤ bs.length ∨ k = 1) ∧ (∀ i x y, i + 1 < k → bs[i]? = some x → bs[i + 1]? = some y → x < y) ∧ wr = w.drewN q) (fun iv _ => bs.length - (intOf iv).toNat)
  case atStart => exact ⟨1, 0, rfl, Nat.le_refl _, Or.inr rfl, fun i x y h => absurd h (by omega), rfl⟩
  case round =>
    obtain ⟨k, q, rfl, hk1, hk, hall, rfl⟩ := hrel
    have HALL := Lib.hid hall
    clear hall
    by_cases hlt : k < bs.length
    · have hlti : (k : Int) < (bs.length : Int) := by omega
      obtain ⟨b, o, rfl, _, hc⟩ := viewL_cells HV.out (by rw [length_u8s]; omega)
      obtain ⟨x, hx⟩ : ∃ x, bs[k - 1]? = some x := ⟨_, List.getElem?_eq_getElem (by omega)⟩
      obtain ⟨y, hy⟩ : ∃ y, bs[k]? = some y := ⟨_, List.getElem?_eq_getElem hlt⟩
      have c1 := hc (k - 1) (.int .u8 x) (by simp [u8s, hx])
      have c2 := hc k (.int .u8 y) (by simp [u8s, hy])
      have k1 : ((k : Int) - 1).toNat = k - 1 := by omega
      have k2 : (0 : Int) ≤ (k : Int) - 1 := by omega
      have k3 : (k : Int).toNat = k := by omega
      have k4 : (0 : Int) ≤ (k : Int) := by omega
      have k5 : (k : Int) - 1 < (bs.length : Int) := by omega
      have k6 : IntKind.i64.wrap ((k : Int) - 1) = (k : Int) - 1 := IntWalk.i64_in _ (by omega)
      have HXY := Lib.hid (And.intro hx hy)
      clear hc hx hy
      by_cases hxy : y ≤ x
      · have d1 : (y : Int) ≤ (x : Int) := by omega
        have d2 : decide ((y : Int) ≤ (x : Int)) = true := decide_eq_true d1
        go_wp2_with fail
        go_quiet (fail)
        go_wp2_with fail
        go_ret
        refine ⟨Or.inr ⟨rfl, fun h => ?_⟩, ((Ext.refl w).drewN _).drewN _⟩
        have := h.2 (k - 1) x y HXY.out.1 (by rw [show k - 1 + 1 = k by omega]; exact HXY.out.2)
        omega
      · have d1 : ¬ (y : Int) ≤ (x : Int) := by omega
        have d2 : decide ((y : Int) ≤ (x : Int)) = false := decide_eq_false d1
        have hf : ∀ i a c, i + 1 < k + 1 → bs[i]? = some a → bs[i + 1]? = some c → a < c := fun i a c hi ha hc => by
          by_cases h : i + 1 < k
          · exact HALL.out i a c h ha hc
          · have hik : i = k - 1 := by omega
            subst hik
            rw [show k - 1 + 1 = k by omega] at hc
            rw [HXY.out.1] at ha
            rw [HXY.out.2] at hc
            cases ha; cases hc
            omega
        have HF := Lib.hid hf
        clear hf
        go_wp2_with fail
        go_quiet (fail)
        clear k1 k2 k3 k4 k5 k6 d1 d2 c1 c2
        go_wp2_with fail
        go_roundw
        case rel => exact ⟨k + 1, _, by go_num, by omega, Or.inl (by omega), HF.out, rfl⟩
        case measure => simp [intOf]; omega
    · have hge : ¬ (k : Int) < (bs.length : Int) := by omega
      by_cases h0 : 0 < bs.length
      · have h0i : (0 : Int) < (bs.length : Int) := by omega
        go_wp2_with fail
        go_ret
        refine ⟨Or.inl ⟨rfl, h0, fun i x y hx hy => ?_⟩, (Ext.refl w).drewN _⟩
        have hi := (List.getElem?_eq_some_iff.1 hy).1
        exact HALL.out i x y (by omega) hx hy
      · have h0i : ¬ (0 : Int) < (bs.length : Int) := by omega
        go_wp2_with fail
        go_ret
        exact ⟨Or.inr ⟨rfl, fun h => absurd h.1 h0⟩, (Ext.refl w).drewN _⟩
set_option maxHeartbeats 1000000 in
theorem pick_ref_has (v : Value) (bs : List Nat) (c : Nat) (w : World) (hv : ViewL w v (u8s bs)) (hl : bs.length ≤ 2 ^ 40) (hb : ∀ x ∈ bs, x < 256) :
    Calls Try.prog 47 #[v, .int .i64 c] w fun e w' => e = .returned (.bool (decide (c ∈ bs))) ∧ w = w' := by
  obtain ⟨ao, cap, rfl⟩ := hv.shape
  rw [length_u8s] at *
  have HV := Lib.hid hv
  clear hv
  go_enter Try.func47, Try.ntmps47
  go_wp2_with fail
  go_loopw [5] (fun iv wr => ∃ k : Nat, iv = .int .i64 k ∧ k ≤ bs.length ∧ (∀ i, i < k → bs[i]? ≠ some c) ∧ wr = w) (fun iv _ => bs.length - (intOf iv).toNat)
  case atStart => exact ⟨0, rfl, Nat.zero_le _, fun i h => absurd h (Nat.not_lt_zero _), rfl⟩
  case round =>
    obtain ⟨k, rfl, hk, hall, hwr⟩ := hrel
    obtain rfl : w = wr := hwr.symm
    have HALL := Lib.hid hall
    clear hall
    by_cases hlt : k < bs.length
    · have hlti : (k : Int) < (bs.length : Int) := by omega
      obtain ⟨b, o, rfl, _, hc⟩ := viewL_cells HV.out (by rw [length_u8s]; omega)
      obtain ⟨x, hx⟩ : ∃ x, bs[k]? = some x := ⟨_, List.getElem?_eq_getElem hlt⟩
      have c1 := hc k (.int .u8 x) (by simp [u8s, hx])
      have hx256 := hb x (List.mem_of_getElem? hx)
      have hw : wrap64 (x : Int) = (x : Int) := by (rw [wrap64]; omega)
      have HX := Lib.hid hx
      clear hc hx
      by_cases hxc : x = c
      · subst hxc
        have hmem : x ∈ bs := List.mem_of_getElem? HX.out
        have HM := Lib.hid (show decide (x ∈ bs) = true by simpa using hmem)
        clear hmem
        go_wp2_with fail
        go_ret
        exact ⟨by rw [HM.out]; rfl, rfl⟩
      · have hne : ¬ (x : Int) = (c : Int) := by omega
        have hne2 : ((x : Int) == (c : Int)) = false := by rw [beq_eq_false_iff_ne]; exact hne
        have hf : ∀ i, i < k + 1 → bs[i]? ≠ some c := fun i hi => by
          by_cases h : i < k
          · exact HALL.out i h
          · rw [show i = k by omega, HX.out]; simpa using hxc
        have HF := Lib.hid hf
        clear hf
        go_wp2_with fail
        go_roundw
        case rel => exact ⟨k + 1, by go_num, by omega, HF.out, trivial⟩
        case measure => simp [intOf]; omega
    · obtain rfl : k = bs.length := by omega
      have hmem : c ∉ bs := fun h => by
        obtain ⟨j, hj, e⟩ := List.getElem_of_mem h
        exact HALL.out j hj (by rw [List.getElem?_eq_getElem hj, e])
      have HM := Lib.hid (show decide (c ∈ bs) = false by simpa using hmem)
      clear hmem
      go_wp2_with fail
      go_ret
      exact ⟨by rw [HM.out]; rfl, rfl⟩
end Go.Proofs.Yteabjmebnbaonaa
