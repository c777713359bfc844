/- tables.PutSelectors, refused: its walk; and whatever it is handed. -/
import Derived.Test.YteabjmebnbaonaaTabPutS
namespace Go.Proofs.Yteabjmebnbaonaa
open Go.RowKit
set_option linter.unusedVariables false

set_option maxHeartbeats 2000000 in
theorem tab_puts_bad (B : Nat) (v : Value) (xs : List Int) (n : Int) (w : World) (hv : ViewL w v (ints xs)) (hl : xs.length ≤ 2 ^ 40) (hm : ¬ MayI xs n) :
    Calls Try.prog 30 #[.pointer (some ⟨B, 0, none⟩), v, .int .i64 n] w fun e w' => e = .returned (.int .i64 5) ∧ w = w' := by
  obtain ⟨ao, cap, rfl⟩ := hv.shape
  rw [length_ints] at *
  by_cases h1 : n < 2
  · clear hv hm
    go_enter Try.func30, Try.ntmps30
    go_wp2_with fail
    go_ret
    exact ⟨rfl, rfl⟩
  by_cases h2 : 6 < n
  · clear hv hm
    go_enter Try.func30, Try.ntmps30
    go_wp2_with fail
    go_ret
    exact ⟨rfl, rfl⟩
  by_cases h3 : xs.length = 0
  · have h3i : ((xs.length : Int) == 0) = true := by rw [h3]; rfl
    have h3j : (xs.length : Int) = 0 := by omega
    clear hv hm h3
    go_enter Try.func30, Try.ntmps30
    go_wp2_with fail
    go_ret
    exact ⟨rfl, rfl⟩
  have h3i : ((xs.length : Int) == 0) = false := by rw [beq_eq_false_iff_ne]; omega
  by_cases h4 : 32767 < xs.length
  · have h4i : (32767 : Int) < (xs.length : Int) := by omega
    clear hv hm h3
    go_enter Try.func30, Try.ntmps30
    go_wp2_with fail
    go_ret
    exact ⟨rfl, rfl⟩
  have h4i : ¬ (32767 : Int) < (xs.length : Int) := by omega
  have hmin := tab_imin _ xs w hv (by omega) hl
  have hmax := tab_imax _ xs w hv (by omega) hl
  have HM := Lib.hid hm
  clear hv hm h3
  go_enter Try.func30, Try.ntmps30
  go_wp2_with fail
  refine hmin.mono ?_
  clear hmin
  rintro e w' ⟨m, rfl, hmem, hall, rfl⟩
  have HALL := Lib.hid hall
  clear hmem hall
  by_cases hm0 : m < 0
  · go_wp2_with fail
    go_ret
    exact ⟨rfl, rfl⟩
  · go_wp2_with fail
    refine hmax.mono ?_
    clear hmax
    rintro e w' ⟨M, rfl, hmem, hall, rfl⟩
    have hM : n ≤ M := by
      refine Int.not_lt.1 (fun hlt => HM.out ⟨by omega, by omega, List.length_pos_of_mem hmem, by omega, fun x hx => ?_⟩)
      have := HALL.out x hx
      have := hall x hx
      omega
    clear hmem hall
    go_wp2_with fail
    go_ret
    exact ⟨rfl, rfl⟩
theorem may_nat {xs : List Int} {n : Int} (h : MayI xs n) : MayN (xs.map Int.toNat) n.toNat ∧ xs = (xs.map Int.toNat).map (fun (b : Nat) => (b : Int)) := by
  obtain ⟨h1, h2, h3, h4, h5⟩ := h
  refine ⟨⟨by omega, by omega, by simpa using h3, by simpa using h4, fun v hv => ?_⟩, ?_⟩
  · obtain ⟨x, hx, rfl⟩ := List.mem_map.1 hv
    have := h5 x hx; omega
  · rw [List.map_map]
    conv => lhs; rw [← List.map_id xs]
    exact List.map_congr_left fun x hx => by have := (h5 x hx).1; simp; omega
theorem tab_puts (B : Nat) (og : Option Nat) (l : List Bool) (v : Value) (xs : List Int) (n : Int) (w : World) (hw : IsW 30 true w B og l) (hv : ViewL w v (ints xs)) (hd : ∀ b o n cap, v = .slice (some ⟨b, o, none⟩) n cap → ¬ FP B og b) (hl : l.length ≤ 2 ^ 20) (hbl : xs.length ≤ 2 ^ 40) :
    Calls Try.prog 30 #[.pointer (some ⟨B, 0, none⟩), v, .int .i64 n] w fun e w' => (e = .returned (.int .i64 0) ∧ MayI xs n ∧ WPost 30 true w B og (l ++ selBits (xs.map Int.toNat)) w') ∨ (e = .returned (.int .i64 5) ∧ ¬ MayI xs n ∧ w = w') := by
  by_cases hm : MayI xs n
  · obtain ⟨h1, h2⟩ := may_nat hm
    have e : n = ((n.toNat : Nat) : Int) := by have := hm.1; omega
    rw [e]
    refine (tab_puts_ok B og l v (xs.map Int.toNat) n.toNat w hw (by rw [i64s_ints, ← h2]; exact hv) hd hl h1).mono ?_
    rintro e w' ⟨rfl, hp⟩
    exact Or.inl ⟨rfl, by rw [← e]; exact hm, hp⟩
  · refine (tab_puts_bad B v xs n w hv hbl hm).mono ?_
    rintro e w' ⟨rfl, rfl⟩
    exact Or.inr ⟨rfl, hm, rfl⟩
end Go.Proofs.Yteabjmebnbaonaa
