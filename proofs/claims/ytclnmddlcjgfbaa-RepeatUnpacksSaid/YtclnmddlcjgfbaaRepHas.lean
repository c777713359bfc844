/- slices.ContainsFunc of bytes, repeat.Pack's test; repeat.runs; Sign.times; repeat.Bits. -/
import Derived.Test.YtclnmddlcjgfbaaRepLaw
import Derived.Test.YtclnmddlcjgfbaaView
import Derived.Test.YtclnmddlcjgfbaaRows
import Derived.Outline
import Derived.Deep.DeepMust
namespace Go.Proofs.Ytclnmddlcjgfbaa
open Go.RowKit
set_option linter.unusedVariables false

theorem viewL_cells {w : World} {ao : Option Addr} {n cap : Nat} {xs : List Value} (h : ViewL w (.slice ao n cap) xs) (h0 : 0 < xs.length) : ∃ b o, ao = some ⟨b, o, none⟩ ∧ ∀ j u, xs[j]? = some u → w.cell? ⟨b, o + j, none⟩ = some u := by
  obtain ⟨ao', cap', e, _, _, h3⟩ := h
  injection e with e1 e2 e3
  subst e1
  exact h3 h0
theorem rep_gt15 (x : Nat) (w : World) (hx : x < 256) : Calls Try.prog 16 #[.int .u8 x] w fun e w' => e = .returned (.bool (decide (15 < x))) ∧ w = w' := by
  by_cases h : 15 < x
  · have h1 : (15 : Int) < (x : Int) := by omega
    rw [show decide (15 < x) = true by simpa using h]
    go_enter Try.func16, Try.ntmps16
    go_wp2_with fail
    go_ret
    exact ⟨rfl, rfl⟩
  · have h1 : ¬ (15 : Int) < (x : Int) := by omega
    rw [show decide (15 < x) = false by simpa using h]
    go_enter Try.func16, Try.ntmps16
    go_wp2_with fail
    go_ret
    exact ⟨rfl, rfl⟩

set_option maxHeartbeats 800000 in
theorem rep_index (sv : Value) (bs : List Nat) (w : World) (hv : ViewL w sv (u8s bs)) (h256 : ∀ b ∈ bs, b < 256) (hlen : bs.length ≤ 2 ^ 40) :
    Calls Try.prog 22 #[sv, .func (.func 16) #[] #[]] w fun e w' => ∃ i : Int, e = .returned (.int .i64 i) ∧ (0 ≤ i ↔ okLens bs = false) ∧ -1 ≤ i ∧ w = w' := by
  obtain ⟨ao, cap, rfl⟩ := hv.shape
  rw [length_u8s] at *
  have HV := Lib.hid hv
  have H256 := Lib.hid h256
  clear hv h256
  go_enter Try.func22, Try.ntmps22
  go_wp2_with fail
  go_loopw [8] (fun i wr => ∃ k : Nat, i = .int .i64 k ∧ k ≤ bs.length ∧ (∀ j x, j < k → bs[j]? = some x → x ≤ 15) ∧ wr = w) (fun i _ => bs.length - (intOf i).toNat)
  case atStart => exact ⟨0, rfl, Nat.zero_le _, fun j x hj => absurd hj (Nat.not_lt_zero _), rfl⟩
  case round =>
    obtain ⟨k, rfl, hk, hall, rfl⟩ := hrel
    have HALL := Lib.hid hall
    clear hall
    by_cases hlt : k < bs.length
    · have hlti : (k : Int) < (bs.length : Int) := by omega
      obtain ⟨b, o, rfl, hc⟩ := viewL_cells HV.out (by rw [length_u8s]; omega)
      obtain ⟨x, hxk⟩ : ∃ x, bs[k]? = some x := ⟨_, List.getElem?_eq_getElem hlt⟩
      have hcx := hc k (.int .u8 x) (by simp [u8s, hxk])
      have hx256 := H256.out x (List.mem_of_getElem? hxk)
      have HXK := Lib.hid hxk
      clear hc hxk
      go_wp2_with fail
      refine (rep_gt15 x _ hx256).mono ?_
      rintro e w' ⟨rfl, rfl⟩
      by_cases hx : 15 < x
      · rw [show decide (15 < x) = true by simpa using hx]
        go_wp2_with fail
        go_ret
        refine ⟨k, rfl, ⟨fun _ => ?_, fun _ => by omega⟩, by omega, rfl⟩
        cases ho : okLens bs with
        | false => rfl
        | true =>
          have := List.all_eq_true.1 ho x (List.mem_of_getElem? HXK.out)
          simp at this; omega
      · rw [show decide (15 < x) = false by simpa using hx]
        have hf : ∀ j y, j < k + 1 → bs[j]? = some y → y ≤ 15 := fun j y hj hy => by
          by_cases h : j < k
          · exact HALL.out j y h hy
          · rw [show j = k by omega, HXK.out] at hy
            cases hy; omega
        have HF := Lib.hid hf
        clear hf
        go_wp2_with fail
        go_roundw
        case rel => exact ⟨k + 1, by go_num, by omega, HF.out, trivial⟩
        case measure => simp [intOf]; omega
    · obtain rfl : k = bs.length := by omega
      go_wp2_with fail
      go_ret
      refine ⟨-1, rfl, ⟨fun h => by omega, fun h => ?_⟩, by omega, rfl⟩
      exfalso
      have : okLens bs = true := by
        rw [okLens, List.all_eq_true]
        intro x hx
        obtain ⟨j, hj, rfl⟩ := List.getElem_of_mem hx
        have := HALL.out j _ hj (List.getElem?_eq_getElem hj)
        simpa using this
      rw [this] at h; cases h
theorem rep_contains (sv : Value) (bs : List Nat) (w : World) (hv : ViewL w sv (u8s bs)) (h256 : ∀ b ∈ bs, b < 256) (hlen : bs.length ≤ 2 ^ 40) :
    Calls Try.prog 15 #[sv, .func (.func 16) #[] #[]] w fun e w' => e = .returned (.bool (!okLens bs)) ∧ w = w' := by
  go_enter Try.func15, Try.ntmps15
  go_wp2_with fail
  refine (rep_index sv bs _ hv h256 hlen).mono ?_
  rintro e w' ⟨i, rfl, h1, h2, rfl⟩
  cases ho : okLens bs with
  | true =>
    rw [ho] at h1
    have h3 : ¬ 0 ≤ i := fun h => by have := h1.1 h; cases this
    have HO := Lib.hid ho
    clear h1 ho
    go_wp2_with fail
    go_ret
    exact ⟨by rw [HO.out]; simp [h3], rfl⟩
  | false =>
    rw [ho] at h1
    have h3 : 0 ≤ i := h1.2 rfl
    have HO := Lib.hid ho
    clear h1 ho
    go_wp2_with fail
    go_ret
    exact ⟨by rw [HO.out]; rfl, rfl⟩
theorem rep_runs (ao : Option Addr) (n cap : Nat) (w : World) : Calls Try.prog 17 #[.slice ao n cap] w fun e w' => e = .returned (.func (.func 23) #[] #[.pointer (some ⟨w.heap.size, 0, none⟩)]) ∧ w' = w.alloc (.cells #[.slice ao n cap] 22) := by
  go_enter Try.func17, Try.ntmps17
  go_wp2_with fail
  go_ret
  exact ⟨rfl, rfl⟩
theorem rep_bits (c : Nat) (w : World) (hc : c < 256) : Calls Try.prog 11 #[.int .u8 c] w fun e w' => e = .returned (.int .i64 (bitsOfCode c : Nat)) ∧ w = w' := by
  by_cases h1 : c = 16
  · subst h1
    go_enter Try.func11, Try.ntmps11
    go_wp2_with fail
    go_ret
    exact ⟨rfl, rfl⟩
  · by_cases h2 : c = 17
    · subst h2
      go_enter Try.func11, Try.ntmps11
      go_wp2_with fail
      go_ret
      exact ⟨rfl, rfl⟩
    · by_cases h3 : c = 18
      · subst h3
        go_enter Try.func11, Try.ntmps11
        go_wp2_with fail
        go_ret
        exact ⟨rfl, rfl⟩
      · have k1 : ¬ (c : Int) = 16 := by omega
        have k2 : ¬ (c : Int) = 17 := by omega
        have k3 : ¬ (c : Int) = 18 := by omega
        rw [show bitsOfCode c = 0 by simp [bitsOfCode, h1, h2, h3]]
        clear h1 h2 h3
        go_enter Try.func11, Try.ntmps11
        go_wp2_with fail
        go_ret
        exact ⟨rfl, rfl⟩
theorem rep_times (c x : Nat) (w : World) (hc : c < 256) (hx : x < 256) : Calls Try.prog 18 #[.agg #[.int .u8 c, .int .u8 x]] w fun e w' => e = .returned (.int .i64 (timesOf (c, x) : Nat)) ∧ Ext w w' := by
  by_cases h1 : c < 16
  · have k1 : (c : Int) < 16 := by omega
    rw [show timesOf (c, x) = 1 by simp [timesOf, h1]]
    go_enter Try.func18, Try.ntmps18
    go_wp2_with fail
    go_ret
    exact ⟨rfl, (Ext.refl w).alloc _⟩
  · have k1 : ¬ (c : Int) < 16 := by omega
    by_cases h2 : c < 18
    · have k2 : (c : Int) < 18 := by omega
      rw [show timesOf (c, x) = 3 + x by simp [timesOf, h1, h2]]
      go_enter Try.func18, Try.ntmps18
      go_wp2_with fail
      go_ret
      exact ⟨by go_num, (Ext.refl w).alloc _⟩
    · have k2 : ¬ (c : Int) < 18 := by omega
      rw [show timesOf (c, x) = 11 + x by simp [timesOf, h1, h2]]
      go_enter Try.func18, Try.ntmps18
      go_wp2_with fail
      go_ret
      exact ⟨by go_num, (Ext.refl w).alloc _⟩
end Go.Proofs.Ytclnmddlcjgfbaa
