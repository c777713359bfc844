/- slices.ContainsFunc of signs, repeat.Unpack's test. -/
import Derived.Test.YtclnmddlcjgfbaaRepRepeat
namespace Go.Proofs.Ytclnmddlcjgfbaa
open Go.RowKit
set_option linter.unusedVariables false

/-- a value that reads as signs, wherever it lies. -/
def ViewS (w : World) (v : Value) (l : List (Nat × Nat)) : Prop :=
  ∃ ao cap, v = .slice ao l.length cap ∧ (0 < l.length → ∃ b o, ao = some ⟨b, o, none⟩ ∧ ∀ i s, l[i]? = some s → w.cell? ⟨b, o + i * 2, none⟩ = some (.int .u8 (s : Nat × Nat).1) ∧ w.cell? ⟨b, o + i * 2 + 1, none⟩ = some (.int .u8 s.2))
theorem ViewS.ext {w w' : World} {v : Value} {l : List (Nat × Nat)} (h : ViewS w v l) (hx : Ext w w') : ViewS w' v l := by
  obtain ⟨ao, cap, rfl, hc⟩ := h
  refine ⟨ao, cap, rfl, fun h0 => ?_⟩
  obtain ⟨b, o, rfl, h1⟩ := hc h0
  exact ⟨b, o, rfl, fun i s hi => ⟨cell_touch hx (h1 i s hi).1 (fun f => f), cell_touch hx (h1 i s hi).2 (fun f => f)⟩⟩
theorem ViewS.shape {w : World} {v : Value} {l : List (Nat × Nat)} (h : ViewS w v l) : ∃ ao cap, v = .slice ao l.length cap := by
  obtain ⟨ao, cap, rfl, _⟩ := h; exact ⟨ao, cap, rfl⟩
theorem ViewS.cells {w : World} {ao : Option Addr} {n cap : Nat} {l : List (Nat × Nat)} (h : ViewS w (.slice ao n cap) l) (h0 : 0 < l.length) : ∃ b o, ao = some ⟨b, o, none⟩ ∧ ∀ i s, l[i]? = some s → w.cell? ⟨b, o + i * 2, none⟩ = some (.int .u8 (s : Nat × Nat).1) ∧ w.cell? ⟨b, o + i * 2 + 1, none⟩ = some (.int .u8 s.2) := by
  obtain ⟨ao', cap', e, hc⟩ := h
  injection e with e1 _ _
  subst e1
  exact hc h0
theorem scells_get : ∀ (l : List (Nat × Nat)) (i : Nat) (s : Nat × Nat), l[i]? = some s → (scells l)[i * 2]? = some (.int .u8 s.1) ∧ (scells l)[i * 2 + 1]? = some (.int .u8 s.2)
  | [], i, s, h => by simp at h
  | x :: l, 0, s, h => by simp at h; subst h; exact ⟨rfl, rfl⟩
  | x :: l, i + 1, s, h => by
    have := scells_get l i s (by simpa using h)
    rw [show (i + 1) * 2 = i * 2 + 1 + 1 by omega]
    exact this
theorem Owns.viewS {w : World} {e : TypeId} {v : Value} {og : Option Nat} {l : List (Nat × Nat)} (h : Owns w e 2 v og l.length (scells l)) : ViewS w v l := by
  rcases h.form with ⟨_, rfl, h0, _⟩ | ⟨g, cap, cur, hg, rfl, _⟩
  · exact ⟨none, 0, by rw [h0], fun h => by omega⟩
  · refine ⟨_, cap, rfl, fun _ => ⟨g, 0, rfl, fun i s hi => ?_⟩⟩
    have hc := h.1.cells (g := g) rfl
    have h2 := scells_get l i s hi
    have h3 := hc _ _ h2.1
    have h4 := hc _ _ h2.2
    rw [add_lit] at h3 h4
    exact ⟨by rw [Nat.zero_add]; exact h3, by rw [Nat.zero_add]; exact h4⟩
theorem rep_bits_q (c b : Nat) (hc : c < 256) (hb : bitsOfCode c = b) (w : World) : Calls Try.prog 11 #[.int .u8 c] w fun e w' => e = .returned (.int .i64 b) ∧ w' = w := by
  subst hb
  exact (rep_bits c w hc).mono (fun e w' h => ⟨h.1, h.2.symm⟩)
theorem rep_bad_big (c x : Nat) (w : World) (hc : c < 256) (hx : x < 256) (h18 : 18 < c) : Calls Try.prog 20 #[.agg #[.int .u8 c, .int .u8 x]] w fun e w' => e = .returned (.bool true) ∧ Ext w w' := by
  have h1 : (18 : Int) < (c : Int) := by omega
  have h2 : decide ((18 : Int) < (c : Int)) = true := decide_eq_true h1
  go_enter Try.func20, Try.ntmps20
  go_wp2_with fail
  go_quiet (fail)
  go_wp2_with fail
  go_ret
  exact ⟨rfl, ((Ext.refl w).alloc _).drewN _⟩
set_option maxHeartbeats 800000 in
theorem rep_bad_in (c x b : Nat) (w : World) (hc : c < 256) (hx : x < 256) (h18 : c ≤ 18) (hb : bitsOfCode c = b) (hb7 : b ≤ 7) : Calls Try.prog 20 #[.agg #[.int .u8 c, .int .u8 x]] w fun e w' => e = .returned (.bool (decide (2 ^ b ≤ x))) ∧ Ext w w' := by
  have h1 : ¬ (18 : Int) < (c : Int) := by omega
  have h2 : decide ((18 : Int) < (c : Int)) = false := decide_eq_false h1
  have hd : decide (2 ^ b ≤ x) = decide (wrap64 ((2 : Int) ^ b) ≤ (x : Int)) := by
    have ew : ∀ x : Int, wrap64 x = IntKind.i64.wrap x := fun x => by rw [IntKind.wrap_i64, wrap64]
    have hw : wrap64 ((2 : Int) ^ b) = ((2 ^ b : Nat) : Int) := by
      match b, hb7 with
      | 0, _ => exact (ew _).trans ((IntWalk.i64_in _ (by omega)).trans (by decide))
      | 1, _ => exact (ew _).trans ((IntWalk.i64_in _ (by omega)).trans (by decide))
      | 2, _ => exact (ew _).trans ((IntWalk.i64_in _ (by omega)).trans (by decide))
      | 3, _ => exact (ew _).trans ((IntWalk.i64_in _ (by omega)).trans (by decide))
      | 4, _ => exact (ew _).trans ((IntWalk.i64_in _ (by omega)).trans (by decide))
      | 5, _ => exact (ew _).trans ((IntWalk.i64_in _ (by omega)).trans (by decide))
      | 6, _ => exact (ew _).trans ((IntWalk.i64_in _ (by omega)).trans (by decide))
      | 7, _ => exact (ew _).trans ((IntWalk.i64_in _ (by omega)).trans (by decide))
    rw [hw]
    exact decide_eq_decide.2 (by omega)
  rw [hd]
  clear hd
  have h3 : ((b : Int)).toNat = b := Int.toNat_natCast b
  have h4 : (0 : Int) ≤ (b : Int) := by omega
  go_enter Try.func20, Try.ntmps20
  go_wp2_with fail
  go_quiet (first | (go_at_call 11; exact Calls.quiet_of_same (rep_bits_q c b hc hb _)))
  go_wp2_with fail
  go_ret
  exact ⟨rfl, ((Ext.refl w).alloc _).drewN _⟩
theorem rep_bad (s : Nat × Nat) (w : World) (hc : s.1 < 256) (hx : s.2 < 256) : Calls Try.prog 20 #[.agg #[.int .u8 s.1, .int .u8 s.2]] w fun e w' => e = .returned (.bool (!okSign s)) ∧ Ext w w' := by
  obtain ⟨c, x⟩ := s
  by_cases h : 18 < c
  · rw [show (!okSign (c, x)) = true by simp [okSign]; omega]
    exact rep_bad_big c x w hc hx h
  · have hb7 : bitsOfCode c ≤ 7 := by
      unfold bitsOfCode
      split
      · omega
      · split
        · omega
        · split <;> omega
    have e : (!okSign (c, x)) = decide (2 ^ bitsOfCode c ≤ x) := by
      by_cases h2 : 2 ^ bitsOfCode c ≤ x
      · rw [show decide (2 ^ bitsOfCode c ≤ x) = true by simpa using h2]
        simp [okSign]; omega
      · rw [show decide (2 ^ bitsOfCode c ≤ x) = false by simpa using h2]
        simp [okSign]; omega
    rw [e]
    exact rep_bad_in c x _ w hc hx (by omega) rfl hb7

set_option maxHeartbeats 800000 in
theorem rep_indexS (sv : Value) (l : List (Nat × Nat)) (w : World) (hv : ViewS w sv l) (h256 : ∀ s ∈ l, s.1 < 256 ∧ s.2 < 256) (hlen : l.length ≤ 2 ^ 40) :
    Calls Try.prog 24 #[sv, .func (.func 20) #[] #[]] w fun e w' => ∃ i : Int, e = .returned (.int .i64 i) ∧ (0 ≤ i ↔ l.all okSign = false) ∧ -1 ≤ i ∧ Ext w w' := by
  obtain ⟨ao, cap, rfl⟩ := hv.shape
  have HV := Lib.hid hv
  have H256 := Lib.hid h256
  clear hv h256
  go_enter Try.func24, Try.ntmps24
  go_wp2_with fail
  go_loopw [8] (fun i wr => ∃ k : Nat, i = .int .i64 k ∧ k ≤ l.length ∧ (∀ j s, j < k → l[j]? = some s → okSign s = true) ∧ Ext w wr) (fun i _ => l.length - (intOf i).toNat)
  case atStart => exact ⟨0, rfl, Nat.zero_le _, fun j x hj => absurd hj (Nat.not_lt_zero _), Ext.refl _⟩
  case round =>
    obtain ⟨k, rfl, hk, hall, hx⟩ := hrel
    have HALL := Lib.hid hall
    have HX := Lib.hid hx
    clear hall hx
    by_cases hlt : k < l.length
    · have hlti : (k : Int) < (l.length : Int) := by omega
      obtain ⟨b, o, rfl, hc⟩ := HV.out.cells (by omega)
      obtain ⟨s, hsk⟩ : ∃ s, l[k]? = some s := ⟨_, List.getElem?_eq_getElem hlt⟩
      have hc0 := cell_touch HX.out (hc k s hsk).1 (fun f => f)
      have hc1 := cell_touch HX.out (hc k s hsk).2 (fun f => f)
      have hs256 := H256.out s (List.mem_of_getElem? hsk)
      obtain ⟨c, x⟩ := s
      simp only at hc0 hc1 hs256
      have HSK := Lib.hid hsk
      clear hc hsk
      go_wp2_with fail
      refine (rep_bad (c, x) _ hs256.1 hs256.2).mono ?_
      rintro e w1 ⟨rfl, hx1⟩
      have HX1 := Lib.hid (HX.out.trans hx1)
      clear hx1
      cases hok : okSign (c, x) with
      | false =>
        have HOK := Lib.hid hok
        clear hok hc0 hc1
        go_wp2_with fail
        go_ret
        refine ⟨k, rfl, ⟨fun _ => ?_, fun _ => by omega⟩, by omega, HX1.out⟩
        cases ho : l.all okSign with
        | false => rfl
        | true =>
          have := List.all_eq_true.1 ho _ (List.mem_of_getElem? HSK.out)
          rw [HOK.out] at this; cases this
      | true =>
        have hf : ∀ j y, j < k + 1 → l[j]? = some y → okSign y = true := fun j y hj hy => by
          by_cases h : j < k
          · exact HALL.out j y h hy
          · rw [show j = k by omega, HSK.out] at hy
            cases hy; exact hok
        have HF := Lib.hid hf
        clear hf hok hc0 hc1
        go_wp2_with fail
        go_roundw
        case rel => exact ⟨k + 1, by go_num, by omega, HF.out, HX1.out⟩
        case measure => simp [intOf]; omega
    · obtain rfl : k = l.length := by omega
      go_wp2_with fail
      go_ret
      refine ⟨-1, rfl, ⟨fun h => by omega, fun h => ?_⟩, by omega, HX.out⟩
      exfalso
      have : l.all okSign = true := by
        rw [List.all_eq_true]
        intro x hx
        obtain ⟨j, hj, rfl⟩ := List.getElem_of_mem hx
        exact HALL.out j _ hj (List.getElem?_eq_getElem hj)
      rw [this] at h; cases h
theorem rep_containsS (sv : Value) (l : List (Nat × Nat)) (w : World) (hv : ViewS w sv l) (h256 : ∀ s ∈ l, s.1 < 256 ∧ s.2 < 256) (hlen : l.length ≤ 2 ^ 40) :
    Calls Try.prog 19 #[sv, .func (.func 20) #[] #[]] w fun e w' => e = .returned (.bool (!l.all okSign)) ∧ Ext w w' := by
  go_enter Try.func19, Try.ntmps19
  go_wp2_with fail
  refine (rep_indexS sv l _ hv h256 hlen).mono ?_
  rintro e w' ⟨i, rfl, h1, h2, hx⟩
  have HX := Lib.hid hx
  clear hx
  cases ho : l.all okSign with
  | true =>
    rw [ho] at h1
    have h3 : ¬ 0 ≤ i := fun h => by have := h1.1 h; cases this
    have HO := Lib.hid ho
    clear h1 ho
    go_wp2_with fail
    go_ret
    exact ⟨by rw [HO.out]; simp [h3], HX.out⟩
  | false =>
    rw [ho] at h1
    have h3 : 0 ≤ i := h1.2 rfl
    have HO := Lib.hid ho
    clear h1 ho
    go_wp2_with fail
    go_ret
    exact ⟨by rw [HO.out]; rfl, HX.out⟩
end Go.Proofs.Ytclnmddlcjgfbaa
