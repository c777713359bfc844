/- refine.bits, refine.good: their walks. -/
import Derived.Test.YtaabmlnbadpfgaaRefPlainZ
import Derived.Test.YtaabmlnbadpfgaaTabMin
import Derived.Test.YtaabmlnbadpfgaaLimCmps
namespace Go.Proofs.Ytaabmlnbadpfgaa
open Go.RowKit
set_option linter.unusedVariables false

def RbI (L l : List Nat) (n : Nat) (vn vi : Value) : Prop := ∃ i : Nat, vi = .int .i64 i ∧ i ≤ n ∧ vn = .int .i64 (bitsR L (l.take i) : Nat)
set_option maxHeartbeats 1000000 in
set_option maxRecDepth 100000 in
theorem ref_bits (lv sv : Value) (L l : List Nat) (w : World) (hL : ViewL w lv (u8s L)) (hs : ViewL w sv (intsL l)) (hin : ∀ s ∈ l, s < L.length) (hb : ∀ x ∈ L, x < 256) (hl : l.length ≤ 2 ^ 20) :
    Calls Try.prog 24 #[lv, sv] w fun e w' => e = .returned (.int .i64 (bitsR L l : Nat)) ∧ w = w' := by
  obtain ⟨la, lc, rfl⟩ := hL.shape
  obtain ⟨sa, sc, rfl⟩ := hs.shape
  rw [length_u8s] at hL ⊢
  rw [length_intsL] at hs ⊢
  obtain ⟨M, hM⟩ : ∃ M, M = L.length := ⟨_, rfl⟩
  obtain ⟨n, hn⟩ : ∃ n, n = l.length := ⟨_, rfl⟩
  rw [← hM] at hL hin ⊢
  rw [← hn] at hs hl ⊢
  have HC := Lib.hid (show ∀ i, i < n → ∃ b o b2 o2, sa = some ⟨b, o, none⟩ ∧ la = some ⟨b2, o2, none⟩ ∧ l.getD i 0 < M ∧ w.cell? ⟨b, o + i, none⟩ = some (.int .i64 (l.getD i 0 : Nat)) ∧ w.cell? ⟨b2, o2 + l.getD i 0, none⟩ = some (.int .u8 (L.getD (l.getD i 0) 0 : Nat)) from fun i hi => by
    obtain ⟨b, o, rfl, _, hc⟩ := viewL_cells hs (by rw [length_intsL]; omega)
    have hil : i < l.length := by omega
    have hm : l.getD i 0 < M := by
      have := hin _ (List.getElem_mem hil)
      simpa [List.getD, hil] using this
    obtain ⟨b2, o2, rfl, _, hc2⟩ := viewL_cells hL (by rw [length_u8s]; omega)
    exact ⟨b, o, b2, o2, rfl, rfl, hm, hc i _ (by simp [intsL, List.getD, hil]), hc2 _ _ (getElem?_u8s L _ (by omega))⟩)
  have HN := Lib.hid (show n = l.length ∧ n ≤ 2 ^ 20 ∧ (∀ x ∈ L, x < 256) from ⟨hn, hl, hb⟩)
  have HB := Lib.hid (show ∀ i, i ≤ n → bitsR L (l.take i) ≤ 256 * 2 ^ 20 from fun i hi => by
    have := bitsR_le hb (l.take i)
    rw [List.length_take] at this
    omega)
  clear hL hs hin hb hM hn hl
  go_enter Try.func24, Try.ntmps24
  go_wp2_with fail
  go_loop [5, 10] (fun vn vi => RbI L l n vn vi) (fun _ vi => n - (intOf vi).toNat)
  case atStart => exact ⟨0, by go_num, Nat.zero_le _, by simp [bitsR]⟩
  case round =>
    obtain ⟨i, rfl, hi, rfl⟩ := hrel
    obtain ⟨q, hq⟩ : ∃ q, q = bitsR L (l.take i) := ⟨_, rfl⟩
    have hqb := HB.out i hi
    rw [← hq] at hqb
    rw [← hq]
    have HI := Lib.hid (show i ≤ n ∧ q = bitsR L (l.take i) from ⟨hi, hq⟩)
    clear hi hq
    by_cases hlt : i < n
    · have hltz : (i : Int) < (n : Int) := by omega
      obtain ⟨b, o, b2, o2, rfl, rfl, hs, c1, c2⟩ := HC.out i hlt
      obtain ⟨s, hs'⟩ : ∃ s, s = l.getD i 0 := ⟨_, rfl⟩
      rw [← hs'] at hs c1 c2
      obtain ⟨x, hx⟩ : ∃ x, x = L.getD s 0 := ⟨_, rfl⟩
      rw [← hx] at c2
      have hx256 : x ≤ 256 := by
        have := bitsR_le HN.out.2.2 [s]
        simp only [bitsR, List.map_cons, List.map_nil, List.sum_cons, List.sum_nil, List.length_cons, List.length_nil] at this
        omega
      obtain ⟨i1, hi1⟩ : ∃ i1, i1 = i + 1 := ⟨_, rfl⟩
      obtain ⟨q1, hq1⟩ : ∃ q1, q1 = q + x := ⟨_, rfl⟩
      have wx : IntKind.i64.wrap (x : Int) = (x : Int) := IntWalk.i64_in _ (by omega)
      have wi : IntKind.i64.wrap ((i : Int) + 1) = (i1 : Int) := by rw [show (i : Int) + 1 = ((i1 : Nat) : Int) by omega]; exact IntWalk.i64_in _ (by have := HN.out; omega)
      have wq : IntKind.i64.wrap ((q : Int) + (x : Int)) = (q1 : Int) := by rw [show (q : Int) + (x : Int) = ((q1 : Nat) : Int) by omega]; exact IntWalk.i64_in _ (by omega)
      have hsz : (s : Int) < (M : Int) := by omega
      have HX := Lib.hid (show i1 = i + 1 ∧ i < n ∧ q1 = bitsR L (l.take i1) from ⟨hi1, hlt, by
        have hil : i < l.length := by rw [← HN.out.1]; exact hlt
        rw [hi1, List.take_succ_eq_append_getElem hil, bitsR_snoc, hq1, HI.out.2, hx, hs']
        simp [List.getD, hil]⟩)
      clear hlt hs hs' hx hx256 hi1 hq1 hqb
      go_wp2_with fail
      go_round
      case rel => exact ⟨i1, rfl, by have := HX.out; omega, by rw [HX.out.2.2]⟩
      case measure => simp [intOf]; have := HX.out; omega
    · have hltz : ¬ (i : Int) < (n : Int) := by omega
      have HE := Lib.hid (show q = bitsR L l from by rw [HI.out.2, List.take_of_length_le (by have := HI.out.1; have := HN.out.1; omega)])
      clear hlt
      go_wp2_with fail
      go_ret
      exact ⟨by rw [← HE.out]; rfl, rfl⟩
theorem classL_over (L : List Nat) : classL L = 3 ↔ 2 ^ 20 < weightL L := by
  unfold classL
  split
  · omega
  · split
    · omega
    · split
      · omega
      · omega
set_option maxHeartbeats 1000000 in
set_option maxRecDepth 100000 in
theorem ref_good (v : Value) (L : List Nat) (n : Nat) (w : World) (hv : ViewL w v (u8s L)) (hl : L.length ≤ 2 ^ 40) (h3 : 3 ≤ n) (hn : n ≤ 258) :
    Calls Try.prog 17 #[v, .int .i64 n] w fun e w' => e = .returned (.bool (decide (GoodC L n))) ∧ w = w' := by
  have hcl := kraft_classify v L w hv hl
  have hmin := fun h0 => tab_min v L w hv h0 hl
  have hmax := fun h0 => tab_max v L w hv h0 hl
  obtain ⟨ao, cap, rfl⟩ := hv.shape
  rw [length_u8s] at hcl hmin hmax ⊢
  obtain ⟨M, hM⟩ : ∃ M, M = L.length := ⟨_, rfl⟩
  rw [← hM] at hcl hmin hmax hl ⊢
  obtain ⟨D, hD⟩ : ∃ D, D = decide (GoodC L n) := ⟨_, rfl⟩
  rw [← hD]
  have HD := Lib.hid hD
  have HM := Lib.hid (show M = L.length ∧ 3 ≤ n ∧ n ≤ 258 from ⟨hM, h3, hn⟩)
  have HCL := Lib.hid hcl
  have HMIN := Lib.hid hmin
  have HMAX := Lib.hid hmax
  clear hv hcl hmin hmax hM hD h3 hn hl
  go_enter Try.func17, Try.ntmps17
  go_wp2_with fail
  refine Calls.mono HCL.out ?_
  rintro e w' ⟨h | h, rfl⟩
  · obtain ⟨hm, rfl⟩ := h
    obtain ⟨C, hC⟩ : ∃ C, C = classL L := ⟨_, rfl⟩
    rw [← hC]
    have HC := Lib.hid hC
    have HMK := Lib.hid hm
    clear hC hm HCL
    by_cases h3 : C = 3
    · subst h3
      have hf : D = false := by rw [HD.out]; exact decide_eq_false fun h => by have := (classL_over L).1 HC.out.symm; have := h.2.2; omega
      subst hf
      go_wp2_with fail
      go_ret
      exact ⟨rfl, rfl⟩
    · have h3z : ((C : Int) == 3) = false := by rw [beq_eq_false_iff_ne]; omega
      have h3n : ((C : Int) != 3) = true := by rw [bne_iff_ne]; omega
      have HW := Lib.hid (show weightL L ≤ 2 ^ 20 from by
        apply Classical.byContradiction
        intro h
        exact h3 (by rw [HC.out]; exact (classL_over L).2 (by omega)))
      clear h3
      by_cases hMn : M = n
      · have hMz : ((M : Int) == (n : Int)) = true := by rw [beq_iff_eq]; omega
        have HMN := Lib.hid hMn
        have hmi := HMIN.out (by have := HM.out; omega)
        have HMI := Lib.hid hmi
        have HMA := Lib.hid (HMAX.out (by have := HM.out; omega))
        clear hMn hmi HMIN HMAX
        go_wp2_with fail
        refine Calls.mono HMI.out ?_
        rintro e w' ⟨m, rfl, hm, hall, rfl⟩
        have HLO := Lib.hid (And.intro hm hall)
        clear hm hall HMI
        by_cases hm1 : 1 ≤ m
        · have hm1z : (1 : Int) ≤ (m : Int) := by omega
          have HM1 := Lib.hid hm1
          clear hm1
          go_wp2_with fail
          refine Calls.mono HMA.out ?_
          rintro e w' ⟨k, rfl, hk, hall, rfl⟩
          have HHI := Lib.hid (And.intro hk hall)
          clear hk hall HMA
          by_cases hk17 : k ≤ 17
          · have hk17z : (k : Int) ≤ 17 := by omega
            have hf : D = true := by rw [HD.out]; exact decide_eq_true ⟨by rw [← HM.out.1]; exact HMN.out, fun x hx => ⟨Nat.le_trans HM1.out (HLO.out.2 x hx), Nat.le_trans (HHI.out.2 x hx) hk17⟩, HW.out⟩
            subst hf
            go_wp2_with fail
            go_ret
            exact ⟨rfl, rfl⟩
          · have hk17z : ¬ (k : Int) ≤ 17 := by omega
            have hk17n : ¬ k ≤ 17 := hk17
            have hf : D = false := by rw [HD.out]; exact decide_eq_false fun h => by have := (h.2.1 k HHI.out.1).2; omega
            subst hf
            go_wp2_with fail
            go_ret
            exact ⟨by first | rfl | (show Ending.returned (.bool (decide ((k : Int) ≤ 17))) = _; rw [decide_eq_false (show ¬ (k : Int) ≤ 17 by omega)]), rfl⟩
        · have hm1z : ¬ (1 : Int) ≤ (m : Int) := by omega
          have hf : D = false := by rw [HD.out]; exact decide_eq_false fun h => by have := (h.2.1 m HLO.out.1).1; omega
          subst hf
          go_wp2_with fail
          go_ret
          exact ⟨rfl, rfl⟩
      · have hMz : ((M : Int) == (n : Int)) = false := by rw [beq_eq_false_iff_ne]; omega
        have hf : D = false := by rw [HD.out]; exact decide_eq_false fun h => hMn (by rw [HM.out.1]; exact h.1)
        subst hf
        clear hMn
        go_wp2_with fail
        go_ret
        exact ⟨rfl, rfl⟩
  · obtain ⟨hm, rfl⟩ := h
    have hf : D = false := by rw [HD.out]; exact decide_eq_false fun h => hm (h.may HM.out.2.2)
    subst hf
    clear hm
    go_wp2_with fail
    go_ret
    exact ⟨rfl, rfl⟩
end Go.Proofs.Ytaabmlnbadpfgaa
