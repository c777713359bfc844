/- pressworklaw05.picks and sum: their walks. -/
import Derived.Test.YtblbggdglndiiaaLimLen
import Derived.Test.YtblbggdglndiiaaLimPlain
import Derived.Test.YtblbggdglndiiaaStr
namespace Go.Proofs.Ytblbggdglndiiaa
open Go.RowKit
set_option linter.unusedVariables false

theorem lensP_eval (F P : List Nat) (i : Nat) : lensP F P i = lensF F P i := by
  rw [lensP, lensF]
  refine List.map_congr_left fun s _ => ?_
  rw [lenP, lenInit, lenOf, takesF_eq]
theorem pick_ord : IsOrd [1, 1, 2, 4] [0, 1, 2, 3] := ⟨by simp [Before], fun s => by
  constructor
  · intro h; simp at h; rcases h with rfl | rfl | rfl | rfl <;> simp
  · rintro ⟨h, _⟩
    simp at h
    simp
    omega⟩
theorem pick_lens : lensP [1, 1, 2, 4] [0, 1, 2, 3] (3 - 1) = [3, 3, 2, 1] := by rw [lensP_eval]; decide
/-- a literal of ints. -/
theorem viewL_ints (w : World) (F : List Nat) (n : Nat) (hn : n = F.length) (h0 : 0 < n) (xs : List Value) (hx : xs = intsL F) (e : TypeId) (fr : Nat × Nat) : ViewL (w.alloc (.cells xs.toArray e fr)) (.slice (some ⟨w.heap.size, 0, none⟩) n n) (intsL F) := by
  subst hn hx
  refine ⟨some ⟨w.heap.size, 0, none⟩, F.length, by rw [length_intsL], by rw [length_intsL]; exact Nat.le_refl _, fun e => (by cases e), fun h => ⟨w.heap.size, 0, rfl, fun j u hu => ?_⟩⟩
  rw [World.cell?, heap_alloc_new]
  simpa using hu
set_option maxHeartbeats 1000000 in
theorem lim_picks (w : World) : Calls Try.prog 10 #[] w fun e w' => e = .returned (.bool true) ∧ Ext w w' := by
  obtain ⟨w1, hw1⟩ : ∃ w1, w1 = w.alloc (.cells #[.int .i64 1, .int .i64 1, .int .i64 2, .int .i64 4] 3) := ⟨_, rfl⟩
  have hx1 : Ext w w1 := by rw [hw1]; exact (Ext.refl w).alloc _
  have hv : ViewL w1 (.slice (some ⟨w.heap.size, 0, none⟩) 4 4) (intsL [1, 1, 2, 4]) := by
    rw [hw1]; exact viewL_ints w [1, 1, 2, 4] 4 rfl (by decide) [.int .i64 1, .int .i64 1, .int .i64 2, .int .i64 4] rfl _ _
  have hc := lim_len (.slice (some ⟨w.heap.size, 0, none⟩) 4 4) [1, 1, 2, 4] [0, 1, 2, 3] 3 w1 hv (by decide) (by decide) (by decide) (by decide) pick_ord (by decide)
  rw [pick_lens] at hc
  have HC := Lib.hid hc
  have HX := Lib.hid hx1
  have HW := Lib.hid hw1
  clear hx1 hv hc hw1
  go_enter Try.func10, Try.ntmps10
  go_wp2_with fail
  rw [show w.alloc (.cells #[.int .i64 1, .int .i64 1, .int .i64 2, .int .i64 4] 3) = w1 from HW.out.symm]
  refine Calls.mono HC.out ?_
  rintro e w' ⟨ov, rfl, hbo⟩
  have hcv := run_string_view (P := Try.prog) 26 9 5 hbo.view Try.underlying26 Try.underlying5 Try.underlying9
  have hq : ((strOf [3, 3, 2, 1]).toList == [3, 3, 2, 1]) = true := by rw [strOf_toList]; decide
  have HB := Lib.hid hbo
  clear hbo
  go_wp2_with fail
  go_ret
  exact ⟨rfl, HX.out.trans HB.out.toExt⟩
/-- what lengths cost, of the first ones. -/
def sumTo (F Ls : List Nat) (i : Nat) : Nat := ((List.range i).map fun s => F.getD s 0 * Ls.getD s 0).sum
theorem sumTo_succ (F Ls : List Nat) (i : Nat) : sumTo F Ls (i + 1) = sumTo F Ls i + F.getD i 0 * Ls.getD i 0 := by
  rw [sumTo, List.range_succ, List.map_append, List.sum_append, sumTo]; simp
theorem sumTo_bound {F Ls : List Nat} (hF : ∀ x ∈ F, x ≤ 2 ^ 42) (hL : ∀ x ∈ Ls, x ≤ 2 ^ 8) : ∀ i, i ≤ F.length → i ≤ Ls.length → sumTo F Ls i ≤ i * 2 ^ 50
  | 0, _, _ => by simp [sumTo]
  | i + 1, h1, h2 => by
    rw [sumTo_succ]
    have := sumTo_bound hF hL i (by omega) (by omega)
    have a := hF _ (getD_mem (show i < F.length by omega))
    have b := hL _ (getD_mem (show i < Ls.length by omega))
    have c : F.getD i 0 * Ls.getD i 0 ≤ 2 ^ 42 * 2 ^ 8 := Nat.mul_le_mul a b
    have e : (2 : Nat) ^ 42 * 2 ^ 8 = 2 ^ 50 := by decide
    omega
def SuI (F Ls : List Nat) (n : Nat) (w : World) (vn vi : Value) (wr : World) : Prop := ∃ (i m : Nat), vi = .int .i64 i ∧ vn = .int .i64 (sumTo F Ls i : Nat) ∧ i ≤ n ∧ wr = w.drewN m
set_option maxHeartbeats 1000000 in
set_option maxRecDepth 100000 in
theorem lim_sum (F Ls : List Nat) (v lv : Value) (w : World) (hv : ViewL w v (intsL F)) (hlv : ViewL w lv (u8s Ls)) (hF : ∀ x ∈ F, x ≤ 2 ^ 42) (hL : ∀ x ∈ Ls, x ≤ 2 ^ 8) (hl : F.length ≤ 2 ^ 11) (hll : Ls.length = F.length) :
    Calls Try.prog 12 #[v, lv] w fun e w' => e = .returned (.int .i64 (sumTo F Ls F.length : Nat)) ∧ Ext w w' := by
  obtain ⟨ao, cap, rfl⟩ := hv.shape
  obtain ⟨lo, lc, rfl⟩ := hlv.shape
  rw [length_intsL] at hv ⊢
  rw [length_u8s] at hlv ⊢
  rw [hll] at hlv ⊢
  obtain ⟨n, hn⟩ : ∃ n, n = F.length := ⟨_, rfl⟩
  have HB := Lib.hid (show ∀ i, i ≤ n → sumTo F Ls i ≤ 2 ^ 61 from fun i hi => by
    have h := sumTo_bound hF hL i (by omega) (by omega)
    have : i * 2 ^ 50 ≤ 2 ^ 11 * 2 ^ 50 := Nat.mul_le_mul_right _ (by omega)
    omega)
  rw [← hn] at hv hlv ⊢
  have HN := Lib.hid (show n = F.length ∧ Ls.length = n ∧ n ≤ 2 ^ 11 ∧ (∀ x ∈ F, x ≤ 2 ^ 42) ∧ (∀ x ∈ Ls, x ≤ 2 ^ 8) from ⟨hn, by rw [hll, hn], by omega, hF, hL⟩)
  have HV := Lib.hid (show ∀ j, j < n → ∃ b o, ao = some ⟨b, o, none⟩ ∧ w.cell? ⟨b, o + j, none⟩ = some (.int .i64 (F.getD j 0 : Nat)) from fun j hj => by
    obtain ⟨b, o, rfl, _, hc⟩ := viewL_cells hv (by rw [length_intsL]; omega)
    exact ⟨b, o, rfl, hc j (.int .i64 (F.getD j 0 : Nat)) (by rw [hn] at hj; simp [intsL, hj, List.getD])⟩)
  have HL := Lib.hid (show ∀ j, j < n → ∃ b o, lo = some ⟨b, o, none⟩ ∧ w.cell? ⟨b, o + j, none⟩ = some (.int .u8 (Ls.getD j 0 : Nat)) from fun j hj => by
    obtain ⟨b, o, rfl, _, hc⟩ := viewL_cells hlv (by rw [length_u8s]; omega)
    exact ⟨b, o, rfl, hc j (.int .u8 (Ls.getD j 0 : Nat)) (by
      have : j < Ls.length := by omega
      simp [u8s, this, List.getD])⟩)
  clear hv hlv hF hL hl hll hn
  go_enter Try.func12, Try.ntmps12
  go_wp2_with fail
  go_loopw [5, 6] (fun vn vi wr => SuI F Ls n w vn vi wr) (fun _ vi _ => n - (intOf vi).toNat)
  case atStart => exact ⟨0, 0, by go_num, by simp [sumTo], Nat.zero_le _, rfl⟩
  case round =>
    obtain ⟨i, m, rfl, rfl, hi, hwr⟩ := hrel
    have HI := Lib.hid (show i ≤ n ∧ wr = w.drewN m from ⟨hi, hwr⟩)
    obtain ⟨S, hS⟩ : ∃ S, S = sumTo F Ls i := ⟨_, rfl⟩
    rw [← hS]
    have HS := Lib.hid hS
    clear hi hwr hS
    by_cases hlt : i < n
    · have hltz : (i : Int) < (n : Int) := by omega
      obtain ⟨b, o, rfl, c1⟩ := HV.out i hlt
      obtain ⟨b2, o2, rfl, c2⟩ := HL.out i hlt
      obtain ⟨x, hx⟩ : ∃ x, x = F.getD i 0 := ⟨_, rfl⟩
      obtain ⟨y, hy⟩ : ∃ y, y = Ls.getD i 0 := ⟨_, rfl⟩
      rw [← hx] at c1
      rw [← hy] at c2
      have d1 : wr.cell? ⟨b, o + i, none⟩ = some (.int .i64 x) := by rw [HI.out.2]; exact c1
      have d2 : wr.cell? ⟨b2, o2 + i, none⟩ = some (.int .u8 y) := by rw [HI.out.2]; exact c2
      obtain ⟨z, hz⟩ : ∃ z, z = x * y := ⟨_, rfl⟩
      obtain ⟨S2, hS2⟩ : ∃ S2, S2 = S + z := ⟨_, rfl⟩
      have hsum : S2 = sumTo F Ls (i + 1) := by rw [hS2, hz, hx, hy, HS.out, sumTo_succ]
      have hb2 := HB.out (i + 1) (by omega)
      have hyb : y ≤ 2 ^ 8 := by rw [hy]; exact HN.out.2.2.2.2 _ (getD_mem (by have := HN.out.2.1; omega))
      have wy : IntKind.i64.wrap (y : Int) = (y : Int) := IntWalk.i64_in _ (by omega)
      have wz : IntKind.i64.wrap ((x : Int) * (y : Int)) = (z : Int) := by rw [show (x : Int) * (y : Int) = ((z : Nat) : Int) by rw [hz]; push_cast; rfl]; exact IntWalk.i64_in _ (by omega)
      have wS : IntKind.i64.wrap ((S : Int) + (z : Int)) = (S2 : Int) := by rw [show (S : Int) + (z : Int) = ((S2 : Nat) : Int) by omega]; exact IntWalk.i64_in _ (by omega)
      obtain ⟨i1, hi1⟩ : ∃ i1, i1 = i + 1 := ⟨_, rfl⟩
      have wi : IntKind.i64.wrap ((i : Int) + 1) = (i1 : Int) := by rw [show (i : Int) + 1 = ((i1 : Nat) : Int) by omega]; exact IntWalk.i64_in _ (by have := HN.out; omega)
      have HE := Lib.hid (show S2 = sumTo F Ls (i + 1) ∧ i1 = i + 1 ∧ i < n from ⟨hsum, hi1, hlt⟩)
      clear c1 c2 hx hy hz hS2 hsum hb2 hi1 hyb
      go_wp2_with fail
      go_quiet (fail)
      clear d1 d2 hltz hlt
      go_wp2_with fail
      obtain ⟨e1, e2, e3⟩ := HE.out
      exact ⟨⟨i1, m + nq, rfl, by rw [e1, e2], by omega, by rw [HI.out.2, World.drewN_drewN]⟩, by simp [intOf]; omega⟩
    · have hltz : ¬ (i : Int) < (n : Int) := by omega
      have HIN := Lib.hid (show i = n from by have := HI.out.1; omega)
      go_wp2_with fail
      go_ret
      refine ⟨by rw [HS.out, HIN.out]; rfl, by rw [HI.out.2]; exact (Ext.refl w).drewN m⟩
end Go.Proofs.Ytblbggdglndiiaa
