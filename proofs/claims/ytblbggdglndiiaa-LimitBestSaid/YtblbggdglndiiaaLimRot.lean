/- slices.rotateCmpFunc of ints: its walk. -/
import Derived.Test.YtblbggdglndiiaaLimSeg
namespace Go.Proofs.Ytblbggdglndiiaa
open Go.RowKit Go.Sort
set_option linter.unusedVariables false

set_option maxHeartbeats 1000000 in
theorem lim_rotate (blk off cap : Nat) (fv : Value) (l0 P L R S : List Nat) (w : World) (m0 a m b N : Nat) (hH : Holds encN w blk off l0.toArray) (hN : N = l0.length) (hl0 : (P ++ L ++ R ++ S).length = l0.length) (ha : a = P.length) (hm : m = (P ++ L).length) (hb : b = (P ++ L ++ R).length) (hL : L ≠ []) (hR : R ≠ []) (hsz : l0.length ≤ 2 ^ 40) :
    Calls Try.prog 35 #[.slice (some ⟨blk, off, none⟩) N cap, .int .i64 a, .int .i64 m, .int .i64 b, fv] (SW w blk off (P ++ L ++ R ++ S) m0) fun e w' => e = .returned (.tuple #[]) ∧ ∃ m, w' = SW w blk off (P ++ R ++ L ++ S) m := by
  have HH : Hid (Holds encN w blk off l0.toArray) := hH
  have mlt : m ≤ N := by rw [hN, ← hl0, hm]; simp; try omega
  have blt : b ≤ N := by rw [hN, ← hl0, hb]; simp; try omega
  have nlt : N ≤ 2 ^ 40 := by omega
  have i1 : IntKind.i64.wrap ((m : Int) - (a : Int)) = (L.length : Int) := by rw [show (m : Int) - (a : Int) = ((L.length : Nat) : Int) by subst ha hm; simp; try omega]; exact IntWalk.i64_in _ (by subst hm; simp at mlt; omega)
  have j1 : IntKind.i64.wrap ((b : Int) - (m : Int)) = (R.length : Int) := by rw [show (b : Int) - (m : Int) = ((R.length : Nat) : Int) by subst hb hm; simp; try omega]; exact IntWalk.i64_in _ (by subst hb; simp at blt; omega)
  have HF : Hid (N = l0.length ∧ (P ++ L ++ R ++ S).length = l0.length ∧ a = P.length ∧ m = (P ++ L).length ∧ b = (P ++ L ++ R).length ∧ L ≠ [] ∧ R ≠ [] ∧ N ≤ 2 ^ 40) := ⟨hN, hl0, ha, hm, hb, hL, hR, nlt⟩
  clear hH hl0 ha hm hb hL hR nlt blt mlt hN hsz
  go_enter Try.func35, Try.ntmps35
  go_wp2_with fail
  go_loopw [10, 11] (fun vi vj wr => ∃ (i j k : Nat) (X L' R' Y : List Nat), vi = .int .i64 i ∧ vj = .int .i64 j ∧ i = L'.length ∧ j = R'.length ∧ 0 < i ∧ 0 < j ∧ m = (P ++ X ++ L').length ∧ X ++ R' ++ L' ++ Y = R ++ L ∧ wr = SW w blk off (P ++ X ++ L' ++ R' ++ Y ++ S) k) (fun vi vj _ => (intOf vi).toNat + (intOf vj).toNat)
  case atStart =>
    obtain ⟨_, _, _, hm, _, hL, hR, _⟩ := HF.out
    exact ⟨L.length, R.length, m0, [], L, R, [], by go_num, by go_num, rfl, rfl, List.length_pos_iff.2 hL, List.length_pos_iff.2 hR, by simpa using hm, by simp, by simp⟩
  case round =>
    obtain ⟨i, j, k, X, L', R', Y, rfl, rfl, hi, hj, i0, j0, hm', hsum, hwr⟩ := hrel
    have HI : Hid (i = L'.length ∧ j = R'.length ∧ 0 < i ∧ 0 < j ∧ m = (P ++ X ++ L').length ∧ X ++ R' ++ L' ++ Y = R ++ L ∧ wr = SW w blk off (P ++ X ++ L' ++ R' ++ Y ++ S) k) := ⟨hi, hj, i0, j0, hm', hsum, hwr⟩
    clear hi hj i0 j0 hm' hsum hwr
    have bounds : i ≤ 2 ^ 40 ∧ j ≤ 2 ^ 40 ∧ m ≤ 2 ^ 40 ∧ N = l0.length ∧ N = (P ++ X ++ L' ++ R' ++ Y ++ S).length ∧ (P ++ X).length + i = m := by
      obtain ⟨a1, a2, a3, a4, a5, a6, a7, a8⟩ := HF.out
      obtain ⟨b1, b2, b3, b4, b5, b6, b7⟩ := HI.out
      have h1 := congrArg List.length b6
      simp only [List.length_append] at *
      omega
    have HB : Hid _ := bounds
    obtain ⟨p, hp⟩ : ∃ p, p = (P ++ X).length := ⟨_, rfl⟩
    obtain ⟨bi, bj, bm, hN, hN2, hpm⟩ := bounds
    rw [← hp] at hpm
    have HP : Hid (p = (P ++ X).length ∧ p + i = m) := ⟨hp, hpm⟩
    have e1 : IntKind.i64.wrap ((m : Int) - (i : Int)) = (p : Int) := by rw [show (m : Int) - (i : Int) = ((p : Nat) : Int) by omega]; exact IntWalk.i64_in _ (by omega)
    by_cases hij : i = j
    · have c1 : ((i : Int) == (j : Int)) = true := by rw [beq_iff_eq]; omega
      have HIJ : Hid (i = j) := hij
      clear bi bj bm hN hN2 hpm hp hij
      have hc : Calls Try.prog 36 #[.slice (some ⟨blk, off, none⟩) N cap, .int .i64 p, .int .i64 m, .int .i64 i, fv] wr fun e w' => e = .returned (.tuple #[]) ∧ ∃ m, w' = SW w blk off (P ++ R ++ L ++ S) m := by
        obtain ⟨b1, b2, b3, b4, b5, b6, b7⟩ := HI.out
        obtain ⟨a1, a2⟩ := HP.out
        obtain ⟨_, _, _, c4, c5, _⟩ := HB.out
        have hlen : L'.length = R'.length := by rw [← b1, ← b2]; exact HIJ.out
        rw [b7, show P ++ X ++ L' ++ R' ++ Y ++ S = (P ++ X) ++ L' ++ [] ++ R' ++ (Y ++ S) by simp]
        refine (lim_swapRange_l blk off cap fv l0 (P ++ X) [] (Y ++ S) L' R' w k p m i N HH.out c4 (by rw [← c4, c5]; simp) hlen a1 (by rw [b5]; simp) b1 (by have := HF.out; omega)).mono ?_
        rintro e w' ⟨rfl, q, rfl⟩
        refine ⟨rfl, q, ?_⟩
        congr 1
        rw [show P ++ R ++ L ++ S = P ++ (R ++ L) ++ S by simp, ← b6]
        simp
      go_wp2_with fail
      refine hc.mono ?_
      rintro e w' ⟨rfl, q, hq⟩
      have HQ : Hid (w' = SW w blk off (P ++ R ++ L ++ S) q) := hq
      clear hq hc
      go_wp2_with fail
      go_end0
      exact ⟨rfl, q, HQ.out⟩
    · have c1 : ((i : Int) == (j : Int)) = false := by rw [beq_eq_false_iff_ne]; omega
      by_cases hlt : j < i
      · have c2 : (j : Int) < (i : Int) := by omega
        have e2 : IntKind.i64.wrap ((i : Int) - (j : Int)) = ((i - j : Nat) : Int) := by rw [show (i : Int) - (j : Int) = ((i - j : Nat) : Int) by omega]; exact IntWalk.i64_in _ (by omega)
        have HIJ : Hid (j < i) := hlt
        clear bi bj bm hN hN2 hpm hp hij hlt
        obtain ⟨A, B, hAB, hA⟩ : ∃ A B, L' = A ++ B ∧ A.length = j := ⟨L'.take j, L'.drop j, (List.take_append_drop ..).symm, by rw [List.length_take]; have := HIJ.out; have := HI.out.1; omega⟩
        have HAB : Hid (L' = A ++ B ∧ A.length = j) := ⟨hAB, hA⟩
        clear hAB hA
        have hc : Calls Try.prog 36 #[.slice (some ⟨blk, off, none⟩) N cap, .int .i64 p, .int .i64 m, .int .i64 j, fv] wr fun e w' => e = .returned (.tuple #[]) ∧ ∃ k, w' = SW w blk off (P ++ (X ++ R') ++ B ++ A ++ Y ++ S) k := by
          obtain ⟨b1, b2, b3, b4, b5, b6, b7⟩ := HI.out
          obtain ⟨a1, a2⟩ := HP.out
          obtain ⟨_, _, _, c4, c5, _⟩ := HB.out
          obtain ⟨d1, d2⟩ := HAB.out
          rw [b7, show P ++ X ++ L' ++ R' ++ Y ++ S = (P ++ X) ++ A ++ B ++ R' ++ (Y ++ S) by rw [d1]; simp]
          refine (lim_swapRange_l blk off cap fv l0 (P ++ X) B (Y ++ S) A R' w k p m j N HH.out c4 (by rw [← c4, c5, d1]; simp) (by omega) a1 (by rw [b5, d1]; simp) d2.symm (by have := HF.out; omega)).mono ?_
          rintro e w' ⟨rfl, q, rfl⟩
          refine ⟨rfl, q, ?_⟩
          congr 1
          simp
        go_wp2_with fail
        refine hc.mono ?_
        rintro e w' ⟨rfl, q, hq⟩
        have HQ : Hid (w' = SW w blk off (P ++ (X ++ R') ++ B ++ A ++ Y ++ S) q) := hq
        clear hq hc
        go_wp2_with fail
        obtain ⟨b1, b2, b3, b4, b5, b6, b7⟩ := HI.out
        obtain ⟨d1, d2⟩ := HAB.out
        have hlt := HIJ.out
        refine ⟨⟨i - j, j, q, X ++ R', B, A, Y, rfl, rfl, by rw [b1, d1]; simp; omega, d2.symm, by omega, b4, by rw [b5, d1]; simp; omega, by rw [← b6, d1]; simp, HQ.out⟩, by simp [intOf]; omega⟩
      · have c2 : ¬ (j : Int) < (i : Int) := by omega
        have e2 : IntKind.i64.wrap ((j : Int) - (i : Int)) = ((j - i : Nat) : Int) := by rw [show (j : Int) - (i : Int) = ((j - i : Nat) : Int) by omega]; exact IntWalk.i64_in _ (by omega)
        obtain ⟨ms, hms⟩ : ∃ ms, ms = m + j := ⟨_, rfl⟩
        have e3 : IntKind.i64.wrap ((m : Int) + (j : Int)) = (ms : Int) := by rw [show (m : Int) + (j : Int) = ((ms : Nat) : Int) by omega]; exact IntWalk.i64_in _ (by omega)
        have e4 : IntKind.i64.wrap ((ms : Int) - (i : Int)) = ((m + (j - i) : Nat) : Int) := by
          rw [show (ms : Int) - (i : Int) = ((m + (j - i) : Nat) : Int) by omega]
          exact IntWalk.i64_in _ (by omega)
        have HIJ : Hid (i < j) := (by omega : i < j)
        obtain ⟨mj, hmj⟩ : ∃ mj, mj = m + (j - i) := ⟨_, rfl⟩
        rw [← hmj] at e4
        have HM : Hid (mj = m + (j - i)) := hmj
        clear bi bj bm hN hN2 hpm hp hij hlt hmj hms
        obtain ⟨A, B, hAB, hA⟩ : ∃ A B, R' = A ++ B ∧ B.length = i := ⟨R'.take (j - i), R'.drop (j - i), (List.take_append_drop ..).symm, by rw [List.length_drop]; have := HIJ.out; have := HI.out.2.1; omega⟩
        have HAB : Hid (R' = A ++ B ∧ B.length = i) := ⟨hAB, hA⟩
        clear hAB hA
        have hc : Calls Try.prog 36 #[.slice (some ⟨blk, off, none⟩) N cap, .int .i64 p, .int .i64 mj, .int .i64 i, fv] wr fun e w' => e = .returned (.tuple #[]) ∧ ∃ k, w' = SW w blk off (P ++ X ++ B ++ A ++ (L' ++ Y) ++ S) k := by
          obtain ⟨b1, b2, b3, b4, b5, b6, b7⟩ := HI.out
          obtain ⟨a1, a2⟩ := HP.out
          obtain ⟨_, _, _, c4, c5, _⟩ := HB.out
          obtain ⟨d1, d2⟩ := HAB.out
          have hd := HIJ.out
          have he := congrArg List.length d1
          rw [List.length_append] at he
          rw [b7, show P ++ X ++ L' ++ R' ++ Y ++ S = (P ++ X) ++ L' ++ A ++ B ++ (Y ++ S) by rw [d1]; simp]
          refine (lim_swapRange_l blk off cap fv l0 (P ++ X) A (Y ++ S) L' B w k p mj i N HH.out c4 (by rw [← c4, c5, d1]; simp) (by omega) a1 (by rw [HM.out, b5]; simp at *; omega) b1 (by have := HF.out; omega)).mono ?_
          rintro e w' ⟨rfl, q, rfl⟩
          refine ⟨rfl, q, ?_⟩
          congr 1
          simp
        go_wp2_with fail
        refine hc.mono ?_
        rintro e w' ⟨rfl, q, hq⟩
        have HQ : Hid (w' = SW w blk off (P ++ X ++ B ++ A ++ (L' ++ Y) ++ S) q) := hq
        clear hq hc
        go_wp2_with fail
        obtain ⟨b1, b2, b3, b4, b5, b6, b7⟩ := HI.out
        obtain ⟨d1, d2⟩ := HAB.out
        have hlt := HIJ.out
        have he := congrArg List.length d1
        rw [List.length_append] at he
        refine ⟨⟨i, j - i, q, X, B, A, L' ++ Y, rfl, rfl, d2.symm, by omega, b3, by omega, by rw [b5]; simp at *; omega, by rw [← b6, d1]; simp, HQ.out⟩, by simp [intOf]; omega⟩
end Go.Proofs.Ytblbggdglndiiaa
