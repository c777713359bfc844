/- slices.insertionSortCmpFunc of ints, by limit.rarest's comparison: its walk. -/
import Derived.Shelf.RegionOpenPlain
import Derived.Test.YtblbggdglndiiaaLimSeg
namespace Go.Proofs.Ytblbggdglndiiaa
open Go.RowKit Go.Sort
set_option linter.unusedVariables false

/-- what is asked of the comparison, in the worlds that the sort passes through. -/
def CmpAt (F : List Nat) (cb : Value) (w : World) (blk off n : Nat) : Prop :=
  ∀ (l : List Nat) (m x y : Nat), l.length = n → x < F.length → y < F.length → Calls Try.prog 25 #[.int .i64 x, .int .i64 y, cb] (SW w blk off l m) fun e w' => e = .returned (.int .i64 (cmpI (F.getD x 0) (F.getD y 0))) ∧ ∃ q, w' = (SW w blk off l m).drewN q
theorem cmpI_neg (x y : Int) : cmpI x y < 0 ↔ x < y := by unfold cmpI; split <;> simp_all; split <;> omega
theorem getD_mid (A B : List Nat) (x j : Nat) (hj : j = A.length) : (A ++ x :: B).getD j 0 = x := by subst hj; simp

set_option maxHeartbeats 1000000 in
theorem lim_insertion (F : List Nat) (cb : Value) (blk off cap : Nat) (l0 P L S : List Nat) (w : World) (m0 a b N : Nat) (hc : CmpAt F cb w blk off l0.length) (hH : Holds encN w blk off l0.toArray) (hN : N = l0.length) (hl0 : (P ++ L ++ S).length = l0.length) (ha : a = P.length) (hb : b = (P ++ L).length)
    (hF : ∀ x ∈ L, x < F.length) (hup : L.Pairwise (· < ·)) (hsz : l0.length ≤ 2 ^ 40) :
    Calls Try.prog 33 #[.slice (some ⟨blk, off, none⟩) N cap, .int .i64 a, .int .i64 b, .func (.func 25) #[] #[cb]] (SW w blk off (P ++ L ++ S) m0) fun e w' => e = .returned (.tuple #[]) ∧ ∃ M k, M.Perm L ∧ M.Pairwise (Before F) ∧ w' = SW w blk off (P ++ M ++ S) k := by
  have HC : Hid (CmpAt F cb w blk off l0.length) := hc
  have HH : Hid (Holds encN w blk off l0.toArray) := hH
  have hbN : b ≤ N := by rw [hN, ← hl0, hb]; simp
  have haN : a ≤ b := by rw [ha, hb]; simp
  have hN4 : N ≤ 2 ^ 40 := by omega
  have HF : Hid (N = l0.length ∧ (P ++ L ++ S).length = l0.length ∧ a = P.length ∧ b = (P ++ L).length) := ⟨hN, hl0, ha, hb⟩
  have HU : Hid ((∀ x ∈ L, x < F.length) ∧ L.Pairwise (· < ·)) := ⟨hF, hup⟩
  have HST : Hid (SW w blk off (P ++ L ++ S) m0 = SW w blk off (P ++ L ++ S) m0) := rfl
  generalize hw0 : SW w blk off (P ++ L ++ S) m0 = w0
  have HW0 : Hid (w0 = SW w blk off (P ++ L ++ S) m0) := hw0.symm
  clear hc hH hl0 ha hb hF hup hN hw0 HST hsz
  by_cases hLe : L = []
  · have hab : b = a := by obtain ⟨_, _, h1, h2⟩ := HF.out; rw [h1, h2, hLe]; simp
    have HL : Hid (L = []) := hLe
    clear hLe
    subst hab
    have h1 : ¬ ((b : Int) + 1 < (b : Int)) := by omega
    go_enter Try.func33, Try.ntmps33
    go_wp2_with fail
    go_loopw [8] (fun vi wr => vi = .int .i64 ((b : Int) + 1) ∧ wr = w0) (fun vi _ => 0)
    case atStart => exact ⟨by go_num, rfl⟩
    case round =>
      obtain ⟨rfl, rfl⟩ := hrel
      go_wp2_with fail
      go_end0
      exact ⟨rfl, L, m0, List.Perm.refl _, by rw [HL.out]; exact List.Pairwise.nil, HW0.out⟩
  · obtain ⟨x0, L0, hL0⟩ : ∃ x L0, L = x :: L0 := by cases L with | nil => exact (hLe rfl).elim | cons x L0 => exact ⟨x, L0, rfl⟩
    have HL : Hid (L = x0 :: L0) := hL0
    clear hLe hL0
    go_enter Try.func33, Try.ntmps33
    go_wp2_with fail
    go_loopw [8] (fun vi wr => ∃ (i k : Nat) (A A0 B : List Nat), vi = .int .i64 i ∧ i = (P ++ A).length ∧ a < i ∧ i ≤ b ∧ L = A0 ++ B ∧ A.Perm A0 ∧ A.Pairwise (Before F) ∧ wr = SW w blk off (P ++ A ++ B ++ S) k) (fun vi _ => b - (intOf vi).toNat)
    case atStart =>
      obtain ⟨h1, h2, h3, h4⟩ := HF.out
      have h5 := HL.out
      exact ⟨a + 1, m0, [x0], [x0], L0, by go_num, by simp [h3], by omega, by rw [h3, h4, h5]; simp, by rw [h5]; rfl, List.Perm.refl _, List.pairwise_singleton .., by rw [HW0.out, h5]; simp⟩
    case round =>
      obtain ⟨i, k, A, A0, B, rfl, hi, hai, hib, hLB, hperm, hsort, hwr⟩ := hrel
      have HI : Hid (i = (P ++ A).length ∧ L = A0 ++ B ∧ A.Perm A0 ∧ A.Pairwise (Before F) ∧ wr = SW w blk off (P ++ A ++ B ++ S) k) := ⟨hi, hLB, hperm, hsort, hwr⟩
      clear hi hLB hperm hsort hwr
      by_cases hlt : i < b
      · have hltz : (i : Int) < (b : Int) := by omega
        obtain ⟨x, B', hB⟩ : ∃ x B', B = x :: B' := by
          cases B with
          | nil =>
            obtain ⟨h1, h2, h3, h4⟩ := HF.out
            obtain ⟨i1, i2, i3, _⟩ := HI.out
            have := i3.length_eq
            rw [h4, i2] at hlt
            simp at hlt i1
            omega
          | cons x B' => exact ⟨x, B', rfl⟩
        have HB : Hid (B = x :: B') := hB
        clear hB
        go_wp2_with fail
        go_loopw [9] (fun vj wr2 => ∃ (j m : Nat) (A1 A2 : List Nat), vj = .int .i64 j ∧ j = (P ++ A1).length ∧ a ≤ j ∧ j ≤ i ∧ (A1 ++ A2).Perm A0 ∧ (A1 ++ A2).Pairwise (Before F) ∧ (∀ y ∈ A2, Before F x y) ∧ wr2 = SW w blk off (P ++ A1 ++ x :: A2 ++ B' ++ S) m) (fun vj _ => (intOf vj).toNat)
        case atStart =>
          obtain ⟨i1, i2, i3, i4, i5⟩ := HI.out
          exact ⟨i, k, A, [], rfl, i1, by omega, Nat.le_refl _, by simpa using i3, by simpa using i4, by simp, by rw [i5, HB.out]; simp⟩
        case round =>
          obtain ⟨j, m, A1, A2, rfl, hj, haj, hji, hperm, hsort, hbef, hwr⟩ := hrel
          have HJ : Hid (j = (P ++ A1).length ∧ (A1 ++ A2).Perm A0 ∧ (A1 ++ A2).Pairwise (Before F) ∧ (∀ y ∈ A2, Before F x y) ∧ wr = SW w blk off (P ++ A1 ++ x :: A2 ++ B' ++ S) m) := ⟨hj, hperm, hsort, hbef, hwr⟩
          clear hj hperm hsort hbef hwr
          have HOUT : Hid ((A1 = [] ∨ ∃ z A1', A1 = A1' ++ [z] ∧ ¬ F.getD x 0 < F.getD z 0) → ∃ (i' k' : Nat) (A' A0' B2 : List Nat), i' = i + 1 ∧ i' = (P ++ A').length ∧ a < i' ∧ i' ≤ b ∧ L = A0' ++ B2 ∧ A'.Perm A0' ∧ A'.Pairwise (Before F) ∧ wr = SW w blk off (P ++ A' ++ B2 ++ S) m) := by
            intro hs
            obtain ⟨i1, i2, i3, i4, i5⟩ := HI.out
            obtain ⟨j1, j2, j3, j4, j5⟩ := HJ.out
            obtain ⟨h1, h2, h3, h4⟩ := HF.out
            obtain ⟨u1, u2⟩ := HU.out
            have hb := HB.out
            have hlen := j2.length_eq
            have hlen2 := i3.length_eq
            refine ⟨i + 1, 0, A1 ++ x :: A2, A0 ++ [x], B', rfl, ?_, by omega, by omega, by rw [i2, hb]; simp, ?_, ?_, by rw [j5]; simp⟩
            · rw [i1]; simp at hlen ⊢; omega
            · exact (List.perm_middle.trans (List.Perm.cons x j2)).trans (List.perm_append_singleton x A0).symm
            · refine put_in j3 j4 ?_
              intro z hz
              rcases hs with rfl | ⟨z', A1', rfl, hlt⟩
              · cases hz
              · have : z' = z := by simpa using hz
                subst this
                refine put_stays ?_ hlt
                have hz0 : z' ∈ A0 := j2.mem_iff.1 (by simp)
                rw [i2, hb] at u2
                exact (List.pairwise_append.1 u2).2.2 z' hz0 x (List.mem_cons_self ..)
          by_cases hA : A1 = []
          · have hja : a = j := by obtain ⟨_, _, h3, _⟩ := HF.out; obtain ⟨j1, _⟩ := HJ.out; rw [h3, j1, hA]; simp
            have hjaz : ¬ (a : Int) < (j : Int) := by omega
            have hjaz2 : decide ((j : Int) > (a : Int)) = false := decide_eq_false (by omega)
            have hjan : ¬ a < j := by omega
            have HA : Hid (A1 = []) := hA
            clear hA hja
            go_wp2_with fail
            have hmx : Try.prog.follows .mixedOrders = true := by kernel_rfl
            go_big_region_o
            all_goals go_wp2
            obtain ⟨i', k', A', A0', B2, g1, g2, g3, g4, g5, g6, g7, g8⟩ := HOUT.out (Or.inl HA.out)
            refine ⟨⟨i', m + 1, A', A0', B2, by rw [g1]; go_num, g2, g3, g4, g5, g6, g7, ?_⟩, by simp [intOf]; omega⟩
            rw [g8]
            rfl
          · obtain ⟨A1', z, hA1⟩ : ∃ A1' z, A1 = A1' ++ [z] := ⟨A1.dropLast, A1.getLast hA, (List.dropLast_concat_getLast hA).symm⟩
            obtain ⟨jp, rfl⟩ : ∃ jp, j = jp + 1 := ⟨j - 1, by obtain ⟨j1, _⟩ := HJ.out; rw [hA1] at j1; simp at j1; omega⟩
            have hjp : jp = (P ++ A1').length := by obtain ⟨j1, _⟩ := HJ.out; rw [hA1] at j1; simp at j1 ⊢; omega
            have HA : Hid (A1 = A1' ++ [z] ∧ jp = (P ++ A1').length) := ⟨hA1, hjp⟩
            clear hA hA1 hjp
            have facts : (P ++ A1 ++ x :: A2 ++ B' ++ S).length = l0.length ∧ jp + 1 < l0.length ∧ (P ++ A1 ++ x :: A2 ++ B' ++ S).getD (jp + 1) 0 = x ∧ (P ++ A1 ++ x :: A2 ++ B' ++ S).getD jp 0 = z ∧ x < F.length ∧ z < F.length ∧ N = l0.length := by
              obtain ⟨i1, i2, i3, i4, i5⟩ := HI.out
              obtain ⟨j1, j2, j3, j4, j5⟩ := HJ.out
              obtain ⟨h1, h2, h3, h4⟩ := HF.out
              obtain ⟨u1, u2⟩ := HU.out
              have hb := HB.out
              obtain ⟨a1, a2⟩ := HA.out
              have hlen := j2.length_eq
              have e1 : (P ++ A1 ++ x :: A2 ++ B' ++ S).length = l0.length := by rw [← h2, i2, hb]; simp at hlen ⊢; omega
              refine ⟨e1, ?_, ?_, ?_, u1 x (by rw [i2, hb]; simp), u1 z (by rw [i2]; exact List.mem_append_left _ (j2.mem_iff.1 (by rw [a1]; simp))), h1⟩
              · rw [← e1, j1]; simp
              · rw [show P ++ A1 ++ x :: A2 ++ B' ++ S = (P ++ A1) ++ x :: (A2 ++ B' ++ S) by simp]; exact getD_mid _ _ _ _ j1
              · rw [a1, show P ++ (A1' ++ [z]) ++ x :: A2 ++ B' ++ S = (P ++ A1') ++ z :: (x :: A2 ++ B' ++ S) by simp]; exact getD_mid _ _ _ _ a2
            obtain ⟨f1, f2, f3, f4, f5, f6, f7⟩ := facts
            have hwr := HJ.out.2.2.2.2
            have cj' : wr.cell? ⟨blk, off + (jp + 1), none⟩ = some (.int .i64 x) := by rw [hwr, SW_cell HH.out f1 m (jp + 1) f2, f3]
            have cp' : wr.cell? ⟨blk, off + jp, none⟩ = some (.int .i64 z) := by rw [hwr, SW_cell HH.out f1 m jp (by omega), f4]
            have fj' : wr.frozen? ⟨blk, off + (jp + 1), none⟩ = false := by rw [hwr]; exact SW_frozen HH.out f1 m (jp + 1) f2
            have fp' : wr.frozen? ⟨blk, off + jp, none⟩ = false := by rw [hwr]; exact SW_frozen HH.out f1 m jp (by omega)
            obtain ⟨c, hcv⟩ : ∃ c, cmpI (F.getD x 0) (F.getD z 0) = c := ⟨_, rfl⟩
            have hc : ∀ n, Calls Try.prog 25 #[.int .i64 x, .int .i64 z, cb] (wr.drewN n) fun e w' => e = .returned (.int .i64 c) ∧ ∃ q, w' = (wr.drewN n).drewN q := by
              intro n
              rw [hwr, SW_drewN, ← hcv]
              exact HC.out _ _ _ _ f1 f5 f6
            have hcn : c < 0 ↔ F.getD x 0 < F.getD z 0 := by rw [← hcv, cmpI_neg]; omega
            have HV : Hid (c < 0 ↔ F.getD x 0 < F.getD z 0) := hcn
            have hjaz : (a : Int) < (jp : Int) + 1 := by
              obtain ⟨_, _, h3, _⟩ := HF.out
              obtain ⟨a1, a2⟩ := HA.out
              rw [h3, a2]; simp; omega
            have hwp : IntKind.i64.wrap (jp : Int) = (jp : Int) := by rw [IntKind.wrap_i64]; omega
            have jz : (jp : Int) + 1 < (N : Int) := by omega
            have jz1 : (jp : Int) < (N : Int) := by omega
            have HFF : Hid ((P ++ A1 ++ x :: A2 ++ B' ++ S).length = l0.length ∧ jp + 1 < l0.length ∧ (P ++ A1 ++ x :: A2 ++ B' ++ S).getD (jp + 1) 0 = x ∧ (P ++ A1 ++ x :: A2 ++ B' ++ S).getD jp 0 = z) := ⟨f1, f2, f3, f4⟩
            clear f1 f2 f3 f4 f5 f6 f7 hwr hcv hcn
            by_cases hcz : c < 0
            · go_wp2_with fail
              go_quiet (first | (go_at_call 25; refine Calls.quiet_of (hc _)))
              go_wp2_with fail
              have hw2 : wr.drewN nq = SW w blk off (P ++ A1 ++ x :: A2 ++ B' ++ S) (m + nq) := by rw [HJ.out.2.2.2.2, SW_drewN]
              have cj2 : (wr.drewN nq).cell? ⟨blk, off + (jp + 1), none⟩ = some (.int .i64 x) := cj'
              have cp2 : (wr.drewN nq).cell? ⟨blk, off + jp, none⟩ = some (.int .i64 z) := cp'
              have fj2 : (wr.drewN nq).frozen? ⟨blk, off + (jp + 1), none⟩ = false := fj'
              have fp2 : (wr.drewN nq).frozen? ⟨blk, off + jp, none⟩ = false := fp'
              clear cj' cp' fj' fp' hc
              generalize wr.drewN nq = wq2 at hw2 cj2 cp2 fj2 fp2 ⊢
              obtain ⟨j1, hj1⟩ : ∃ j1, j1 = jp + 1 := ⟨_, rfl⟩
              have e0 : ((jp : Int) + 1).toNat = jp + 1 := by omega
              rw [← hj1] at cj2 fj2 e0
              have J1 : Hid (j1 = jp + 1) := hj1
              have HW2 : Hid (wq2 = SW w blk off (P ++ A1 ++ x :: A2 ++ B' ++ S) (m + nq)) := hw2
              clear hj1 hw2
              go_big_region
              all_goals go_wp2
              obtain ⟨f1, f2, f3, f4⟩ := HFF.out
              obtain ⟨i1, i2, i3, i4, i5⟩ := HI.out
              obtain ⟨q1, q2, q3, q4, q5⟩ := HJ.out
              obtain ⟨a1, a2⟩ := HA.out
              have hlx : F.getD x 0 < F.getD z 0 := HV.out.1 hcz
              rw [a1] at q3
              obtain ⟨s1, s2⟩ := put_step q3 q4 hlx
              refine ⟨⟨jp, m + nq + 1, A1', z :: A2, rfl, a2, by omega, by omega, by rw [a1] at q2; simpa using q2, s1, s2, ?_⟩, by simp [intOf]⟩
              rw [J1.out, HW2.out]
              have hsw := SW_swap w blk off (P ++ A1 ++ x :: A2 ++ B' ++ S) (P ++ A1' ++ x :: z :: A2 ++ B' ++ S) (m + nq) (jp + 1) jp (by omega) (by omega) (by
                rw [a1, show P ++ (A1' ++ [z]) ++ x :: A2 ++ B' ++ S = (P ++ A1') ++ z :: x :: (A2 ++ B' ++ S) by simp, a2, swp_beside']
                simp)
              rw [f3, f4] at hsw
              exact hsw
            · go_wp2_with fail
              go_quiet (first | (go_at_call 25; refine Calls.quiet_of (hc _)))
              go_wp2_with fail
              obtain ⟨i', k', A', A0', B2, g1, g2, g3, g4, g5, g6, g7, g8⟩ := HOUT.out (Or.inr ⟨z, A1', HA.out.1, fun h => by have := HV.out.2 h; omega⟩)
              refine ⟨⟨i', m + nq, A', A0', B2, by rw [g1]; go_num, g2, g3, g4, g5, g6, g7, ?_⟩, by simp [intOf]; omega⟩
              rw [g8, SW_drewN]
      · have hltz : ¬ (i : Int) < (b : Int) := by omega
        go_wp2_with fail
        go_end0
        obtain ⟨i1, i2, i3, i4, i5⟩ := HI.out
        obtain ⟨h1, h2, h3, h4⟩ := HF.out
        have hlen := i3.length_eq
        have hB : B = [] := by
          rw [h4, i2] at hib hlt
          rw [i1] at hib hlt
          simp at hib hlt
          exact List.eq_nil_of_length_eq_zero (by omega)
        rw [hB] at i2 i5
        exact ⟨rfl, A, (by rw [i2]; simpa using i3), i4, k, (by simpa using i5)⟩
end Go.Proofs.Ytblbggdglndiiaa
