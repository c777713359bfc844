/- slices.symMergeCmpFunc of ints, where the left block is one: its walk. -/
import Derived.Test.YtblbggdglndiiaaLimIns
namespace Go.Proofs.Ytblbggdglndiiaa
open Go.RowKit Go.Sort
set_option linter.unusedVariables false

theorem getD_right (P R S : List Nat) (x t : Nat) (ht : t < R.length) : (P ++ x :: R ++ S).getD (P.length + 1 + t) 0 = R.getD t 0 := by
  rw [List.getD_eq_getElem?_getD, List.getD_eq_getElem?_getD, List.append_assoc, List.getElem?_append_right (by omega), show P.length + 1 + t - P.length = t + 1 by omega]
  rw [List.cons_append, List.getElem?_cons_succ, List.getElem?_append_left ht]
theorem getD_mem {R : List Nat} {t : Nat} (ht : t < R.length) : R.getD t 0 ∈ R := by
  rw [List.getD_eq_getElem?_getD, List.getElem?_eq_getElem ht]; exact List.getElem_mem ht
/-- where the search stands. -/
def MaI (F P R S : List Nat) (x : Nat) (w : World) (blk off m b : Nat) (vi vj : Value) (wr : World) : Prop :=
  ∃ (i j k : Nat), vi = .int .i64 i ∧ vj = .int .i64 j ∧ m ≤ i ∧ i ≤ j ∧ j ≤ b ∧ (i = m ∨ Before F (R.getD (i - m - 1) 0) x) ∧ (j = b ∨ Before F x (R.getD (j - m) 0)) ∧ wr = SW w blk off (P ++ x :: R ++ S) k
/-- where the exchanges stand. -/
def MaK (P R S : List Nat) (x : Nat) (w : World) (blk off ip : Nat) (vi : Value) (wr : World) : Prop :=
  ∃ (q m : Nat) (R1 R2 : List Nat), vi = .int .i64 q ∧ q = (P ++ R1).length ∧ q ≤ ip ∧ R = R1 ++ R2 ∧ wr = SW w blk off (P ++ R1 ++ x :: R2 ++ S) m
set_option maxRecDepth 1000000 in
set_option maxHeartbeats 2000000 in
theorem lim_merge_left (F : List Nat) (cb : Value) (blk off cap : Nat) (l0 P R S : List Nat) (x : Nat) (w : World) (m0 a m b N : Nat) (hc : CmpAt F cb w blk off l0.length) (hH : Holds encN w blk off l0.toArray) (hN : N = l0.length) (hl0 : (P ++ x :: R ++ S).length = l0.length) (ha : a = P.length) (hm : m = a + 1) (hb : b = (P ++ x :: R).length)
    (hF : ∀ y ∈ x :: R, y < F.length) (hup : ∀ y ∈ R, x < y) (hR : R.Pairwise (Before F)) (hsz : l0.length ≤ 2 ^ 40) :
    Calls Try.prog 34 #[.slice (some ⟨blk, off, none⟩) N cap, .int .i64 a, .int .i64 m, .int .i64 b, .func (.func 25) #[] #[cb]] (SW w blk off (P ++ x :: R ++ S) m0) fun e w' => e = .returned (.tuple #[]) ∧ ∃ M k, M.Perm (x :: R) ∧ M.Pairwise (Before F) ∧ w' = SW w blk off (P ++ M ++ S) k := by
  have HC : Hid (CmpAt F cb w blk off l0.length) := hc
  have HH : Hid (Holds encN w blk off l0.toArray) := hH
  have hbN : b ≤ N := by rw [hN, ← hl0, hb]; simp
  have hN4 : N ≤ 2 ^ 40 := by omega
  have hmb : m ≤ b := by rw [hm, ha, hb]; simp
  have HF : Hid (N = l0.length ∧ (P ++ x :: R ++ S).length = l0.length ∧ a = P.length ∧ m = a + 1 ∧ b = (P ++ x :: R).length ∧ b ≤ N ∧ N ≤ 2 ^ 40 ∧ m ≤ b) := ⟨hN, hl0, ha, hm, hb, hbN, hN4, hmb⟩
  have HU : Hid ((∀ y ∈ x :: R, y < F.length) ∧ (∀ y ∈ R, x < y) ∧ R.Pairwise (Before F)) := ⟨hF, hup, hR⟩
  obtain ⟨w0, hw0⟩ : ∃ w0, w0 = SW w blk off (P ++ x :: R ++ S) m0 := ⟨_, rfl⟩
  rw [← hw0]
  have HW0 : Hid (w0 = SW w blk off (P ++ x :: R ++ S) m0) := hw0
  have c0 : IntKind.i64.wrap ((m : Int) - (a : Int)) = 1 := by rw [show (m : Int) - (a : Int) = 1 by omega]; rfl
  clear hc hH hl0 ha hb hF hup hN hw0 hsz hm hR hbN hN4 hmb
  go_enter Try.func34, Try.ntmps34
  go_wp2_with fail
  go_loopw [10, 11] (fun vi vj wr => MaI F P R S x w blk off m b vi vj wr) (fun vi vj _ => (intOf vj).toNat - (intOf vi).toNat)
  case atStart =>
    obtain ⟨h1, h2, h3, h4, h5, h6, h7, h8⟩ := HF.out
    exact ⟨m, b, m0, by go_num, by go_num, Nat.le_refl _, h8, Nat.le_refl _, Or.inl rfl, Or.inl rfl, HW0.out⟩
  case round =>
    obtain ⟨i, j, k, rfl, rfl, him, hij, hjb, hlo, hhi, hwr⟩ := hrel
    have HI : Hid (m ≤ i ∧ i ≤ j ∧ j ≤ b ∧ (i = m ∨ Before F (R.getD (i - m - 1) 0) x) ∧ (j = b ∨ Before F x (R.getD (j - m) 0)) ∧ wr = SW w blk off (P ++ x :: R ++ S) k) := ⟨him, hij, hjb, hlo, hhi, hwr⟩
    have HLT : Hid (i < j → i + j < 2 ^ 62) := fun _ => by obtain ⟨h1, h2, h3, h4, h5, h6, h7, h8⟩ := HF.out; omega
    clear him hij hjb hlo hhi hwr
    by_cases hlt : i < j
    · have hltz : (i : Int) < (j : Int) := by omega
      have hb1 : (i : Int) + (j : Int) < 4611686018427387904 := by have := HLT.out hlt; omega
      obtain ⟨h, hh⟩ : ∃ h, h = (i + j) / 2 := ⟨_, rfl⟩
      have hhz : ((i : Int) + (j : Int)) / 2 = (h : Int) := by omega
      obtain ⟨y, hy⟩ : ∃ y, R.getD (h - m) 0 = y := ⟨_, rfl⟩
      have facts : h < N ∧ a < N ∧ i ≤ h ∧ h < j ∧ wr.cell? ⟨blk, off + h, none⟩ = some (.int .i64 y) ∧ wr.cell? ⟨blk, off + a, none⟩ = some (.int .i64 x) ∧ y < F.length ∧ x < F.length ∧ x < y := by
        obtain ⟨h1, h2, h3, h4, h5, h6, h7, h8⟩ := HF.out
        obtain ⟨i1, i2, i3, i4, i5, i6⟩ := HI.out
        obtain ⟨u1, u2, u3⟩ := HU.out
        have hbl : b = a + 1 + R.length := by rw [h5, h3]; simp; omega
        have ht : h - m < R.length := by omega
        have hm1 := getD_mem ht
        rw [hy] at hm1
        refine ⟨by omega, by omega, by omega, by omega, ?_, ?_, u1 y (List.mem_cons_of_mem _ hm1), u1 x (List.mem_cons_self ..), u2 y hm1⟩
        · rw [i6, SW_cell HH.out h2 k h (by omega)]
          have := getD_right P R S x (h - m) ht
          rw [show P.length + 1 + (h - m) = h by omega, hy] at this
          rw [this]
        · rw [i6, SW_cell HH.out h2 k a (by omega)]
          have := getD_mid P (R ++ S) x a h3
          rw [show P ++ x :: R ++ S = P ++ x :: (R ++ S) by simp, this]
      obtain ⟨f1, f2, f3, f4, ch, ca, f5, f6, f7⟩ := facts
      obtain ⟨c, hcv⟩ : ∃ c, cmpI (F.getD y 0) (F.getD x 0) = c := ⟨_, rfl⟩
      have hc : ∀ n, Calls Try.prog 25 #[.int .i64 y, .int .i64 x, cb] (wr.drewN n) fun e w' => e = .returned (.int .i64 c) ∧ ∃ q, w' = (wr.drewN n).drewN q := by
        intro n
        rw [HI.out.2.2.2.2.2, SW_drewN, ← hcv]
        exact HC.out _ _ _ _ (by have := HF.out; omega) f5 f6
      have hcn : c < 0 ↔ F.getD y 0 < F.getD x 0 := by rw [← hcv, cmpI_neg]; omega
      have HV : Hid ((c < 0 ↔ F.getD y 0 < F.getD x 0) ∧ R.getD (h - m) 0 = y ∧ x < y ∧ i ≤ h ∧ h < j ∧ N ≤ 2 ^ 40 ∧ h < N) := ⟨hcn, hy, f7, f3, f4, HF.out.2.2.2.2.2.2.1, f1⟩
      have z1 : (h : Int) < (N : Int) := by omega
      have z2 : (a : Int) < (N : Int) := by omega
      have z3 : (h : Int) + 1 < 4611686018427387904 := by have := HV.out; omega
      clear hh hy hcv hcn f5 f6 f7
      by_cases hcz : c < 0
      · go_wp2_with fail
        go_quiet (first | (go_at_call 25; refine Calls.quiet_of (hc _)))
        go_wp2_with fail
        obtain ⟨v1, v2, v3, v4, v5, v6, v7⟩ := HV.out
        obtain ⟨i1, i2, i3, i4, i5, i6⟩ := HI.out
        refine ⟨⟨h + 1, j, k + nq, by go_num, rfl, by omega, by omega, i3, Or.inr ?_, i5, by rw [i6, SW_drewN]⟩, by simp [intOf]; omega⟩
        rw [show h + 1 - m - 1 = h - m by omega, v2]
        exact Or.inl (v1.1 hcz)
      · go_wp2_with fail
        go_quiet (first | (go_at_call 25; refine Calls.quiet_of (hc _)))
        clear hhz hb1 z1 z2 z3 ch ca hltz hlt hc f1 f2 f3 f4
        go_wp2_with fail
        obtain ⟨v1, v2, v3, v4, v5, v6, v7⟩ := HV.out
        obtain ⟨i1, i2, i3, i4, i5, i6⟩ := HI.out
        refine ⟨⟨i, h, k + nq, rfl, rfl, i1, by omega, by omega, i4, Or.inr ?_, by rw [i6, SW_drewN]⟩, by simp [intOf]; omega⟩
        rw [v2]
        exact put_stays v3 (fun h => by have := v1.2 h; omega)
    · have hltz : ¬ (i : Int) < (j : Int) := by omega
      obtain ⟨ip, rfl⟩ : ∃ ip, i = ip + 1 := ⟨i - 1, by have := HI.out.1; have := HF.out; omega⟩
      have hipz : IntKind.i64.wrap (ip : Int) = (ip : Int) := by rw [IntKind.wrap_i64]; have := HF.out; have := HI.out; omega
      obtain ⟨w1, hw1⟩ : ∃ w1, w1 = wr := ⟨_, rfl⟩
      go_wp2_with fail
      go_loopw [13] (fun vi wr2 => MaK P R S x w blk off ip vi wr2) (fun vi _ => ip - (intOf vi).toNat)
      case atStart => exact ⟨a, k, [], R, by go_num, by have := HF.out.2.2.1; simpa using this, by have := HI.out.1; have := HF.out; omega, rfl, by have := HI.out.2.2.2.2.2; simpa using this⟩
      case round =>
        obtain ⟨q, m', R1, R2, rfl, hq, hqi, hRR, hwr⟩ := hrel
        have HQ : Hid (q = (P ++ R1).length ∧ q ≤ ip ∧ R = R1 ++ R2 ∧ wr = SW w blk off (P ++ R1 ++ x :: R2 ++ S) m') := ⟨hq, hqi, hRR, hwr⟩
        clear hq hqi hRR hwr
        by_cases hqlt : q < ip
        · have hqz : (q : Int) < (ip : Int) := by omega
          obtain ⟨y, R2', hR2⟩ : ∃ y R2', R2 = y :: R2' := by
            cases R2 with
            | nil =>
              obtain ⟨h1, h2, h3, h4, h5, h6, h7, h8⟩ := HF.out
              obtain ⟨q1, q2, q3, q4⟩ := HQ.out
              obtain ⟨i1, i2, i3, i4, i5, i6⟩ := HI.out
              rw [q3] at h5
              simp at h5 q1
              omega
            | cons y R2' => exact ⟨y, R2', rfl⟩
          obtain ⟨q1, hq1⟩ : ∃ q1, q1 = q + 1 := ⟨_, rfl⟩
          have facts : q < N ∧ q1 < N ∧ (P ++ R1 ++ x :: R2 ++ S).length = l0.length ∧ (P ++ R1 ++ x :: R2 ++ S).getD q 0 = x ∧ (P ++ R1 ++ x :: R2 ++ S).getD q1 0 = y ∧ N ≤ 2 ^ 40 ∧ N = l0.length := by
            obtain ⟨h1, h2, h3, h4, h5, h6, h7, h8⟩ := HF.out
            obtain ⟨g1, g2, g3, g4⟩ := HQ.out
            have e1 : (P ++ R1 ++ x :: R2 ++ S).length = l0.length := by rw [← h2, g3]; simp; omega
            have e2 : q1 < N := by rw [h1, ← e1, hq1, g1, hR2]; simp; omega
            refine ⟨by omega, e2, e1, ?_, ?_, h7, h1⟩
            · rw [show P ++ R1 ++ x :: R2 ++ S = (P ++ R1) ++ x :: (R2 ++ S) by simp]; exact getD_mid _ _ _ _ g1
            · rw [hR2, show P ++ R1 ++ x :: y :: R2' ++ S = (P ++ R1 ++ [x]) ++ y :: (R2' ++ S) by simp]; exact getD_mid _ _ _ _ (by rw [hq1, g1]; simp; omega)
          obtain ⟨f1, f2, f3, f4, f5, f6, f7⟩ := facts
          have hwr := HQ.out.2.2.2
          have c1 : wr.cell? ⟨blk, off + q, none⟩ = some (.int .i64 x) := by rw [hwr, SW_cell HH.out f3 m' q (by omega), f4]
          have c2 : wr.cell? ⟨blk, off + q1, none⟩ = some (.int .i64 y) := by rw [hwr, SW_cell HH.out f3 m' q1 (by omega), f5]
          have r1 : wr.frozen? ⟨blk, off + q, none⟩ = false := by rw [hwr]; exact SW_frozen HH.out f3 m' q (by omega)
          have r2 : wr.frozen? ⟨blk, off + q1, none⟩ = false := by rw [hwr]; exact SW_frozen HH.out f3 m' q1 (by omega)
          have HFF : Hid ((P ++ R1 ++ x :: R2 ++ S).length = l0.length ∧ (P ++ R1 ++ x :: R2 ++ S).getD q 0 = x ∧ (P ++ R1 ++ x :: R2 ++ S).getD q1 0 = y ∧ R2 = y :: R2' ∧ q1 = q + 1 ∧ q < N ∧ q1 < N ∧ N = l0.length ∧ q < ip) := ⟨f3, f4, f5, hR2, hq1, f1, f2, f7, hqlt⟩
          have z1 : (q : Int) < (N : Int) := by omega
          have z2 : (q1 : Int) < (N : Int) := by omega
          have z4 : (q : Int) + 1 = (q1 : Int) := by omega
          have n1 : ¬ q = q1 := by omega
          have n2 : ¬ q1 = q := by omega
          have z5 : IntKind.i64.wrap (q1 : Int) = (q1 : Int) := by rw [IntKind.wrap_i64]; omega
          clear hwr f1 f2 f3 f4 f5 f6 f7 hq1 hR2
          go_wp2_with fail
          go_big_region
          all_goals go_wp2
          obtain ⟨f3, f4, f5, hR2, hq1, f1, f2, f7, hqlt⟩ := HFF.out
          obtain ⟨g1, g2, g3, g4⟩ := HQ.out
          refine ⟨⟨q1, m' + 1, R1 ++ [y], R2', rfl, by rw [hq1, g1]; simp; omega, by omega, by rw [g3, hR2]; simp, ?_⟩, by simp [intOf]; omega⟩
          rw [g4]
          have hsw := SW_swap w blk off (P ++ R1 ++ x :: R2 ++ S) (P ++ (R1 ++ [y]) ++ x :: R2' ++ S) m' q q1 (by omega) (by omega) (by
            rw [hR2, show P ++ R1 ++ x :: y :: R2' ++ S = (P ++ R1) ++ x :: y :: (R2' ++ S) by simp, hq1, g1, swp_beside]
            simp)
          rw [f4, f5] at hsw
          exact hsw
        · have hqz : ¬ (q : Int) < (ip : Int) := by omega
          go_wp2_with fail
          refine bodyPost_ret (results_none rfl _ _ _) rfl ?_
          obtain ⟨h1, h2, h3, h4, h5, h6, h7, h8⟩ := HF.out
          obtain ⟨g1, g2, g3, g4⟩ := HQ.out
          obtain ⟨i1, i2, i3, i4, i5, i6⟩ := HI.out
          obtain ⟨u1, u2, u3⟩ := HU.out
          obtain rfl : q = ip := by omega
          have hl1 : R1.length = q + 1 - m := by simp at g1; omega
          have hb2 : b = m + R1.length + R2.length := by rw [h5, h4, h3, g3]; simp; omega
          rw [g3] at u3
          refine ⟨rfl, R1 ++ x :: R2, by rw [g3]; exact List.perm_middle, ?_, m', by rw [g4]; simp⟩
          refine put_in u3 ?_ ?_
          · intro y hy
            rcases i5 with h | h
            · rw [List.eq_nil_of_length_eq_zero (l := R2) (by omega)] at hy; cases hy
            · cases R2 with
              | nil => cases hy
              | cons z R2' =>
                rw [g3, show j - m = R1.length by omega, getD_mid _ _ _ _ rfl] at h
                rcases List.mem_cons.1 hy with rfl | hy
                · exact h
                · exact h.trans ((List.pairwise_cons.1 (List.pairwise_append.1 u3).2.1).1 y hy)
          · intro z hz
            rcases i4 with h | h
            · rw [List.eq_nil_of_length_eq_zero (l := R1) (by omega)] at hz; cases hz
            · obtain ⟨R1', rfl⟩ : ∃ R1', R1 = R1' ++ [z] := List.getLast?_eq_some_iff.1 hz
              rw [g3, show R1' ++ [z] ++ R2 = R1' ++ z :: R2 by simp, getD_mid _ _ _ _ (by simp at hl1; omega)] at h
              exact h
end Go.Proofs.Ytblbggdglndiiaa
