/- slices.symMergeCmpFunc of ints, where the left block is one: its walk. slices.symMergeCmpFunc of ints, where the right block is one: its walk. slices.symMergeCmpFunc of ints: its walk (both blocks of two or more), and the whole by induction. -/
import Derived.Test.YtaabmlnbadpfgaaLimSwp
/-! slices.symMergeCmpFunc of ints, where the left block is one: its walk. -/
namespace Go.Proofs.Ytaabmlnbadpfgaa
open Go.RowKit Go.Sort
set_option linter.unusedVariables false

theorem getD_right (P R S : List Nat) (x t : Nat) (ht : t < R.length) : (P ++ x :: R ++ S).getD (P.length + 1 + t) 0 = R.getD t 0 := by
  rw [List.getD_eq_getElem?_getD, List.getD_eq_getElem?_getD, List.append_assoc, List.getElem?_append_right (by omega), show P.length + 1 + t - P.length = t + 1 by omega]
  rw [List.cons_append, List.getElem?_cons_succ, List.getElem?_append_left ht]
theorem getD_mem {R : List Nat} {t : Nat} (ht : t < R.length) : R.getD t 0 ∈ R := by
  rw [List.getD_eq_getElem?_getD, List.getElem?_eq_getElem ht]; exact List.getElem_mem ht
/-- where the search stands. -/
def MaI (F P R S : List Nat) (x : Nat) (w : World) (blk off m b : Nat) (vi vj : Value) (wr : World) : Prop :=
  ∃ (i j k : Nat), vi = .int .i64 i ∧ vj = .int .i64 j ∧ m ≤ i ∧ i ≤ j ∧ j ≤ b ∧ (i = m ∨ Before F (R.getD (i - m - 1) 0) x) ∧ (j = b ∨ Before F x (R.getD (j - m) 0)) ∧ wr = SW w blk off (P ++ x :: R ++ S) k
/-- where the exchanges stand. -/
def MaK (P R S : List Nat) (x : Nat) (w : World) (blk off ip : Nat) (vi : Value) (wr : World) : Prop :=
  ∃ (q m : Nat) (R1 R2 : List Nat), vi = .int .i64 q ∧ q = (P ++ R1).length ∧ q ≤ ip ∧ R = R1 ++ R2 ∧ wr = SW w blk off (P ++ R1 ++ x :: R2 ++ S) m
set_option maxRecDepth 1000000 in
set_option maxHeartbeats 2000000 in
theorem lim_merge_left (F : List Nat) (cb : Value) (blk off cap : Nat) (l0 P R S : List Nat) (x : Nat) (w : World) (m0 a m b N : Nat) (hc : CmpAt F cb w blk off l0.length) (hH : Holds encN w blk off l0.toArray) (hN : N = l0.length) (hl0 : (P ++ x :: R ++ S).length = l0.length) (ha : a = P.length) (hm : m = a + 1) (hb : b = (P ++ x :: R).length)
    (hF : ∀ y ∈ x :: R, y < F.length) (hup : ∀ y ∈ R, x < y) (hR : R.Pairwise (Before F)) (hsz : l0.length ≤ 2 ^ 40) :
    Calls Try.prog 71 #[.slice (some ⟨blk, off, none⟩) N cap, .int .i64 a, .int .i64 m, .int .i64 b, .func (.func 65) #[] #[cb]] (SW w blk off (P ++ x :: R ++ S) m0) fun e w' => e = .returned (.tuple #[]) ∧ ∃ M k, M.Perm (x :: R) ∧ M.Pairwise (Before F) ∧ w' = SW w blk off (P ++ M ++ S) k := by
  have HC : Hid (CmpAt F cb w blk off l0.length) := hc
  have HH : Hid (Holds encN w blk off l0.toArray) := hH
  have hbN : b ≤ N := by rw [hN, ← hl0, hb]; simp
  have hN4 : N ≤ 2 ^ 40 := by omega
  have hmb : m ≤ b := by rw [hm, ha, hb]; simp
  have HF : Hid (N = l0.length ∧ (P ++ x :: R ++ S).length = l0.length ∧ a = P.length ∧ m = a + 1 ∧ b = (P ++ x :: R).length ∧ b ≤ N ∧ N ≤ 2 ^ 40 ∧ m ≤ b) := ⟨hN, hl0, ha, hm, hb, hbN, hN4, hmb⟩
  have HU : Hid ((∀ y ∈ x :: R, y < F.length) ∧ (∀ y ∈ R, x < y) ∧ R.Pairwise (Before F)) := ⟨hF, hup, hR⟩
  obtain ⟨w0, hw0⟩ : ∃ w0, w0 = SW w blk off (P ++ x :: R ++ S) m0 := ⟨_, rfl⟩
  rw [← hw0]
  have HW0 : Hid (w0 = SW w blk off (P ++ x :: R ++ S) m0) := hw0
  have c0 : IntKind.i64.wrap ((m : Int) - (a : Int)) = 1 := by rw [show (m : Int) - (a : Int) = 1 by omega]; rfl
  clear hc hH hl0 ha hb hF hup hN hw0 hsz hm hR hbN hN4 hmb
  go_enter Try.func71, Try.ntmps71
  go_wp2_with fail
  go_loopw [10, 11] (fun vi vj wr => MaI F P R S x w blk off m b vi vj wr) (fun vi vj _ => (intOf vj).toNat - (intOf vi).toNat)
  case atStart =>
    obtain ⟨h1, h2, h3, h4, h5, h6, h7, h8⟩ := HF.out
    exact ⟨m, b, m0, by go_num, by go_num, Nat.le_refl _, h8, Nat.le_refl _, Or.inl rfl, Or.inl rfl, HW0.out⟩
  case round =>
    obtain ⟨i, j, k, rfl, rfl, him, hij, hjb, hlo, hhi, hwr⟩ := hrel
    have HI : Hid (m ≤ i ∧ i ≤ j ∧ j ≤ b ∧ (i = m ∨ Before F (R.getD (i - m - 1) 0) x) ∧ (j = b ∨ Before F x (R.getD (j - m) 0)) ∧ wr = SW w blk off (P ++ x :: R ++ S) k) := ⟨him, hij, hjb, hlo, hhi, hwr⟩
    have HLT : Hid (i < j → i + j < 2 ^ 62) := fun _ => by obtain ⟨h1, h2, h3, h4, h5, h6, h7, h8⟩ := HF.out; omega
    clear him hij hjb hlo hhi hwr
    by_cases hlt : i < j
    · have hltz : (i : Int) < (j : Int) := by omega
      have hb1 : (i : Int) + (j : Int) < 4611686018427387904 := by have := HLT.out hlt; omega
      obtain ⟨h, hh⟩ : ∃ h, h = (i + j) / 2 := ⟨_, rfl⟩
      have hhz : ((i : Int) + (j : Int)) / 2 = (h : Int) := by omega
      obtain ⟨y, hy⟩ : ∃ y, R.getD (h - m) 0 = y := ⟨_, rfl⟩
      have facts : h < N ∧ a < N ∧ i ≤ h ∧ h < j ∧ wr.cell? ⟨blk, off + h, none⟩ = some (.int .i64 y) ∧ wr.cell? ⟨blk, off + a, none⟩ = some (.int .i64 x) ∧ y < F.length ∧ x < F.length ∧ x < y := by
        obtain ⟨h1, h2, h3, h4, h5, h6, h7, h8⟩ := HF.out
        obtain ⟨i1, i2, i3, i4, i5, i6⟩ := HI.out
        obtain ⟨u1, u2, u3⟩ := HU.out
        have hbl : b = a + 1 + R.length := by rw [h5, h3]; simp; omega
        have ht : h - m < R.length := by omega
        have hm1 := getD_mem ht
        rw [hy] at hm1
        refine ⟨by omega, by omega, by omega, by omega, ?_, ?_, u1 y (List.mem_cons_of_mem _ hm1), u1 x (List.mem_cons_self ..), u2 y hm1⟩
        · rw [i6, SW_cell HH.out h2 k h (by omega)]
          have := getD_right P R S x (h - m) ht
          rw [show P.length + 1 + (h - m) = h by omega, hy] at this
          rw [this]
        · rw [i6, SW_cell HH.out h2 k a (by omega)]
          have := getD_mid P (R ++ S) x a h3
          rw [show P ++ x :: R ++ S = P ++ x :: (R ++ S) by simp, this]
      obtain ⟨f1, f2, f3, f4, ch, ca, f5, f6, f7⟩ := facts
      obtain ⟨c, hcv⟩ : ∃ c, cmpI (F.getD y 0) (F.getD x 0) = c := ⟨_, rfl⟩
      have hc : ∀ n, Calls Try.prog 65 #[.int .i64 y, .int .i64 x, cb] (wr.drewN n) fun e w' => e = .returned (.int .i64 c) ∧ ∃ q, w' = (wr.drewN n).drewN q := by
        intro n
        rw [HI.out.2.2.2.2.2, SW_drewN, ← hcv]
        exact HC.out _ _ _ _ (by have := HF.out; omega) f5 f6
      have hcn : c < 0 ↔ F.getD y 0 < F.getD x 0 := by rw [← hcv, cmpI_neg]; omega
      have HV : Hid ((c < 0 ↔ F.getD y 0 < F.getD x 0) ∧ R.getD (h - m) 0 = y ∧ x < y ∧ i ≤ h ∧ h < j ∧ N ≤ 2 ^ 40 ∧ h < N) := ⟨hcn, hy, f7, f3, f4, HF.out.2.2.2.2.2.2.1, f1⟩
      have z1 : (h : Int) < (N : Int) := by omega
      have z2 : (a : Int) < (N : Int) := by omega
      have z3 : (h : Int) + 1 < 4611686018427387904 := by have := HV.out; omega
      clear hh hy hcv hcn f5 f6 f7
      by_cases hcz : c < 0
      · go_wp2_with fail
        go_quiet (first | (go_at_call 65; refine Calls.quiet_of (hc _)))
        go_wp2_with fail
        obtain ⟨v1, v2, v3, v4, v5, v6, v7⟩ := HV.out
        obtain ⟨i1, i2, i3, i4, i5, i6⟩ := HI.out
        refine ⟨⟨h + 1, j, k + nq, by go_num, rfl, by omega, by omega, i3, Or.inr ?_, i5, by rw [i6, SW_drewN]⟩, by simp [intOf]; omega⟩
        rw [show h + 1 - m - 1 = h - m by omega, v2]
        exact Or.inl (v1.1 hcz)
      · go_wp2_with fail
        go_quiet (first | (go_at_call 65; refine Calls.quiet_of (hc _)))
        clear hhz hb1 z1 z2 z3 ch ca hltz hlt hc f1 f2 f3 f4
        go_wp2_with fail
        obtain ⟨v1, v2, v3, v4, v5, v6, v7⟩ := HV.out
        obtain ⟨i1, i2, i3, i4, i5, i6⟩ := HI.out
        refine ⟨⟨i, h, k + nq, rfl, rfl, i1, by omega, by omega, i4, Or.inr ?_, by rw [i6, SW_drewN]⟩, by simp [intOf]; omega⟩
        rw [v2]
        exact put_stays v3 (fun h => by have := v1.2 h; omega)
    · have hltz : ¬ (i : Int) < (j : Int) := by omega
      obtain ⟨ip, rfl⟩ : ∃ ip, i = ip + 1 := ⟨i - 1, by have := HI.out.1; have := HF.out; omega⟩
      have hipz : IntKind.i64.wrap (ip : Int) = (ip : Int) := by rw [IntKind.wrap_i64]; have := HF.out; have := HI.out; omega
      obtain ⟨w1, hw1⟩ : ∃ w1, w1 = wr := ⟨_, rfl⟩
      go_wp2_with fail
      go_loopw [13] (fun vi wr2 => MaK P R S x w blk off ip vi wr2) (fun vi _ => ip - (intOf vi).toNat)
      case atStart => exact ⟨a, k, [], R, by go_num, by have := HF.out.2.2.1; simpa using this, by have := HI.out.1; have := HF.out; omega, rfl, by have := HI.out.2.2.2.2.2; simpa using this⟩
      case round =>
        obtain ⟨q, m', R1, R2, rfl, hq, hqi, hRR, hwr⟩ := hrel
        have HQ : Hid (q = (P ++ R1).length ∧ q ≤ ip ∧ R = R1 ++ R2 ∧ wr = SW w blk off (P ++ R1 ++ x :: R2 ++ S) m') := ⟨hq, hqi, hRR, hwr⟩
        clear hq hqi hRR hwr
        by_cases hqlt : q < ip
        · have hqz : (q : Int) < (ip : Int) := by omega
          obtain ⟨y, R2', hR2⟩ : ∃ y R2', R2 = y :: R2' := by
            cases R2 with
            | nil =>
              obtain ⟨h1, h2, h3, h4, h5, h6, h7, h8⟩ := HF.out
              obtain ⟨q1, q2, q3, q4⟩ := HQ.out
              obtain ⟨i1, i2, i3, i4, i5, i6⟩ := HI.out
              rw [q3] at h5
              simp at h5 q1
              omega
            | cons y R2' => exact ⟨y, R2', rfl⟩
          obtain ⟨q1, hq1⟩ : ∃ q1, q1 = q + 1 := ⟨_, rfl⟩
          have facts : q < N ∧ q1 < N ∧ (P ++ R1 ++ x :: R2 ++ S).length = l0.length ∧ (P ++ R1 ++ x :: R2 ++ S).getD q 0 = x ∧ (P ++ R1 ++ x :: R2 ++ S).getD q1 0 = y ∧ N ≤ 2 ^ 40 ∧ N = l0.length := by
            obtain ⟨h1, h2, h3, h4, h5, h6, h7, h8⟩ := HF.out
            obtain ⟨g1, g2, g3, g4⟩ := HQ.out
            have e1 : (P ++ R1 ++ x :: R2 ++ S).length = l0.length := by rw [← h2, g3]; simp; omega
            have e2 : q1 < N := by rw [h1, ← e1, hq1, g1, hR2]; simp; omega
            refine ⟨by omega, e2, e1, ?_, ?_, h7, h1⟩
            · rw [show P ++ R1 ++ x :: R2 ++ S = (P ++ R1) ++ x :: (R2 ++ S) by simp]; exact getD_mid _ _ _ _ g1
            · rw [hR2, show P ++ R1 ++ x :: y :: R2' ++ S = (P ++ R1 ++ [x]) ++ y :: (R2' ++ S) by simp]; exact getD_mid _ _ _ _ (by rw [hq1, g1]; simp; omega)
          obtain ⟨f1, f2, f3, f4, f5, f6, f7⟩ := facts
          have hwr := HQ.out.2.2.2
          have c1 : wr.cell? ⟨blk, off + q, none⟩ = some (.int .i64 x) := by rw [hwr, SW_cell HH.out f3 m' q (by omega), f4]
          have c2 : wr.cell? ⟨blk, off + q1, none⟩ = some (.int .i64 y) := by rw [hwr, SW_cell HH.out f3 m' q1 (by omega), f5]
          have r1 : wr.frozen? ⟨blk, off + q, none⟩ = false := by rw [hwr]; exact SW_frozen HH.out f3 m' q (by omega)
          have r2 : wr.frozen? ⟨blk, off + q1, none⟩ = false := by rw [hwr]; exact SW_frozen HH.out f3 m' q1 (by omega)
          have HFF : Hid ((P ++ R1 ++ x :: R2 ++ S).length = l0.length ∧ (P ++ R1 ++ x :: R2 ++ S).getD q 0 = x ∧ (P ++ R1 ++ x :: R2 ++ S).getD q1 0 = y ∧ R2 = y :: R2' ∧ q1 = q + 1 ∧ q < N ∧ q1 < N ∧ N = l0.length ∧ q < ip) := ⟨f3, f4, f5, hR2, hq1, f1, f2, f7, hqlt⟩
          have z1 : (q : Int) < (N : Int) := by omega
          have z2 : (q1 : Int) < (N : Int) := by omega
          have z4 : (q : Int) + 1 = (q1 : Int) := by omega
          have n1 : ¬ q = q1 := by omega
          have n2 : ¬ q1 = q := by omega
          have z5 : IntKind.i64.wrap (q1 : Int) = (q1 : Int) := by rw [IntKind.wrap_i64]; omega
          clear hwr f1 f2 f3 f4 f5 f6 f7 hq1 hR2
          go_wp2_with fail
          go_big_region
          all_goals go_wp2
          obtain ⟨f3, f4, f5, hR2, hq1, f1, f2, f7, hqlt⟩ := HFF.out
          obtain ⟨g1, g2, g3, g4⟩ := HQ.out
          refine ⟨⟨q1, m' + 1, R1 ++ [y], R2', rfl, by rw [hq1, g1]; simp; omega, by omega, by rw [g3, hR2]; simp, ?_⟩, by simp [intOf]; omega⟩
          rw [g4]
          have hsw := SW_swap w blk off (P ++ R1 ++ x :: R2 ++ S) (P ++ (R1 ++ [y]) ++ x :: R2' ++ S) m' q q1 (by omega) (by omega) (by
            rw [hR2, show P ++ R1 ++ x :: y :: R2' ++ S = (P ++ R1) ++ x :: y :: (R2' ++ S) by simp, hq1, g1, swp_beside]
            simp)
          rw [f4, f5] at hsw
          exact hsw
        · have hqz : ¬ (q : Int) < (ip : Int) := by omega
          go_wp2_with fail
          refine bodyPost_ret (results_none rfl _ _ _) rfl ?_
          obtain ⟨h1, h2, h3, h4, h5, h6, h7, h8⟩ := HF.out
          obtain ⟨g1, g2, g3, g4⟩ := HQ.out
          obtain ⟨i1, i2, i3, i4, i5, i6⟩ := HI.out
          obtain ⟨u1, u2, u3⟩ := HU.out
          obtain rfl : q = ip := by omega
          have hl1 : R1.length = q + 1 - m := by simp at g1; omega
          have hb2 : b = m + R1.length + R2.length := by rw [h5, h4, h3, g3]; simp; omega
          rw [g3] at u3
          refine ⟨rfl, R1 ++ x :: R2, by rw [g3]; exact List.perm_middle, ?_, m', by rw [g4]; simp⟩
          refine put_in u3 ?_ ?_
          · intro y hy
            rcases i5 with h | h
            · rw [List.eq_nil_of_length_eq_zero (l := R2) (by omega)] at hy; cases hy
            · cases R2 with
              | nil => cases hy
              | cons z R2' =>
                rw [g3, show j - m = R1.length by omega, getD_mid _ _ _ _ rfl] at h
                rcases List.mem_cons.1 hy with rfl | hy
                · exact h
                · exact h.trans ((List.pairwise_cons.1 (List.pairwise_append.1 u3).2.1).1 y hy)
          · intro z hz
            rcases i4 with h | h
            · rw [List.eq_nil_of_length_eq_zero (l := R1) (by omega)] at hz; cases hz
            · obtain ⟨R1', rfl⟩ : ∃ R1', R1 = R1' ++ [z] := List.getLast?_eq_some_iff.1 hz
              rw [g3, show R1' ++ [z] ++ R2 = R1' ++ z :: R2 by simp, getD_mid _ _ _ _ (by simp at hl1; omega)] at h
              exact h
end Go.Proofs.Ytaabmlnbadpfgaa

/-! slices.symMergeCmpFunc of ints, where the right block is one: its walk. -/
namespace Go.Proofs.Ytaabmlnbadpfgaa
open Go.RowKit Go.Sort
set_option linter.unusedVariables false

theorem getD_left (P L T : List Nat) (t : Nat) (ht : t < L.length) : (P ++ L ++ T).getD (P.length + t) 0 = L.getD t 0 := by
  rw [List.getD_eq_getElem?_getD, List.getD_eq_getElem?_getD, List.append_assoc, List.getElem?_append_right (by omega), show P.length + t - P.length = t by omega]
  rw [List.getElem?_append_left ht]
/-- where the search stands. -/
def MbI (F P L S : List Nat) (y : Nat) (w : World) (blk off a m : Nat) (vi vj : Value) (wr : World) : Prop :=
  ∃ (i j k : Nat), vi = .int .i64 i ∧ vj = .int .i64 j ∧ a ≤ i ∧ i ≤ j ∧ j ≤ m ∧ (i = a ∨ Before F (L.getD (i - a - 1) 0) y) ∧ (j = m ∨ Before F y (L.getD (j - a) 0)) ∧ wr = SW w blk off (P ++ L ++ y :: S) k
/-- where the exchanges stand. -/
def MbK (P L S : List Nat) (y : Nat) (w : World) (blk off i : Nat) (vi : Value) (wr : World) : Prop :=
  ∃ (q m : Nat) (L1 L2 : List Nat), vi = .int .i64 q ∧ q = (P ++ L1).length ∧ i ≤ q ∧ L = L1 ++ L2 ∧ wr = SW w blk off (P ++ L1 ++ y :: L2 ++ S) m
set_option maxRecDepth 1000000 in
set_option maxHeartbeats 2000000 in
theorem lim_merge_right (F : List Nat) (cb : Value) (blk off cap : Nat) (l0 P L S : List Nat) (y : Nat) (w : World) (m0 a m b N : Nat) (hc : CmpAt F cb w blk off l0.length) (hH : Holds encN w blk off l0.toArray) (hN : N = l0.length) (hl0 : (P ++ L ++ y :: S).length = l0.length) (ha : a = P.length) (hm : m = (P ++ L).length) (hb : b = m + 1) (hLn : L.length ≠ 1)
    (hF : ∀ x ∈ y :: L, x < F.length) (hup : ∀ x ∈ L, x < y) (hL : L.Pairwise (Before F)) (hsz : l0.length ≤ 2 ^ 40) :
    Calls Try.prog 71 #[.slice (some ⟨blk, off, none⟩) N cap, .int .i64 a, .int .i64 m, .int .i64 b, .func (.func 65) #[] #[cb]] (SW w blk off (P ++ L ++ y :: S) m0) fun e w' => e = .returned (.tuple #[]) ∧ ∃ M k, M.Perm (L ++ [y]) ∧ M.Pairwise (Before F) ∧ w' = SW w blk off (P ++ M ++ S) k := by
  have HC : Hid (CmpAt F cb w blk off l0.length) := hc
  have HH : Hid (Holds encN w blk off l0.toArray) := hH
  have hbN : b ≤ N := by rw [hN, ← hl0, hb, hm]; simp; omega
  have hN4 : N ≤ 2 ^ 40 := by omega
  have ham : a ≤ m := by rw [hm, ha]; simp
  have hmn : m = a + L.length := by rw [hm, ha]; simp
  have HF : Hid (N = l0.length ∧ (P ++ L ++ y :: S).length = l0.length ∧ a = P.length ∧ m = (P ++ L).length ∧ b = m + 1 ∧ b ≤ N ∧ N ≤ 2 ^ 40 ∧ a ≤ m ∧ m = a + L.length) := ⟨hN, hl0, ha, hm, hb, hbN, hN4, ham, hmn⟩
  have HU : Hid ((∀ x ∈ y :: L, x < F.length) ∧ (∀ x ∈ L, x < y) ∧ L.Pairwise (Before F)) := ⟨hF, hup, hL⟩
  obtain ⟨w0, hw0⟩ : ∃ w0, w0 = SW w blk off (P ++ L ++ y :: S) m0 := ⟨_, rfl⟩
  rw [← hw0]
  have HW0 : Hid (w0 = SW w blk off (P ++ L ++ y :: S) m0) := hw0
  obtain ⟨n, hn⟩ : ∃ n, n = L.length := ⟨_, rfl⟩
  have c0 : IntKind.i64.wrap ((m : Int) - (a : Int)) = (n : Int) := by rw [show (m : Int) - (a : Int) = ((n : Nat) : Int) by omega]; exact IntWalk.i64_in _ (by omega)
  have c1 : ((n : Int) == 1) = false := by rw [beq_eq_false_iff_ne]; omega
  have c2 : IntKind.i64.wrap ((b : Int) - (m : Int)) = 1 := by rw [show (b : Int) - (m : Int) = 1 by omega]; rfl
  clear hc hH hl0 ha hb hF hup hN hw0 hsz hm hL hbN hN4 ham hmn hLn hn
  go_enter Try.func71, Try.ntmps71
  go_wp2_with fail
  go_loopw [14, 15] (fun vi vj wr => MbI F P L S y w blk off a m vi vj wr) (fun vi vj _ => (intOf vj).toNat - (intOf vi).toNat)
  case atStart =>
    obtain ⟨h1, h2, h3, h4, h5, h6, h7, h8, h9⟩ := HF.out
    exact ⟨a, m, m0, by go_num, by go_num, Nat.le_refl _, h8, Nat.le_refl _, Or.inl rfl, Or.inl rfl, HW0.out⟩
  case round =>
    obtain ⟨i, j, k, rfl, rfl, hai, hij, hjm, hlo, hhi, hwr⟩ := hrel
    have HI : Hid (a ≤ i ∧ i ≤ j ∧ j ≤ m ∧ (i = a ∨ Before F (L.getD (i - a - 1) 0) y) ∧ (j = m ∨ Before F y (L.getD (j - a) 0)) ∧ wr = SW w blk off (P ++ L ++ y :: S) k) := ⟨hai, hij, hjm, hlo, hhi, hwr⟩
    have HLT : Hid (i < j → i + j < 2 ^ 62) := fun _ => by obtain ⟨h1, h2, h3, h4, h5, h6, h7, h8, h9⟩ := HF.out; omega
    clear hai hij hjm hlo hhi hwr
    by_cases hlt : i < j
    · have hltz : (i : Int) < (j : Int) := by omega
      have hb1 : (i : Int) + (j : Int) < 4611686018427387904 := by have := HLT.out hlt; omega
      obtain ⟨h, hh⟩ : ∃ h, h = (i + j) / 2 := ⟨_, rfl⟩
      have hhz : ((i : Int) + (j : Int)) / 2 = (h : Int) := by omega
      obtain ⟨x, hx⟩ : ∃ x, L.getD (h - a) 0 = x := ⟨_, rfl⟩
      have facts : h < N ∧ m < N ∧ i ≤ h ∧ h < j ∧ wr.cell? ⟨blk, off + h, none⟩ = some (.int .i64 x) ∧ wr.cell? ⟨blk, off + m, none⟩ = some (.int .i64 y) ∧ x < F.length ∧ y < F.length ∧ x < y := by
        obtain ⟨h1, h2, h3, h4, h5, h6, h7, h8, h9⟩ := HF.out
        obtain ⟨i1, i2, i3, i4, i5, i6⟩ := HI.out
        obtain ⟨u1, u2, u3⟩ := HU.out
        have ht : h - a < L.length := by omega
        have hm1 := getD_mem ht
        rw [hx] at hm1
        refine ⟨by omega, by omega, by omega, by omega, ?_, ?_, u1 x (List.mem_cons_of_mem _ hm1), u1 y (List.mem_cons_self ..), u2 x hm1⟩
        · rw [i6, SW_cell HH.out h2 k h (by omega)]
          have := getD_left P L (y :: S) (h - a) ht
          rw [show P.length + (h - a) = h by omega, hx] at this
          rw [this]
        · rw [i6, SW_cell HH.out h2 k m (by omega), getD_mid (P ++ L) S y m h4]
      obtain ⟨f1, f2, f3, f4, ch, ca, f5, f6, f7⟩ := facts
      obtain ⟨c, hcv⟩ : ∃ c, cmpI (F.getD y 0) (F.getD x 0) = c := ⟨_, rfl⟩
      have hc : ∀ n, Calls Try.prog 65 #[.int .i64 y, .int .i64 x, cb] (wr.drewN n) fun e w' => e = .returned (.int .i64 c) ∧ ∃ q, w' = (wr.drewN n).drewN q := by
        intro n
        rw [HI.out.2.2.2.2.2, SW_drewN, ← hcv]
        exact HC.out _ _ _ _ (by have := HF.out; omega) f6 f5
      have hcn : c < 0 ↔ F.getD y 0 < F.getD x 0 := by rw [← hcv, cmpI_neg]; omega
      have HV : Hid ((c < 0 ↔ F.getD y 0 < F.getD x 0) ∧ L.getD (h - a) 0 = x ∧ x < y ∧ i ≤ h ∧ h < j ∧ N ≤ 2 ^ 40 ∧ h < N) := ⟨hcn, hx, f7, f3, f4, HF.out.2.2.2.2.2.2.1, f1⟩
      have z1 : (h : Int) < (N : Int) := by omega
      have z2 : (m : Int) < (N : Int) := by omega
      have z3 : (h : Int) + 1 < 4611686018427387904 := by have := HV.out; omega
      clear hh hx hcv hcn f5 f6 f7
      by_cases hcz : c < 0
      · go_wp2_with fail
        go_quiet (first | (go_at_call 65; refine Calls.quiet_of (hc _)))
        clear hhz hb1 z1 z2 z3 ch ca hltz hlt hc f1 f2 f3 f4
        go_wp2_with fail
        obtain ⟨v1, v2, v3, v4, v5, v6, v7⟩ := HV.out
        obtain ⟨i1, i2, i3, i4, i5, i6⟩ := HI.out
        refine ⟨⟨i, h, k + nq, rfl, rfl, i1, by omega, by omega, i4, Or.inr ?_, by rw [i6, SW_drewN]⟩, by simp [intOf]; omega⟩
        rw [v2]
        exact Or.inl (v1.1 hcz)
      · go_wp2_with fail
        go_quiet (first | (go_at_call 65; refine Calls.quiet_of (hc _)))
        clear hhz hb1 z1 z2 ch ca hltz hlt hc f1 f2 f3 f4
        have HCZ : Hid (¬ c < 0) := (by omega : ¬ c < 0)
        have hcd : (!decide (c < 0)) = true := by rw [decide_eq_false HCZ.out]; rfl
        clear hcz z3
        have hw : IntKind.i64.wrap ((h : Int) + 1) = (h : Int) + 1 := by rw [IntKind.wrap_i64]; have := HV.out; omega
        go_wp2_with fail
        · obtain ⟨v1, v2, v3, v4, v5, v6, v7⟩ := HV.out
          obtain ⟨i1, i2, i3, i4, i5, i6⟩ := HI.out
          refine ⟨⟨h + 1, j, k + nq, by go_num, rfl, by omega, by omega, i3, Or.inr ?_, i5, by rw [i6, SW_drewN]⟩, by simp [intOf]; omega⟩
          rw [show h + 1 - a - 1 = h - a by omega, v2]
          exact put_stays v3 (fun h => HCZ.out (v1.2 h))
        · rename_i hx
          rw [hcd] at hx
          cases hx
    · have hltz : ¬ (i : Int) < (j : Int) := by omega
      go_wp2_with fail
      go_loopw [17] (fun vi wr2 => MbK P L S y w blk off i vi wr2) (fun vi _ => (intOf vi).toNat)
      case atStart => exact ⟨m, k, L, [], by go_num, HF.out.2.2.2.1, by have := HI.out; omega, by simp, by have := HI.out.2.2.2.2.2; simpa using this⟩
      case round =>
        obtain ⟨q, m', L1, L2, rfl, hq, hqi, hLL, hwr⟩ := hrel
        have HQ : Hid (q = (P ++ L1).length ∧ i ≤ q ∧ L = L1 ++ L2 ∧ wr = SW w blk off (P ++ L1 ++ y :: L2 ++ S) m') := ⟨hq, hqi, hLL, hwr⟩
        clear hq hqi hLL hwr
        by_cases hqlt : i < q
        · have hne : L1 ≠ [] := by
            rintro rfl
            obtain ⟨h1, h2, h3, h4, h5, h6, h7, h8, h9⟩ := HF.out
            obtain ⟨g1, g2, g3, g4⟩ := HQ.out
            obtain ⟨i1, i2, i3, i4, i5, i6⟩ := HI.out
            simp at g1
            omega
          obtain ⟨L1', z, hL1⟩ : ∃ L1' z, L1 = L1' ++ [z] := ⟨L1.dropLast, L1.getLast hne, (List.dropLast_concat_getLast hne).symm⟩
          obtain ⟨qp, rfl⟩ : ∃ qp, q = qp + 1 := ⟨q - 1, by omega⟩
          have facts : qp + 1 < N ∧ (P ++ L1 ++ y :: L2 ++ S).length = l0.length ∧ (P ++ L1 ++ y :: L2 ++ S).getD (qp + 1) 0 = y ∧ (P ++ L1 ++ y :: L2 ++ S).getD qp 0 = z ∧ N ≤ 2 ^ 40 ∧ N = l0.length ∧ qp = (P ++ L1').length := by
            obtain ⟨h1, h2, h3, h4, h5, h6, h7, h8, h9⟩ := HF.out
            obtain ⟨g1, g2, g3, g4⟩ := HQ.out
            have e1 : (P ++ L1 ++ y :: L2 ++ S).length = l0.length := by rw [← h2, g3]; simp; omega
            have e2 : qp + 1 < N := by rw [h1, ← e1, g1]; simp
            have e3 : qp = (P ++ L1').length := by rw [hL1] at g1; simp at g1 ⊢; omega
            refine ⟨e2, e1, ?_, ?_, h7, h1, e3⟩
            · rw [show P ++ L1 ++ y :: L2 ++ S = (P ++ L1) ++ y :: (L2 ++ S) by simp]; exact getD_mid _ _ _ _ g1
            · rw [hL1, show P ++ (L1' ++ [z]) ++ y :: L2 ++ S = (P ++ L1') ++ z :: (y :: L2 ++ S) by simp]; exact getD_mid _ _ _ _ e3
          obtain ⟨f1, f3, f4, f5, f6, f7, f8⟩ := facts
          have hwr := HQ.out.2.2.2
          obtain ⟨q1, hq1⟩ : ∃ q1, q1 = qp + 1 := ⟨_, rfl⟩
          have c1 : wr.cell? ⟨blk, off + q1, none⟩ = some (.int .i64 y) := by rw [hq1, hwr, SW_cell HH.out f3 m' (qp + 1) (by omega), f4]
          have c2 : wr.cell? ⟨blk, off + qp, none⟩ = some (.int .i64 z) := by rw [hwr, SW_cell HH.out f3 m' qp (by omega), f5]
          have r1 : wr.frozen? ⟨blk, off + q1, none⟩ = false := by rw [hq1, hwr]; exact SW_frozen HH.out f3 m' (qp + 1) (by omega)
          have r2 : wr.frozen? ⟨blk, off + qp, none⟩ = false := by rw [hwr]; exact SW_frozen HH.out f3 m' qp (by omega)
          have HFF : Hid ((P ++ L1 ++ y :: L2 ++ S).length = l0.length ∧ (P ++ L1 ++ y :: L2 ++ S).getD (qp + 1) 0 = y ∧ (P ++ L1 ++ y :: L2 ++ S).getD qp 0 = z ∧ L1 = L1' ++ [z] ∧ q1 = qp + 1 ∧ qp + 1 < N ∧ N = l0.length ∧ i < qp + 1 ∧ qp = (P ++ L1').length) := ⟨f3, f4, f5, hL1, hq1, f1, f7, hqlt, f8⟩
          have hqz : (i : Int) < (qp : Int) + 1 := by omega
          have hwp : IntKind.i64.wrap (qp : Int) = (qp : Int) := by rw [IntKind.wrap_i64]; omega
          have e0 : ((qp : Int) + 1).toNat = q1 := by omega
          have jz : (qp : Int) + 1 < (N : Int) := by omega
          have jz1 : (qp : Int) < (N : Int) := by omega
          clear hwr f1 f3 f4 f5 f6 f7 f8 hq1 hL1 hne hqlt
          go_wp2_with fail
          go_big_region
          all_goals go_wp2
          obtain ⟨f3, f4, f5, hL1, hq1, f1, f7, hqlt, f8⟩ := HFF.out
          obtain ⟨g1, g2, g3, g4⟩ := HQ.out
          refine ⟨⟨qp, m' + 1, L1', z :: L2, rfl, f8, by omega, by rw [g3, hL1]; simp, ?_⟩, by simp [intOf]⟩
          rw [g4, hq1]
          have hsw := SW_swap w blk off (P ++ L1 ++ y :: L2 ++ S) (P ++ L1' ++ y :: z :: L2 ++ S) m' (qp + 1) qp (by omega) (by omega) (by
            rw [hL1, show P ++ (L1' ++ [z]) ++ y :: L2 ++ S = (P ++ L1') ++ z :: y :: (L2 ++ S) by simp, f8, swp_beside']
            simp)
          rw [f4, f5] at hsw
          exact hsw
        · have hqz : ¬ (i : Int) < (q : Int) := by omega
          go_wp2_with fail
          refine bodyPost_ret (results_none rfl _ _ _) rfl ?_
          obtain ⟨h1, h2, h3, h4, h5, h6, h7, h8, h9⟩ := HF.out
          obtain ⟨g1, g2, g3, g4⟩ := HQ.out
          obtain ⟨i1, i2, i3, i4, i5, i6⟩ := HI.out
          obtain ⟨u1, u2, u3⟩ := HU.out
          obtain rfl : q = i := by omega
          have hl1 : L1.length = q - a := by simp at g1; omega
          have hb2 : m = a + L1.length + L2.length := by rw [h4, h3, g3]; simp; omega
          rw [g3] at u3
          refine ⟨rfl, L1 ++ y :: L2, by rw [g3]; exact List.perm_middle.trans (List.perm_append_singleton ..).symm, ?_, m', by rw [g4]; simp⟩
          refine put_in u3 ?_ ?_
          · intro x hx
            rcases i5 with h | h
            · rw [List.eq_nil_of_length_eq_zero (l := L2) (by omega)] at hx; cases hx
            · cases L2 with
              | nil => cases hx
              | cons z L2' =>
                rw [g3, show j - a = L1.length by omega, getD_mid _ _ _ _ rfl] at h
                rcases List.mem_cons.1 hx with rfl | hx
                · exact h
                · exact h.trans ((List.pairwise_cons.1 (List.pairwise_append.1 u3).2.1).1 x hx)
          · intro z hz
            rcases i4 with h | h
            · rw [List.eq_nil_of_length_eq_zero (l := L1) (by omega)] at hz; cases hz
            · obtain ⟨L1', rfl⟩ : ∃ L1', L1 = L1' ++ [z] := List.getLast?_eq_some_iff.1 hz
              rw [g3, show L1' ++ [z] ++ L2 = L1' ++ z :: L2 by simp, getD_mid _ _ _ _ (by simp at hl1; omega)] at h
              exact h
end Go.Proofs.Ytaabmlnbadpfgaa

/-! slices.symMergeCmpFunc of ints: its walk (both blocks of two or more), and the whole by induction. -/
namespace Go.Proofs.Ytaabmlnbadpfgaa
open Go.RowKit Go.Sort
set_option linter.unusedVariables false

/-- what the merge says, of blocks that are together so long at most. -/
def MrgSays (F : List Nat) (cb : Value) (blk off cap : Nat) (l0 : List Nat) (w : World) (sz : Nat) : Prop :=
  ∀ (P L R S : List Nat) (m0 a m b N : Nat), L.length + R.length ≤ sz → L ≠ [] → R ≠ [] → N = l0.length → (P ++ L ++ R ++ S).length = l0.length → a = P.length → m = (P ++ L).length → b = (P ++ L ++ R).length →
    (∀ x ∈ L ++ R, x < F.length) → (∀ x ∈ L, ∀ y ∈ R, x < y) → L.Pairwise (Before F) → R.Pairwise (Before F) →
    Calls Try.prog 71 #[.slice (some ⟨blk, off, none⟩) N cap, .int .i64 a, .int .i64 m, .int .i64 b, .func (.func 65) #[] #[cb]] (SW w blk off (P ++ L ++ R ++ S) m0) fun e w' => e = .returned (.tuple #[]) ∧ ∃ M k, M.Perm (L ++ R) ∧ M.Pairwise (Before F) ∧ w' = SW w blk off (P ++ M ++ S) k
/-- where the search stands. -/
def McI (F l : List Nat) (w : World) (blk off s0 r0 pp : Nat) (vi vj : Value) (wr : World) : Prop :=
  ∃ (s r k : Nat), vi = .int .i64 s ∧ vj = .int .i64 r ∧ s0 ≤ s ∧ s ≤ r ∧ r ≤ r0 ∧ (s = s0 ∨ Before F (l.getD (s - 1) 0) (l.getD (pp - (s - 1)) 0)) ∧ (r = r0 ∨ Before F (l.getD (pp - r) 0) (l.getD r 0)) ∧ wr = SW w blk off l k
theorem getD_mem_left (P L R S : List Nat) (h : Nat) (h1 : P.length ≤ h) (h2 : h < P.length + L.length) : (P ++ L ++ R ++ S).getD h 0 ∈ L := by
  have := getD_left P L (R ++ S) (h - P.length) (by omega)
  rw [show P.length + (h - P.length) = h by omega, show P ++ L ++ (R ++ S) = P ++ L ++ R ++ S by simp] at this
  rw [this]
  exact getD_mem (by omega)
theorem getD_mem_right (P L R S : List Nat) (h : Nat) (h1 : P.length + L.length ≤ h) (h2 : h < P.length + L.length + R.length) : (P ++ L ++ R ++ S).getD h 0 ∈ R := by
  have := getD_left (P ++ L) R S (h - (P ++ L).length) (by simp; omega)
  rw [show (P ++ L).length + (h - (P ++ L).length) = h by simp; omega] at this
  rw [this]
  exact getD_mem (by simp; omega)
theorem last_getD {l : List Nat} {z : Nat} (h : l.getLast? = some z) (A B : List Nat) : (A ++ l ++ B).getD (A.length + l.length - 1) 0 = z := by
  obtain ⟨l', rfl⟩ := List.getLast?_eq_some_iff.1 h
  rw [show A ++ (l' ++ [z]) ++ B = (A ++ l') ++ z :: B by simp]
  exact getD_mid _ _ _ _ (by simp; try omega)
theorem head_getD {l : List Nat} {z : Nat} (h : l.head? = some z) (A B : List Nat) : (A ++ l ++ B).getD A.length 0 = z := by
  cases l with
  | nil => cases h
  | cons y l => cases h; rw [show A ++ z :: l ++ B = A ++ z :: (l ++ B) by simp]; exact getD_mid _ _ _ _ rfl
end Go.Proofs.Ytaabmlnbadpfgaa
