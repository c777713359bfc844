/- slices.symMergeCmpFunc of ints, the middle in the left block: its walk. -/
import Derived.Test.YtaabmlnbadpfgaaLimMrgS
namespace Go.Proofs.Ytaabmlnbadpfgaa
open Go.RowKit Go.Sort
set_option linter.unusedVariables false

set_option maxRecDepth 1000000 in
set_option maxHeartbeats 4000000 in
theorem lim_merge_up (F : List Nat) (cb : Value) (blk off cap : Nat) (l0 P L R S : List Nat) (w : World) (sz m0 a m b N mid nn pp s0 : Nat) (hih : MrgSays F cb blk off cap l0 w sz) (hc : CmpAt F cb w blk off l0.length) (hH : Holds encN w blk off l0.toArray) (hN : N = l0.length) (hl0 : (P ++ L ++ R ++ S).length = l0.length) (ha : a = P.length) (hm : m = (P ++ L).length) (hb : b = (P ++ L ++ R).length)
    (hlen : L.length + R.length ≤ sz + 1) (hL2 : 2 ≤ L.length) (hR2 : 2 ≤ R.length) (hF : ∀ x ∈ L ++ R, x < F.length) (hup : ∀ x ∈ L, ∀ y ∈ R, x < y) (hL : L.Pairwise (Before F)) (hR : R.Pairwise (Before F)) (hsz : l0.length ≤ 2 ^ 40)
    (hmid : mid = (a + b) / 2) (hnn : nn = mid + m) (hpp : nn = pp + 1) (hcase : mid < m ∧ nn = s0 + b) :
    Calls Try.prog 71 #[.slice (some ⟨blk, off, none⟩) N cap, .int .i64 a, .int .i64 m, .int .i64 b, .func (.func 65) #[] #[cb]] (SW w blk off (P ++ L ++ R ++ S) m0) fun e w' => e = .returned (.tuple #[]) ∧ ∃ M k, M.Perm (L ++ R) ∧ M.Pairwise (Before F) ∧ w' = SW w blk off (P ++ M ++ S) k := by
  have HIH : Hid (MrgSays F cb blk off cap l0 w sz) := hih
  have HC : Hid (CmpAt F cb w blk off l0.length) := hc
  have HH : Hid (Holds encN w blk off l0.toArray) := hH
  have hbN : b ≤ N := by rw [hN, ← hl0, hb]; simp; try omega
  have hN4 : N ≤ 2 ^ 40 := by omega
  have hmn : m = a + L.length := by rw [hm, ha]; simp
  have hbn : b = m + R.length := by rw [hb, hm]; simp; omega
  have HF : Hid (N = l0.length ∧ (P ++ L ++ R ++ S).length = l0.length ∧ a = P.length ∧ m = a + L.length ∧ b = m + R.length ∧ b ≤ N ∧ N ≤ 2 ^ 40 ∧ 2 ≤ L.length ∧ 2 ≤ R.length ∧ L.length + R.length ≤ sz + 1) := ⟨hN, hl0, ha, hmn, hbn, hbN, hN4, hL2, hR2, hlen⟩
  have HU : Hid ((∀ x ∈ L ++ R, x < F.length) ∧ (∀ x ∈ L, ∀ y ∈ R, x < y) ∧ L.Pairwise (Before F) ∧ R.Pairwise (Before F)) := ⟨hF, hup, hL, hR⟩
  have HS : Hid (mid = (a + b) / 2 ∧ nn = mid + m ∧ nn = pp + 1 ∧ mid < m ∧ nn = s0 + b) := ⟨hmid, hnn, hpp, hcase⟩
  obtain ⟨l, hl⟩ : ∃ l, l = P ++ L ++ R ++ S := ⟨_, rfl⟩
  have HLL : Hid (l = P ++ L ++ R ++ S) := hl
  rw [← hl]
  obtain ⟨w0, hw0⟩ : ∃ w0, w0 = SW w blk off l m0 := ⟨_, rfl⟩
  rw [← hw0]
  have HW0 : Hid (w0 = SW w blk off l m0) := hw0
  obtain ⟨nl, hnl⟩ : ∃ nl, nl = L.length := ⟨_, rfl⟩
  obtain ⟨nr, hnr⟩ : ∃ nr, nr = R.length := ⟨_, rfl⟩
  have c0 : IntKind.i64.wrap ((m : Int) - (a : Int)) = (nl : Int) := by rw [show (m : Int) - (a : Int) = ((nl : Nat) : Int) by omega]; exact IntWalk.i64_in _ (by omega)
  have c1 : ((nl : Int) == 1) = false := by rw [beq_eq_false_iff_ne]; omega
  have c2 : IntKind.i64.wrap ((b : Int) - (m : Int)) = (nr : Int) := by rw [show (b : Int) - (m : Int) = ((nr : Nat) : Int) by omega]; exact IntWalk.i64_in _ (by omega)
  have c3 : ((nr : Int) == 1) = false := by rw [beq_eq_false_iff_ne]; omega
  have c4 : (a : Int) + (b : Int) < 4611686018427387904 := by omega
  have c5 : ((a : Int) + (b : Int)) / 2 = (mid : Int) := by omega
  have c6 : IntKind.i64.wrap ((mid : Int) + (m : Int)) = (nn : Int) := by rw [show (mid : Int) + (m : Int) = ((nn : Nat) : Int) by omega]; exact IntWalk.i64_in _ (by omega)
  have c7 : IntKind.i64.wrap ((nn : Int) - 1) = (pp : Int) := by rw [show (nn : Int) - 1 = ((pp : Nat) : Int) by omega]; exact IntWalk.i64_in _ (by omega)
  have c8 : (mid : Int) < (m : Int) := by omega
  have c9 : IntKind.i64.wrap ((nn : Int) - (b : Int)) = (s0 : Int) := by rw [show (nn : Int) - (b : Int) = ((s0 : Nat) : Int) by omega]; exact IntWalk.i64_in _ (by omega)
  have BND : Hid (a ≤ s0 ∧ s0 ≤ mid ∧ mid ≤ m ∧ mid ≤ mid ∧ mid < b ∧ a < mid ∧ ∀ h, s0 ≤ h → h < mid → h + m ≤ pp ∧ pp < h + b) := ⟨by omega, by omega, by omega, by omega, by omega, by omega, fun h h1 h2 => ⟨by omega, by omega⟩⟩
  clear hih hc hH hl0 ha hb hF hup hN hw0 hsz hm hL hR hbN hN4 hmn hbn hlen hL2 hR2 hmid hnn hpp hcase hnl hnr hl
  go_enter Try.func71, Try.ntmps71
  go_wp2_with fail
  go_loopw [20, 21] (fun vi vj wr => McI F l w blk off s0 mid pp vi vj wr) (fun vi vj _ => (intOf vj).toNat - (intOf vi).toNat)
  case atStart =>
    exact ⟨s0, mid, m0, by go_num, by go_num, Nat.le_refl _, BND.out.2.1, Nat.le_refl _, Or.inl rfl, Or.inl rfl, HW0.out⟩
  case round =>
    obtain ⟨s, r, k, rfl, rfl, hs0, hsr, hr0, hlo, hhi, hwr⟩ := hrel
    have HI : Hid (s0 ≤ s ∧ s ≤ r ∧ r ≤ mid ∧ (s = s0 ∨ Before F (l.getD (s - 1) 0) (l.getD (pp - (s - 1)) 0)) ∧ (r = mid ∨ Before F (l.getD (pp - r) 0) (l.getD r 0)) ∧ wr = SW w blk off l k) := ⟨hs0, hsr, hr0, hlo, hhi, hwr⟩
    clear hs0 hsr hr0 hlo hhi hwr c0 c1 c2 c3 c4 c5 c6 c7 c8 c9
    by_cases hlt : s < r
    · have hltz : (s : Int) < (r : Int) := by omega
      have hb1 : (s : Int) + (r : Int) < 4611686018427387904 := by have := HF.out; have := HI.out; have := BND.out; omega
      obtain ⟨h, hh⟩ : ∃ h, h = (s + r) / 2 := ⟨_, rfl⟩
      have hhz : ((s : Int) + (r : Int)) / 2 = (h : Int) := by omega
      obtain ⟨x, hx⟩ : ∃ x, l.getD h 0 = x := ⟨_, rfl⟩
      obtain ⟨g, hg⟩ : ∃ g, g = pp - h := ⟨_, rfl⟩
      obtain ⟨y, hy⟩ : ∃ y, l.getD g 0 = y := ⟨_, rfl⟩
      have facts : h < N ∧ g < N ∧ s ≤ h ∧ h < r ∧ g + h = pp ∧ wr.cell? ⟨blk, off + h, none⟩ = some (.int .i64 x) ∧ wr.cell? ⟨blk, off + g, none⟩ = some (.int .i64 y) ∧ x < F.length ∧ y < F.length ∧ x < y := by
        obtain ⟨h1, h2, h3, h4, h5, h6, h7, h8, h9, h10⟩ := HF.out
        obtain ⟨i1, i2, i3, i4, i5, i6⟩ := HI.out
        obtain ⟨u1, u2, u3, u4⟩ := HU.out
        obtain ⟨b1, b2, b3, b4, b5, b6, b7⟩ := BND.out
        obtain ⟨d1, d2⟩ := b7 h (by omega) (by omega)
        have hxL : x ∈ L := by rw [← hx, HLL.out]; exact getD_mem_left P L R S h (by omega) (by omega)
        have hyR : y ∈ R := by rw [← hy, HLL.out]; exact getD_mem_right P L R S g (by omega) (by omega)
        refine ⟨by omega, by omega, by omega, by omega, by omega, ?_, ?_, u1 x (List.mem_append_left _ hxL), u1 y (List.mem_append_right _ hyR), u2 x hxL y hyR⟩
        · rw [i6, SW_cell HH.out (by rw [HLL.out]; exact h2) k h (by omega), hx]
        · rw [i6, SW_cell HH.out (by rw [HLL.out]; exact h2) k g (by omega), hy]
      obtain ⟨f1, f2, f3, f4, f8, ch, ca, f5, f6, f7⟩ := facts
      obtain ⟨c, hcv⟩ : ∃ c, cmpI (F.getD y 0) (F.getD x 0) = c := ⟨_, rfl⟩
      have hc : ∀ n, Calls Try.prog 65 #[.int .i64 y, .int .i64 x, cb] (wr.drewN n) fun e w' => e = .returned (.int .i64 c) ∧ ∃ q, w' = (wr.drewN n).drewN q := by
        intro n
        rw [HI.out.2.2.2.2.2, SW_drewN, ← hcv]
        exact HC.out _ _ _ _ (by rw [HLL.out]; exact HF.out.2.1) f6 f5
      have hcn : c < 0 ↔ F.getD y 0 < F.getD x 0 := by rw [← hcv, cmpI_neg]; omega
      have HV : Hid ((c < 0 ↔ F.getD y 0 < F.getD x 0) ∧ l.getD h 0 = x ∧ x < y ∧ s ≤ h ∧ h < r ∧ N ≤ 2 ^ 40 ∧ h < N ∧ l.getD (pp - h) 0 = y) := ⟨hcn, hx, f7, f3, f4, HF.out.2.2.2.2.2.2.1, f1, by rw [← hg, hy]⟩
      have z1 : (h : Int) < (N : Int) := by omega
      have z2 : (g : Int) < (N : Int) := by omega
      have z4 : IntKind.i64.wrap ((pp : Int) - (h : Int)) = (g : Int) := by rw [show (pp : Int) - (h : Int) = ((g : Nat) : Int) by omega]; exact IntWalk.i64_in _ (by have := HF.out; omega)
      clear hh hx hy hg hcv hcn f5 f6 f7 f8
      by_cases hcz : c < 0
      · go_wp2_with fail
        go_quiet (first | (go_at_call 65; refine Calls.quiet_of (hc _)))
        clear hhz hb1 z1 z2 z4 ch ca hltz hlt hc f1 f2 f3 f4
        go_wp2_with fail
        obtain ⟨v1, v2, v3, v4, v5, v6, v7, v8⟩ := HV.out
        obtain ⟨i1, i2, i3, i4, i5, i6⟩ := HI.out
        refine ⟨⟨s, h, k + nq, rfl, rfl, i1, by omega, by omega, i4, Or.inr ?_, by rw [i6, SW_drewN]⟩, by simp [intOf]; omega⟩
        rw [v2, v8]
        exact Or.inl (v1.1 hcz)
      · go_wp2_with fail
        go_quiet (first | (go_at_call 65; refine Calls.quiet_of (hc _)))
        clear hhz hb1 z1 z2 z4 ch ca hltz hlt hc f1 f2 f3 f4
        have HCZ : Hid (¬ c < 0) := (by omega : ¬ c < 0)
        have hcd : (!decide (c < 0)) = true := by rw [decide_eq_false HCZ.out]; rfl
        clear hcz
        have hw : IntKind.i64.wrap ((h : Int) + 1) = (h : Int) + 1 := by rw [IntKind.wrap_i64]; have := HV.out; omega
        go_wp2_with fail
        · obtain ⟨v1, v2, v3, v4, v5, v6, v7, v8⟩ := HV.out
          obtain ⟨i1, i2, i3, i4, i5, i6⟩ := HI.out
          refine ⟨⟨h + 1, r, k + nq, by go_num, rfl, by omega, by omega, i3, Or.inr ?_, i5, by rw [i6, SW_drewN]⟩, by simp [intOf]; omega⟩
          rw [show h + 1 - 1 = h by omega, v2, v8]
          exact put_stays v3 (fun h => HCZ.out (v1.2 h))
        · rename_i hx
          rw [hcd] at hx
          cases hx
    · have hltz : ¬ (s : Int) < (r : Int) := by omega
      obtain ⟨e, he⟩ : ∃ e, e = nn - s := ⟨_, rfl⟩
      have bounds : e + s = nn ∧ m ≤ e ∧ e ≤ b ∧ a ≤ s ∧ s ≤ m ∧ s ≤ mid ∧ nn = mid + m ∧ mid < b ∧ a < mid ∧ N ≤ 2 ^ 40 ∧ b ≤ N ∧ s = r := by
        obtain ⟨h1, h2, h3, h4, h5, h6, h7, h8, h9, h10⟩ := HF.out
        obtain ⟨i1, i2, i3, i4, i5, i6⟩ := HI.out
        obtain ⟨b1, b2, b3, b4, b5, b6, b7⟩ := BND.out
        obtain ⟨s1, s2, s3, s4⟩ := HS.out
        omega
      have HB : Hid _ := bounds
      obtain ⟨e1, e2, e3, e4, e5, e6, e7, e8, e9, e10, e11, e12⟩ := bounds
      -- both blocks, parted
      obtain ⟨L1, L2, hLs, hl1⟩ : ∃ L1 L2, L = L1 ++ L2 ∧ L1.length = s - a := ⟨L.take (s - a), L.drop (s - a), (List.take_append_drop ..).symm, by rw [List.length_take]; have := HF.out; omega⟩
      obtain ⟨R1, R2, hRs, hr1⟩ : ∃ R1 R2, R = R1 ++ R2 ∧ R1.length = e - m := ⟨R.take (e - m), R.drop (e - m), (List.take_append_drop ..).symm, by rw [List.length_take]; have := HF.out; omega⟩
      have hl2 : L2.length = m - s := by have := congrArg List.length hLs; rw [List.length_append] at this; have := HF.out; omega
      have hr2 : R2.length = b - e := by have := congrArg List.length hRs; rw [List.length_append] at this; have := HF.out; omega
      have HPT : Hid (L = L1 ++ L2 ∧ R = R1 ++ R2 ∧ L1.length = s - a ∧ L2.length = m - s ∧ R1.length = e - m ∧ R2.length = b - e) := ⟨hLs, hRs, hl1, hl2, hr1, hr2⟩
      have HSP : Hid (∀ x ∈ L1 ++ R1, ∀ y ∈ L2 ++ R2, Before F x y) := by
        show ∀ x ∈ L1 ++ R1, ∀ y ∈ L2 ++ R2, Before F x y
        obtain ⟨h1, h2, h3, h4, h5, h6, h7, h8, h9, h10⟩ := HF.out
        obtain ⟨i1, i2, i3, i4, i5, i6⟩ := HI.out
        obtain ⟨b1, b2, b3, b4, b5, b6, b7⟩ := BND.out
        obtain ⟨s1, s2, s3, s4⟩ := HS.out
        obtain ⟨u1, u2, u3, u4⟩ := HU.out
        have hll := HLL.out
        rw [hLs] at u3
        rw [hRs] at u4
        refine split_before u3 u4 ?_ ?_
        · intro x hx y hy
          have hx0 : L1 ≠ [] := by rintro rfl; cases hx
          have hx1 := List.length_pos_iff.2 hx0
          have hy0 : R2 ≠ [] := by rintro rfl; cases hy
          have hy1 := List.length_pos_iff.2 hy0
          rcases i4 with i4 | i4
          · omega
          · have g1 := last_getD hx P (L2 ++ R ++ S)
            rw [show P ++ L1 ++ (L2 ++ R ++ S) = l by rw [hll, hLs]; simp, show P.length + L1.length - 1 = s - 1 by omega] at g1
            have g2 := head_getD hy (P ++ L ++ R1) S
            rw [show P ++ L ++ R1 ++ R2 ++ S = l by rw [hll, hRs]; simp, show (P ++ L ++ R1).length = pp - (s - 1) by simp; omega] at g2
            rw [g1, g2] at i4
            exact i4
        · intro x hx y hy
          have hx0 : R1 ≠ [] := by rintro rfl; cases hx
          have hx1 := List.length_pos_iff.2 hx0
          have hy0 : L2 ≠ [] := by rintro rfl; cases hy
          have hy1 := List.length_pos_iff.2 hy0
          rcases i5 with i5 | i5
          · omega
          · have g1 := last_getD hx (P ++ L) (R2 ++ S)
            rw [show P ++ L ++ R1 ++ (R2 ++ S) = l by rw [hll, hRs]; simp, show (P ++ L).length + R1.length - 1 = pp - r by simp; omega] at g1
            have g2 := head_getD hy (P ++ L1) (R ++ S)
            rw [show P ++ L1 ++ L2 ++ (R ++ S) = l by rw [hll, hLs]; simp, show (P ++ L1).length = r by simp; omega] at g2
            rw [g1, g2] at i5
            exact i5
      have z1 : IntKind.i64.wrap ((nn : Int) - (s : Int)) = (e : Int) := by rw [show (nn : Int) - (s : Int) = ((e : Nat) : Int) by omega]; exact IntWalk.i64_in _ (by omega)
      have ROT : Hid (s < m → m < e → Calls Try.prog 72 #[.slice (some ⟨blk, off, none⟩) N cap, .int .i64 s, .int .i64 m, .int .i64 e, .func (.func 65) #[] #[cb]] wr fun e w' => e = .returned (.tuple #[]) ∧ ∃ k, w' = SW w blk off (P ++ (L1 ++ R1) ++ (L2 ++ R2) ++ S) k) := by
        intro q1 q2
        obtain ⟨h1, h2, h3, h4, h5, h6, h7, h8, h9, h10⟩ := HF.out
        rw [HI.out.2.2.2.2.2, HLL.out, hLs, hRs, show P ++ (L1 ++ L2) ++ (R1 ++ R2) ++ S = (P ++ L1) ++ L2 ++ R1 ++ (R2 ++ S) by simp]
        refine (lim_rotate blk off cap _ l0 (P ++ L1) L2 R1 (R2 ++ S) w k s m e N HH.out h1 (by rw [← h2, hLs, hRs]; simp) (by simp; omega) (by simp; omega) (by simp; omega) (by rintro rfl; simp at hl2; omega) (by rintro rfl; simp at hr1; omega) (by omega)).mono ?_
        rintro e w' ⟨rfl, q, rfl⟩
        refine ⟨rfl, q, ?_⟩
        congr 1
        simp
      have NOROT : Hid (¬ (s < m ∧ m < e) → wr = SW w blk off (P ++ (L1 ++ R1) ++ (L2 ++ R2) ++ S) k) := by
        intro q
        rw [HI.out.2.2.2.2.2, HLL.out, hLs, hRs]
        congr 1
        by_cases q1 : s < m
        · rw [List.eq_nil_of_length_eq_zero (l := R1) (by omega)]; simp
        · rw [List.eq_nil_of_length_eq_zero (l := L2) (by omega)]; simp
      have UPS : Hid ((∀ x ∈ L1 ++ R1, x < F.length) ∧ (∀ x ∈ L1, ∀ y ∈ R1, x < y) ∧ L1.Pairwise (Before F) ∧ R1.Pairwise (Before F) ∧ (∀ x ∈ L2 ++ R2, x < F.length) ∧ (∀ x ∈ L2, ∀ y ∈ R2, x < y) ∧ L2.Pairwise (Before F) ∧ R2.Pairwise (Before F)) := by
        obtain ⟨u1, u2, u3, u4⟩ := HU.out
        rw [hLs] at u1 u2 u3
        rw [hRs] at u1 u2 u4
        obtain ⟨p1, p2, _⟩ := List.pairwise_append.1 u3
        obtain ⟨p3, p4, _⟩ := List.pairwise_append.1 u4
        exact ⟨fun x hx => u1 x ((List.mem_append.1 hx).elim (fun h => List.mem_append_left _ (List.mem_append_left _ h)) (fun h => List.mem_append_right _ (List.mem_append_left _ h))), fun x hx y hy => u2 x (List.mem_append_left _ hx) y (List.mem_append_left _ hy), p1, p3,
          fun x hx => u1 x ((List.mem_append.1 hx).elim (fun h => List.mem_append_left _ (List.mem_append_right _ h)) (fun h => List.mem_append_right _ (List.mem_append_right _ h))), fun x hx y hy => u2 x (List.mem_append_right _ hx) y (List.mem_append_right _ hy), p2, p4⟩
      have ONE : Hid (∀ (w1 : World) (k1 : Nat), w1 = SW w blk off (P ++ (L1 ++ R1) ++ (L2 ++ R2) ++ S) k1 → a < s → s < mid → Calls Try.prog 71 #[.slice (some ⟨blk, off, none⟩) N cap, .int .i64 a, .int .i64 s, .int .i64 mid, .func (.func 65) #[] #[cb]] w1 fun e w' => e = .returned (.tuple #[]) ∧ ∃ M1 k, M1.Perm (L1 ++ R1) ∧ M1.Pairwise (Before F) ∧ w' = SW w blk off (P ++ M1 ++ (L2 ++ R2) ++ S) k) := by
        intro w1 k1 hw1 q1 q2
        obtain ⟨h1, h2, h3, h4, h5, h6, h7, h8, h9, h10⟩ := HF.out
        obtain ⟨v1, v2, v3, v4, _⟩ := UPS.out
        rw [hw1, show P ++ (L1 ++ R1) ++ (L2 ++ R2) ++ S = P ++ L1 ++ R1 ++ (L2 ++ R2 ++ S) by simp]
        refine (HIH.out P L1 R1 (L2 ++ R2 ++ S) k1 a s mid N (by omega) (by rintro rfl; simp at hl1; omega) (by rintro rfl; simp at hr1; omega) h1 (by rw [← h2, hLs, hRs]; simp; omega) h3 (by simp; omega) (by simp; omega) v1 v2 v3 v4).mono ?_
        rintro e w' ⟨rfl, M1, q, p1, p2, rfl⟩
        exact ⟨rfl, M1, q, p1, p2, by congr 1; simp⟩
      have NOONE : Hid (¬ (a < s ∧ s < mid) → (L1 ++ R1).Pairwise (Before F)) := by
        intro q
        obtain ⟨v1, v2, v3, v4, _⟩ := UPS.out
        by_cases q1 : a < s
        · rw [List.eq_nil_of_length_eq_zero (l := R1) (by omega)]; simpa using v3
        · rw [List.eq_nil_of_length_eq_zero (l := L1) (by omega)]; simpa using v4
      have TWO : Hid (∀ (M1 : List Nat) (w1 : World) (k1 : Nat), M1.Perm (L1 ++ R1) → w1 = SW w blk off (P ++ M1 ++ (L2 ++ R2) ++ S) k1 → mid < e → e < b → Calls Try.prog 71 #[.slice (some ⟨blk, off, none⟩) N cap, .int .i64 mid, .int .i64 e, .int .i64 b, .func (.func 65) #[] #[cb]] w1 fun e w' => e = .returned (.tuple #[]) ∧ ∃ M2 k, M2.Perm (L2 ++ R2) ∧ M2.Pairwise (Before F) ∧ w' = SW w blk off (P ++ M1 ++ M2 ++ S) k) := by
        intro M1 w1 k1 hM1 hw1 q1 q2
        obtain ⟨h1, h2, h3, h4, h5, h6, h7, h8, h9, h10⟩ := HF.out
        obtain ⟨_, _, _, _, v1, v2, v3, v4⟩ := UPS.out
        have hM := hM1.length_eq
        rw [List.length_append] at hM
        rw [hw1, show P ++ M1 ++ (L2 ++ R2) ++ S = (P ++ M1) ++ L2 ++ R2 ++ S by simp]
        refine (HIH.out (P ++ M1) L2 R2 S k1 mid e b N (by omega) (by rintro rfl; simp at hl2; omega) (by rintro rfl; simp at hr2; omega) h1 (by rw [← h2, hLs, hRs]; simp; omega) (by simp; omega) (by simp; omega) (by simp; omega) v1 v2 v3 v4).mono ?_
        rintro e w' ⟨rfl, M1, q, p1, p2, rfl⟩
        exact ⟨rfl, M1, q, p1, p2, rfl⟩
      have NOTWO : Hid (¬ (mid < e ∧ e < b) → (L2 ++ R2).Pairwise (Before F)) := by
        intro q
        obtain ⟨_, _, _, _, v1, v2, v3, v4⟩ := UPS.out
        by_cases q1 : mid < e
        · rw [List.eq_nil_of_length_eq_zero (l := R2) (by omega)]; simpa using v3
        · rw [List.eq_nil_of_length_eq_zero (l := L2) (by omega)]; simpa using v4
      have END : Hid (∀ (M1 M2 : List Nat) (w1 : World) (k1 : Nat), M1.Perm (L1 ++ R1) → M1.Pairwise (Before F) → M2.Perm (L2 ++ R2) → M2.Pairwise (Before F) → w1 = SW w blk off (P ++ M1 ++ M2 ++ S) k1 → ∃ M, M.Perm (L ++ R) ∧ M.Pairwise (Before F) ∧ ∃ k, w1 = SW w blk off (P ++ M ++ S) k) := by
        intro M1 M2 w1 k1 p1 p2 p3 p4 hw1
        obtain ⟨g1, g2⟩ := merged HSP.out p2 p4 p1 p3
        exact ⟨M1 ++ M2, by rw [hLs, hRs]; exact g2, g1, k1, by rw [hw1]; congr 1; simp⟩
      clear e1 e2 e3 e4 e5 e6 e7 e8 e9 e10 e11 e12 he hLs hRs hl1 hl2 hr1 hr2 hlt
      by_cases q_sm : s < m
      · by_cases q_smid : s < mid
        · by_cases q_as : a < s
          · by_cases q_eb : e < b
            · have hq1 : s < m := by have := HB.out; omega
              have hq1z : (s : Int) < (m : Int) := by omega
              have hq5 : mid < e := by have := HB.out; omega
              have hq5z : (mid : Int) < (e : Int) := by omega
              have hq4 : s < mid := by have := HB.out; omega
              have hq4z : (s : Int) < (mid : Int) := by omega
              have hq2 : m < e := by have := HB.out; omega
              have hq2z : (m : Int) < (e : Int) := by omega
              have hq3 : a < s := by have := HB.out; omega
              have hq3z : (a : Int) < (s : Int) := by omega
              have hq6 : e < b := by have := HB.out; omega
              have hq6z : (e : Int) < (b : Int) := by omega
              go_wp2_with fail
              refine (ROT.out hq1 hq2).mono ?_
              rintro e1 w1 ⟨rfl, k1, hw1⟩
              have HW1 : Hid (w1 = SW w blk off (P ++ (L1 ++ R1) ++ (L2 ++ R2) ++ S) k1) := hw1
              clear hw1
              go_wp2_with fail
              refine (ONE.out _ k1 HW1.out hq3 hq4).mono ?_
              rintro e2 w2 ⟨rfl, M1, k2, hM1, hM1s, hw2⟩
              have HM1 : Hid (M1.Perm (L1 ++ R1) ∧ M1.Pairwise (Before F) ∧ w2 = SW w blk off (P ++ M1 ++ (L2 ++ R2) ++ S) k2) := ⟨hM1, hM1s, hw2⟩
              clear hM1 hM1s hw2
              go_wp2_with fail
              refine (TWO.out M1 _ k2 HM1.out.1 HM1.out.2.2 hq5 hq6).mono ?_
              rintro e3 w3 ⟨rfl, M2, k3, hM2, hM2s, hw3⟩
              have H3 : Hid (M2.Perm (L2 ++ R2) ∧ M2.Pairwise (Before F) ∧ w3 = SW w blk off (P ++ M1 ++ M2 ++ S) k3) := ⟨hM2, hM2s, hw3⟩
              clear hM2 hM2s hw3
              go_wp2_with fail
              go_end0
              obtain ⟨M, z1, z2, k, z3⟩ := END.out M1 M2 _ k3 HM1.out.1 HM1.out.2.1 H3.out.1 H3.out.2.1 H3.out.2.2
              first | exact ⟨rfl, M, k, z1, z2, z3⟩ | exact ⟨rfl, M, z1, z2, k, z3⟩ | exact ⟨rfl, M, z1, z2, k, by rw [z3]; congr 1; simp⟩
            · have hq1 : s < m := by have := HB.out; omega
              have hq1z : (s : Int) < (m : Int) := by omega
              have hq5 : mid < e := by have := HB.out; omega
              have hq5z : (mid : Int) < (e : Int) := by omega
              have hq4 : s < mid := by have := HB.out; omega
              have hq4z : (s : Int) < (mid : Int) := by omega
              have hq2 : m < e := by have := HB.out; omega
              have hq2z : (m : Int) < (e : Int) := by omega
              have hq3 : a < s := by have := HB.out; omega
              have hq3z : (a : Int) < (s : Int) := by omega
              have hq6 : ¬ e < b := by have := HB.out; omega
              have hq6z : ¬ (e : Int) < (b : Int) := by omega
              go_wp2_with fail
              refine (ROT.out hq1 hq2).mono ?_
              rintro e1 w1 ⟨rfl, k1, hw1⟩
              have HW1 : Hid (w1 = SW w blk off (P ++ (L1 ++ R1) ++ (L2 ++ R2) ++ S) k1) := hw1
              clear hw1
              go_wp2_with fail
              refine (ONE.out _ k1 HW1.out hq3 hq4).mono ?_
              rintro e2 w2 ⟨rfl, M1, k2, hM1, hM1s, hw2⟩
              have HM1 : Hid (M1.Perm (L1 ++ R1) ∧ M1.Pairwise (Before F) ∧ w2 = SW w blk off (P ++ M1 ++ (L2 ++ R2) ++ S) k2) := ⟨hM1, hM1s, hw2⟩
              clear hM1 hM1s hw2
              go_wp2_with fail
              go_end0
              obtain ⟨M, z1, z2, k, z3⟩ := END.out M1 (L2 ++ R2) _ k2 HM1.out.1 HM1.out.2.1 (List.Perm.refl _) (NOTWO.out (by omega)) HM1.out.2.2
              first | exact ⟨rfl, M, k, z1, z2, z3⟩ | exact ⟨rfl, M, z1, z2, k, z3⟩ | exact ⟨rfl, M, z1, z2, k, by rw [z3]; congr 1; simp⟩
          · by_cases q_eb : e < b
            · have hq1 : s < m := by have := HB.out; omega
              have hq1z : (s : Int) < (m : Int) := by omega
              have hq5 : mid < e := by have := HB.out; omega
              have hq5z : (mid : Int) < (e : Int) := by omega
              have hq4 : s < mid := by have := HB.out; omega
              have hq4z : (s : Int) < (mid : Int) := by omega
              have hq2 : m < e := by have := HB.out; omega
              have hq2z : (m : Int) < (e : Int) := by omega
              have hq3 : ¬ a < s := by have := HB.out; omega
              have hq3z : ¬ (a : Int) < (s : Int) := by omega
              have hq6 : e < b := by have := HB.out; omega
              have hq6z : (e : Int) < (b : Int) := by omega
              go_wp2_with fail
              refine (ROT.out hq1 hq2).mono ?_
              rintro e1 w1 ⟨rfl, k1, hw1⟩
              have HW1 : Hid (w1 = SW w blk off (P ++ (L1 ++ R1) ++ (L2 ++ R2) ++ S) k1) := hw1
              clear hw1
              go_wp2_with fail
              obtain ⟨M1, hM1e⟩ : ∃ M1, M1 = L1 ++ R1 := ⟨_, rfl⟩
              obtain ⟨k2, hk2⟩ : ∃ k2, k2 = k1 := ⟨_, rfl⟩
              have HM1 : Hid (M1.Perm (L1 ++ R1) ∧ M1.Pairwise (Before F) ∧ w1 = SW w blk off (P ++ M1 ++ (L2 ++ R2) ++ S) k2) := by
                rw [hM1e, hk2]
                exact ⟨List.Perm.refl _, NOONE.out (by omega), HW1.out⟩
              clear hM1e hk2
              refine (TWO.out M1 _ k2 HM1.out.1 HM1.out.2.2 hq5 hq6).mono ?_
              rintro e3 w3 ⟨rfl, M2, k3, hM2, hM2s, hw3⟩
              have H3 : Hid (M2.Perm (L2 ++ R2) ∧ M2.Pairwise (Before F) ∧ w3 = SW w blk off (P ++ M1 ++ M2 ++ S) k3) := ⟨hM2, hM2s, hw3⟩
              clear hM2 hM2s hw3
              go_wp2_with fail
              go_end0
              obtain ⟨M, z1, z2, k, z3⟩ := END.out M1 M2 _ k3 HM1.out.1 HM1.out.2.1 H3.out.1 H3.out.2.1 H3.out.2.2
              first | exact ⟨rfl, M, k, z1, z2, z3⟩ | exact ⟨rfl, M, z1, z2, k, z3⟩ | exact ⟨rfl, M, z1, z2, k, by rw [z3]; congr 1; simp⟩
            · have hq1 : s < m := by have := HB.out; omega
              have hq1z : (s : Int) < (m : Int) := by omega
              have hq5 : mid < e := by have := HB.out; omega
              have hq5z : (mid : Int) < (e : Int) := by omega
              have hq4 : s < mid := by have := HB.out; omega
              have hq4z : (s : Int) < (mid : Int) := by omega
              have hq2 : m < e := by have := HB.out; omega
              have hq2z : (m : Int) < (e : Int) := by omega
              have hq3 : ¬ a < s := by have := HB.out; omega
              have hq3z : ¬ (a : Int) < (s : Int) := by omega
              have hq6 : ¬ e < b := by have := HB.out; omega
              have hq6z : ¬ (e : Int) < (b : Int) := by omega
              go_wp2_with fail
              refine (ROT.out hq1 hq2).mono ?_
              rintro e1 w1 ⟨rfl, k1, hw1⟩
              have HW1 : Hid (w1 = SW w blk off (P ++ (L1 ++ R1) ++ (L2 ++ R2) ++ S) k1) := hw1
              clear hw1
              go_wp2_with fail
              obtain ⟨M1, hM1e⟩ : ∃ M1, M1 = L1 ++ R1 := ⟨_, rfl⟩
              obtain ⟨k2, hk2⟩ : ∃ k2, k2 = k1 := ⟨_, rfl⟩
              have HM1 : Hid (M1.Perm (L1 ++ R1) ∧ M1.Pairwise (Before F) ∧ w1 = SW w blk off (P ++ M1 ++ (L2 ++ R2) ++ S) k2) := by
                rw [hM1e, hk2]
                exact ⟨List.Perm.refl _, NOONE.out (by omega), HW1.out⟩
              clear hM1e hk2
              go_end0
              obtain ⟨M, z1, z2, k, z3⟩ := END.out M1 (L2 ++ R2) _ k2 HM1.out.1 HM1.out.2.1 (List.Perm.refl _) (NOTWO.out (by omega)) HM1.out.2.2
              first | exact ⟨rfl, M, k, z1, z2, z3⟩ | exact ⟨rfl, M, z1, z2, k, z3⟩ | exact ⟨rfl, M, z1, z2, k, by rw [z3]; congr 1; simp⟩
        · by_cases q_as : a < s
          · by_cases q_eb : e < b
            · have hq1 : s < m := by have := HB.out; omega
              have hq1z : (s : Int) < (m : Int) := by omega
              have hq5 : mid < e := by have := HB.out; omega
              have hq5z : (mid : Int) < (e : Int) := by omega
              have hq4 : ¬ s < mid := by have := HB.out; omega
              have hq4z : ¬ (s : Int) < (mid : Int) := by omega
              have hq2 : ¬ m < e := by have := HB.out; omega
              have hq2z : ¬ (m : Int) < (e : Int) := by omega
              have hq3 : a < s := by have := HB.out; omega
              have hq3z : (a : Int) < (s : Int) := by omega
              have hq6 : e < b := by have := HB.out; omega
              have hq6z : (e : Int) < (b : Int) := by omega
              go_wp2_with fail
              obtain ⟨w1, hw1⟩ : ∃ w1, w1 = wr := ⟨_, rfl⟩
              obtain ⟨k1, hk1⟩ : ∃ k1, k1 = k := ⟨_, rfl⟩
              have HW1 : Hid (w1 = SW w blk off (P ++ (L1 ++ R1) ++ (L2 ++ R2) ++ S) k1) := by rw [hw1, hk1]; exact NOROT.out (by omega)
              subst hw1
              clear hk1
              obtain ⟨M1, hM1e⟩ : ∃ M1, M1 = L1 ++ R1 := ⟨_, rfl⟩
              obtain ⟨k2, hk2⟩ : ∃ k2, k2 = k1 := ⟨_, rfl⟩
              have HM1 : Hid (M1.Perm (L1 ++ R1) ∧ M1.Pairwise (Before F) ∧ w1 = SW w blk off (P ++ M1 ++ (L2 ++ R2) ++ S) k2) := by
                rw [hM1e, hk2]
                exact ⟨List.Perm.refl _, NOONE.out (by omega), HW1.out⟩
              clear hM1e hk2
              refine (TWO.out M1 _ k2 HM1.out.1 HM1.out.2.2 hq5 hq6).mono ?_
              rintro e3 w3 ⟨rfl, M2, k3, hM2, hM2s, hw3⟩
              have H3 : Hid (M2.Perm (L2 ++ R2) ∧ M2.Pairwise (Before F) ∧ w3 = SW w blk off (P ++ M1 ++ M2 ++ S) k3) := ⟨hM2, hM2s, hw3⟩
              clear hM2 hM2s hw3
              go_wp2_with fail
              go_end0
              obtain ⟨M, z1, z2, k, z3⟩ := END.out M1 M2 _ k3 HM1.out.1 HM1.out.2.1 H3.out.1 H3.out.2.1 H3.out.2.2
              first | exact ⟨rfl, M, k, z1, z2, z3⟩ | exact ⟨rfl, M, z1, z2, k, z3⟩ | exact ⟨rfl, M, z1, z2, k, by rw [z3]; congr 1; simp⟩
            · have hq1 : s < m := by have := HB.out; omega
              have hq1z : (s : Int) < (m : Int) := by omega
              have hq5 : mid < e := by have := HB.out; omega
              have hq5z : (mid : Int) < (e : Int) := by omega
              have hq4 : ¬ s < mid := by have := HB.out; omega
              have hq4z : ¬ (s : Int) < (mid : Int) := by omega
              have hq2 : ¬ m < e := by have := HB.out; omega
              have hq2z : ¬ (m : Int) < (e : Int) := by omega
              have hq3 : a < s := by have := HB.out; omega
              have hq3z : (a : Int) < (s : Int) := by omega
              have hq6 : ¬ e < b := by have := HB.out; omega
              have hq6z : ¬ (e : Int) < (b : Int) := by omega
              go_wp2_with fail
              obtain ⟨w1, hw1⟩ : ∃ w1, w1 = wr := ⟨_, rfl⟩
              obtain ⟨k1, hk1⟩ : ∃ k1, k1 = k := ⟨_, rfl⟩
              have HW1 : Hid (w1 = SW w blk off (P ++ (L1 ++ R1) ++ (L2 ++ R2) ++ S) k1) := by rw [hw1, hk1]; exact NOROT.out (by omega)
              subst hw1
              clear hk1
              obtain ⟨M1, hM1e⟩ : ∃ M1, M1 = L1 ++ R1 := ⟨_, rfl⟩
              obtain ⟨k2, hk2⟩ : ∃ k2, k2 = k1 := ⟨_, rfl⟩
              have HM1 : Hid (M1.Perm (L1 ++ R1) ∧ M1.Pairwise (Before F) ∧ w1 = SW w blk off (P ++ M1 ++ (L2 ++ R2) ++ S) k2) := by
                rw [hM1e, hk2]
                exact ⟨List.Perm.refl _, NOONE.out (by omega), HW1.out⟩
              clear hM1e hk2
              go_end0
              obtain ⟨M, z1, z2, k, z3⟩ := END.out M1 (L2 ++ R2) _ k2 HM1.out.1 HM1.out.2.1 (List.Perm.refl _) (NOTWO.out (by omega)) HM1.out.2.2
              first | exact ⟨rfl, M, k, z1, z2, z3⟩ | exact ⟨rfl, M, z1, z2, k, z3⟩ | exact ⟨rfl, M, z1, z2, k, by rw [z3]; congr 1; simp⟩
          · by_cases q_eb : e < b
            · have hq1 : s < m := by have := HB.out; omega
              have hq1z : (s : Int) < (m : Int) := by omega
              have hq5 : mid < e := by have := HB.out; omega
              have hq5z : (mid : Int) < (e : Int) := by omega
              have hq4 : ¬ s < mid := by have := HB.out; omega
              have hq4z : ¬ (s : Int) < (mid : Int) := by omega
              have hq2 : ¬ m < e := by have := HB.out; omega
              have hq2z : ¬ (m : Int) < (e : Int) := by omega
              have hq3 : ¬ a < s := by have := HB.out; omega
              have hq3z : ¬ (a : Int) < (s : Int) := by omega
              have hq6 : e < b := by have := HB.out; omega
              have hq6z : (e : Int) < (b : Int) := by omega
              go_wp2_with fail
              obtain ⟨w1, hw1⟩ : ∃ w1, w1 = wr := ⟨_, rfl⟩
              obtain ⟨k1, hk1⟩ : ∃ k1, k1 = k := ⟨_, rfl⟩
              have HW1 : Hid (w1 = SW w blk off (P ++ (L1 ++ R1) ++ (L2 ++ R2) ++ S) k1) := by rw [hw1, hk1]; exact NOROT.out (by omega)
              subst hw1
              clear hk1
              obtain ⟨M1, hM1e⟩ : ∃ M1, M1 = L1 ++ R1 := ⟨_, rfl⟩
              obtain ⟨k2, hk2⟩ : ∃ k2, k2 = k1 := ⟨_, rfl⟩
              have HM1 : Hid (M1.Perm (L1 ++ R1) ∧ M1.Pairwise (Before F) ∧ w1 = SW w blk off (P ++ M1 ++ (L2 ++ R2) ++ S) k2) := by
                rw [hM1e, hk2]
                exact ⟨List.Perm.refl _, NOONE.out (by omega), HW1.out⟩
              clear hM1e hk2
              refine (TWO.out M1 _ k2 HM1.out.1 HM1.out.2.2 hq5 hq6).mono ?_
              rintro e3 w3 ⟨rfl, M2, k3, hM2, hM2s, hw3⟩
              have H3 : Hid (M2.Perm (L2 ++ R2) ∧ M2.Pairwise (Before F) ∧ w3 = SW w blk off (P ++ M1 ++ M2 ++ S) k3) := ⟨hM2, hM2s, hw3⟩
              clear hM2 hM2s hw3
              go_wp2_with fail
              go_end0
              obtain ⟨M, z1, z2, k, z3⟩ := END.out M1 M2 _ k3 HM1.out.1 HM1.out.2.1 H3.out.1 H3.out.2.1 H3.out.2.2
              first | exact ⟨rfl, M, k, z1, z2, z3⟩ | exact ⟨rfl, M, z1, z2, k, z3⟩ | exact ⟨rfl, M, z1, z2, k, by rw [z3]; congr 1; simp⟩
            · have hq1 : s < m := by have := HB.out; omega
              have hq1z : (s : Int) < (m : Int) := by omega
              have hq5 : mid < e := by have := HB.out; omega
              have hq5z : (mid : Int) < (e : Int) := by omega
              have hq4 : ¬ s < mid := by have := HB.out; omega
              have hq4z : ¬ (s : Int) < (mid : Int) := by omega
              have hq2 : ¬ m < e := by have := HB.out; omega
              have hq2z : ¬ (m : Int) < (e : Int) := by omega
              have hq3 : ¬ a < s := by have := HB.out; omega
              have hq3z : ¬ (a : Int) < (s : Int) := by omega
              have hq6 : ¬ e < b := by have := HB.out; omega
              have hq6z : ¬ (e : Int) < (b : Int) := by omega
              go_wp2_with fail
              obtain ⟨w1, hw1⟩ : ∃ w1, w1 = wr := ⟨_, rfl⟩
              obtain ⟨k1, hk1⟩ : ∃ k1, k1 = k := ⟨_, rfl⟩
              have HW1 : Hid (w1 = SW w blk off (P ++ (L1 ++ R1) ++ (L2 ++ R2) ++ S) k1) := by rw [hw1, hk1]; exact NOROT.out (by omega)
              subst hw1
              clear hk1
              obtain ⟨M1, hM1e⟩ : ∃ M1, M1 = L1 ++ R1 := ⟨_, rfl⟩
              obtain ⟨k2, hk2⟩ : ∃ k2, k2 = k1 := ⟨_, rfl⟩
              have HM1 : Hid (M1.Perm (L1 ++ R1) ∧ M1.Pairwise (Before F) ∧ w1 = SW w blk off (P ++ M1 ++ (L2 ++ R2) ++ S) k2) := by
                rw [hM1e, hk2]
                exact ⟨List.Perm.refl _, NOONE.out (by omega), HW1.out⟩
              clear hM1e hk2
              go_end0
              obtain ⟨M, z1, z2, k, z3⟩ := END.out M1 (L2 ++ R2) _ k2 HM1.out.1 HM1.out.2.1 (List.Perm.refl _) (NOTWO.out (by omega)) HM1.out.2.2
              first | exact ⟨rfl, M, k, z1, z2, z3⟩ | exact ⟨rfl, M, z1, z2, k, z3⟩ | exact ⟨rfl, M, z1, z2, k, by rw [z3]; congr 1; simp⟩
      · by_cases q_smid : s < mid
        · by_cases q_as : a < s
          · by_cases q_eb : e < b
            · have hq1 : ¬ s < m := by have := HB.out; omega
              have hq1z : ¬ (s : Int) < (m : Int) := by omega
              have hq5 : ¬ mid < e := by have := HB.out; omega
              have hq5z : ¬ (mid : Int) < (e : Int) := by omega
              have hq4 : s < mid := by have := HB.out; omega
              have hq4z : (s : Int) < (mid : Int) := by omega
              have hq2 : m < e := by have := HB.out; omega
              have hq2z : (m : Int) < (e : Int) := by omega
              have hq3 : a < s := by have := HB.out; omega
              have hq3z : (a : Int) < (s : Int) := by omega
              have hq6 : e < b := by have := HB.out; omega
              have hq6z : (e : Int) < (b : Int) := by omega
              go_wp2_with fail
              obtain ⟨w1, hw1⟩ : ∃ w1, w1 = wr := ⟨_, rfl⟩
              obtain ⟨k1, hk1⟩ : ∃ k1, k1 = k := ⟨_, rfl⟩
              have HW1 : Hid (w1 = SW w blk off (P ++ (L1 ++ R1) ++ (L2 ++ R2) ++ S) k1) := by rw [hw1, hk1]; exact NOROT.out (by omega)
              subst hw1
              clear hk1
              refine (ONE.out _ k1 HW1.out hq3 hq4).mono ?_
              rintro e2 w2 ⟨rfl, M1, k2, hM1, hM1s, hw2⟩
              have HM1 : Hid (M1.Perm (L1 ++ R1) ∧ M1.Pairwise (Before F) ∧ w2 = SW w blk off (P ++ M1 ++ (L2 ++ R2) ++ S) k2) := ⟨hM1, hM1s, hw2⟩
              clear hM1 hM1s hw2
              go_wp2_with fail
              go_end0
              obtain ⟨M, z1, z2, k, z3⟩ := END.out M1 (L2 ++ R2) _ k2 HM1.out.1 HM1.out.2.1 (List.Perm.refl _) (NOTWO.out (by omega)) HM1.out.2.2
              first | exact ⟨rfl, M, k, z1, z2, z3⟩ | exact ⟨rfl, M, z1, z2, k, z3⟩ | exact ⟨rfl, M, z1, z2, k, by rw [z3]; congr 1; simp⟩
            · have hq1 : ¬ s < m := by have := HB.out; omega
              have hq1z : ¬ (s : Int) < (m : Int) := by omega
              have hq5 : ¬ mid < e := by have := HB.out; omega
              have hq5z : ¬ (mid : Int) < (e : Int) := by omega
              have hq4 : s < mid := by have := HB.out; omega
              have hq4z : (s : Int) < (mid : Int) := by omega
              have hq2 : m < e := by have := HB.out; omega
              have hq2z : (m : Int) < (e : Int) := by omega
              have hq3 : a < s := by have := HB.out; omega
              have hq3z : (a : Int) < (s : Int) := by omega
              have hq6 : ¬ e < b := by have := HB.out; omega
              have hq6z : ¬ (e : Int) < (b : Int) := by omega
              go_wp2_with fail
              obtain ⟨w1, hw1⟩ : ∃ w1, w1 = wr := ⟨_, rfl⟩
              obtain ⟨k1, hk1⟩ : ∃ k1, k1 = k := ⟨_, rfl⟩
              have HW1 : Hid (w1 = SW w blk off (P ++ (L1 ++ R1) ++ (L2 ++ R2) ++ S) k1) := by rw [hw1, hk1]; exact NOROT.out (by omega)
              subst hw1
              clear hk1
              refine (ONE.out _ k1 HW1.out hq3 hq4).mono ?_
              rintro e2 w2 ⟨rfl, M1, k2, hM1, hM1s, hw2⟩
              have HM1 : Hid (M1.Perm (L1 ++ R1) ∧ M1.Pairwise (Before F) ∧ w2 = SW w blk off (P ++ M1 ++ (L2 ++ R2) ++ S) k2) := ⟨hM1, hM1s, hw2⟩
              clear hM1 hM1s hw2
              go_wp2_with fail
              go_end0
              obtain ⟨M, z1, z2, k, z3⟩ := END.out M1 (L2 ++ R2) _ k2 HM1.out.1 HM1.out.2.1 (List.Perm.refl _) (NOTWO.out (by omega)) HM1.out.2.2
              first | exact ⟨rfl, M, k, z1, z2, z3⟩ | exact ⟨rfl, M, z1, z2, k, z3⟩ | exact ⟨rfl, M, z1, z2, k, by rw [z3]; congr 1; simp⟩
          · by_cases q_eb : e < b
            · have hq1 : ¬ s < m := by have := HB.out; omega
              have hq1z : ¬ (s : Int) < (m : Int) := by omega
              have hq5 : ¬ mid < e := by have := HB.out; omega
              have hq5z : ¬ (mid : Int) < (e : Int) := by omega
              have hq4 : s < mid := by have := HB.out; omega
              have hq4z : (s : Int) < (mid : Int) := by omega
              have hq2 : m < e := by have := HB.out; omega
              have hq2z : (m : Int) < (e : Int) := by omega
              have hq3 : ¬ a < s := by have := HB.out; omega
              have hq3z : ¬ (a : Int) < (s : Int) := by omega
              have hq6 : e < b := by have := HB.out; omega
              have hq6z : (e : Int) < (b : Int) := by omega
              go_wp2_with fail
              obtain ⟨w1, hw1⟩ : ∃ w1, w1 = wr := ⟨_, rfl⟩
              obtain ⟨k1, hk1⟩ : ∃ k1, k1 = k := ⟨_, rfl⟩
              have HW1 : Hid (w1 = SW w blk off (P ++ (L1 ++ R1) ++ (L2 ++ R2) ++ S) k1) := by rw [hw1, hk1]; exact NOROT.out (by omega)
              subst hw1
              clear hk1
              obtain ⟨M1, hM1e⟩ : ∃ M1, M1 = L1 ++ R1 := ⟨_, rfl⟩
              obtain ⟨k2, hk2⟩ : ∃ k2, k2 = k1 := ⟨_, rfl⟩
              have HM1 : Hid (M1.Perm (L1 ++ R1) ∧ M1.Pairwise (Before F) ∧ w1 = SW w blk off (P ++ M1 ++ (L2 ++ R2) ++ S) k2) := by
                rw [hM1e, hk2]
                exact ⟨List.Perm.refl _, NOONE.out (by omega), HW1.out⟩
              clear hM1e hk2
              go_end0
              obtain ⟨M, z1, z2, k, z3⟩ := END.out M1 (L2 ++ R2) _ k2 HM1.out.1 HM1.out.2.1 (List.Perm.refl _) (NOTWO.out (by omega)) HM1.out.2.2
              first | exact ⟨rfl, M, k, z1, z2, z3⟩ | exact ⟨rfl, M, z1, z2, k, z3⟩ | exact ⟨rfl, M, z1, z2, k, by rw [z3]; congr 1; simp⟩
            · have hq1 : ¬ s < m := by have := HB.out; omega
              have hq1z : ¬ (s : Int) < (m : Int) := by omega
              have hq5 : ¬ mid < e := by have := HB.out; omega
              have hq5z : ¬ (mid : Int) < (e : Int) := by omega
              have hq4 : s < mid := by have := HB.out; omega
              have hq4z : (s : Int) < (mid : Int) := by omega
              have hq2 : m < e := by have := HB.out; omega
              have hq2z : (m : Int) < (e : Int) := by omega
              have hq3 : ¬ a < s := by have := HB.out; omega
              have hq3z : ¬ (a : Int) < (s : Int) := by omega
              have hq6 : ¬ e < b := by have := HB.out; omega
              have hq6z : ¬ (e : Int) < (b : Int) := by omega
              go_wp2_with fail
              obtain ⟨w1, hw1⟩ : ∃ w1, w1 = wr := ⟨_, rfl⟩
              obtain ⟨k1, hk1⟩ : ∃ k1, k1 = k := ⟨_, rfl⟩
              have HW1 : Hid (w1 = SW w blk off (P ++ (L1 ++ R1) ++ (L2 ++ R2) ++ S) k1) := by rw [hw1, hk1]; exact NOROT.out (by omega)
              subst hw1
              clear hk1
              obtain ⟨M1, hM1e⟩ : ∃ M1, M1 = L1 ++ R1 := ⟨_, rfl⟩
              obtain ⟨k2, hk2⟩ : ∃ k2, k2 = k1 := ⟨_, rfl⟩
              have HM1 : Hid (M1.Perm (L1 ++ R1) ∧ M1.Pairwise (Before F) ∧ w1 = SW w blk off (P ++ M1 ++ (L2 ++ R2) ++ S) k2) := by
                rw [hM1e, hk2]
                exact ⟨List.Perm.refl _, NOONE.out (by omega), HW1.out⟩
              clear hM1e hk2
              go_end0
              obtain ⟨M, z1, z2, k, z3⟩ := END.out M1 (L2 ++ R2) _ k2 HM1.out.1 HM1.out.2.1 (List.Perm.refl _) (NOTWO.out (by omega)) HM1.out.2.2
              first | exact ⟨rfl, M, k, z1, z2, z3⟩ | exact ⟨rfl, M, z1, z2, k, z3⟩ | exact ⟨rfl, M, z1, z2, k, by rw [z3]; congr 1; simp⟩
        · by_cases q_as : a < s
          · by_cases q_eb : e < b
            · have hq1 : ¬ s < m := by have := HB.out; omega
              have hq1z : ¬ (s : Int) < (m : Int) := by omega
              have hq5 : ¬ mid < e := by have := HB.out; omega
              have hq5z : ¬ (mid : Int) < (e : Int) := by omega
              have hq4 : ¬ s < mid := by have := HB.out; omega
              have hq4z : ¬ (s : Int) < (mid : Int) := by omega
              have hq2 : ¬ m < e := by have := HB.out; omega
              have hq2z : ¬ (m : Int) < (e : Int) := by omega
              have hq3 : a < s := by have := HB.out; omega
              have hq3z : (a : Int) < (s : Int) := by omega
              have hq6 : e < b := by have := HB.out; omega
              have hq6z : (e : Int) < (b : Int) := by omega
              go_wp2_with fail
              obtain ⟨w1, hw1⟩ : ∃ w1, w1 = wr := ⟨_, rfl⟩
              obtain ⟨k1, hk1⟩ : ∃ k1, k1 = k := ⟨_, rfl⟩
              have HW1 : Hid (w1 = SW w blk off (P ++ (L1 ++ R1) ++ (L2 ++ R2) ++ S) k1) := by rw [hw1, hk1]; exact NOROT.out (by omega)
              subst hw1
              clear hk1
              obtain ⟨M1, hM1e⟩ : ∃ M1, M1 = L1 ++ R1 := ⟨_, rfl⟩
              obtain ⟨k2, hk2⟩ : ∃ k2, k2 = k1 := ⟨_, rfl⟩
              have HM1 : Hid (M1.Perm (L1 ++ R1) ∧ M1.Pairwise (Before F) ∧ w1 = SW w blk off (P ++ M1 ++ (L2 ++ R2) ++ S) k2) := by
                rw [hM1e, hk2]
                exact ⟨List.Perm.refl _, NOONE.out (by omega), HW1.out⟩
              clear hM1e hk2
              go_end0
              obtain ⟨M, z1, z2, k, z3⟩ := END.out M1 (L2 ++ R2) _ k2 HM1.out.1 HM1.out.2.1 (List.Perm.refl _) (NOTWO.out (by omega)) HM1.out.2.2
              first | exact ⟨rfl, M, k, z1, z2, z3⟩ | exact ⟨rfl, M, z1, z2, k, z3⟩ | exact ⟨rfl, M, z1, z2, k, by rw [z3]; congr 1; simp⟩
            · have hq1 : ¬ s < m := by have := HB.out; omega
              have hq1z : ¬ (s : Int) < (m : Int) := by omega
              have hq5 : ¬ mid < e := by have := HB.out; omega
              have hq5z : ¬ (mid : Int) < (e : Int) := by omega
              have hq4 : ¬ s < mid := by have := HB.out; omega
              have hq4z : ¬ (s : Int) < (mid : Int) := by omega
              have hq2 : ¬ m < e := by have := HB.out; omega
              have hq2z : ¬ (m : Int) < (e : Int) := by omega
              have hq3 : a < s := by have := HB.out; omega
              have hq3z : (a : Int) < (s : Int) := by omega
              have hq6 : ¬ e < b := by have := HB.out; omega
              have hq6z : ¬ (e : Int) < (b : Int) := by omega
              go_wp2_with fail
              obtain ⟨w1, hw1⟩ : ∃ w1, w1 = wr := ⟨_, rfl⟩
              obtain ⟨k1, hk1⟩ : ∃ k1, k1 = k := ⟨_, rfl⟩
              have HW1 : Hid (w1 = SW w blk off (P ++ (L1 ++ R1) ++ (L2 ++ R2) ++ S) k1) := by rw [hw1, hk1]; exact NOROT.out (by omega)
              subst hw1
              clear hk1
              obtain ⟨M1, hM1e⟩ : ∃ M1, M1 = L1 ++ R1 := ⟨_, rfl⟩
              obtain ⟨k2, hk2⟩ : ∃ k2, k2 = k1 := ⟨_, rfl⟩
              have HM1 : Hid (M1.Perm (L1 ++ R1) ∧ M1.Pairwise (Before F) ∧ w1 = SW w blk off (P ++ M1 ++ (L2 ++ R2) ++ S) k2) := by
                rw [hM1e, hk2]
                exact ⟨List.Perm.refl _, NOONE.out (by omega), HW1.out⟩
              clear hM1e hk2
              go_end0
              obtain ⟨M, z1, z2, k, z3⟩ := END.out M1 (L2 ++ R2) _ k2 HM1.out.1 HM1.out.2.1 (List.Perm.refl _) (NOTWO.out (by omega)) HM1.out.2.2
              first | exact ⟨rfl, M, k, z1, z2, z3⟩ | exact ⟨rfl, M, z1, z2, k, z3⟩ | exact ⟨rfl, M, z1, z2, k, by rw [z3]; congr 1; simp⟩
          · by_cases q_eb : e < b
            · have hq1 : ¬ s < m := by have := HB.out; omega
              have hq1z : ¬ (s : Int) < (m : Int) := by omega
              have hq5 : ¬ mid < e := by have := HB.out; omega
              have hq5z : ¬ (mid : Int) < (e : Int) := by omega
              have hq4 : ¬ s < mid := by have := HB.out; omega
              have hq4z : ¬ (s : Int) < (mid : Int) := by omega
              have hq2 : ¬ m < e := by have := HB.out; omega
              have hq2z : ¬ (m : Int) < (e : Int) := by omega
              have hq3 : ¬ a < s := by have := HB.out; omega
              have hq3z : ¬ (a : Int) < (s : Int) := by omega
              have hq6 : e < b := by have := HB.out; omega
              have hq6z : (e : Int) < (b : Int) := by omega
              go_wp2_with fail
              obtain ⟨w1, hw1⟩ : ∃ w1, w1 = wr := ⟨_, rfl⟩
              obtain ⟨k1, hk1⟩ : ∃ k1, k1 = k := ⟨_, rfl⟩
              have HW1 : Hid (w1 = SW w blk off (P ++ (L1 ++ R1) ++ (L2 ++ R2) ++ S) k1) := by rw [hw1, hk1]; exact NOROT.out (by omega)
              subst hw1
              clear hk1
              obtain ⟨M1, hM1e⟩ : ∃ M1, M1 = L1 ++ R1 := ⟨_, rfl⟩
              obtain ⟨k2, hk2⟩ : ∃ k2, k2 = k1 := ⟨_, rfl⟩
              have HM1 : Hid (M1.Perm (L1 ++ R1) ∧ M1.Pairwise (Before F) ∧ w1 = SW w blk off (P ++ M1 ++ (L2 ++ R2) ++ S) k2) := by
                rw [hM1e, hk2]
                exact ⟨List.Perm.refl _, NOONE.out (by omega), HW1.out⟩
              clear hM1e hk2
              go_end0
              obtain ⟨M, z1, z2, k, z3⟩ := END.out M1 (L2 ++ R2) _ k2 HM1.out.1 HM1.out.2.1 (List.Perm.refl _) (NOTWO.out (by omega)) HM1.out.2.2
              first | exact ⟨rfl, M, k, z1, z2, z3⟩ | exact ⟨rfl, M, z1, z2, k, z3⟩ | exact ⟨rfl, M, z1, z2, k, by rw [z3]; congr 1; simp⟩
            · have hq1 : ¬ s < m := by have := HB.out; omega
              have hq1z : ¬ (s : Int) < (m : Int) := by omega
              have hq5 : ¬ mid < e := by have := HB.out; omega
              have hq5z : ¬ (mid : Int) < (e : Int) := by omega
              have hq4 : ¬ s < mid := by have := HB.out; omega
              have hq4z : ¬ (s : Int) < (mid : Int) := by omega
              have hq2 : ¬ m < e := by have := HB.out; omega
              have hq2z : ¬ (m : Int) < (e : Int) := by omega
              have hq3 : ¬ a < s := by have := HB.out; omega
              have hq3z : ¬ (a : Int) < (s : Int) := by omega
              have hq6 : ¬ e < b := by have := HB.out; omega
              have hq6z : ¬ (e : Int) < (b : Int) := by omega
              go_wp2_with fail
              obtain ⟨w1, hw1⟩ : ∃ w1, w1 = wr := ⟨_, rfl⟩
              obtain ⟨k1, hk1⟩ : ∃ k1, k1 = k := ⟨_, rfl⟩
              have HW1 : Hid (w1 = SW w blk off (P ++ (L1 ++ R1) ++ (L2 ++ R2) ++ S) k1) := by rw [hw1, hk1]; exact NOROT.out (by omega)
              subst hw1
              clear hk1
              obtain ⟨M1, hM1e⟩ : ∃ M1, M1 = L1 ++ R1 := ⟨_, rfl⟩
              obtain ⟨k2, hk2⟩ : ∃ k2, k2 = k1 := ⟨_, rfl⟩
              have HM1 : Hid (M1.Perm (L1 ++ R1) ∧ M1.Pairwise (Before F) ∧ w1 = SW w blk off (P ++ M1 ++ (L2 ++ R2) ++ S) k2) := by
                rw [hM1e, hk2]
                exact ⟨List.Perm.refl _, NOONE.out (by omega), HW1.out⟩
              clear hM1e hk2
              go_end0
              obtain ⟨M, z1, z2, k, z3⟩ := END.out M1 (L2 ++ R2) _ k2 HM1.out.1 HM1.out.2.1 (List.Perm.refl _) (NOTWO.out (by omega)) HM1.out.2.2
              first | exact ⟨rfl, M, k, z1, z2, z3⟩ | exact ⟨rfl, M, z1, z2, k, z3⟩ | exact ⟨rfl, M, z1, z2, k, by rw [z3]; congr 1; simp⟩
end Go.Proofs.Ytaabmlnbadpfgaa
