/- pressworklaw05.choice: its walk. -/
import Derived.Test.YtblbggdglndiiaaLimGrows
import Derived.Test.YtblbggdglndiiaaPreKraft
namespace Go.Proofs.Ytblbggdglndiiaa
open Go.RowKit
set_option linter.unusedVariables false

/-- how many of the first occur. -/
def cntPos (F : List Nat) (i : Nat) : Nat := (symsUp F i).length
theorem cntPos_succ (F : List Nat) (i : Nat) : cntPos F (i + 1) = cntPos F i + (if 0 < F.getD i 0 then 1 else 0) := by
  rw [cntPos, symsUp_succ, cntPos]
  split <;> simp
/-- are lengths one, for frequencies and a limit? -/
structure Choice (F Ls : List Nat) (L : Nat) : Prop where
  len : Ls.length = F.length
  each : ∀ i, i < F.length → (0 < Ls.getD i 0 ↔ 0 < F.getD i 0) ∧ Ls.getD i 0 ≤ L
  few : cntPos F F.length < 2 → ∀ i, i < F.length → Ls.getD i 0 ≤ 1
  full : 2 ≤ cntPos F F.length → MayK Ls ∧ weightL Ls = 1048576
theorem classL_full (L : List Nat) : classL L = 2 ↔ weightL L = 1048576 := by
  unfold classL
  split
  · omega
  · split
    · omega
    · split
      · omega
      · omega
def ChI (F Ls : List Nat) (L N : Nat) (w : World) (vn vi : Value) (wr : World) : Prop :=
  ∃ i m : Nat, vi = .int .i64 i ∧ vn = .int .i64 (cntPos F i : Nat) ∧ i ≤ N ∧ (∀ j, j < i → (0 < Ls.getD j 0 ↔ 0 < F.getD j 0) ∧ Ls.getD j 0 ≤ L) ∧ wr = w.drewN m
def ChJ (Ls : List Nat) (N : Nat) (w0 : World) (vi : Value) (wr : World) : Prop := ∃ i : Nat, vi = .int .i64 i ∧ i ≤ N ∧ (∀ j, j < i → Ls.getD j 0 ≤ 1) ∧ wr = w0
def ChRes (F Ls : List Nat) (L : Nat) (w : World) (e : Ending) (w' : World) : Prop := ∃ b : Bool, e = .returned (.bool b) ∧ (b = true ↔ Choice F Ls L) ∧ ∃ m, w' = w.drewN m
set_option maxHeartbeats 4000000 in
set_option maxRecDepth 100000 in
theorem lim_choice (F Ls : List Nat) (v lv : Value) (L : Nat) (w : World) (hv : ViewL w v (intsL F)) (hlv : ViewL w lv (u8s Ls)) (hN : F.length ≤ 2 ^ 20) (hl : Ls.length ≤ 2 ^ 50) (hb : ∀ x ∈ Ls, x < 256) (hL : L ≤ 17) :
    Calls Try.prog 13 #[v, lv, .int .i64 L] w (ChRes F Ls L w) := by
  have hcl := fun m (h : Ls.length ≤ 2 ^ 40) => kraft_classify lv Ls (w.drewN m) (hlv.ext ((Ext.refl w).drewN m)) h
  obtain ⟨ao, cap, rfl⟩ := hv.shape
  obtain ⟨lo, lc, rfl⟩ := hlv.shape
  rw [length_intsL] at hv ⊢
  rw [length_u8s] at hlv hcl ⊢
  obtain ⟨N, hNe⟩ : ∃ N, N = F.length := ⟨_, rfl⟩
  obtain ⟨M, hMe⟩ : ∃ M, M = Ls.length := ⟨_, rfl⟩
  rw [← hNe] at hv hN ⊢
  rw [← hMe] at hlv hl hcl ⊢
  have HN := Lib.hid (show N = F.length ∧ M = Ls.length ∧ N ≤ 2 ^ 20 ∧ (∀ x ∈ Ls, x < 256) ∧ L ≤ 17 from ⟨hNe, hMe, hN, hb, hL⟩)
  have hNz : (N : Int) < 4611686018427387904 := by omega
  have hMz : (M : Int) < 4611686018427387904 := by omega
  have HV := Lib.hid (show ∀ m j, j < N → ∃ b o, ao = some ⟨b, o, none⟩ ∧ (w.drewN m).cell? ⟨b, o + j, none⟩ = some (.int .i64 (F.getD j 0 : Nat)) from fun m j hj => by
    obtain ⟨b, o, rfl, _, hc⟩ := viewL_cells hv (by rw [length_intsL]; omega)
    exact ⟨b, o, rfl, hc j (.int .i64 (F.getD j 0 : Nat)) (by rw [hNe] at hj; simp [intsL, hj, List.getD])⟩)
  have HL := Lib.hid (show ∀ m j, j < M → ∃ b o, lo = some ⟨b, o, none⟩ ∧ (w.drewN m).cell? ⟨b, o + j, none⟩ = some (.int .u8 (Ls.getD j 0 : Nat)) from fun m j hj => by
    obtain ⟨b, o, rfl, _, hc⟩ := viewL_cells hlv (by rw [length_u8s]; omega)
    exact ⟨b, o, rfl, hc j (.int .u8 (Ls.getD j 0 : Nat)) (by
      have : j < Ls.length := by omega
      simp [u8s, this, List.getD])⟩)
  have HCL := Lib.hid hcl
  clear hv hlv hN hl hb hNe hMe hcl
  go_enter Try.func13, Try.ntmps13
  by_cases hMN : M = N
  · subst hMN
    go_wp2_with fail
    clear hNz hMz
    go_loopw [7, 8] (fun vn vi wr => ChI F Ls L M w vn vi wr) (fun _ vi _ => M - (intOf vi).toNat)
    case atStart => exact ⟨0, 0, by go_num, by simp [cntPos, symsUp], Nat.zero_le _, fun j h => by omega, rfl⟩
    case round =>
      obtain ⟨i, m, rfl, rfl, hiM, hall, hwr⟩ := hrel
      have HI := Lib.hid (show i ≤ M ∧ (∀ j, j < i → (0 < Ls.getD j 0 ↔ 0 < F.getD j 0) ∧ Ls.getD j 0 ≤ L) ∧ wr = w.drewN m from ⟨hiM, hall, hwr⟩)
      obtain ⟨q, hq⟩ : ∃ q, q = cntPos F i := ⟨_, rfl⟩
      rw [← hq]
      have hqb : q ≤ i := by rw [hq]; exact symsUp_len F i
      have HQ := Lib.hid (show q = cntPos F i ∧ q ≤ i from ⟨hq, hqb⟩)
      clear hiM hall hwr hq hqb
      by_cases hlt : i < M
      · have hltz : (i : Int) < (M : Int) := by omega
        obtain ⟨b, o, rfl, c1⟩ := HV.out m i hlt
        obtain ⟨b2, o2, rfl, c2⟩ := HL.out m i hlt
        obtain ⟨x, hx⟩ : ∃ x, x = F.getD i 0 := ⟨_, rfl⟩
        obtain ⟨y, hy⟩ : ∃ y, y = Ls.getD i 0 := ⟨_, rfl⟩
        rw [← hx, ← HI.out.2.2] at c1
        rw [← hy, ← HI.out.2.2] at c2
        have hyb : y < 256 := by rw [hy]; exact HN.out.2.2.2.1 _ (getD_mem (by have := HN.out.2.1; omega))
        have wy : IntKind.i64.wrap (y : Int) = (y : Int) := IntWalk.i64_in _ (by omega)
        obtain ⟨i1, hi1⟩ : ∃ i1, i1 = i + 1 := ⟨_, rfl⟩
        have wi : IntKind.i64.wrap ((i : Int) + 1) = (i1 : Int) := by rw [show (i : Int) + 1 = ((i1 : Nat) : Int) by omega]; exact IntWalk.i64_in _ (by have := HN.out; omega)
        obtain ⟨q1, hq1⟩ : ∃ q1, q1 = q + 1 := ⟨_, rfl⟩
        have wq : IntKind.i64.wrap ((q : Int) + 1) = (q1 : Int) := by rw [show (q : Int) + 1 = ((q1 : Nat) : Int) by omega]; exact IntWalk.i64_in _ (by have := HN.out; have := HQ.out; omega)
        have HX := Lib.hid (show x = F.getD i 0 ∧ y = Ls.getD i 0 ∧ i1 = i + 1 ∧ q1 = q + 1 ∧ i < M from ⟨hx, hy, hi1, hq1, hlt⟩)
        have HBAD := Lib.hid (show ∀ nq, (¬ ((0 < y ↔ 0 < x) ∧ y ≤ L)) → ChRes F Ls L w (.returned (.bool false)) (wr.drewN nq) from fun nq hn => ⟨false, rfl, ⟨fun h => (by cases h), fun h => (hn (by have := h.each i (by rw [← HN.out.1]; exact HX.out.2.2.2.2); rw [← HX.out.1, ← HX.out.2.1] at this; exact this)).elim⟩, m + nq, by rw [HI.out.2.2, World.drewN_drewN]⟩)
        have HGO := Lib.hid (show ∀ nq, (0 < y ↔ 0 < x) → y ≤ L → ChI F Ls L M w (.int .i64 ((q + (if 0 < x then 1 else 0) : Nat) : Int)) (.int .i64 i1) (wr.drewN nq) from fun nq h1 h2 => ⟨i1, m + nq, rfl, by rw [HX.out.2.2.1, cntPos_succ, ← HQ.out.1, ← HX.out.1], by have := HX.out; omega, fun j hj => by
          by_cases hji : j < i
          · exact HI.out.2.1 j hji
          · obtain rfl : j = i := by have := HX.out; omega
            rw [← HX.out.1, ← HX.out.2.1]; exact ⟨h1, h2⟩, by rw [HI.out.2.2, World.drewN_drewN]⟩)
        clear hx hy hi1 hq1 hlt hyb
        go_wp2_with fail
        by_cases hx0 : 0 < x
        · have hx0z : (0 : Int) < (x : Int) := by omega
          by_cases hy0 : 0 < y
          · have hy0z : (0 : Int) < (y : Int) := by omega
            by_cases hyL : L < y
            · have hyLz : (L : Int) < (y : Int) := by omega
              go_quiet (fail)
              go_wp2_with fail
              go_ret
              exact HBAD.out nq (fun h => by omega)
            · have hyLz : ¬ (L : Int) < (y : Int) := by omega
              have HG2 := Lib.hid (show ∀ nq, ChI F Ls L M w (.int .i64 q1) (.int .i64 i1) (wr.drewN nq) from fun nq => by
                have := HGO.out nq (by omega) (by omega)
                rw [if_pos hx0, ← HX.out.2.2.2.1] at this
                exact this)
              go_quiet (fail)
              go_wp2_with fail
              exact ⟨HG2.out nq, by simp [intOf]; have := HX.out; omega⟩
          · have hy0z : ¬ (0 : Int) < (y : Int) := by omega
            go_quiet (fail)
            go_wp2_with fail
            go_ret
            exact HBAD.out nq (fun h => by omega)
        · have hx0z : ¬ (0 : Int) < (x : Int) := by omega
          by_cases hy0 : 0 < y
          · have hy0z : (0 : Int) < (y : Int) := by omega
            go_quiet (fail)
            go_wp2_with fail
            go_ret
            exact HBAD.out nq (fun h => by omega)
          · have hy0z : ¬ (0 : Int) < (y : Int) := by omega
            have hyLn : ¬ L < y := by omega
            have hyLz : ¬ (L : Int) < (y : Int) := by omega
            have HG2 := Lib.hid (show ∀ nq, ChI F Ls L M w (.int .i64 q) (.int .i64 i1) (wr.drewN nq) from fun nq => by
              have := HGO.out nq (by omega) (by omega)
              rw [if_neg hx0, Nat.add_zero] at this
              exact this)
            go_quiet (fail)
            go_wp2_with fail
            exact ⟨HG2.out nq, by simp [intOf]; have := HX.out; omega⟩
      · have hltz : ¬ (i : Int) < (M : Int) := by omega
        have HIM := Lib.hid (show i = M from by have := HI.out.1; omega)
        have HALL := Lib.hid (show ∀ j, j < M → (0 < Ls.getD j 0 ↔ 0 < F.getD j 0) ∧ Ls.getD j 0 ≤ L from fun j hj => HI.out.2.1 j (by have := HIM.out; omega))
        have HQM := Lib.hid (show q = cntPos F F.length from by rw [HQ.out.1, HIM.out, HN.out.1])
        by_cases hq2 : q < 2
        · have hq2z : (q : Int) < 2 := by omega
          have HQ2 := Lib.hid hq2
          clear hq2
          go_wp2_with fail
          go_loopw [9] (fun vj wj => ChJ Ls M wr vj wj) (fun vj _ => M - (intOf vj).toNat)
          case atStart => exact ⟨0, by go_num, Nat.zero_le _, fun j h => by omega, rfl⟩
          case round =>
            obtain ⟨j, rfl, hjM, hone, rfl⟩ := hrel
            have HJ := Lib.hid (show j ≤ M ∧ (∀ k, k < j → Ls.getD k 0 ≤ 1) from ⟨hjM, hone⟩)
            clear hjM hone
            by_cases hlj : j < M
            · have hljz : (j : Int) < (M : Int) := by omega
              obtain ⟨b2, o2, rfl, c2⟩ := HL.out m j hlj
              obtain ⟨y, hy⟩ : ∃ y, y = Ls.getD j 0 := ⟨_, rfl⟩
              rw [← hy, ← HI.out.2.2] at c2
              obtain ⟨j1, hj1⟩ : ∃ j1, j1 = j + 1 := ⟨_, rfl⟩
              have wj : IntKind.i64.wrap ((j : Int) + 1) = (j1 : Int) := by rw [show (j : Int) + 1 = ((j1 : Nat) : Int) by omega]; exact IntWalk.i64_in _ (by have := HN.out; omega)
              have HX := Lib.hid (show y = Ls.getD j 0 ∧ j1 = j + 1 ∧ j < M from ⟨hy, hj1, hlj⟩)
              clear hy hj1 hlj
              by_cases hy1 : 1 < y
              · have hy1z : (1 : Int) < (y : Int) := by omega
                go_wp2_with fail
                go_ret
                exact ⟨false, rfl, ⟨fun h => (by cases h), fun h => by
                  have := h.few (by rw [← HQM.out]; exact HQ2.out) j (by rw [← HN.out.1]; exact HX.out.2.2)
                  rw [← HX.out.1] at this
                  omega⟩, m, HI.out.2.2⟩
              · have hy1z : ¬ (1 : Int) < (y : Int) := by omega
                go_wp2_with fail
                exact ⟨⟨j1, rfl, by have := HX.out; omega, fun k hk => by
                  by_cases hkj : k < j
                  · exact HJ.out.2 k hkj
                  · obtain rfl : k = j := by have := HX.out; omega
                    rw [← HX.out.1]; omega, rfl⟩, by simp [intOf]; have := HX.out; omega⟩
            · have hljz : ¬ (j : Int) < (M : Int) := by omega
              have HJM := Lib.hid (show j = M from by have := HJ.out.1; omega)
              go_wp2_with fail
              go_ret
              exact ⟨true, rfl, ⟨fun _ => ⟨by rw [← HN.out.1, ← HN.out.2.1], fun k hk => HALL.out k (by rw [HN.out.1]; exact hk), fun _ k hk => HJ.out.2 k (by rw [HJM.out, HN.out.1]; exact hk), fun h => by have := HQM.out; have := HQ2.out; omega⟩, fun _ => rfl⟩, m, HI.out.2.2⟩
        · have hq2z : ¬ (q : Int) < 2 := by omega
          have HQ2 := Lib.hid hq2
          clear hq2
          go_wp2_with fail
          have hc := HCL.out m (by have := HN.out.2.2.1; omega)
          rw [← HI.out.2.2] at hc
          refine hc.mono ?_
          rintro e w' ⟨h | h, rfl⟩
          · obtain ⟨hm, rfl⟩ := h
            obtain ⟨C, hC⟩ : ∃ C, C = classL Ls := ⟨_, rfl⟩
            rw [← hC]
            have HC := Lib.hid hC
            have HM := Lib.hid hm
            clear hC hm
            by_cases h2 : C = 2
            · subst h2
              go_wp2_with fail
              go_ret
              exact ⟨true, rfl, ⟨fun _ => ⟨by rw [← HN.out.1, ← HN.out.2.1], fun k hk => HALL.out k (by rw [HN.out.1]; exact hk), fun h => by have := HQM.out; have := HQ2.out; omega, fun _ => ⟨HM.out, (classL_full Ls).1 HC.out.symm⟩⟩, fun _ => rfl⟩, m, HI.out.2.2⟩
            · have h2z : ((C : Int) == 2) = false := by rw [beq_eq_false_iff_ne]; omega
              have H2 := Lib.hid h2
              clear h2
              go_wp2_with fail
              go_ret
              exact ⟨false, rfl, ⟨fun h => (by cases h), fun h => (H2.out (by rw [HC.out]; exact (classL_full Ls).2 (h.full (by have := HQM.out; have := HQ2.out; omega)).2)).elim⟩, m, HI.out.2.2⟩
          · obtain ⟨hm, rfl⟩ := h
            have HM := Lib.hid hm
            clear hm
            go_wp2_with fail
            go_ret
            exact ⟨false, rfl, ⟨fun h => (by cases h), fun h => (HM.out (h.full (by have := HQM.out; have := HQ2.out; omega)).1).elim⟩, m, HI.out.2.2⟩
  · have hMNz : ((M : Int) == (N : Int)) = false := by rw [beq_eq_false_iff_ne]; omega
    have HMN := Lib.hid hMN
    clear hMN hNz hMz
    go_wp2_with fail
    go_ret
    exact ⟨false, rfl, ⟨fun h => (by cases h), fun h => (HMN.out (by rw [HN.out.1, HN.out.2.1]; exact h.len)).elim⟩, 0, rfl⟩
end Go.Proofs.Ytblbggdglndiiaa
