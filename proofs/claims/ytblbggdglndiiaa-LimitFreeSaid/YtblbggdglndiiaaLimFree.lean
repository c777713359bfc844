/- pressworklaw05.LimitFree: its walk. -/
import Derived.Test.YtblbggdglndiiaaLimFreeLaw
import Derived.Test.YtblbggdglndiiaaLimTight
namespace Go.Proofs.Ytblbggdglndiiaa
open Go.RowKit
set_option linter.unusedVariables false

theorem wrapu32 {x : Int} (h : (Lit.int .u32 x).wf = true) : 0 ≤ x ∧ x ≤ 4294967295 := by
  simpa [Lit.wf, IntKind.min, IntKind.max, IntKind.signed, IntKind.bits] using h
def FrA (xs : List Int) (N : Nat) (w : World) (vf vl vi : Value) (wr : World) : Prop :=
  ∃ (i fc lc : Nat) (fa la : Option Addr) (F : List Nat), vi = .int .i64 i ∧ vf = .slice fa i fc ∧ vl = .slice la i lc ∧ i ≤ N ∧ F.length = i ∧ (∀ x ∈ F, 1 ≤ x ∧ x ≤ 2 ^ 33) ∧ Two w F F (.slice fa i fc) (.slice la i lc) wr
/-- a pass: the least of the first so many goes to their end. -/
def FrC (w : World) (F A0 S : List Nat) (z0 n m g c : Nat) (fv : Value) (vi : Value) (wr : World) : Prop :=
  ∃ (i : Nat) (A : List Nat) (z : Nat), vi = .int .i64 i ∧ i ≤ n ∧ A.length = n ∧ (A ++ [z]).Perm (A0 ++ [z0]) ∧ (∀ j, j < i → z ≤ A.getD j 0) ∧ Two w (A ++ z :: S) F (.slice (some ⟨g, 0, none⟩) m c) fv wr
theorem swap_list (A S : List Nat) (z i n : Nat) (hi : i < A.length) (hn : n = A.length) : ((A ++ z :: S).set i z).set n (A.getD i 0) = A.set i z ++ A.getD i 0 :: S := by
  subst hn
  rw [List.set_append_left _ _ hi, List.set_append_right _ _ (by rw [List.length_set]; exact Nat.le_refl _), List.length_set, Nat.sub_self, List.set_cons_zero]
theorem Two.cell {w wr : World} {T F : List Nat} {g c n : Nat} {fv : Value} (h : Two w T F (.slice (some ⟨g, 0, none⟩) n c) fv wr) (j : Nat) (hj : j < T.length) : wr.cell? ⟨g, j, none⟩ = some (.int .i64 (T.getD j 0 : Nat)) ∧ wr.frozen? ⟨g, j, none⟩ = false := by
  obtain ⟨og, ol, h1, _⟩ := h
  rcases h1.form with ⟨_, e, _⟩ | ⟨g', cap', cur, e1, e2, _⟩
  · cases e
  · cases e2
    subst e1
    exact ⟨h1.cell j _ (by simp [intsL, hj, List.getD]), h1.free j⟩
theorem Two.ptr {w wr : World} {T F : List Nat} {la : Option Addr} {c n : Nat} {fv : Value} (h : Two w T F (.slice la n c) fv wr) (h0 : 0 < n) : ∃ g, la = some ⟨g, 0, none⟩ := by
  obtain ⟨og, ol, h1, _⟩ := h
  rcases h1.form with ⟨_, e, h3, _⟩ | ⟨g', cap', cur, e1, e2, _⟩
  · cases e; omega
  · cases e2; exact ⟨g', rfl⟩
theorem Two.row {w wr : World} {T F : List Nat} {v fv : Value} {n : Nat} (h : Two w T F v fv wr) (hn : n = T.length) : wr.ownsRow 0 3 1 v n (intsL T) := by
  subst hn
  obtain ⟨og, ol, h1, _⟩ := h
  exact h1.1
theorem Two.shape {w wr : World} {T F : List Nat} {v fv : Value} {n : Nat} (h : Two w T F v fv wr) (hn : n = T.length) : ∃ a c, v = .slice a n c := by
  subst hn
  obtain ⟨og, ol, h1, _⟩ := h
  exact h1.shape
/-- what is left, and what was put together. -/
def FrB (w : World) (F : List Nat) (N S0 : Nat) (fv : Value) (vl vw : Value) (wr : World) : Prop :=
  ∃ (m lc want : Nat) (la : Option Addr) (T : List Nat), vl = .slice la m lc ∧ vw = .int .i64 want ∧ T.length = m ∧ 1 ≤ m ∧ m ≤ N ∧ T.sum = S0 ∧ want ≤ (N - m) * S0 ∧ HuffI F T want ∧ Two w T F (.slice la m lc) fv wr
/-- so many are at the end. -/
def EndO (t : Nat) (T : List Nat) : Prop := (t = 1 → ∃ R a, T = R ++ [a] ∧ ∀ x ∈ R, a ≤ x) ∧ (t = 2 → ∃ R b a, T = R ++ [b, a] ∧ a ≤ b ∧ ∀ x ∈ R, b ≤ x)
def FrD (w : World) (F T : List Nat) (m g c : Nat) (fv : Value) (vn : Value) (wr : World) : Prop :=
  ∃ (t : Nat) (T' : List Nat), vn = .int .i64 ((m : Int) - 1 - (t : Int)) ∧ t ≤ 2 ∧ T'.Perm T ∧ EndO t T' ∧ Two w T' F (.slice (some ⟨g, 0, none⟩) m c) fv wr
theorem split_at (T : List Nat) (n : Nat) (h : n < T.length) : T = T.take n ++ T.getD n 0 :: T.drop (n + 1) := by
  conv => lhs; rw [← List.take_append_drop n T, drop_getD T n h]
theorem mem_sum {x : Nat} : ∀ {T : List Nat}, x ∈ T → x ≤ T.sum
  | y :: T, h => by
    rw [List.sum_cons]
    rcases List.mem_cons.1 h with rfl | h
    · omega
    · have := mem_sum h; omega
theorem sum_le {M : Nat} : ∀ {X : List Nat}, (∀ x ∈ X, x ≤ M) → X.sum ≤ X.length * M
  | [], _ => by simp
  | y :: X, h => by
    have h1 := h y (List.mem_cons_self ..)
    have h2 := sum_le (X := X) (fun x hx => h x (List.mem_cons_of_mem _ hx))
    rw [List.sum_cons, List.length_cons, Nat.add_mul, Nat.one_mul]
    omega
theorem end_more {t : Nat} {A S A0 : List Nat} {z z0 : Nat} (ht : t ≤ 1) (h : EndO t (A0 ++ z0 :: S)) (hS : S.length = t) (hp : (A ++ [z]).Perm (A0 ++ [z0])) (hz : ∀ x ∈ A, z ≤ x) : EndO (t + 1) (A ++ z :: S) := by
  rcases Nat.lt_or_ge t 1 with h0 | h1
  · obtain rfl : t = 0 := by omega
    have : S = [] := List.eq_nil_of_length_eq_zero hS
    subst this
    exact ⟨fun _ => ⟨A, z, rfl, hz⟩, fun e => by omega⟩
  · obtain rfl : t = 1 := by omega
    obtain ⟨a, rfl⟩ := List.length_eq_one_iff.1 hS
    refine ⟨fun e => by omega, fun _ => ⟨A, z, a, by simp, ?_, hz⟩⟩
    obtain ⟨R, a', e, ha⟩ := h.1 rfl
    have e2 : (A0 ++ [z0]) ++ [a] = R ++ [a'] := by rw [← e]; simp
    obtain ⟨e3, e4⟩ := List.append_inj' e2 rfl
    cases e4
    exact ha z (by rw [← e3]; exact hp.mem_iff.1 (by simp))
set_option maxHeartbeats 8000000 in
set_option maxRecDepth 100000 in
theorem lim_free (v : Value) (xs : List Int) (w : World) (hv : ViewL w v (kints .u32 xs) ∧ xs.length ≤ 140737488351232) (hwf : ∀ x ∈ xs, (Lit.int .u32 x).wf = true) :
    Calls Try.prog 3 #[v] w fun e w' => e = .returned (.bool true) ∧ Ext w w' := by
  obtain ⟨hv, hxl⟩ := hv
  obtain ⟨ao, cap, rfl⟩ := hv.shape
  rw [length_kints] at hv ⊢
  obtain ⟨N, hN⟩ : ∃ N, N = xs.length := ⟨_, rfl⟩
  rw [← hN] at hv hxl ⊢
  have hNz : (N : Int) < 4611686018427387904 := by omega
  have HC := Lib.hid (show ∀ wr, Ext w wr → ∀ j, j < N → ∃ b o x, ao = some ⟨b, o, none⟩ ∧ x < 4294967296 ∧ wr.cell? ⟨b, o + j, none⟩ = some (.int .u32 ((x : Nat) : Int)) from fun wr hx j hj => by
    obtain ⟨b, o, rfl, _, hc⟩ := viewL_cells hv (by rw [length_kints]; omega)
    have hjl : j < xs.length := by omega
    have hw := wrapu32 (hwf _ (List.getElem_mem hjl))
    refine ⟨b, o, (xs[j]).toNat, rfl, by omega, ?_⟩
    rw [show (((xs[j]).toNat : Nat) : Int) = xs[j] by omega]
    exact cell_touch hx (hc j _ (getElem?_kints .u32 xs j hjl)) (fun f => f))
  clear hv hwf hN
  go_enter Try.func3, Try.ntmps3
  by_cases hl2 : N < 2
  · have hz : (N : Int) < 2 := by omega
    go_wp2_with fail
    refine (lim_picks w).mono ?_
    rintro e w' ⟨rfl, hx⟩
    have HX := Lib.hid hx
    clear hx
    go_wp2_with fail
    go_ret
    exact ⟨rfl, HX.out⟩
  · have hz : ¬ (N : Int) < 2 := by omega
    by_cases hl17 : 17 < N
    · have hz2 : (17 : Int) < (N : Int) := by omega
      go_wp2_with fail
      refine (lim_picks w).mono ?_
      rintro e w' ⟨rfl, hx⟩
      have HX := Lib.hid hx
      clear hx
      go_wp2_with fail
      go_ret
      exact ⟨rfl, HX.out⟩
    · have hz2 : ¬ (17 : Int) < (N : Int) := by omega
      have HN := Lib.hid (show 2 ≤ N ∧ N ≤ 17 from by omega)
      obtain ⟨i0, hi, hz0, hz1, hz2'⟩ := info_parts info_int
      go_wp2_with fail
      clear hz hz2 hl2 hl17 hxl
      go_loopw [3, 4, 5] (fun vf vl vi wr => FrA xs N w vf vl vi wr) (fun _ _ vi _ => N - (intOf vi).toNat)
      case atStart => exact ⟨0, 0, 0, none, none, [], by go_num, rfl, rfl, Nat.zero_le _, rfl, fun x h => (by cases h), Two.nil w⟩
      case round =>
        obtain ⟨i, fc, lc, fa, la, F, rfl, rfl, rfl, hiN, hFl, hFb, htwo⟩ := hrel
        have HI := Lib.hid (show i ≤ N ∧ F.length = i ∧ (∀ x ∈ F, 1 ≤ x ∧ x ≤ 2 ^ 33) ∧ Two w F F (.slice fa i fc) (.slice la i lc) wr from ⟨hiN, hFl, hFb, htwo⟩)
        clear hiN hFl hFb htwo
        by_cases hlt : i < N
        · have hltz : (i : Int) < (N : Int) := by omega
          obtain ⟨b, o, x, rfl, hx, c1⟩ := HC.out wr HI.out.2.2.2.toExt i hlt
          obtain ⟨x1, hx1⟩ : ∃ x1, x1 = 1 + x := ⟨_, rfl⟩
          have wx0 : IntKind.i64.wrap (x : Int) = (x : Int) := IntWalk.i64_in _ (by omega)
          have wx : IntKind.i64.wrap (1 + (x : Int)) = (x1 : Int) := by rw [show 1 + (x : Int) = ((x1 : Nat) : Int) by omega]; exact IntWalk.i64_in _ (by omega)
          obtain ⟨i1, hi1⟩ : ∃ i1, i1 = i + 1 := ⟨_, rfl⟩
          have wi : IntKind.i64.wrap ((i : Int) + 1) = (i1 : Int) := by rw [show (i : Int) + 1 = ((i1 : Nat) : Int) by omega]; exact IntWalk.i64_in _ (by have := HN.out; omega)
          have HLT := Lib.hid (show i1 = i + 1 ∧ i < N ∧ 1 ≤ x1 ∧ x1 ≤ 2 ^ 33 from by omega)
          have hlen : i + 1 ≤ 1024 := by have := HN.out; omega
          have HOF := Lib.hid (HI.out.2.2.2.row HI.out.2.1.symm)
          clear hx hx1 hi1 hlt
          go_wp2_with (at_builtin; go_must (refine wpList_append_own_at _ rfl (.tmp 28) (.tmp 35) 24 rfl 0 3 i0 (.int .i64 0) 1 8 Try.underlying24 hi hz0 hz1 hz2' rfl (by decide) _ i (intsL F) rfl (HOF.out.alloc _) ⟨wr.heap.size, 0, none⟩ 1 1 [.int .i64 x1] rfl rfl (news _ _ _ _) (by simp [Value.oneCell']) (by unfold maxLen; omega) (by omega) (Nat.zero_le _) ?_))
          intro v' w5 hown' hgrow _ hat
          have h5 := HI.out.2.2.2.put (F' := F ++ [x1]) (v' := v') (w2 := w5) (by rw [intsL_append, List.length_append, HI.out.2.1]; exact hown') hgrow hat
          obtain ⟨a5, c5, rfl⟩ := h5.shape (n := i1) (by rw [List.length_append, HI.out.2.1, HLT.out.1]; rfl)
          have H5 := Lib.hid h5
          have c2 : w5.cell? ⟨b, o + i, none⟩ = some (.int .u32 (x : Int)) := by
            obtain ⟨b', o', y, e1, _, hc⟩ := HC.out w5 h5.toExt i HLT.out.2.1
            cases e1
            have hE : Ext w wr := HI.out.2.2.2.toExt
            obtain ⟨b3, o3, y3, e3, _, hc3⟩ := HC.out w (Ext.refl w) i HLT.out.2.1
            cases e3
            have k1 := cell_touch hE hc3 (fun f => f)
            have k2 := cell_touch h5.toExt hc3 (fun f => f)
            rw [c1] at k1
            cases k1
            exact k2
          have HOL := Lib.hid (H5.out.swap.row HI.out.2.1.symm)
          clear hown' hgrow hat h5 c1
          go_wp2_with (at_builtin; go_must (refine wpList_append_own_at _ rfl (.tmp 37) (.tmp 44) 24 rfl 0 3 i0 (.int .i64 0) 1 8 Try.underlying24 hi hz0 hz1 hz2' rfl (by decide) _ i (intsL F) rfl (HOL.out.alloc _) ⟨w5.heap.size, 0, none⟩ 1 1 [.int .i64 x1] rfl rfl (news _ _ _ _) (by simp [Value.oneCell']) (by unfold maxLen; omega) (by omega) (Nat.zero_le _) ?_))
          intro v' w6 hown' hgrow _ hat
          have h6 := H5.out.swap.put (F' := F ++ [x1]) (v' := v') (w2 := w6) (by rw [intsL_append, List.length_append, HI.out.2.1]; exact hown') hgrow hat
          obtain ⟨a6, c6, rfl⟩ := h6.shape (n := i1) (by rw [List.length_append, HI.out.2.1, HLT.out.1]; rfl)
          have H6 := Lib.hid h6
          clear hown' hgrow hat h6 hlen c2 wx0 wx
          go_wp2_with fail
          refine ⟨⟨i1, c5, c6, a5, a6, F ++ [x1], rfl, rfl, rfl, by have := HLT.out; omega, by rw [List.length_append, HI.out.2.1, HLT.out.1]; rfl, fun y hy => ?_, H6.out.swap⟩, by simp [intOf]; have := HLT.out; omega⟩
          rcases List.mem_append.1 hy with h | h
          · exact HI.out.2.2.1 y h
          · rw [List.mem_singleton.1 h]; exact HLT.out.2.2
        · have hltz : ¬ (i : Int) < (N : Int) := by omega
          have HIN := Lib.hid (show i = N from by have := HI.out.1; omega)
          obtain ⟨S0, hS0⟩ : ∃ S0, S0 = F.sum := ⟨_, rfl⟩
          have hsb : S0 ≤ 17 * 2 ^ 33 := by
            rw [hS0]
            exact Nat.le_trans (sum_le (fun x hx => (HI.out.2.2.1 x hx).2)) (Nat.mul_le_mul_right _ (by rw [HI.out.2.1, HIN.out]; exact HN.out.2))
          have HS0 := Lib.hid (show S0 = F.sum ∧ S0 ≤ 17 * 2 ^ 33 from ⟨hS0, hsb⟩)
          have HST := Lib.hid (show FrB w F N S0 (.slice fa i fc) (.slice la i lc) (.int .i64 ((0 : Nat) : Int)) wr from ⟨i, lc, 0, la, F, rfl, rfl, HI.out.2.1, by have := HN.out; have := HIN.out; omega, by have := HIN.out; omega, hS0.symm, Nat.zero_le _, HuffI.start F, HI.out.2.2.2.swap⟩)
          clear hS0 hsb hlt
          go_wp2_with fail
          clear hltz
          go_loopw [4, 6] (fun vl vw wr => FrB w F N S0 (.slice fa i fc) vl vw wr) (fun vl _ _ => match vl with | .slice _ m _ => m | _ => 0)
          case atStart => exact HST.out
          case round =>
            obtain ⟨m, lc2, want, la2, T, rfl, rfl, hTm, hm1, hmN, hTS, hwant, hhuff, htwo⟩ := hrel
            have HT := Lib.hid (show T.length = m ∧ 1 ≤ m ∧ m ≤ N ∧ T.sum = S0 ∧ want ≤ (N - m) * S0 ∧ HuffI F T want ∧ Two w T F (.slice la2 m lc2) (.slice fa i fc) wr from ⟨hTm, hm1, hmN, hTS, hwant, hhuff, htwo⟩)
            obtain ⟨g, rfl⟩ := htwo.ptr hm1
            clear hTm hm1 hmN hTS hwant hhuff htwo
            by_cases hm : 1 < m
            · have hmz : (1 : Int) < (m : Int) := by omega
              have HM := Lib.hid hm
              have wm1 : IntKind.i64.wrap ((m : Int) - 1) = (m : Int) - 1 - ((0 : Nat) : Int) := by rw [IntWalk.i64_in ((m : Int) - 1) (by have := HT.out; have := HN.out; omega)]; omega
              obtain ⟨q2, hq2⟩ : ∃ q2, q2 = m - 2 := ⟨_, rfl⟩
              have wm2 : IntKind.i64.wrap ((m : Int) - 2) = (q2 : Int) := by rw [show (m : Int) - 2 = ((q2 : Nat) : Int) by omega]; exact IntWalk.i64_in _ (by have := HT.out; have := HN.out; omega)
              have HQ2 := Lib.hid hq2
              clear hm hq2
              go_wp2_with fail
              clear hmz wm1
              go_loopw [7] (fun vn wr => FrD w F T m g lc2 (.slice fa i fc) vn wr) (fun vn _ => match vn with | .int _ q => (q + 3).toNat | _ => 0)
              case atStart => exact ⟨0, T, by first | rfl | (congr 1; omega), Nat.zero_le _, List.Perm.refl _, ⟨fun e => by omega, fun e => by omega⟩, HT.out.2.2.2.2.2.2⟩
              case round =>
                obtain ⟨t, T', rfl, ht2, hperm, hend, htwo⟩ := hrel
                have HD := Lib.hid (show t ≤ 2 ∧ T'.Perm T ∧ EndO t T' ∧ Two w T' F (.slice (some ⟨g, 0, none⟩) m lc2) (.slice fa i fc) wr ∧ T'.length = m from ⟨ht2, hperm, hend, htwo, by rw [hperm.length_eq]; exact HT.out.1⟩)
                clear ht2 hperm hend htwo
                by_cases ht : t ≤ 1
                · obtain ⟨n, hn⟩ : ∃ n, n = m - 1 - t := ⟨_, rfl⟩
                  have hnz : (m : Int) - 1 - (t : Int) = (n : Int) := by have := HM.out; omega
                  rw [hnz]
                  have hq : (q2 : Int) ≤ (n : Int) := by have := HQ2.out; have := HM.out; omega
                  have hnm : n < m := by have := HM.out; omega
                  have wn : IntKind.i64.wrap ((n : Int) - 1) = (m : Int) - 1 - ((t + 1 : Nat) : Int) := by rw [IntWalk.i64_in ((n : Int) - 1) (by have := HT.out; have := HN.out; omega)]; omega
                  obtain ⟨A0, hA0⟩ : ∃ A0, A0 = T'.take n := ⟨_, rfl⟩
                  obtain ⟨z0, hz0e⟩ : ∃ z0, z0 = T'.getD n 0 := ⟨_, rfl⟩
                  obtain ⟨S, hSe⟩ : ∃ S, S = T'.drop (n + 1) := ⟨_, rfl⟩
                  have hsp : T' = A0 ++ z0 :: S := by rw [hA0, hz0e, hSe]; exact split_at T' n (by rw [HD.out.2.2.2.2]; exact hnm)
                  have HSP := Lib.hid (show T' = A0 ++ z0 :: S ∧ A0.length = n ∧ S.length = t ∧ n < m ∧ t ≤ 1 ∧ n = m - 1 - t from ⟨hsp, by rw [hA0, List.length_take, HD.out.2.2.2.2]; omega, by rw [hSe, List.length_drop, HD.out.2.2.2.2]; have := HM.out; omega, hnm, ht, hn⟩)
                  clear hn hnz hnm hA0 hz0e hSe hsp ht
                  go_wp2_with fail
                  clear hq
                  go_loopw [8] (fun vi wr => FrC w F A0 S z0 n m g lc2 (.slice fa i fc) vi wr) (fun vi _ => n - (intOf vi).toNat)
                  case atStart => exact ⟨0, A0, z0, by go_num, Nat.zero_le _, HSP.out.2.1, List.Perm.refl _, fun j h => by omega, by rw [← HSP.out.1]; exact HD.out.2.2.2.1⟩
                  case round =>
                    obtain ⟨i2, A, z, rfl, hin, hAl, hpm, hmin, htwo⟩ := hrel
                    have HE := Lib.hid (show i2 ≤ n ∧ A.length = n ∧ (A ++ [z]).Perm (A0 ++ [z0]) ∧ (∀ j, j < i2 → z ≤ A.getD j 0) ∧ Two w (A ++ z :: S) F (.slice (some ⟨g, 0, none⟩) m lc2) (.slice fa i fc) wr from ⟨hin, hAl, hpm, hmin, htwo⟩)
                    clear hin hAl hpm hmin htwo
                    by_cases hlt : i2 < n
                    · have hltz : (i2 : Int) < (n : Int) := by omega
                      have hTl : (A ++ z :: S).length = m := by rw [List.length_append, List.length_cons, HE.out.2.1, HSP.out.2.2.1]; have := HSP.out; have := HM.out; omega
                      obtain ⟨x, hx⟩ : ∃ x, x = A.getD i2 0 := ⟨_, rfl⟩
                      have hgi : (A ++ z :: S).getD i2 0 = x := by
                        rw [hx, List.getD_eq_getElem?_getD, List.getElem?_append_left (by rw [HE.out.2.1]; exact hlt), ← List.getD_eq_getElem?_getD]
                      have hgn : (A ++ z :: S).getD n 0 = z := getD_mid _ _ _ _ HE.out.2.1.symm
                      obtain ⟨c1, f1⟩ := HE.out.2.2.2.2.cell i2 (by rw [hTl]; have := HSP.out; omega)
                      obtain ⟨c2, f2⟩ := HE.out.2.2.2.2.cell n (by rw [hTl]; have := HSP.out; omega)
                      rw [hgi] at c1
                      rw [hgn] at c2
                      have b1 : (i2 : Int) < (m : Int) := by have := HSP.out; omega
                      have b2 : (n : Int) < (m : Int) := by have := HSP.out; omega
                      obtain ⟨i3, hi3⟩ : ∃ i3, i3 = i2 + 1 := ⟨_, rfl⟩
                      have wi3 : IntKind.i64.wrap ((i2 : Int) + 1) = (i3 : Int) := by rw [show (i2 : Int) + 1 = ((i3 : Nat) : Int) by omega]; exact IntWalk.i64_in _ (by have := HT.out; have := HN.out; omega)
                      have HF2 := Lib.hid (show i3 = i2 + 1 ∧ i2 < n ∧ x = A.getD i2 0 ∧ (A ++ z :: S).length = m from ⟨hi3, hlt, hx, hTl⟩)
                      have n1 : ¬ i2 = n := by omega
                      have n2 : ¬ n = i2 := by omega
                      clear hTl hx hgi hgn hi3 hlt
                      by_cases hxz : x < z
                      · have hxzz : (x : Int) < (z : Int) := by omega
                        have HXZ := Lib.hid hxz
                        go_wp2_with fail
                        go_quiet (fail)
                        go_wp2_with fail
                        have c1' : (wr.drewN nq).cell? ⟨g, i2, none⟩ = some (.int .i64 x) := c1
                        have c2' : (wr.drewN nq).cell? ⟨g, n, none⟩ = some (.int .i64 z) := c2
                        have f1' : (wr.drewN nq).frozen? ⟨g, i2, none⟩ = false := f1
                        have f2' : (wr.drewN nq).frozen? ⟨g, n, none⟩ = false := f2
                        have hd := HE.out.2.2.2.2.drewN nq
                        clear c1 c2 f1 f2
                        generalize wr.drewN nq = wq at c1' c2' f1' f2' hd ⊢
                        have HDW := Lib.hid hd
                        clear hd
                        go_big_region
                        all_goals go_wp2
                        obtain ⟨e1, e2, e3, e4, e5⟩ := HE.out
                        obtain ⟨k1, k2, k3, k4⟩ := HF2.out
                        obtain ⟨p1, p2⟩ := pass_step (A := A) (z := z) (i := i2) (by rw [e2]; exact k2) e4 (by rw [← k3]; exact HXZ.out)
                        have hset := HDW.out.set2 (i := i2) (j := n) (x := z) (y := x) (by rw [k4]; have := HSP.out; omega) (by rw [k4]; exact HSP.out.2.2.2.1)
                        rw [k3, swap_list A S z i2 n (by rw [e2]; exact k2) e2.symm, ← k3] at hset
                        rw [← k3] at p1 p2
                        exact ⟨⟨i3, A.set i2 z, x, rfl, by omega, by rw [List.length_set]; exact e2, p1.trans e3, by rw [k1]; exact p2, hset⟩, by simp [intOf]; omega⟩
                      · have hxzz : ¬ (x : Int) < (z : Int) := by omega
                        have HXZ := Lib.hid hxz
                        go_wp2_with fail
                        go_quiet (fail)
                        go_wp2_with fail
                        obtain ⟨e1, e2, e3, e4, e5⟩ := HE.out
                        obtain ⟨k1, k2, k3, k4⟩ := HF2.out
                        refine ⟨⟨i3, A, z, rfl, by omega, e2, e3, fun j hj => ?_, e5.drewN nq⟩, by simp [intOf]; omega⟩
                        by_cases hji : j < i2
                        · exact e4 j hji
                        · obtain rfl : j = i2 := by omega
                          rw [← k3]; have := HXZ.out; omega
                    · have hltz : ¬ (i2 : Int) < (n : Int) := by omega
                      have HIN2 := Lib.hid (show i2 = n from by have := HE.out.1; omega)
                      clear hlt
                      go_wp2_with fail
                      obtain ⟨e1, e2, e3, e4, e5⟩ := HE.out
                      obtain ⟨s1, s2, s3, s4, s5, s6⟩ := HSP.out
                      have hpend := pass_end (A := A) (z := z) (fun j hj => e4 j (by rw [HIN2.out, ← e2]; exact hj))
                      refine ⟨⟨t + 1, A ++ z :: S, by first | rfl | (congr 1; omega), by omega, ?_, end_more s5 (by rw [← s1]; exact HD.out.2.2.1) s3 e3 hpend, e5⟩, ?_⟩
                      · refine List.Perm.trans ?_ HD.out.2.1
                        rw [s1, show A ++ z :: S = (A ++ [z]) ++ S by simp, show A0 ++ z0 :: S = (A0 ++ [z0]) ++ S by simp]
                        exact e3.append_right S
                      · simp; have := HM.out; omega
                · have htt : t = 2 := by have := HD.out.1; omega
                  subst htt
                  obtain ⟨R, b, a, hRe, hab, hbR⟩ := HD.out.2.2.1.2 rfl
                  have hRl : R.length = q2 := by have := HD.out.2.2.2.2; rw [hRe] at this; simp at this; have := HQ2.out; omega
                  obtain ⟨m1, hm1⟩ : ∃ m1, m1 = m - 1 := ⟨_, rfl⟩
                  have hg1 : T'.getD m1 0 = a := by
                    rw [hRe, show R ++ [b, a] = (R ++ [b]) ++ a :: [] by simp]
                    exact getD_mid _ _ _ _ (by simp; have := HQ2.out; have := HM.out; omega)
                  have hg2 : T'.getD q2 0 = b := by
                    rw [hRe]; exact getD_mid _ _ _ _ hRl.symm
                  obtain ⟨c1, _⟩ := HD.out.2.2.2.1.cell m1 (by rw [HD.out.2.2.2.2]; have := HM.out; omega)
                  obtain ⟨c2, _⟩ := HD.out.2.2.2.1.cell q2 (by rw [HD.out.2.2.2.2]; have := HM.out; have := HQ2.out; omega)
                  rw [hg1] at c1
                  rw [hg2] at c2
                  have hsum : R.sum + (b + a) = S0 := by
                    have h := HD.out.2.1.sum_nat
                    rw [hRe, HT.out.2.2.2.1] at h
                    simp at h; omega
                  have wmm : IntKind.i64.wrap ((m : Int) - 1) = (m1 : Int) := by rw [show (m : Int) - 1 = ((m1 : Nat) : Int) by have := HM.out; omega]; exact IntWalk.i64_in _ (by have := HT.out; have := HN.out; omega)
                  have b1 : (m1 : Int) < (m : Int) := by have := HM.out; omega
                  have b2 : (q2 : Int) < (m : Int) := by have := HQ2.out; have := HM.out; omega
                  obtain ⟨both, hboth⟩ : ∃ both, both = a + b := ⟨_, rfl⟩
                  have hbb : both ≤ 17 * 2 ^ 33 := by have := HS0.out.2; omega
                  have hwb : want ≤ 17 * (17 * 2 ^ 33) := by
                    refine Nat.le_trans HT.out.2.2.2.2.1 (Nat.mul_le_mul ?_ HS0.out.2)
                    have := HN.out; omega
                  have hnum : 17 * (17 * 2 ^ 33) ≤ 2 ^ 50 ∧ 17 * 2 ^ 33 ≤ 2 ^ 50 := by decide
                  have wb : IntKind.i64.wrap ((a : Int) + (b : Int)) = (both : Int) := by rw [show (a : Int) + (b : Int) = ((both : Nat) : Int) by omega]; exact IntWalk.i64_in _ (by omega)
                  obtain ⟨wt2, hwt2⟩ : ∃ wt2, wt2 = want + both := ⟨_, rfl⟩
                  have ww : IntKind.i64.wrap ((want : Int) + (both : Int)) = (wt2 : Int) := by rw [show (want : Int) + (both : Int) = ((wt2 : Nat) : Int) by omega]; exact IntWalk.i64_in _ (by omega)
                  have hcap : m ≤ lc2 := by
                    obtain ⟨og, ol, o1, _⟩ := HD.out.2.2.2.1
                    obtain ⟨ao', cap', e, hh, _⟩ := o1.viewL
                    rw [length_intsL, HD.out.2.2.2.2] at hh
                    cases e; exact hh
                  have hqc : (q2 : Int) ≤ (lc2 : Int) := by omega
                  obtain ⟨n3, hn3⟩ : ∃ n3 : Int, n3 = (m : Int) - 1 - ((2 : Nat) : Int) := ⟨_, rfl⟩
                  rw [← hn3]
                  have hnq : ¬ (q2 : Int) ≤ n3 := by have := HQ2.out; have := HM.out; omega
                  clear hn3
                  have hrow := owns_head (T := T') (HD.out.2.2.2.1.row HD.out.2.2.2.2.symm) (show q2 ≤ m by have := HQ2.out; omega)
                  rw [show T'.take q2 = R by rw [hRe, ← hRl]; simp] at hrow
                  have HROW := Lib.hid hrow
                  have HRR := Lib.hid (show T' = R ++ [b, a] ∧ a ≤ b ∧ (∀ x ∈ R, b ≤ x) ∧ R.length = q2 ∧ both = a + b ∧ wt2 = want + both ∧ R.sum + (b + a) = S0 ∧ both ≤ S0 from ⟨hRe, hab, hbR, hRl, hboth, hwt2, hsum, by omega⟩)
                  have hlen : q2 + 1 ≤ 1024 := by have := HT.out; have := HN.out; have := HQ2.out; omega
                  clear hRe hab hbR hRl hm1 hg1 hg2 hsum hboth hbb hwb hnum hwt2 hcap hrow ht
                  go_wp2_with fail
                  go_quiet (fail)
                  go_wp2_with (at_builtin; go_must (refine wpList_append_own_at _ rfl (.tmp 106) (.tmp 108) 24 rfl 0 3 i0 (.int .i64 0) 1 8 Try.underlying24 hi hz0 hz1 hz2' rfl (by decide) _ q2 (intsL R) rfl ((show (wr.drewN nq).ownsRow 0 3 1 (.slice (some ⟨g, 0, none⟩) q2 lc2) q2 (intsL R) from HROW.out).alloc _) ⟨(wr.drewN nq).heap.size, 0, none⟩ 1 1 [.int .i64 both] rfl rfl (news _ _ _ _) (by simp [Value.oneCell']) (by unfold maxLen; omega) (by omega) (Nat.zero_le _) ?_))
                  intro v' w5 hown' hgrow _ hat
                  obtain ⟨r1, r2, r3, r4, r5, r6, r7, r8⟩ := HRR.out
                  have h5 := (HD.out.2.2.2.1.drewN nq).put (F' := R ++ [both]) (v' := v') (w2 := w5) (by rw [intsL_append, List.length_append, r4]; exact hown') hgrow hat
                  obtain ⟨a5, c5, rfl⟩ := h5.shape (n := q2 + 1) (by rw [List.length_append, r4]; rfl)
                  have HFB := Lib.hid (show FrB w F N S0 (.slice fa i fc) (.slice a5 (q2 + 1) c5) (.int .i64 wt2) w5 from by
                    have hq := HQ2.out
                    have hmm := HM.out
                    obtain ⟨t1, t2, t3, t4, t5, t6, t7⟩ := HT.out
                    refine ⟨q2 + 1, c5, wt2, a5, R ++ [both], rfl, rfl, by rw [List.length_append, r4]; rfl, by omega, by omega, by rw [List.sum_append, List.sum_singleton]; omega, ?_, ?_, h5⟩
                    · have e : N - (q2 + 1) = (N - m) + 1 := by omega
                      rw [e, Nat.add_mul, Nat.one_mul, r6]
                      omega
                    · have := t6.step (R := R) (a := a) (b := b) (by rw [← r1]; exact HD.out.2.1) r2 r3
                      rw [r6, r5, Nat.add_comm a b]
                      exact this)
                  clear hown' hgrow hat h5 r1 r2 r3 r4 r5 r6 r7 r8 hlen wmm wb ww b1 b2 c1 c2 hqc hnq wm2
                  go_wp2_with fail
                  exact ⟨HFB.out, by have := HQ2.out; have := HM.out; simp; omega⟩
            · have hmz : ¬ (1 : Int) < (m : Int) := by omega
              have hT1 : ∃ x, T = [x] := List.length_eq_one_iff.1 (by have := HT.out; omega)
              obtain ⟨P, hP⟩ := ord_exists F
              have hFN : F.length = N := by rw [HI.out.2.1, HIN.out]
              have hPl := all_pos hP (fun x hx => (HI.out.2.2.1 x hx).1)
              have HPO := Lib.hid hP
              have hcost : costF F (lenP F P (17 - 1)) = want := by
                obtain ⟨x, hx⟩ := hT1
                have h := HT.out.2.2.2.2.2.1
                rw [hx] at h
                exact free_sum hP (fun x hx => (HI.out.2.2.1 x hx).1) (by rw [hFN]; exact HN.out.1) (by rw [hFN]; exact HN.out.2) h.done
              have hvf : ViewL wr (.slice fa i fc) (intsL F) := HT.out.2.2.2.2.2.2.swap.view
              have hlen := lim_len (.slice fa i fc) F P 17 wr hvf (by decide) (by decide) (by rw [hFN]; have := HN.out; omega) (fun x hx => by have := (HI.out.2.2.1 x hx).2; omega) hP (by rw [hPl, hFN]; have := HN.out; omega)
              have HL := Lib.hid hlen
              have HVF := Lib.hid hvf
              have HX := Lib.hid HT.out.2.2.2.2.2.2.toExt
              have HCO := Lib.hid (show costF F (lenP F P (17 - 1)) = want ∧ F.length = N from ⟨hcost, hFN⟩)
              clear hT1 hP hPl hcost hvf hlen hFN hm
              go_wp2_with fail
              refine Calls.mono HL.out ?_
              rintro e w4 ⟨ov, rfl, hbo⟩
              have HBO := Lib.hid hbo
              have hs := lim_sum F (lensP F P (17 - 1)) (.slice fa i fc) ov w4 (HVF.out.ext hbo.toExt) hbo.viewL (fun z hz => by have := (HI.out.2.2.1 z hz).2; omega) (fun z hz => by have := lensP_le F P (17 - 1) z hz; omega) (by rw [HCO.out.2]; have := HN.out; omega) (lensP_len F P (17 - 1))
              rw [sumTo_cost, HCO.out.1] at hs
              have HSU := Lib.hid hs
              clear hbo hs HL
              go_wp2_with fail
              refine Calls.mono HSU.out ?_
              rintro e w5 ⟨rfl, hx5⟩
              have HX5 := Lib.hid hx5
              clear hx5 HSU
              go_wp2_with fail
              refine (lim_picks w5).mono ?_
              rintro e w6 ⟨rfl, hx6⟩
              have HX6 := Lib.hid hx6
              clear hx6
              go_wp2_with fail
              go_ret
              exact ⟨rfl, HX.out.trans (HBO.out.toExt.trans (HX5.out.trans HX6.out))⟩
end Go.Proofs.Ytblbggdglndiiaa
