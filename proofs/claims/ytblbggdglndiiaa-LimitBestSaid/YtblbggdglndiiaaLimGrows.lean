/- pressworklaw05.LimitGrows: its walk. -/
import Derived.Test.YtblbggdglndiiaaLimGrowsLaw
namespace Go.Proofs.Ytblbggdglndiiaa
open Go.RowKit
set_option linter.unusedVariables false

theorem wrapi64 {x : Int} (h : (Lit.int .i64 x).wf = true) : -9223372036854775808 ≤ x ∧ x ≤ 9223372036854775807 := by
  simpa [Lit.wf, IntKind.min, IntKind.max, IntKind.signed, IntKind.bits] using h
def GrI (xs : List Int) (N : Nat) (w : World) (vi : Value) (wr : World) : Prop := ∃ i : Nat, vi = .int .i64 i ∧ i ≤ N ∧ wr = w ∧ ∀ j, j < i → xs.getD j 0 ≤ 549755813888
theorem nat_getD {xs : List Int} {F : List Nat} (h : xs = F.map fun (x : Nat) => (x : Int)) (k : Nat) : xs.getD k 0 = ((F.getD k 0 : Nat) : Int) := by
  rw [h]
  by_cases hk : k < F.length
  · simp [List.getD, hk]
  · simp [List.getD, List.getElem?_eq_none (show F.length ≤ k by omega)]
set_option maxHeartbeats 8000000 in
set_option maxRecDepth 100000 in
theorem lim_grows (v : Value) (xs : List Int) (lim : Int) (n2 n3 : Nat) (w : World) (hv : ViewL w v (kints .i64 xs) ∧ xs.length ≤ 140737488351232) (hwf : ∀ x ∈ xs, (Lit.int .i64 x).wf = true) (hlim : -9223372036854775808 ≤ lim ∧ lim ≤ 9223372036854775807) (h2 : n2 < 65536) (h3 : n3 < 4294967296) :
    Calls Try.prog 5 #[v, .int .i64 lim, .int .u16 n2, .int .u32 n3] w fun e w' => e = .returned (.bool true) ∧ Ext w w' := by
  obtain ⟨hv, hxl⟩ := hv
  have hvi : ViewL w v (ints xs) := hv
  have hres := lim_res v xs lim w hvi (by omega)
  obtain ⟨ao, cap, rfl⟩ := hvi.shape
  rw [length_ints] at hvi hres ⊢
  obtain ⟨N, hN⟩ : ∃ N, N = xs.length := ⟨_, rfl⟩
  rw [← hN] at hvi hxl hres ⊢
  have HN := Lib.hid hN
  have HV := Lib.hid hvi
  have HR := Lib.hid hres
  have hNz : (N : Int) < 4611686018427387904 := by omega
  have HC := Lib.hid (show ∀ wr, Ext w wr → ∀ j, j < N → ∃ b o, ao = some ⟨b, o, none⟩ ∧ wr.cell? ⟨b, o + j, none⟩ = some (.int .i64 (xs.getD j 0)) from fun wr hx j hj => by
    obtain ⟨b, o, rfl, _, hc⟩ := viewL_cells hvi (by rw [length_ints]; omega)
    have hjl : j < xs.length := by omega
    refine ⟨b, o, rfl, cell_touch hx (hc j _ ?_) (fun f => f)⟩
    rw [getElem?_ints xs j hjl]; simp [List.getD, hjl])
  clear hv hvi hres hN hwf
  go_enter Try.func5, Try.ntmps5
  by_cases h100 : 100 < N
  · have hz : (100 : Int) < (N : Int) := by omega
    go_wp2_with fail
    refine (lim_picks w).mono ?_
    rintro e w' ⟨rfl, hx⟩
    have HX := Lib.hid hx
    clear hx
    go_wp2_with fail
    go_ret
    exact ⟨rfl, HX.out⟩
  · have hz : ¬ (100 : Int) < (N : Int) := by omega
    by_cases h0 : N = 0
    · have hz0 : ((N : Int) == 0) = true := by rw [beq_iff_eq]; omega
      have H0 := Lib.hid h0
      clear h0
      go_wp2_with fail
      refine (lim_picks w).mono ?_
      rintro e w' ⟨rfl, hx⟩
      have HX := Lib.hid hx
      clear hx
      go_wp2_with fail
      go_ret
      exact ⟨rfl, HX.out⟩
    · have hz0 : ((N : Int) == 0) = false := by rw [beq_eq_false_iff_ne]; omega
      have HB := Lib.hid (show N ≤ 100 ∧ 0 < N from by omega)
      clear h100 h0
      go_wp2_with fail
      clear hz
      go_loopw [9] (fun vi wr => GrI xs N w vi wr) (fun vi _ => N - (intOf vi).toNat)
      case atStart => exact ⟨0, by go_num, Nat.zero_le _, rfl, fun j h => by omega⟩
      case round =>
        obtain ⟨i, rfl, hiN, hwr, hall⟩ := hrel
        have HI := Lib.hid (show i ≤ N ∧ wr = w ∧ ∀ j, j < i → xs.getD j 0 ≤ 549755813888 from ⟨hiN, hwr, hall⟩)
        clear hiN hwr hall
        by_cases hlt : i < N
        · have hltz : (i : Int) < (N : Int) := by omega
          obtain ⟨b, o, rfl, c⟩ := HC.out wr (by rw [HI.out.2.1]; exact Ext.refl w) i hlt
          obtain ⟨x, hx⟩ : ∃ x, x = xs.getD i 0 := ⟨_, rfl⟩
          rw [← hx] at c
          obtain ⟨i1, hi1⟩ : ∃ i1, i1 = i + 1 := ⟨_, rfl⟩
          have wi : IntKind.i64.wrap ((i : Int) + 1) = (i1 : Int) := by rw [show (i : Int) + 1 = ((i1 : Nat) : Int) by omega]; exact IntWalk.i64_in _ (by omega)
          have HX := Lib.hid (show x = xs.getD i 0 ∧ i1 = i + 1 ∧ i < N from ⟨hx, hi1, hlt⟩)
          clear hx hi1 hlt
          by_cases hbig : 549755813888 < x
          · go_wp2_with fail
            refine (lim_picks wr).mono ?_
            rintro e w' ⟨rfl, hx⟩
            have HXX := Lib.hid hx
            clear hx
            go_wp2_with fail
            go_ret
            exact ⟨rfl, by rw [← HI.out.2.1]; exact HXX.out⟩
          · have HBG := Lib.hid (show x ≤ 549755813888 from by omega)
            go_wp2_with fail
            refine ⟨⟨i1, rfl, by have := HX.out; omega, HI.out.2.1, fun j hj => ?_⟩, by simp [intOf]; have := HX.out; omega⟩
            by_cases hji : j < i
            · exact HI.out.2.2 j hji
            · obtain rfl : j = i := by have := HX.out; omega
              rw [← HX.out.1]; exact HBG.out
        · have hltz : ¬ (i : Int) < (N : Int) := by omega
          have HTOP := Lib.hid (show ∀ j, j < N → xs.getD j 0 ≤ 549755813888 from fun j hj => HI.out.2.2 j (by omega))
          obtain ⟨k, hk⟩ : ∃ k, k = n2 % N := ⟨_, rfl⟩
          have hkN : k < N := by rw [hk]; exact Nat.mod_lt _ HB.out.2
          have wk0 : IntKind.i64.wrap (n2 : Int) = (n2 : Int) := IntWalk.i64_in _ (by omega)
          have wk : (n2 : Int).tmod (N : Int) = (k : Int) := by rw [Int.tmod_eq_emod_of_nonneg (by omega), hk]; push_cast; rfl
          have hkz : (k : Int) < (N : Int) := by omega
          have hW := HI.out.2.1
          subst hW
          have HK := Lib.hid hkN
          clear hk hkN hlt
          go_wp2_with fail
          refine Calls.mono HR.out ?_
          clear wk0 wk
          rintro e w1 (⟨hbad, rfl, hx⟩ | ⟨F, P, L, hok, hform, rfl, hx⟩ | ⟨F, P, L, ov, hok, hp, rfl, hbo⟩)
          · have HX := Lib.hid hx
            clear hx hbad
            go_wp2_with fail
            refine (lim_picks w1).mono ?_
            rintro e w' ⟨rfl, hx⟩
            have HXX := Lib.hid hx
            clear hx
            go_wp2_with fail
            go_ret
            exact ⟨rfl, HX.out.trans HXX.out⟩
          · have HX := Lib.hid hx
            clear hx hform hok
            go_wp2_with fail
            refine (lim_picks w1).mono ?_
            rintro e w' ⟨rfl, hx⟩
            have HXX := Lib.hid hx
            clear hx
            go_wp2_with fail
            go_ret
            exact ⟨rfl, HX.out.trans HXX.out⟩
          · obtain ⟨b, o, rfl, c⟩ := HC.out w1 hbo.toExt k HK.out
            obtain ⟨x, hx⟩ : ∃ x, x = F.getD k 0 := ⟨_, rfl⟩
            rw [nat_getD hok.fs k, ← hx] at c
            have HX := Lib.hid hx
            have HOK := Lib.hid (And.intro hok hp)
            have HBO := Lib.hid hbo
            clear hx hok hp hbo
            by_cases hx0 : x = 0
            · have hx0z : ((x : Int) == 0) = true := by rw [beq_iff_eq]; omega
              have HX0 := Lib.hid hx0
              clear hx0
              go_wp2_with fail
              refine (lim_picks w1).mono ?_
              rintro e w' ⟨rfl, hx⟩
              have HXX := Lib.hid hx
              clear hx
              go_wp2_with fail
              go_ret
              exact ⟨rfl, HBO.out.toExt.trans HXX.out⟩
            · have hx0z : ((x : Int) == 0) = false := by rw [beq_eq_false_iff_ne]; omega
              have HX0 := Lib.hid hx0
              clear hx0
              have HFN := Lib.hid (show F.length = N from by rw [HN.out, HOK.out.1.fs, List.length_map])
              have HVF := Lib.hid (show ∀ wr, Ext w1 wr → ViewL wr (.slice (some ⟨b, o, none⟩) N cap) (intsL F) from fun wr hx => by rw [← ints_nat HOK.out.1.fs]; exact (HV.out.ext HBO.out.toExt).ext hx)
              obtain ⟨i0, hi, hz0', hz1, hz2⟩ := info_parts info_int
              have HOWN := Lib.hid (show (w1.alloc (.cells #[] 3)).ownsRow w1.heap.size 3 1 (.slice (some ⟨w1.heap.size, 0, none⟩) 0 0) 0 [] from World.ownsRow_made w1 #[] 0 (Nat.le_refl _) (by decide) rfl)
              have HVE := Lib.hid (HVF.out _ ((Ext.refl w1).alloc (.cells #[] 3)))
              go_wp2_with (at_builtin; go_must (refine wpList_append_view _ rfl (.tmp 60) (.tmp 61) 24 rfl w1.heap.size 3 i0 (.int .i64 0) 8 Try.underlying24 hi hz0' hz1 hz2 rfl _ 0 [] rfl HOWN.out _ (intsL F) rfl HVE.out (fun u hu => by obtain ⟨y, _, rfl⟩ := List.mem_map.1 hu; rfl) (by rw [length_intsL, HFN.out]; unfold maxLen; omega) (by rw [length_intsL, HFN.out]; have := HB.out; omega) (by rw [World.size_alloc]; omega) ?_))
              intro v' w4 hown' hgrow hat
              have hio := copy_io hown' hgrow
              obtain ⟨ga, gc, hgv⟩ := hio.shape
              rw [HFN.out] at hgv
              subst hgv
              obtain ⟨g, rfl⟩ : ∃ g, ga = some ⟨g, 0, none⟩ := by
                obtain ⟨og, b1, _⟩ := hio
                rcases b1.form with ⟨_, h, h', _⟩ | ⟨g, _, _, _, h, _⟩
                · cases h; have := HB.out; have := HFN.out; omega
                · cases h; exact ⟨g, rfl⟩
              have HIO := Lib.hid hio
              have e1 : w4.cell? ⟨g, k, none⟩ = some (.int .i64 x) := by
                obtain ⟨og, b1, _⟩ := hio
                rcases b1.form with ⟨_, h, h', _⟩ | ⟨g, _, _, h1, h, _⟩
                · cases h
                · cases h
                  subst h1
                  exact b1.cell k _ (by have : k < F.length := by rw [HFN.out]; exact HK.out
                                        rw [HX.out]; simp [intsL, this, List.getD])
              have e2 : w4.frozen? ⟨g, k, none⟩ = false := by
                obtain ⟨og, b1, _⟩ := hio
                rcases b1.form with ⟨_, h, h', _⟩ | ⟨g, _, _, h1, h, _⟩
                · cases h
                · cases h
                  subst h1
                  exact b1.free k
              obtain ⟨y, hy⟩ : ∃ y, y = x + n3 := ⟨_, rfl⟩
              have hxt : x ≤ 549755813888 := by
                have := HTOP.out k HK.out
                rw [nat_getD HOK.out.1.fs k, ← HX.out] at this
                omega
              have wn3 : IntKind.i64.wrap (n3 : Int) = (n3 : Int) := IntWalk.i64_in _ (by omega)
              have wy : IntKind.i64.wrap ((x : Int) + (n3 : Int)) = (y : Int) := by rw [show (x : Int) + (n3 : Int) = ((y : Nat) : Int) by omega]; exact IntWalk.i64_in _ (by omega)
              have HY := Lib.hid (show y = x + n3 ∧ x ≤ 549755813888 from ⟨hy, hxt⟩)
              clear hown' hgrow hat hio HOWN HVE hy hxt c
              obtain ⟨w5, hw5⟩ : ∃ w5, w5 = w4.setCell ⟨g, k, none⟩ (.int .i64 y) := ⟨_, rfl⟩
              have HIO5 := Lib.hid (show IOn w1 (F.set k y) (.slice (some ⟨g, 0, none⟩) N gc) w5 from by rw [hw5]; exact io_set HIO.out (by rw [HFN.out]; exact HK.out) y)
              obtain ⟨Q, hQ⟩ := ord_exists (F.set k y)
              have HG := Lib.hid (show (F.set k y).length = N ∧ (∀ x ∈ F.set k y, x ≤ 2 ^ 40) ∧ Q.length = P.length ∧ (∀ s, s ≠ k → (F.set k y).getD s 0 = F.getD s 0) ∧ (F.set k y).getD k 0 = y from by
                have hkl : k < F.length := by rw [HFN.out]; exact HK.out
                have a1 : ∀ s, s ≠ k → (F.set k y).getD s 0 = F.getD s 0 := fun s hs => by simp [List.getD, hs.symm]
                have a2 : (F.set k y).getD k 0 = y := by simp [List.getD, hkl]
                refine ⟨by rw [List.length_set, HFN.out], fun z hz => ?_, ord_set_len HOK.out.1.ord hQ (by rw [List.length_set]) (fun s hs => ?_), a1, a2⟩
                · rcases List.mem_or_eq_of_mem_set hz with h | rfl
                  · exact HOK.out.1.top z h
                  · have := HY.out; omega
                · by_cases hsk : s = k
                  · subst hsk
                    rw [a2, ← HX.out]
                    have := HY.out.1; have := HX0.out; omega
                  · rw [a1 s hsk])
              have HLEN := Lib.hid (lim_len (.slice (some ⟨g, 0, none⟩) N gc) (F.set k y) Q L w5 HIO5.out.viewL HOK.out.1.lo HOK.out.1.hi (by rw [HG.out.1]; have := HB.out; omega) HG.out.2.1 hQ (by rw [HG.out.2.2.1]; exact HOK.out.2))
              have HQ := Lib.hid hQ
              have hlimL : lim = (L : Int) := HOK.out.1.lim
              subst hlimL
              clear hQ
              go_wp2_with fail
              rw [← hw5]
              clear hw5 e1 e2 wy
              refine Calls.mono HLEN.out ?_
              rintro e w6 ⟨mv, rfl, hmb⟩
              have HM := Lib.hid hmb
              obtain ⟨ma, mc, hmv⟩ := hmb.viewL.shape
              rw [length_u8s, lensP_len, HG.out.1] at hmv
              obtain ⟨la, lc, hlv⟩ := HBO.out.viewL.shape
              rw [length_u8s, lensP_len, HFN.out] at hlv
              subst hmv hlv
              clear hmb HLEN
              have hlne : ((N : Int) == (N : Int)) = true := beq_self_eq_true _
              have HX16 := Lib.hid (show Ext w1 w6 from HIO5.out.toExt.trans HM.out.toExt)
              obtain ⟨A, hA⟩ : ∃ A, A = costF F (lenP F P (L - 1)) := ⟨_, rfl⟩
              obtain ⟨B, hB⟩ : ∃ B, B = costF (F.set k y) (lenP (F.set k y) Q (L - 1)) := ⟨_, rfl⟩
              have HAB := Lib.hid (And.intro hA hB)
              have hsa := (lim_sum F (lensP F P (L - 1)) (.slice (some ⟨b, o, none⟩) N cap) (.slice la N lc) w6 (HVF.out w6 HX16.out) (HBO.out.viewL.ext HX16.out) (fun z hz => by have := HOK.out.1.top z hz; omega) (fun z hz => by have := lensP_le F P (L - 1) z hz; have := HOK.out.1.hi; omega) (by rw [HFN.out]; have := HB.out; omega) (lensP_len F P (L - 1)))
              have hsb := (fun w7 (hx : Ext w6 w7) => lim_sum (F.set k y) (lensP (F.set k y) Q (L - 1)) (.slice (some ⟨g, 0, none⟩) N gc) (.slice ma N mc) w7 ((HIO5.out.viewL.ext HM.out.toExt).ext hx) (HM.out.viewL.ext hx) (fun z hz => by have := HG.out.2.1 z hz; omega) (fun z hz => by have := lensP_le (F.set k y) Q (L - 1) z hz; have := HOK.out.1.hi; omega) (by rw [HG.out.1]; have := HB.out; omega) (lensP_len (F.set k y) Q (L - 1)))
              rw [sumTo_cost, ← hA] at hsa
              rw [sumTo_cost, ← hB] at hsb
              have HSA := Lib.hid hsa
              have HSB := Lib.hid hsb
              clear hsa hsb hA hB
              go_wp2_with fail
              refine Calls.mono HSA.out ?_
              rintro e w7 ⟨rfl, hx7⟩
              have HX7 := Lib.hid hx7
              clear HSA hx7
              go_wp2_with fail
              refine Calls.mono (HSB.out w7 HX7.out) ?_
              rintro e w8 ⟨rfl, hx8⟩
              have HX8 := Lib.hid hx8
              clear HSB hx8
              have hlaw := growsP HOK.out.1.ord HQ.out (k := k) (b := n3) (by rw [HG.out.1, HFN.out]) (by rw [HFN.out]; exact HK.out) (by rw [← HX.out]; have := HX0.out; omega) HG.out.2.2.2.1 (by rw [HG.out.2.2.2.2, ← HX.out, HY.out.1]) HG.out.2.2.1 (L - 1) (by rw [show L - 1 + 1 = L by have := HOK.out.1.lo; omega]; exact HOK.out.2)
              obtain ⟨hA, hB⟩ := HAB.out
              obtain ⟨lk, hlk⟩ : ∃ lk, lk = lenP F P (L - 1) k := ⟨_, rfl⟩
              obtain ⟨mk, hmk⟩ : ∃ mk, mk = lenP (F.set k y) Q (L - 1) k := ⟨_, rfl⟩
              rw [← hA, ← hB, ← hlk, ← hmk] at hlaw
              have hlkb : lk ≤ 18 := by rw [hlk]; have := lenP_le F P (L - 1) k; have := HOK.out.1.hi; omega
              have hmkb : mk ≤ 18 := by rw [hmk]; have := lenP_le (F.set k y) Q (L - 1) k; have := HOK.out.1.hi; omega
              have hAb : A ≤ 2 ^ 61 := by
                rw [hA, ← sumTo_cost]
                have h := sumTo_bound (F := F) (Ls := lensP F P (L - 1)) (fun z hz => by have := HOK.out.1.top z hz; omega) (fun z hz => by have := lensP_le F P (L - 1) z hz; have := HOK.out.1.hi; omega) F.length (Nat.le_refl _) (by rw [lensP_len]; exact Nat.le_refl _)
                have : F.length * 2 ^ 50 ≤ 2 ^ 11 * 2 ^ 50 := Nat.mul_le_mul_right _ (by rw [HFN.out]; have := HB.out; omega)
                omega
              obtain ⟨lb, lof, e1, c1⟩ : ∃ lb lof, la = some ⟨lb, lof, none⟩ ∧ w8.cell? ⟨lb, lof + k, none⟩ = some (.int .u8 lk) := by
                have h := (HBO.out.viewL.ext HX16.out).ext (HX7.out.trans HX8.out)
                obtain ⟨b, o, e, _, hc⟩ := viewL_cells h (by rw [length_u8s, lensP_len, HFN.out]; have := HB.out; omega)
                exact ⟨b, o, e, hc k _ (by have : k < F.length := by rw [HFN.out]; exact HK.out
                                           rw [hlk]; simp [u8s, lensP, this])⟩
              obtain ⟨mb, mof, e2, c2⟩ : ∃ mb mof, ma = some ⟨mb, mof, none⟩ ∧ w8.cell? ⟨mb, mof + k, none⟩ = some (.int .u8 mk) := by
                have h := (HM.out.viewL.ext HX7.out).ext HX8.out
                obtain ⟨b, o, e, _, hc⟩ := viewL_cells h (by rw [length_u8s, lensP_len, HG.out.1]; have := HB.out; omega)
                exact ⟨b, o, e, hc k _ (by have : k < F.length := by rw [HFN.out]; exact HK.out
                                           rw [hmk]; simp [u8s, lensP, this])⟩
              cases e1
              cases e2
              obtain ⟨z1, hz1'⟩ : ∃ z1, z1 = n3 * mk := ⟨_, rfl⟩
              obtain ⟨z2, hz2'⟩ : ∃ z2, z2 = n3 * lk := ⟨_, rfl⟩
              have hz1b : z1 ≤ 4294967296 * 18 := by rw [hz1']; exact Nat.mul_le_mul (by omega) hmkb
              have hz2b : z2 ≤ 4294967296 * 18 := by rw [hz2']; exact Nat.mul_le_mul (by omega) hlkb
              obtain ⟨S1, hS1⟩ : ∃ S1, S1 = A + z1 := ⟨_, rfl⟩
              obtain ⟨S2, hS2⟩ : ∃ S2, S2 = A + z2 := ⟨_, rfl⟩
              have wmk : IntKind.i64.wrap (mk : Int) = (mk : Int) := IntWalk.i64_in _ (by omega)
              have wlk : IntKind.i64.wrap (lk : Int) = (lk : Int) := IntWalk.i64_in _ (by omega)
              have wz1 : IntKind.i64.wrap ((n3 : Int) * (mk : Int)) = (z1 : Int) := by rw [show (n3 : Int) * (mk : Int) = ((z1 : Nat) : Int) by rw [hz1']; push_cast; rfl]; exact IntWalk.i64_in _ (by omega)
              have wz2 : IntKind.i64.wrap ((n3 : Int) * (lk : Int)) = (z2 : Int) := by rw [show (n3 : Int) * (lk : Int) = ((z2 : Nat) : Int) by rw [hz2']; push_cast; rfl]; exact IntWalk.i64_in _ (by omega)
              have wS1 : IntKind.i64.wrap ((A : Int) + (z1 : Int)) = (S1 : Int) := by rw [show (A : Int) + (z1 : Int) = ((S1 : Nat) : Int) by omega]; exact IntWalk.i64_in _ (by omega)
              have wS2 : IntKind.i64.wrap ((A : Int) + (z2 : Int)) = (S2 : Int) := by rw [show (A : Int) + (z2 : Int) = ((S2 : Nat) : Int) by omega]; exact IntWalk.i64_in _ (by omega)
              rw [← hz1', ← hz2', ← hS1, ← hS2] at hlaw
              have k1 : (S1 : Int) ≤ (B : Int) := by omega
              have k2 : (B : Int) ≤ (S2 : Int) := by omega
              have HPK := Lib.hid (lim_picks w8)
              clear hlaw hA hB hlk hmk hlkb hmkb hAb hz1' hz2' hz1b hz2b hS1 hS2 hNz
              go_wp2_with fail
              refine Calls.mono HPK.out ?_
              rintro e w9 ⟨rfl, hx9⟩
              have HX9 := Lib.hid hx9
              clear hx9 wmk wlk wz1 wz2 wS1 wS2 k1 k2 c1 c2
              go_wp2_with fail
              go_ret
              exact ⟨rfl, HBO.out.toExt.trans (HX16.out.trans (HX7.out.trans (HX8.out.trans HX9.out)))⟩
end Go.Proofs.Ytblbggdglndiiaa
