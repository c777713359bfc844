/- pressworklaw05.LimitAsks: its walk. -/
import Derived.Test.YtblbggdglndiiaaLimLeast
import Derived.Test.YtblbggdglndiiaaLimBest
namespace Go.Proofs.Ytblbggdglndiiaa
open Go.RowKit
set_option linter.unusedVariables false

def cntZ (xs : List Int) (i : Nat) : Nat := ((xs.take i).filter fun x => decide (0 < x)).length
theorem cntZ_le (xs : List Int) (i : Nat) : cntZ xs i ≤ i := Nat.le_trans (List.length_filter_le _ _) (by rw [List.length_take]; omega)
theorem take_more {xs : List Int} {i : Nat} (h : i < xs.length) : xs.take (i + 1) = xs.take i ++ [xs.getD i 0] := by
  rw [List.take_succ_eq_append_getElem h]; simp [List.getD, h]
theorem cntZ_succ {xs : List Int} {i : Nat} (h : i < xs.length) : cntZ xs (i + 1) = cntZ xs i + (if 0 < xs.getD i 0 then 1 else 0) := by
  rw [cntZ, take_more h, List.filter_append, List.length_append, cntZ]
  by_cases h0 : 0 < xs.getD i 0
  · rw [if_pos h0, List.filter_cons_of_pos (by simpa using h0)]; rfl
  · rw [if_neg h0, List.filter_cons_of_neg (by simpa using h0)]; rfl
theorem badZ_succ {xs : List Int} {i : Nat} (h : i < xs.length) : (xs.take (i + 1)).any badF = ((xs.take i).any badF || badF (xs.getD i 0)) := by
  rw [take_more h, List.any_append]; simp
theorem cntZ_ord {xs : List Int} {F P : List Nat} (h : xs = F.map fun (x : Nat) => (x : Int)) (hP : IsOrd F P) : cntZ xs xs.length = P.length := by
  rw [cntZ, List.take_of_length_le (Nat.le_refl _), h, ord_len hP, List.filter_map, List.length_map]
  congr 2
  funext x
  simp only [Function.comp_apply, decide_eq_decide]
  omega
def AsI (xs : List Int) (N : Nat) (b0 : Bool) (w5 : World) (v8 v9 v10 : Value) (wr : World) : Prop := ∃ i m : Nat, v10 = .int .i64 i ∧ i ≤ N ∧ v8 = .int .i64 (cntZ xs i : Nat) ∧ v9 = .bool (b0 || (xs.take i).any badF) ∧ wr = w5.drewN m
theorem asks_eq {F P : List Nat} {L : Nat} (hP : IsOrd F P) (h1 : 1 ≤ L) (hr : P.length ≤ 2 ^ L) (h2 : 2 ≤ P.length) (hs : sumTo F (lensP F P (L - 1)) F.length < 2 ^ 60) : docOne (wtsOf F P) P.length (L - 1) 0 2 = sumTo F (lensP F P (L - 1)) F.length := by
  have hW : (wtsOf F P).length = P.length := by rw [wtsOf, List.length_map]
  have e : sumTo F (lensP F P (L - 1)) F.length = dot (wtsOf F P) (bestL (wtsOf F P) (L - 1)) := by
    rw [sumTo_cost, show lenP F P (L - 1) = lenOf F P (L - 1) from funext fun s => lenP_two h2 (L - 1) s]
    exact out_cost hP (L - 1)
  have h := doc_least (ord_rises hP) (L - 1) (by rw [hW, show L - 1 + 1 = L by omega]; exact hr) (by rw [hW]; exact h2) (by rw [← e]; exact Nat.lt_of_lt_of_le hs (by decide))
  rw [hW] at h
  rw [h, e]
set_option maxHeartbeats 16000000 in
set_option maxRecDepth 100000 in
theorem lim_asks (v : Value) (xs : List Int) (lim : Int) (w : World) (hv : ViewL w v (kints .i64 xs) ∧ xs.length ≤ 140737488351232) (hwf : ∀ x ∈ xs, (Lit.int .i64 x).wf = true) (hlim : -9223372036854775808 ≤ lim ∧ lim ≤ 9223372036854775807) :
    Calls Try.prog 8 #[v, .int .i64 lim] w fun e w' => e = .returned (.bool true) ∧ Ext w w' := by
  obtain ⟨hv, hxl⟩ := hv
  have hvi : ViewL w v (ints xs) := hv
  obtain ⟨ao, cap, rfl⟩ := hvi.shape
  rw [length_ints] at hvi ⊢
  obtain ⟨N, hN⟩ : ∃ N, N = xs.length := ⟨_, rfl⟩
  rw [← hN] at hvi hxl ⊢
  have HN := Lib.hid hN
  have HV := Lib.hid hvi
  have HPK := Lib.hid (show ∀ wr, Ext w wr → Calls Try.prog 10 #[] wr fun e w' => e = .returned (.bool true) ∧ Ext w w' from fun wr hx => (lim_picks wr).mono fun e w' ⟨h1, h2⟩ => ⟨h1, hx.trans h2⟩)
  clear hv hvi hN hwf
  go_enter Try.func8, Try.ntmps8
  by_cases hA : 40 < N ∧ N ≤ 512
  · have h1 : (40 : Int) < (N : Int) := by omega
    have h2 : (N : Int) ≤ 512 := by omega
    clear hA hxl
    go_wp2_with fail
    refine Calls.mono (HPK.out w (Ext.refl w)) ?_
    rintro e w' ⟨rfl, hx⟩
    have HXX := Lib.hid hx
    clear hx
    go_wp2_with fail
    go_ret
    exact ⟨rfl, HXX.out⟩
  · by_cases hB : 2000 < N
    · have h1 : (40 : Int) < (N : Int) := by omega
      have h2 : ¬ (N : Int) ≤ 512 := by omega
      have h3 : (2000 : Int) < (N : Int) := by omega
      clear hA hB
      go_wp2_with fail
      refine Calls.mono (HPK.out w (Ext.refl w)) ?_
      rintro e w' ⟨rfl, hx⟩
      have HXX := Lib.hid hx
      clear hx
      go_wp2_with fail
      go_ret
      exact ⟨rfl, HXX.out⟩
    · have HS := Lib.hid (show N ≤ 40 ∨ (512 < N ∧ N ≤ 2000) from by omega)
      have h3 : ¬ (2000 : Int) < (N : Int) := by omega
      have hN2 : N ≤ 2000 := by omega
      obtain ⟨i0, hi, hz0, hz1, hz2⟩ := info_parts info_int
      have HOWN := Lib.hid (show (w.alloc (.cells #[] 3)).ownsRow w.heap.size 3 1 (.slice (some ⟨w.heap.size, 0, none⟩) 0 0) 0 [] from World.ownsRow_made w #[] 0 (Nat.le_refl _) (by decide) rfl)
      have HVE := Lib.hid (HV.out.ext ((Ext.refl w).alloc (.cells #[] 3)))
      have HLX := Lib.hid (show (ints xs).length = N ∧ N ≤ 2000 from ⟨by rw [length_ints, HN.out], hN2⟩)
      have hside : (¬ (40 : Int) < (N : Int)) ∨ ((40 : Int) < (N : Int) ∧ ¬ (N : Int) ≤ 512) := by omega
      clear hA hB hxl
      have HSIDE := Lib.hid hside
      clear hside
      by_cases h1 : (40 : Int) < (N : Int)
      all_goals
        have h2 : ¬ (N : Int) ≤ 512 ∨ ¬ (40 : Int) < (N : Int) := by rcases HSIDE.out with h | h <;> simp [h]
        have H2 := Lib.hid h2
        clear h2
        try have h2 : ¬ (N : Int) ≤ 512 := by rcases H2.out with h | h; exact h; exact (h h1).elim
        go_wp2_with (at_builtin; go_must (refine wpList_append_view _ rfl (.tmp 25) (.tmp 26) 24 rfl w.heap.size 3 i0 (.int .i64 0) 8 Try.underlying24 hi hz0 hz1 hz2 rfl _ 0 [] rfl HOWN.out _ (ints xs) rfl HVE.out (fun u hu => by obtain ⟨y, _, rfl⟩ := List.mem_map.1 hu; rfl) (by rw [HLX.out.1]; have := HLX.out.2; unfold maxLen; omega) (by rw [HLX.out.1]; have := HLX.out.2; omega) (by rw [World.size_alloc]; omega) ?_))
        intro gv w4 hown' hgrow hat
        have hx4 : Ext w w4 := Touch.grown ((Ext.refl w).alloc _) hgrow (fun k e => Or.inr (by cases e; exact Nat.le_refl _))
        have hvg : ViewL w4 gv (ints xs) := Owns.viewL (og := gv.ownBlock) ⟨ownsRow_zero hown', rfl⟩
        obtain ⟨ga, gc, hgv⟩ := hvg.shape
        rw [HLX.out.1] at hgv
        subst hgv
        have HVG := Lib.hid (And.intro hvg hx4)
        have HRES := Lib.hid (lim_res (.slice ga N gc) xs lim w4 hvg (by rw [← HN.out]; have := HLX.out.2; omega))
        clear hown' hgrow hat hx4 hvg
        try clear h2
        clear h1
        go_wp2_with fail
        refine Calls.mono HRES.out ?_
        rintro e w5 (⟨hbad, rfl, hx⟩ | ⟨F, P, L, hok, hform, rfl, hx⟩ | ⟨F, P, L, lv, hok, hp, rfl, hbo⟩)
        · have HBT0 := Lib.hid hbad
          have HX5 := Lib.hid (show Ext w4 w5 from hx)
          clear HRES
          have HCC := Lib.hid (show ∀ m j, j < N → ∃ b o, ao = some ⟨b, o, none⟩ ∧ (w5.drewN m).cell? ⟨b, o + j, none⟩ = some (.int .i64 (xs.getD j 0)) from fun m j hj => by
            obtain ⟨b, o, rfl, _, hc⟩ := viewL_cells (((HV.out.ext HVG.out.2).ext HX5.out).ext ((Ext.refl w5).drewN m)) (by rw [length_ints, ← HN.out]; omega)
            have hjl : j < xs.length := by rw [← HN.out]; exact hj
            refine ⟨b, o, rfl, hc j _ ?_⟩
            rw [getElem?_ints xs j hjl]; simp [List.getD, hjl])
          have HCG := Lib.hid (show ∀ m j, j < N → ∃ b o, ga = some ⟨b, o, none⟩ ∧ (w5.drewN m).cell? ⟨b, o + j, none⟩ = some (.int .i64 (xs.getD j 0)) from fun m j hj => by
            obtain ⟨b, o, rfl, _, hc⟩ := viewL_cells ((HVG.out.1.ext HX5.out).ext ((Ext.refl w5).drewN m)) (by rw [length_ints, ← HN.out]; omega)
            have hjl : j < xs.length := by rw [← HN.out]; exact hj
            refine ⟨b, o, rfl, hc j _ ?_⟩
            rw [getElem?_ints xs j hjl]; simp [List.getD, hjl])
          have hNz : (N : Int) ≤ 2000 := by have := HLX.out.2; omega
          clear hbad hx
          by_cases hl1 : lim < 1
          · go_wp2_with fail
            obtain ⟨B0, hB0⟩ : ∃ B0, B0 = true := ⟨_, rfl⟩
            have HB0 := Lib.hid hB0
            have HBT := Lib.hid (show (B0 || xs.any badF) = true from by rw [hB0]; rfl)
            clear hB0
            go_loopw [8, 9, 10] (fun v8 v9 v10 wr => AsI xs N B0 w5 v8 v9 v10 wr) (fun _ _ v10 _ => N - (intOf v10).toNat)
            case atStart => exact ⟨0, 0, by go_num, Nat.zero_le _, by simp [cntZ], by simp [HB0.out] <;> omega, rfl⟩
            case round =>
              obtain ⟨i, m, rfl, hiN, rfl, rfl, hwr⟩ := hrel
              obtain ⟨q, hq⟩ : ∃ q, q = cntZ xs i := ⟨_, rfl⟩
              obtain ⟨B, hB⟩ : ∃ B, B = (B0 || (xs.take i).any badF) := ⟨_, rfl⟩
              rw [← hq, ← hB]
              have hqi : q ≤ i := by rw [hq]; exact cntZ_le xs i
              have HI := Lib.hid (show i ≤ N ∧ wr = w5.drewN m ∧ q = cntZ xs i ∧ B = (B0 || (xs.take i).any badF) ∧ q ≤ i from ⟨hiN, hwr, hq, hB, hqi⟩)
              clear hiN hwr hq hB hqi
              by_cases hlt : i < N
              · have hltz : (i : Int) < (N : Int) := by omega
                obtain ⟨fb, fo, rfl, c1⟩ := HCC.out m i hlt
                obtain ⟨gb, go', rfl, c2⟩ := HCG.out m i hlt
                rw [← HI.out.2.1] at c1 c2
                have HST := Lib.hid (show cntZ xs (i + 1) = cntZ xs i + (if 0 < xs.getD i 0 then 1 else 0) ∧ (xs.take (i + 1)).any badF = ((xs.take i).any badF || badF (xs.getD i 0)) from ⟨cntZ_succ (by rw [← HN.out]; exact hlt), badZ_succ (by rw [← HN.out]; exact hlt)⟩)
                obtain ⟨x, hx⟩ : ∃ x, x = xs.getD i 0 := ⟨_, rfl⟩
                rw [← hx] at c1 c2 HST
                rw [← HI.out.2.2.1] at HST
                obtain ⟨i1, hi1⟩ : ∃ i1, i1 = i + 1 := ⟨_, rfl⟩
                obtain ⟨q1, hq1⟩ : ∃ q1, q1 = q + 1 := ⟨_, rfl⟩
                have hqi := HI.out.2.2.2.2
                have wi : IntKind.i64.wrap ((i : Int) + 1) = (i1 : Int) := by rw [show (i : Int) + 1 = ((i1 : Nat) : Int) by omega]; exact IntWalk.i64_in _ (by omega)
                have wq : IntKind.i64.wrap ((q : Int) + 1) = (q1 : Int) := by rw [show (q : Int) + 1 = ((q1 : Nat) : Int) by omega]; exact IntWalk.i64_in _ (by omega)
                have HX := Lib.hid (show i < N ∧ i1 = i + 1 ∧ q1 = q + 1 from ⟨hlt, hi1, hq1⟩)
                have HEND := Lib.hid (show ∀ (nq q' : Nat) (B' : Bool), cntZ xs i1 = q' → (xs.take i1).any badF = ((xs.take i).any badF || badF x) ∧ (B' = (B || badF x)) → AsI xs N B0 w5 (.int .i64 q') (.bool B') (.int .i64 i1) (wr.drewN nq) from fun nq q' B' h1 h2 => ⟨i1, m + nq, rfl, by have := HX.out; omega, by rw [h1], by rw [h2.2, h2.1, HI.out.2.2.2.1, Bool.or_assoc], by rw [HI.out.2.1, World.drewN_drewN]⟩)
                clear hx hi1 hq1 hqi hlt
                go_wp2_with fail
                go_quiet (fail)
                have c1' : (wr.drewN nq).cell? ⟨fb, fo + i, none⟩ = some (.int .i64 x) := c1
                have c2' : (wr.drewN nq).cell? ⟨gb, go' + i, none⟩ = some (.int .i64 x) := c2
                obtain ⟨wx, hwx⟩ : ∃ wx, wx = wr.drewN nq := ⟨_, rfl⟩
                rw [← hwx] at c1' c2' ⊢
                have HWX := Lib.hid hwx
                clear c1 c2 hwx
                cases B with
                | true =>
                  by_cases hx0 : 0 < x
                  · go_wp2_with fail
                    rw [HWX.out]
                    exact ⟨HEND.out nq q1 true (by rw [HX.out.2.1, HST.out.1, if_pos hx0, HX.out.2.2]) ⟨by rw [HX.out.2.1, HST.out.2], by simp⟩, by simp [intOf]; have := HX.out; omega⟩
                  · go_wp2_with fail
                    rw [HWX.out]
                    exact ⟨HEND.out nq q true (by rw [HX.out.2.1, HST.out.1, if_neg hx0, Nat.add_zero]) ⟨by rw [HX.out.2.1, HST.out.2], by simp⟩, by simp [intOf]; have := HX.out; omega⟩
                | false =>
                  by_cases hxn : x < 0
                  · have hx0 : ¬ 0 < x := by omega
                    have HF := Lib.hid (show badF x = true from by simp [badF, hxn])
                    go_wp2_with fail
                    rw [HWX.out]
                    exact ⟨HEND.out nq q true (by rw [HX.out.2.1, HST.out.1, if_neg hx0, Nat.add_zero]) ⟨by rw [HX.out.2.1, HST.out.2], by rw [HF.out]; rfl⟩, by simp [intOf]; have := HX.out; omega⟩
                  · by_cases hxb : 1099511627776 < x
                    · have hx0 : 0 < x := by omega
                      have HF := Lib.hid (show badF x = true from by simp [badF, hxb])
                      go_wp2_with fail
                      rw [HWX.out]
                      exact ⟨HEND.out nq q1 true (by rw [HX.out.2.1, HST.out.1, if_pos hx0, HX.out.2.2]) ⟨by rw [HX.out.2.1, HST.out.2], by rw [HF.out]; rfl⟩, by simp [intOf]; have := HX.out; omega⟩
                    · have HF := Lib.hid (show badF x = false from by rw [badF, decide_eq_false hxn, decide_eq_false hxb]; rfl)
                      by_cases hx0 : 0 < x
                      · go_wp2_with fail
                        rw [HWX.out]
                        exact ⟨HEND.out nq q1 false (by rw [HX.out.2.1, HST.out.1, if_pos hx0, HX.out.2.2]) ⟨by rw [HX.out.2.1, HST.out.2], by rw [HF.out]; rfl⟩, by simp [intOf]; have := HX.out; omega⟩
                      · go_wp2_with fail
                        rw [HWX.out]
                        exact ⟨HEND.out nq q false (by rw [HX.out.2.1, HST.out.1, if_neg hx0, Nat.add_zero]) ⟨by rw [HX.out.2.1, HST.out.2], by rw [HF.out]; rfl⟩, by simp [intOf]; have := HX.out; omega⟩
              · have hltz : ¬ (i : Int) < (N : Int) := by omega
                have hiN : i = N := by have := HI.out.1; omega
                have HE := Lib.hid (show q = cntZ xs xs.length ∧ B = (B0 || xs.any badF) ∧ Ext w5 wr from ⟨by rw [HI.out.2.2.1, hiN, HN.out], by rw [HI.out.2.2.2.1, hiN, HN.out, List.take_of_length_le (Nat.le_refl _)], by rw [HI.out.2.1]; exact (Ext.refl w5).drewN m⟩)
                clear hiN hlt
                have hBt : B = true := by rw [HE.out.2.1]; exact HBT.out
                subst hBt
                go_wp2_with fail
                refine Calls.mono (HPK.out wr ((HVG.out.2.trans HX5.out).trans HE.out.2.2)) ?_
                rintro e w' ⟨rfl, hx⟩
                have HXX := Lib.hid hx
                clear hx
                go_wp2_with fail
                go_ret
                exact ⟨rfl, HXX.out⟩
          · by_cases hl17 : 17 < lim
            · go_wp2_with fail
              obtain ⟨B0, hB0⟩ : ∃ B0, B0 = true := ⟨_, rfl⟩
              have HB0 := Lib.hid hB0
              have HBT := Lib.hid (show (B0 || xs.any badF) = true from by rw [hB0]; rfl)
              clear hB0
              go_loopw [8, 9, 10] (fun v8 v9 v10 wr => AsI xs N B0 w5 v8 v9 v10 wr) (fun _ _ v10 _ => N - (intOf v10).toNat)
              case atStart => exact ⟨0, 0, by go_num, Nat.zero_le _, by simp [cntZ], by simp [HB0.out] <;> omega, rfl⟩
              case round =>
                obtain ⟨i, m, rfl, hiN, rfl, rfl, hwr⟩ := hrel
                obtain ⟨q, hq⟩ : ∃ q, q = cntZ xs i := ⟨_, rfl⟩
                obtain ⟨B, hB⟩ : ∃ B, B = (B0 || (xs.take i).any badF) := ⟨_, rfl⟩
                rw [← hq, ← hB]
                have hqi : q ≤ i := by rw [hq]; exact cntZ_le xs i
                have HI := Lib.hid (show i ≤ N ∧ wr = w5.drewN m ∧ q = cntZ xs i ∧ B = (B0 || (xs.take i).any badF) ∧ q ≤ i from ⟨hiN, hwr, hq, hB, hqi⟩)
                clear hiN hwr hq hB hqi
                by_cases hlt : i < N
                · have hltz : (i : Int) < (N : Int) := by omega
                  obtain ⟨fb, fo, rfl, c1⟩ := HCC.out m i hlt
                  obtain ⟨gb, go', rfl, c2⟩ := HCG.out m i hlt
                  rw [← HI.out.2.1] at c1 c2
                  have HST := Lib.hid (show cntZ xs (i + 1) = cntZ xs i + (if 0 < xs.getD i 0 then 1 else 0) ∧ (xs.take (i + 1)).any badF = ((xs.take i).any badF || badF (xs.getD i 0)) from ⟨cntZ_succ (by rw [← HN.out]; exact hlt), badZ_succ (by rw [← HN.out]; exact hlt)⟩)
                  obtain ⟨x, hx⟩ : ∃ x, x = xs.getD i 0 := ⟨_, rfl⟩
                  rw [← hx] at c1 c2 HST
                  rw [← HI.out.2.2.1] at HST
                  obtain ⟨i1, hi1⟩ : ∃ i1, i1 = i + 1 := ⟨_, rfl⟩
                  obtain ⟨q1, hq1⟩ : ∃ q1, q1 = q + 1 := ⟨_, rfl⟩
                  have hqi := HI.out.2.2.2.2
                  have wi : IntKind.i64.wrap ((i : Int) + 1) = (i1 : Int) := by rw [show (i : Int) + 1 = ((i1 : Nat) : Int) by omega]; exact IntWalk.i64_in _ (by omega)
                  have wq : IntKind.i64.wrap ((q : Int) + 1) = (q1 : Int) := by rw [show (q : Int) + 1 = ((q1 : Nat) : Int) by omega]; exact IntWalk.i64_in _ (by omega)
                  have HX := Lib.hid (show i < N ∧ i1 = i + 1 ∧ q1 = q + 1 from ⟨hlt, hi1, hq1⟩)
                  have HEND := Lib.hid (show ∀ (nq q' : Nat) (B' : Bool), cntZ xs i1 = q' → (xs.take i1).any badF = ((xs.take i).any badF || badF x) ∧ (B' = (B || badF x)) → AsI xs N B0 w5 (.int .i64 q') (.bool B') (.int .i64 i1) (wr.drewN nq) from fun nq q' B' h1 h2 => ⟨i1, m + nq, rfl, by have := HX.out; omega, by rw [h1], by rw [h2.2, h2.1, HI.out.2.2.2.1, Bool.or_assoc], by rw [HI.out.2.1, World.drewN_drewN]⟩)
                  clear hx hi1 hq1 hqi hlt
                  go_wp2_with fail
                  go_quiet (fail)
                  have c1' : (wr.drewN nq).cell? ⟨fb, fo + i, none⟩ = some (.int .i64 x) := c1
                  have c2' : (wr.drewN nq).cell? ⟨gb, go' + i, none⟩ = some (.int .i64 x) := c2
                  obtain ⟨wx, hwx⟩ : ∃ wx, wx = wr.drewN nq := ⟨_, rfl⟩
                  rw [← hwx] at c1' c2' ⊢
                  have HWX := Lib.hid hwx
                  clear c1 c2 hwx
                  cases B with
                  | true =>
                    by_cases hx0 : 0 < x
                    · go_wp2_with fail
                      rw [HWX.out]
                      exact ⟨HEND.out nq q1 true (by rw [HX.out.2.1, HST.out.1, if_pos hx0, HX.out.2.2]) ⟨by rw [HX.out.2.1, HST.out.2], by simp⟩, by simp [intOf]; have := HX.out; omega⟩
                    · go_wp2_with fail
                      rw [HWX.out]
                      exact ⟨HEND.out nq q true (by rw [HX.out.2.1, HST.out.1, if_neg hx0, Nat.add_zero]) ⟨by rw [HX.out.2.1, HST.out.2], by simp⟩, by simp [intOf]; have := HX.out; omega⟩
                  | false =>
                    by_cases hxn : x < 0
                    · have hx0 : ¬ 0 < x := by omega
                      have HF := Lib.hid (show badF x = true from by simp [badF, hxn])
                      go_wp2_with fail
                      rw [HWX.out]
                      exact ⟨HEND.out nq q true (by rw [HX.out.2.1, HST.out.1, if_neg hx0, Nat.add_zero]) ⟨by rw [HX.out.2.1, HST.out.2], by rw [HF.out]; rfl⟩, by simp [intOf]; have := HX.out; omega⟩
                    · by_cases hxb : 1099511627776 < x
                      · have hx0 : 0 < x := by omega
                        have HF := Lib.hid (show badF x = true from by simp [badF, hxb])
                        go_wp2_with fail
                        rw [HWX.out]
                        exact ⟨HEND.out nq q1 true (by rw [HX.out.2.1, HST.out.1, if_pos hx0, HX.out.2.2]) ⟨by rw [HX.out.2.1, HST.out.2], by rw [HF.out]; rfl⟩, by simp [intOf]; have := HX.out; omega⟩
                      · have HF := Lib.hid (show badF x = false from by rw [badF, decide_eq_false hxn, decide_eq_false hxb]; rfl)
                        by_cases hx0 : 0 < x
                        · go_wp2_with fail
                          rw [HWX.out]
                          exact ⟨HEND.out nq q1 false (by rw [HX.out.2.1, HST.out.1, if_pos hx0, HX.out.2.2]) ⟨by rw [HX.out.2.1, HST.out.2], by rw [HF.out]; rfl⟩, by simp [intOf]; have := HX.out; omega⟩
                        · go_wp2_with fail
                          rw [HWX.out]
                          exact ⟨HEND.out nq q false (by rw [HX.out.2.1, HST.out.1, if_neg hx0, Nat.add_zero]) ⟨by rw [HX.out.2.1, HST.out.2], by rw [HF.out]; rfl⟩, by simp [intOf]; have := HX.out; omega⟩
                · have hltz : ¬ (i : Int) < (N : Int) := by omega
                  have hiN : i = N := by have := HI.out.1; omega
                  have HE := Lib.hid (show q = cntZ xs xs.length ∧ B = (B0 || xs.any badF) ∧ Ext w5 wr from ⟨by rw [HI.out.2.2.1, hiN, HN.out], by rw [HI.out.2.2.2.1, hiN, HN.out, List.take_of_length_le (Nat.le_refl _)], by rw [HI.out.2.1]; exact (Ext.refl w5).drewN m⟩)
                  clear hiN hlt
                  have hBt : B = true := by rw [HE.out.2.1]; exact HBT.out
                  subst hBt
                  go_wp2_with fail
                  refine Calls.mono (HPK.out wr ((HVG.out.2.trans HX5.out).trans HE.out.2.2)) ?_
                  rintro e w' ⟨rfl, hx⟩
                  have HXX := Lib.hid hx
                  clear hx
                  go_wp2_with fail
                  go_ret
                  exact ⟨rfl, HXX.out⟩
            · by_cases h512 : (512 : Int) < (N : Int)
              · go_wp2_with fail
                obtain ⟨B0, hB0⟩ : ∃ B0, B0 = true := ⟨_, rfl⟩
                have HB0 := Lib.hid hB0
                have HBT := Lib.hid (show (B0 || xs.any badF) = true from by rw [hB0]; rfl)
                clear hB0
                go_loopw [8, 9, 10] (fun v8 v9 v10 wr => AsI xs N B0 w5 v8 v9 v10 wr) (fun _ _ v10 _ => N - (intOf v10).toNat)
                case atStart => exact ⟨0, 0, by go_num, Nat.zero_le _, by simp [cntZ], by simp [HB0.out] <;> omega, rfl⟩
                case round =>
                  obtain ⟨i, m, rfl, hiN, rfl, rfl, hwr⟩ := hrel
                  obtain ⟨q, hq⟩ : ∃ q, q = cntZ xs i := ⟨_, rfl⟩
                  obtain ⟨B, hB⟩ : ∃ B, B = (B0 || (xs.take i).any badF) := ⟨_, rfl⟩
                  rw [← hq, ← hB]
                  have hqi : q ≤ i := by rw [hq]; exact cntZ_le xs i
                  have HI := Lib.hid (show i ≤ N ∧ wr = w5.drewN m ∧ q = cntZ xs i ∧ B = (B0 || (xs.take i).any badF) ∧ q ≤ i from ⟨hiN, hwr, hq, hB, hqi⟩)
                  clear hiN hwr hq hB hqi
                  by_cases hlt : i < N
                  · have hltz : (i : Int) < (N : Int) := by omega
                    obtain ⟨fb, fo, rfl, c1⟩ := HCC.out m i hlt
                    obtain ⟨gb, go', rfl, c2⟩ := HCG.out m i hlt
                    rw [← HI.out.2.1] at c1 c2
                    have HST := Lib.hid (show cntZ xs (i + 1) = cntZ xs i + (if 0 < xs.getD i 0 then 1 else 0) ∧ (xs.take (i + 1)).any badF = ((xs.take i).any badF || badF (xs.getD i 0)) from ⟨cntZ_succ (by rw [← HN.out]; exact hlt), badZ_succ (by rw [← HN.out]; exact hlt)⟩)
                    obtain ⟨x, hx⟩ : ∃ x, x = xs.getD i 0 := ⟨_, rfl⟩
                    rw [← hx] at c1 c2 HST
                    rw [← HI.out.2.2.1] at HST
                    obtain ⟨i1, hi1⟩ : ∃ i1, i1 = i + 1 := ⟨_, rfl⟩
                    obtain ⟨q1, hq1⟩ : ∃ q1, q1 = q + 1 := ⟨_, rfl⟩
                    have hqi := HI.out.2.2.2.2
                    have wi : IntKind.i64.wrap ((i : Int) + 1) = (i1 : Int) := by rw [show (i : Int) + 1 = ((i1 : Nat) : Int) by omega]; exact IntWalk.i64_in _ (by omega)
                    have wq : IntKind.i64.wrap ((q : Int) + 1) = (q1 : Int) := by rw [show (q : Int) + 1 = ((q1 : Nat) : Int) by omega]; exact IntWalk.i64_in _ (by omega)
                    have HX := Lib.hid (show i < N ∧ i1 = i + 1 ∧ q1 = q + 1 from ⟨hlt, hi1, hq1⟩)
                    have HEND := Lib.hid (show ∀ (nq q' : Nat) (B' : Bool), cntZ xs i1 = q' → (xs.take i1).any badF = ((xs.take i).any badF || badF x) ∧ (B' = (B || badF x)) → AsI xs N B0 w5 (.int .i64 q') (.bool B') (.int .i64 i1) (wr.drewN nq) from fun nq q' B' h1 h2 => ⟨i1, m + nq, rfl, by have := HX.out; omega, by rw [h1], by rw [h2.2, h2.1, HI.out.2.2.2.1, Bool.or_assoc], by rw [HI.out.2.1, World.drewN_drewN]⟩)
                    clear hx hi1 hq1 hqi hlt
                    go_wp2_with fail
                    go_quiet (fail)
                    have c1' : (wr.drewN nq).cell? ⟨fb, fo + i, none⟩ = some (.int .i64 x) := c1
                    have c2' : (wr.drewN nq).cell? ⟨gb, go' + i, none⟩ = some (.int .i64 x) := c2
                    obtain ⟨wx, hwx⟩ : ∃ wx, wx = wr.drewN nq := ⟨_, rfl⟩
                    rw [← hwx] at c1' c2' ⊢
                    have HWX := Lib.hid hwx
                    clear c1 c2 hwx
                    cases B with
                    | true =>
                      by_cases hx0 : 0 < x
                      · go_wp2_with fail
                        rw [HWX.out]
                        exact ⟨HEND.out nq q1 true (by rw [HX.out.2.1, HST.out.1, if_pos hx0, HX.out.2.2]) ⟨by rw [HX.out.2.1, HST.out.2], by simp⟩, by simp [intOf]; have := HX.out; omega⟩
                      · go_wp2_with fail
                        rw [HWX.out]
                        exact ⟨HEND.out nq q true (by rw [HX.out.2.1, HST.out.1, if_neg hx0, Nat.add_zero]) ⟨by rw [HX.out.2.1, HST.out.2], by simp⟩, by simp [intOf]; have := HX.out; omega⟩
                    | false =>
                      by_cases hxn : x < 0
                      · have hx0 : ¬ 0 < x := by omega
                        have HF := Lib.hid (show badF x = true from by simp [badF, hxn])
                        go_wp2_with fail
                        rw [HWX.out]
                        exact ⟨HEND.out nq q true (by rw [HX.out.2.1, HST.out.1, if_neg hx0, Nat.add_zero]) ⟨by rw [HX.out.2.1, HST.out.2], by rw [HF.out]; rfl⟩, by simp [intOf]; have := HX.out; omega⟩
                      · by_cases hxb : 1099511627776 < x
                        · have hx0 : 0 < x := by omega
                          have HF := Lib.hid (show badF x = true from by simp [badF, hxb])
                          go_wp2_with fail
                          rw [HWX.out]
                          exact ⟨HEND.out nq q1 true (by rw [HX.out.2.1, HST.out.1, if_pos hx0, HX.out.2.2]) ⟨by rw [HX.out.2.1, HST.out.2], by rw [HF.out]; rfl⟩, by simp [intOf]; have := HX.out; omega⟩
                        · have HF := Lib.hid (show badF x = false from by rw [badF, decide_eq_false hxn, decide_eq_false hxb]; rfl)
                          by_cases hx0 : 0 < x
                          · go_wp2_with fail
                            rw [HWX.out]
                            exact ⟨HEND.out nq q1 false (by rw [HX.out.2.1, HST.out.1, if_pos hx0, HX.out.2.2]) ⟨by rw [HX.out.2.1, HST.out.2], by rw [HF.out]; rfl⟩, by simp [intOf]; have := HX.out; omega⟩
                          · go_wp2_with fail
                            rw [HWX.out]
                            exact ⟨HEND.out nq q false (by rw [HX.out.2.1, HST.out.1, if_neg hx0, Nat.add_zero]) ⟨by rw [HX.out.2.1, HST.out.2], by rw [HF.out]; rfl⟩, by simp [intOf]; have := HX.out; omega⟩
                  · have hltz : ¬ (i : Int) < (N : Int) := by omega
                    have hiN : i = N := by have := HI.out.1; omega
                    have HE := Lib.hid (show q = cntZ xs xs.length ∧ B = (B0 || xs.any badF) ∧ Ext w5 wr from ⟨by rw [HI.out.2.2.1, hiN, HN.out], by rw [HI.out.2.2.2.1, hiN, HN.out, List.take_of_length_le (Nat.le_refl _)], by rw [HI.out.2.1]; exact (Ext.refl w5).drewN m⟩)
                    clear hiN hlt
                    have hBt : B = true := by rw [HE.out.2.1]; exact HBT.out
                    subst hBt
                    go_wp2_with fail
                    refine Calls.mono (HPK.out wr ((HVG.out.2.trans HX5.out).trans HE.out.2.2)) ?_
                    rintro e w' ⟨rfl, hx⟩
                    have HXX := Lib.hid hx
                    clear hx
                    go_wp2_with fail
                    go_ret
                    exact ⟨rfl, HXX.out⟩
              · go_wp2_with fail
                obtain ⟨B0, hB0⟩ : ∃ B0, B0 = false := ⟨_, rfl⟩
                have HB0 := Lib.hid hB0
                have HBT := Lib.hid (show (B0 || xs.any badF) = true from by rw [hB0]; have := HN.out; rcases HBT0.out with h | h | h | h; omega; omega; omega; exact h)
                clear hB0
                go_loopw [8, 9, 10] (fun v8 v9 v10 wr => AsI xs N B0 w5 v8 v9 v10 wr) (fun _ _ v10 _ => N - (intOf v10).toNat)
                case atStart => exact ⟨0, 0, by go_num, Nat.zero_le _, by simp [cntZ], by simp [HB0.out] <;> omega, rfl⟩
                case round =>
                  obtain ⟨i, m, rfl, hiN, rfl, rfl, hwr⟩ := hrel
                  obtain ⟨q, hq⟩ : ∃ q, q = cntZ xs i := ⟨_, rfl⟩
                  obtain ⟨B, hB⟩ : ∃ B, B = (B0 || (xs.take i).any badF) := ⟨_, rfl⟩
                  rw [← hq, ← hB]
                  have hqi : q ≤ i := by rw [hq]; exact cntZ_le xs i
                  have HI := Lib.hid (show i ≤ N ∧ wr = w5.drewN m ∧ q = cntZ xs i ∧ B = (B0 || (xs.take i).any badF) ∧ q ≤ i from ⟨hiN, hwr, hq, hB, hqi⟩)
                  clear hiN hwr hq hB hqi
                  by_cases hlt : i < N
                  · have hltz : (i : Int) < (N : Int) := by omega
                    obtain ⟨fb, fo, rfl, c1⟩ := HCC.out m i hlt
                    obtain ⟨gb, go', rfl, c2⟩ := HCG.out m i hlt
                    rw [← HI.out.2.1] at c1 c2
                    have HST := Lib.hid (show cntZ xs (i + 1) = cntZ xs i + (if 0 < xs.getD i 0 then 1 else 0) ∧ (xs.take (i + 1)).any badF = ((xs.take i).any badF || badF (xs.getD i 0)) from ⟨cntZ_succ (by rw [← HN.out]; exact hlt), badZ_succ (by rw [← HN.out]; exact hlt)⟩)
                    obtain ⟨x, hx⟩ : ∃ x, x = xs.getD i 0 := ⟨_, rfl⟩
                    rw [← hx] at c1 c2 HST
                    rw [← HI.out.2.2.1] at HST
                    obtain ⟨i1, hi1⟩ : ∃ i1, i1 = i + 1 := ⟨_, rfl⟩
                    obtain ⟨q1, hq1⟩ : ∃ q1, q1 = q + 1 := ⟨_, rfl⟩
                    have hqi := HI.out.2.2.2.2
                    have wi : IntKind.i64.wrap ((i : Int) + 1) = (i1 : Int) := by rw [show (i : Int) + 1 = ((i1 : Nat) : Int) by omega]; exact IntWalk.i64_in _ (by omega)
                    have wq : IntKind.i64.wrap ((q : Int) + 1) = (q1 : Int) := by rw [show (q : Int) + 1 = ((q1 : Nat) : Int) by omega]; exact IntWalk.i64_in _ (by omega)
                    have HX := Lib.hid (show i < N ∧ i1 = i + 1 ∧ q1 = q + 1 from ⟨hlt, hi1, hq1⟩)
                    have HEND := Lib.hid (show ∀ (nq q' : Nat) (B' : Bool), cntZ xs i1 = q' → (xs.take i1).any badF = ((xs.take i).any badF || badF x) ∧ (B' = (B || badF x)) → AsI xs N B0 w5 (.int .i64 q') (.bool B') (.int .i64 i1) (wr.drewN nq) from fun nq q' B' h1 h2 => ⟨i1, m + nq, rfl, by have := HX.out; omega, by rw [h1], by rw [h2.2, h2.1, HI.out.2.2.2.1, Bool.or_assoc], by rw [HI.out.2.1, World.drewN_drewN]⟩)
                    clear hx hi1 hq1 hqi hlt
                    go_wp2_with fail
                    go_quiet (fail)
                    have c1' : (wr.drewN nq).cell? ⟨fb, fo + i, none⟩ = some (.int .i64 x) := c1
                    have c2' : (wr.drewN nq).cell? ⟨gb, go' + i, none⟩ = some (.int .i64 x) := c2
                    obtain ⟨wx, hwx⟩ : ∃ wx, wx = wr.drewN nq := ⟨_, rfl⟩
                    rw [← hwx] at c1' c2' ⊢
                    have HWX := Lib.hid hwx
                    clear c1 c2 hwx
                    cases B with
                    | true =>
                      by_cases hx0 : 0 < x
                      · go_wp2_with fail
                        rw [HWX.out]
                        exact ⟨HEND.out nq q1 true (by rw [HX.out.2.1, HST.out.1, if_pos hx0, HX.out.2.2]) ⟨by rw [HX.out.2.1, HST.out.2], by simp⟩, by simp [intOf]; have := HX.out; omega⟩
                      · go_wp2_with fail
                        rw [HWX.out]
                        exact ⟨HEND.out nq q true (by rw [HX.out.2.1, HST.out.1, if_neg hx0, Nat.add_zero]) ⟨by rw [HX.out.2.1, HST.out.2], by simp⟩, by simp [intOf]; have := HX.out; omega⟩
                    | false =>
                      by_cases hxn : x < 0
                      · have hx0 : ¬ 0 < x := by omega
                        have HF := Lib.hid (show badF x = true from by simp [badF, hxn])
                        go_wp2_with fail
                        rw [HWX.out]
                        exact ⟨HEND.out nq q true (by rw [HX.out.2.1, HST.out.1, if_neg hx0, Nat.add_zero]) ⟨by rw [HX.out.2.1, HST.out.2], by rw [HF.out]; rfl⟩, by simp [intOf]; have := HX.out; omega⟩
                      · by_cases hxb : 1099511627776 < x
                        · have hx0 : 0 < x := by omega
                          have HF := Lib.hid (show badF x = true from by simp [badF, hxb])
                          go_wp2_with fail
                          rw [HWX.out]
                          exact ⟨HEND.out nq q1 true (by rw [HX.out.2.1, HST.out.1, if_pos hx0, HX.out.2.2]) ⟨by rw [HX.out.2.1, HST.out.2], by rw [HF.out]; rfl⟩, by simp [intOf]; have := HX.out; omega⟩
                        · have HF := Lib.hid (show badF x = false from by rw [badF, decide_eq_false hxn, decide_eq_false hxb]; rfl)
                          by_cases hx0 : 0 < x
                          · go_wp2_with fail
                            rw [HWX.out]
                            exact ⟨HEND.out nq q1 false (by rw [HX.out.2.1, HST.out.1, if_pos hx0, HX.out.2.2]) ⟨by rw [HX.out.2.1, HST.out.2], by rw [HF.out]; rfl⟩, by simp [intOf]; have := HX.out; omega⟩
                          · go_wp2_with fail
                            rw [HWX.out]
                            exact ⟨HEND.out nq q false (by rw [HX.out.2.1, HST.out.1, if_neg hx0, Nat.add_zero]) ⟨by rw [HX.out.2.1, HST.out.2], by rw [HF.out]; rfl⟩, by simp [intOf]; have := HX.out; omega⟩
                  · have hltz : ¬ (i : Int) < (N : Int) := by omega
                    have hiN : i = N := by have := HI.out.1; omega
                    have HE := Lib.hid (show q = cntZ xs xs.length ∧ B = (B0 || xs.any badF) ∧ Ext w5 wr from ⟨by rw [HI.out.2.2.1, hiN, HN.out], by rw [HI.out.2.2.2.1, hiN, HN.out, List.take_of_length_le (Nat.le_refl _)], by rw [HI.out.2.1]; exact (Ext.refl w5).drewN m⟩)
                    clear hiN hlt
                    have hBt : B = true := by rw [HE.out.2.1]; exact HBT.out
                    subst hBt
                    go_wp2_with fail
                    refine Calls.mono (HPK.out wr ((HVG.out.2.trans HX5.out).trans HE.out.2.2)) ?_
                    rintro e w' ⟨rfl, hx⟩
                    have HXX := Lib.hid hx
                    clear hx
                    go_wp2_with fail
                    go_ret
                    exact ⟨rfl, HXX.out⟩
        · have HX5 := Lib.hid (show Ext w4 w5 from hx)
          clear HRES
          have HCC := Lib.hid (show ∀ m j, j < N → ∃ b o, ao = some ⟨b, o, none⟩ ∧ (w5.drewN m).cell? ⟨b, o + j, none⟩ = some (.int .i64 (xs.getD j 0)) from fun m j hj => by
            obtain ⟨b, o, rfl, _, hc⟩ := viewL_cells (((HV.out.ext HVG.out.2).ext HX5.out).ext ((Ext.refl w5).drewN m)) (by rw [length_ints, ← HN.out]; omega)
            have hjl : j < xs.length := by rw [← HN.out]; exact hj
            refine ⟨b, o, rfl, hc j _ ?_⟩
            rw [getElem?_ints xs j hjl]; simp [List.getD, hjl])
          have HCG := Lib.hid (show ∀ m j, j < N → ∃ b o, ga = some ⟨b, o, none⟩ ∧ (w5.drewN m).cell? ⟨b, o + j, none⟩ = some (.int .i64 (xs.getD j 0)) from fun m j hj => by
            obtain ⟨b, o, rfl, _, hc⟩ := viewL_cells ((HVG.out.1.ext HX5.out).ext ((Ext.refl w5).drewN m)) (by rw [length_ints, ← HN.out]; omega)
            have hjl : j < xs.length := by rw [← HN.out]; exact hj
            refine ⟨b, o, rfl, hc j _ ?_⟩
            rw [getElem?_ints xs j hjl]; simp [List.getD, hjl])
          have hNz : (N : Int) ≤ 2000 := by have := HLX.out.2; omega
          have HOK := Lib.hid (And.intro hok hform)
          have hlimL : lim = (L : Int) := hok.lim
          subst hlimL
          clear hok hform hx
          have hl1 : ¬ (L : Int) < 1 := by have := HOK.out.1.lo; omega
          have hl17 : ¬ (17 : Int) < (L : Int) := by have := HOK.out.1.hi; omega
          have hFN : F.length = N := by rw [HN.out, HOK.out.1.fs, List.length_map]
          have h512 : ¬ (512 : Int) < (N : Int) := by have := HOK.out.1.len; omega
          have HFN := Lib.hid (show F.length = N ∧ N ≤ 40 from ⟨hFN, by have := HOK.out.1.len; rcases HS.out with h | h <;> omega⟩)
          have HNB := Lib.hid (show xs.any badF = false from by
            rw [HOK.out.1.fs, List.any_map]
            apply List.any_eq_false.2
            intro x hx
            have := HOK.out.1.top x hx
            simp [badF]; omega)
          have HQN := Lib.hid (show cntZ xs xs.length = P.length from cntZ_ord HOK.out.1.fs HOK.out.1.ord)
          clear hFN
          go_wp2_with fail
          obtain ⟨B0, hB0⟩ : ∃ B0, B0 = false := ⟨_, rfl⟩
          have HB0 := Lib.hid hB0
          clear hB0
          go_loopw [8, 9, 10] (fun v8 v9 v10 wr => AsI xs N B0 w5 v8 v9 v10 wr) (fun _ _ v10 _ => N - (intOf v10).toNat)
          case atStart => exact ⟨0, 0, by go_num, Nat.zero_le _, by simp [cntZ], by simp [HB0.out] <;> omega, rfl⟩
          case round =>
            obtain ⟨i, m, rfl, hiN, rfl, rfl, hwr⟩ := hrel
            obtain ⟨q, hq⟩ : ∃ q, q = cntZ xs i := ⟨_, rfl⟩
            obtain ⟨B, hB⟩ : ∃ B, B = (B0 || (xs.take i).any badF) := ⟨_, rfl⟩
            rw [← hq, ← hB]
            have hqi : q ≤ i := by rw [hq]; exact cntZ_le xs i
            have HI := Lib.hid (show i ≤ N ∧ wr = w5.drewN m ∧ q = cntZ xs i ∧ B = (B0 || (xs.take i).any badF) ∧ q ≤ i from ⟨hiN, hwr, hq, hB, hqi⟩)
            clear hiN hwr hq hB hqi
            by_cases hlt : i < N
            · have hltz : (i : Int) < (N : Int) := by omega
              obtain ⟨fb, fo, rfl, c1⟩ := HCC.out m i hlt
              obtain ⟨gb, go', rfl, c2⟩ := HCG.out m i hlt
              rw [← HI.out.2.1] at c1 c2
              have HST := Lib.hid (show cntZ xs (i + 1) = cntZ xs i + (if 0 < xs.getD i 0 then 1 else 0) ∧ (xs.take (i + 1)).any badF = ((xs.take i).any badF || badF (xs.getD i 0)) from ⟨cntZ_succ (by rw [← HN.out]; exact hlt), badZ_succ (by rw [← HN.out]; exact hlt)⟩)
              obtain ⟨x, hx⟩ : ∃ x, x = xs.getD i 0 := ⟨_, rfl⟩
              rw [← hx] at c1 c2 HST
              rw [← HI.out.2.2.1] at HST
              obtain ⟨i1, hi1⟩ : ∃ i1, i1 = i + 1 := ⟨_, rfl⟩
              obtain ⟨q1, hq1⟩ : ∃ q1, q1 = q + 1 := ⟨_, rfl⟩
              have hqi := HI.out.2.2.2.2
              have wi : IntKind.i64.wrap ((i : Int) + 1) = (i1 : Int) := by rw [show (i : Int) + 1 = ((i1 : Nat) : Int) by omega]; exact IntWalk.i64_in _ (by omega)
              have wq : IntKind.i64.wrap ((q : Int) + 1) = (q1 : Int) := by rw [show (q : Int) + 1 = ((q1 : Nat) : Int) by omega]; exact IntWalk.i64_in _ (by omega)
              have HX := Lib.hid (show i < N ∧ i1 = i + 1 ∧ q1 = q + 1 from ⟨hlt, hi1, hq1⟩)
              have HEND := Lib.hid (show ∀ (nq q' : Nat) (B' : Bool), cntZ xs i1 = q' → (xs.take i1).any badF = ((xs.take i).any badF || badF x) ∧ (B' = (B || badF x)) → AsI xs N B0 w5 (.int .i64 q') (.bool B') (.int .i64 i1) (wr.drewN nq) from fun nq q' B' h1 h2 => ⟨i1, m + nq, rfl, by have := HX.out; omega, by rw [h1], by rw [h2.2, h2.1, HI.out.2.2.2.1, Bool.or_assoc], by rw [HI.out.2.1, World.drewN_drewN]⟩)
              clear hx hi1 hq1 hqi hlt
              go_wp2_with fail
              go_quiet (fail)
              have c1' : (wr.drewN nq).cell? ⟨fb, fo + i, none⟩ = some (.int .i64 x) := c1
              have c2' : (wr.drewN nq).cell? ⟨gb, go' + i, none⟩ = some (.int .i64 x) := c2
              obtain ⟨wx, hwx⟩ : ∃ wx, wx = wr.drewN nq := ⟨_, rfl⟩
              rw [← hwx] at c1' c2' ⊢
              have HWX := Lib.hid hwx
              clear c1 c2 hwx
              cases B with
              | true =>
                by_cases hx0 : 0 < x
                · go_wp2_with fail
                  rw [HWX.out]
                  exact ⟨HEND.out nq q1 true (by rw [HX.out.2.1, HST.out.1, if_pos hx0, HX.out.2.2]) ⟨by rw [HX.out.2.1, HST.out.2], by simp⟩, by simp [intOf]; have := HX.out; omega⟩
                · go_wp2_with fail
                  rw [HWX.out]
                  exact ⟨HEND.out nq q true (by rw [HX.out.2.1, HST.out.1, if_neg hx0, Nat.add_zero]) ⟨by rw [HX.out.2.1, HST.out.2], by simp⟩, by simp [intOf]; have := HX.out; omega⟩
              | false =>
                by_cases hxn : x < 0
                · have hx0 : ¬ 0 < x := by omega
                  have HF := Lib.hid (show badF x = true from by simp [badF, hxn])
                  go_wp2_with fail
                  rw [HWX.out]
                  exact ⟨HEND.out nq q true (by rw [HX.out.2.1, HST.out.1, if_neg hx0, Nat.add_zero]) ⟨by rw [HX.out.2.1, HST.out.2], by rw [HF.out]; rfl⟩, by simp [intOf]; have := HX.out; omega⟩
                · by_cases hxb : 1099511627776 < x
                  · have hx0 : 0 < x := by omega
                    have HF := Lib.hid (show badF x = true from by simp [badF, hxb])
                    go_wp2_with fail
                    rw [HWX.out]
                    exact ⟨HEND.out nq q1 true (by rw [HX.out.2.1, HST.out.1, if_pos hx0, HX.out.2.2]) ⟨by rw [HX.out.2.1, HST.out.2], by rw [HF.out]; rfl⟩, by simp [intOf]; have := HX.out; omega⟩
                  · have HF := Lib.hid (show badF x = false from by rw [badF, decide_eq_false hxn, decide_eq_false hxb]; rfl)
                    by_cases hx0 : 0 < x
                    · go_wp2_with fail
                      rw [HWX.out]
                      exact ⟨HEND.out nq q1 false (by rw [HX.out.2.1, HST.out.1, if_pos hx0, HX.out.2.2]) ⟨by rw [HX.out.2.1, HST.out.2], by rw [HF.out]; rfl⟩, by simp [intOf]; have := HX.out; omega⟩
                    · go_wp2_with fail
                      rw [HWX.out]
                      exact ⟨HEND.out nq q false (by rw [HX.out.2.1, HST.out.1, if_neg hx0, Nat.add_zero]) ⟨by rw [HX.out.2.1, HST.out.2], by rw [HF.out]; rfl⟩, by simp [intOf]; have := HX.out; omega⟩
            · have hltz : ¬ (i : Int) < (N : Int) := by omega
              have hiN : i = N := by have := HI.out.1; omega
              have HE := Lib.hid (show q = cntZ xs xs.length ∧ B = (B0 || xs.any badF) ∧ Ext w5 wr from ⟨by rw [HI.out.2.2.1, hiN, HN.out], by rw [HI.out.2.2.2.1, hiN, HN.out, List.take_of_length_le (Nat.le_refl _)], by rw [HI.out.2.1]; exact (Ext.refl w5).drewN m⟩)
              clear hiN hlt
              have hBf : B = false := by rw [HE.out.2.1, HB0.out, HNB.out]; rfl
              subst hBf
              obtain ⟨m2, hm2⟩ : ∃ m2, m2 = 2 ^ L := ⟨_, rfl⟩
              have hm2z : (2 : Int) ^ L = (m2 : Int) := by rw [hm2]; push_cast; rfl
              have hm2b : m2 ≤ 2 ^ 17 := by rw [hm2]; exact Nat.pow_le_pow_right (by decide) HOK.out.1.hi
              have hmw : IntKind.i64.wrap ((2 : Int) ^ (min L 64)) = (m2 : Int) := by rw [show min L 64 = L by have := HOK.out.1.hi; omega, hm2z]; exact IntWalk.i64_in _ (by omega)
              have hqm : (m2 : Int) < (q : Int) := by have h := HOK.out.2; rw [← HQN.out, ← HE.out.1, ← hm2] at h; omega
              clear hm2 hm2z hm2b hl1 hl17
              go_wp2_with fail
              refine Calls.mono (HPK.out wr ((HVG.out.2.trans HX5.out).trans HE.out.2.2)) ?_
              rintro e w' ⟨rfl, hx⟩
              have HXX := Lib.hid hx
              clear hx
              go_wp2_with fail
              go_ret
              exact ⟨rfl, HXX.out⟩
        · have HX5 := Lib.hid (show Ext w4 w5 from hbo.toExt)
          clear HRES
          have HCC := Lib.hid (show ∀ m j, j < N → ∃ b o, ao = some ⟨b, o, none⟩ ∧ (w5.drewN m).cell? ⟨b, o + j, none⟩ = some (.int .i64 (xs.getD j 0)) from fun m j hj => by
            obtain ⟨b, o, rfl, _, hc⟩ := viewL_cells (((HV.out.ext HVG.out.2).ext HX5.out).ext ((Ext.refl w5).drewN m)) (by rw [length_ints, ← HN.out]; omega)
            have hjl : j < xs.length := by rw [← HN.out]; exact hj
            refine ⟨b, o, rfl, hc j _ ?_⟩
            rw [getElem?_ints xs j hjl]; simp [List.getD, hjl])
          have HCG := Lib.hid (show ∀ m j, j < N → ∃ b o, ga = some ⟨b, o, none⟩ ∧ (w5.drewN m).cell? ⟨b, o + j, none⟩ = some (.int .i64 (xs.getD j 0)) from fun m j hj => by
            obtain ⟨b, o, rfl, _, hc⟩ := viewL_cells ((HVG.out.1.ext HX5.out).ext ((Ext.refl w5).drewN m)) (by rw [length_ints, ← HN.out]; omega)
            have hjl : j < xs.length := by rw [← HN.out]; exact hj
            refine ⟨b, o, rfl, hc j _ ?_⟩
            rw [getElem?_ints xs j hjl]; simp [List.getD, hjl])
          have hNz : (N : Int) ≤ 2000 := by have := HLX.out.2; omega
          obtain ⟨la, lc, hlv⟩ := hbo.viewL.shape
          have hFN0 : F.length = N := by rw [HN.out, hok.fs, List.length_map]
          rw [length_u8s, lensP_len, hFN0] at hlv
          subst hlv
          have HBO := Lib.hid hbo
          have HOK := Lib.hid (And.intro hok hp)
          have hlimL : lim = (L : Int) := hok.lim
          subst hlimL
          clear hok hp hbo hFN0
          have hl1 : ¬ (L : Int) < 1 := by have := HOK.out.1.lo; omega
          have hl17 : ¬ (17 : Int) < (L : Int) := by have := HOK.out.1.hi; omega
          have hFN : F.length = N := by rw [HN.out, HOK.out.1.fs, List.length_map]
          have h512 : ¬ (512 : Int) < (N : Int) := by have := HOK.out.1.len; omega
          have HFN := Lib.hid (show F.length = N ∧ N ≤ 40 from ⟨hFN, by have := HOK.out.1.len; rcases HS.out with h | h <;> omega⟩)
          have HNB := Lib.hid (show xs.any badF = false from by
            rw [HOK.out.1.fs, List.any_map]
            apply List.any_eq_false.2
            intro x hx
            have := HOK.out.1.top x hx
            simp [badF]; omega)
          have HQN := Lib.hid (show cntZ xs xs.length = P.length from cntZ_ord HOK.out.1.fs HOK.out.1.ord)
          clear hFN
          go_wp2_with fail
          obtain ⟨B0, hB0⟩ : ∃ B0, B0 = false := ⟨_, rfl⟩
          have HB0 := Lib.hid hB0
          clear hB0
          go_loopw [8, 9, 10] (fun v8 v9 v10 wr => AsI xs N B0 w5 v8 v9 v10 wr) (fun _ _ v10 _ => N - (intOf v10).toNat)
          case atStart => exact ⟨0, 0, by go_num, Nat.zero_le _, by simp [cntZ], by simp [HB0.out] <;> omega, rfl⟩
          case round =>
            obtain ⟨i, m, rfl, hiN, rfl, rfl, hwr⟩ := hrel
            obtain ⟨q, hq⟩ : ∃ q, q = cntZ xs i := ⟨_, rfl⟩
            obtain ⟨B, hB⟩ : ∃ B, B = (B0 || (xs.take i).any badF) := ⟨_, rfl⟩
            rw [← hq, ← hB]
            have hqi : q ≤ i := by rw [hq]; exact cntZ_le xs i
            have HI := Lib.hid (show i ≤ N ∧ wr = w5.drewN m ∧ q = cntZ xs i ∧ B = (B0 || (xs.take i).any badF) ∧ q ≤ i from ⟨hiN, hwr, hq, hB, hqi⟩)
            clear hiN hwr hq hB hqi
            by_cases hlt : i < N
            · have hltz : (i : Int) < (N : Int) := by omega
              obtain ⟨fb, fo, rfl, c1⟩ := HCC.out m i hlt
              obtain ⟨gb, go', rfl, c2⟩ := HCG.out m i hlt
              rw [← HI.out.2.1] at c1 c2
              have HST := Lib.hid (show cntZ xs (i + 1) = cntZ xs i + (if 0 < xs.getD i 0 then 1 else 0) ∧ (xs.take (i + 1)).any badF = ((xs.take i).any badF || badF (xs.getD i 0)) from ⟨cntZ_succ (by rw [← HN.out]; exact hlt), badZ_succ (by rw [← HN.out]; exact hlt)⟩)
              obtain ⟨x, hx⟩ : ∃ x, x = xs.getD i 0 := ⟨_, rfl⟩
              rw [← hx] at c1 c2 HST
              rw [← HI.out.2.2.1] at HST
              obtain ⟨i1, hi1⟩ : ∃ i1, i1 = i + 1 := ⟨_, rfl⟩
              obtain ⟨q1, hq1⟩ : ∃ q1, q1 = q + 1 := ⟨_, rfl⟩
              have hqi := HI.out.2.2.2.2
              have wi : IntKind.i64.wrap ((i : Int) + 1) = (i1 : Int) := by rw [show (i : Int) + 1 = ((i1 : Nat) : Int) by omega]; exact IntWalk.i64_in _ (by omega)
              have wq : IntKind.i64.wrap ((q : Int) + 1) = (q1 : Int) := by rw [show (q : Int) + 1 = ((q1 : Nat) : Int) by omega]; exact IntWalk.i64_in _ (by omega)
              have HX := Lib.hid (show i < N ∧ i1 = i + 1 ∧ q1 = q + 1 from ⟨hlt, hi1, hq1⟩)
              have HEND := Lib.hid (show ∀ (nq q' : Nat) (B' : Bool), cntZ xs i1 = q' → (xs.take i1).any badF = ((xs.take i).any badF || badF x) ∧ (B' = (B || badF x)) → AsI xs N B0 w5 (.int .i64 q') (.bool B') (.int .i64 i1) (wr.drewN nq) from fun nq q' B' h1 h2 => ⟨i1, m + nq, rfl, by have := HX.out; omega, by rw [h1], by rw [h2.2, h2.1, HI.out.2.2.2.1, Bool.or_assoc], by rw [HI.out.2.1, World.drewN_drewN]⟩)
              clear hx hi1 hq1 hqi hlt
              go_wp2_with fail
              go_quiet (fail)
              have c1' : (wr.drewN nq).cell? ⟨fb, fo + i, none⟩ = some (.int .i64 x) := c1
              have c2' : (wr.drewN nq).cell? ⟨gb, go' + i, none⟩ = some (.int .i64 x) := c2
              obtain ⟨wx, hwx⟩ : ∃ wx, wx = wr.drewN nq := ⟨_, rfl⟩
              rw [← hwx] at c1' c2' ⊢
              have HWX := Lib.hid hwx
              clear c1 c2 hwx
              cases B with
              | true =>
                by_cases hx0 : 0 < x
                · go_wp2_with fail
                  rw [HWX.out]
                  exact ⟨HEND.out nq q1 true (by rw [HX.out.2.1, HST.out.1, if_pos hx0, HX.out.2.2]) ⟨by rw [HX.out.2.1, HST.out.2], by simp⟩, by simp [intOf]; have := HX.out; omega⟩
                · go_wp2_with fail
                  rw [HWX.out]
                  exact ⟨HEND.out nq q true (by rw [HX.out.2.1, HST.out.1, if_neg hx0, Nat.add_zero]) ⟨by rw [HX.out.2.1, HST.out.2], by simp⟩, by simp [intOf]; have := HX.out; omega⟩
              | false =>
                by_cases hxn : x < 0
                · have hx0 : ¬ 0 < x := by omega
                  have HF := Lib.hid (show badF x = true from by simp [badF, hxn])
                  go_wp2_with fail
                  rw [HWX.out]
                  exact ⟨HEND.out nq q true (by rw [HX.out.2.1, HST.out.1, if_neg hx0, Nat.add_zero]) ⟨by rw [HX.out.2.1, HST.out.2], by rw [HF.out]; rfl⟩, by simp [intOf]; have := HX.out; omega⟩
                · by_cases hxb : 1099511627776 < x
                  · have hx0 : 0 < x := by omega
                    have HF := Lib.hid (show badF x = true from by simp [badF, hxb])
                    go_wp2_with fail
                    rw [HWX.out]
                    exact ⟨HEND.out nq q1 true (by rw [HX.out.2.1, HST.out.1, if_pos hx0, HX.out.2.2]) ⟨by rw [HX.out.2.1, HST.out.2], by rw [HF.out]; rfl⟩, by simp [intOf]; have := HX.out; omega⟩
                  · have HF := Lib.hid (show badF x = false from by rw [badF, decide_eq_false hxn, decide_eq_false hxb]; rfl)
                    by_cases hx0 : 0 < x
                    · go_wp2_with fail
                      rw [HWX.out]
                      exact ⟨HEND.out nq q1 false (by rw [HX.out.2.1, HST.out.1, if_pos hx0, HX.out.2.2]) ⟨by rw [HX.out.2.1, HST.out.2], by rw [HF.out]; rfl⟩, by simp [intOf]; have := HX.out; omega⟩
                    · go_wp2_with fail
                      rw [HWX.out]
                      exact ⟨HEND.out nq q false (by rw [HX.out.2.1, HST.out.1, if_neg hx0, Nat.add_zero]) ⟨by rw [HX.out.2.1, HST.out.2], by rw [HF.out]; rfl⟩, by simp [intOf]; have := HX.out; omega⟩
            · have hltz : ¬ (i : Int) < (N : Int) := by omega
              have hiN : i = N := by have := HI.out.1; omega
              have HE := Lib.hid (show q = cntZ xs xs.length ∧ B = (B0 || xs.any badF) ∧ Ext w5 wr from ⟨by rw [HI.out.2.2.1, hiN, HN.out], by rw [HI.out.2.2.2.1, hiN, HN.out, List.take_of_length_le (Nat.le_refl _)], by rw [HI.out.2.1]; exact (Ext.refl w5).drewN m⟩)
              clear hiN hlt
              have hBf : B = false := by rw [HE.out.2.1, HB0.out, HNB.out]; rfl
              subst hBf
              obtain ⟨m2, hm2⟩ : ∃ m2, m2 = 2 ^ L := ⟨_, rfl⟩
              have hm2z : (2 : Int) ^ L = (m2 : Int) := by rw [hm2]; push_cast; rfl
              have hm2b : m2 ≤ 2 ^ 17 := by rw [hm2]; exact Nat.pow_le_pow_right (by decide) HOK.out.1.hi
              have hmw : IntKind.i64.wrap ((2 : Int) ^ (min L 64)) = (m2 : Int) := by rw [show min L 64 = L by have := HOK.out.1.hi; omega, hm2z]; exact IntWalk.i64_in _ (by omega)
              have hqm : ¬ (m2 : Int) < (q : Int) := by have h := HOK.out.2; rw [← HQN.out, ← HE.out.1, ← hm2] at h; omega
              have HXR := Lib.hid (show Ext w wr from (HVG.out.2.trans HX5.out).trans HE.out.2.2)
              have HVF := Lib.hid (show ∀ wx, Ext w wx → ViewL wx (.slice ao N cap) (intsL F) from fun wx hx => by rw [← ints_nat HOK.out.1.fs]; exact HV.out.ext hx)
              have HLV := Lib.hid (show ∀ wx, Ext wr wx → ViewL wx (.slice la N lc) (u8s (lensP F P (L - 1))) from fun wx hx => (HBO.out.viewL.ext HE.out.2.2).ext hx)
              have HOWN2 := Lib.hid (show Choice F (lensP F P (L - 1)) L from by
                have h := choice_own HOK.out.1.ord (i := L - 1) (by have := HOK.out.1.hi; have := HOK.out.1.lo; omega) (by rw [show L - 1 + 1 = L by have := HOK.out.1.lo; omega]; exact HOK.out.2) HOK.out.1.len
                rw [show L - 1 + 1 = L by have := HOK.out.1.lo; omega] at h
                exact h)
              have HCH2 := Lib.hid (lim_choice F (lensP F P (L - 1)) (.slice ao N cap) (.slice la N lc) L wr (HVF.out wr HXR.out) (HLV.out wr (Ext.refl wr)) (by have := HFN.out; omega) (by rw [lensP_len]; have := HFN.out; omega) (fun z hz => by have := lensP_le F P (L - 1) z hz; have := HOK.out.1.hi; omega) HOK.out.1.hi)
              clear hm2 hm2z hm2b hl1 hl17
              go_wp2_with fail
              refine Calls.mono HCH2.out ?_
              rintro e w6 ⟨b, rfl, hb, m6, hw6⟩
              obtain rfl : b = true := hb.2 HOWN2.out
              have HX6 := Lib.hid (show Ext wr w6 from by rw [hw6]; exact (Ext.refl wr).drewN m6)
              clear hb hw6 HCH2 hqm hmw
              by_cases hq2 : (q : Int) < 2
              · go_wp2_with fail
                refine Calls.mono (HPK.out w6 (HXR.out.trans HX6.out)) ?_
                rintro e w' ⟨rfl, hx⟩
                have HXX := Lib.hid hx
                clear hx
                go_wp2_with fail
                go_ret
                exact ⟨rfl, HXX.out⟩
              · have HQ2 := Lib.hid (show 2 ≤ P.length from by rw [← HQN.out, ← HE.out.1]; omega)
                have hAb : sumTo F (lensP F P (L - 1)) F.length < 2 ^ 60 := by
                  have h := sumTo_bound (F := F) (Ls := lensP F P (L - 1)) (fun z hz => by have := HOK.out.1.top z hz; omega) (fun z hz => by have := lensP_le F P (L - 1) z hz; have := HOK.out.1.hi; omega) F.length (Nat.le_refl _) (by rw [lensP_len]; exact Nat.le_refl _)
                  have : F.length * 2 ^ 50 ≤ 2 ^ 9 * 2 ^ 50 := Nat.mul_le_mul_right _ (by have := HFN.out; omega)
                  omega
                have hEQ := asks_eq HOK.out.1.ord HOK.out.1.lo HOK.out.2 HQ2.out hAb
                have hsa := lim_sum F (lensP F P (L - 1)) (.slice ao N cap) (.slice la N lc) w6 (HVF.out w6 (HXR.out.trans HX6.out)) (HLV.out w6 HX6.out) (fun z hz => by have := HOK.out.1.top z hz; omega) (fun z hz => by have := lensP_le F P (L - 1) z hz; have := HOK.out.1.hi; omega) (by have := HFN.out; omega) (lensP_len F P (L - 1))
                have hle := fun w7 (hx : Ext w w7) => ref_least F P (.slice ao N cap) L w7 (HVF.out w7 hx) (by have := HFN.out; omega) HOK.out.1.top HOK.out.1.ord HQ2.out HOK.out.1.lo HOK.out.1.hi (by rw [hEQ]; exact hAb)
                rw [hEQ] at hle
                obtain ⟨A, hA⟩ : ∃ A, A = sumTo F (lensP F P (L - 1)) F.length := ⟨_, rfl⟩
                rw [← hA] at hsa hle
                have HSA := Lib.hid hsa
                have HLE := Lib.hid hle
                have hAA : ((A : Int) == (A : Int)) = true := beq_self_eq_true _
                clear hsa hle hA hEQ hAb
                go_wp2_with fail
                refine Calls.mono HSA.out ?_
                rintro e w7 ⟨rfl, hx7⟩
                have HX7 := Lib.hid (show Ext w w7 from (HXR.out.trans HX6.out).trans hx7)
                clear HSA hx7
                go_wp2_with fail
                refine Calls.mono (HLE.out w7 HX7.out) ?_
                rintro e w8 ⟨rfl, hx8⟩
                have HX8 := Lib.hid (show Ext w w8 from HX7.out.trans hx8)
                clear HLE hx8
                go_wp2_with fail
                refine Calls.mono (HPK.out w8 (HX8.out)) ?_
                rintro e w' ⟨rfl, hx⟩
                have HXX := Lib.hid hx
                clear hx
                go_wp2_with fail
                go_ret
                exact ⟨rfl, HXX.out⟩
end Go.Proofs.Ytblbggdglndiiaa
