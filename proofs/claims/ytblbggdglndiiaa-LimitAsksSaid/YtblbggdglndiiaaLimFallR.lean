/- pressworkref05.fall: its walk. -/
import Derived.Test.YtblbggdglndiiaaLimFall
import Derived.Test.YtblbggdglndiiaaLimFreeLaw
namespace Go.Proofs.Ytblbggdglndiiaa
open Go.RowKit
set_option linter.unusedVariables false

theorem intsL_take (l : List Nat) (k : Nat) : intsL (l.take k) = (intsL l).take k := by rw [intsL, intsL, List.map_take]
theorem intsL_drop (l : List Nat) (k : Nat) : intsL (l.drop k) = (intsL l).drop k := by rw [intsL, intsL, List.map_drop]
theorem viewL_drop {w : World} {b o n cap : Nat} {xs : List Value} (h : ViewL w (.slice (some ⟨b, o, none⟩) n cap) xs) (k : Nat) (hk : k < n) : ViewL w (.slice (some ⟨b, o + k, none⟩) (n - k) (cap - k)) (xs.drop k) := by
  obtain ⟨ao', cap', e, h1, h2, h3⟩ := h
  cases e
  have hl : (xs.drop k).length = xs.length - k := by simp
  refine ⟨_, _, by rw [hl], by rw [hl]; omega, fun e => (by cases e), fun h0 => ?_⟩
  obtain ⟨b', o', e, hc⟩ := h3 (by omega)
  cases e
  refine ⟨b, o + k, rfl, fun j u hu => ?_⟩
  rw [List.getElem?_drop] at hu
  rw [← hc (k + j) u hu, Nat.add_assoc]
def FlI (F : List Nat) (N : Nat) (w : World) (vo vi : Value) (wr : World) : Prop := ∃ (i : Nat) (acc : List Nat), vi = .int .i64 i ∧ i ≤ N ∧ IOn w acc vo wr ∧ acc.Perm ((F.take i).filter fun x => decide (0 < x)) ∧ acc.Pairwise (· ≥ ·)
def FlJ (acc : List Nat) (n f : Nat) (w1 : World) (vk : Value) (wr : World) : Prop := ∃ k m : Nat, vk = .int .i64 k ∧ k ≤ n ∧ wr = w1.drewN m ∧ ∀ j, j < k → f ≤ acc.getD j 0
def FallRes (F : List Nat) (w : World) (e : Ending) (w' : World) : Prop := ∃ v acc, e = .returned v ∧ IOn w acc v w' ∧ acc.Perm (F.filter fun x => decide (0 < x)) ∧ acc.Pairwise (· ≥ ·)
/-- one more, put in where it belongs. -/
theorem fall_put {F acc : List Nat} {i k f : Nat} (hi : i < F.length) (hf : f = F.getD i 0) (h0 : 0 < f) (hp : acc.Perm ((F.take i).filter fun x => decide (0 < x))) (hs : acc.Pairwise (· ≥ ·)) (hk : k ≤ acc.length) (hlo : ∀ j, j < k → f ≤ acc.getD j 0) (hhi : k = acc.length ∨ acc.getD k 0 < f) :
    ((acc.take k ++ [f]) ++ acc.drop k).Perm ((F.take (i + 1)).filter fun x => decide (0 < x)) ∧ ((acc.take k ++ [f]) ++ acc.drop k).Pairwise (· ≥ ·) := by
  have e1 : F.take (i + 1) = F.take i ++ [f] := by rw [List.take_succ_eq_append_getElem hi, hf]; simp [List.getD, hi]
  have e2 : [f].filter (fun x => decide (0 < x)) = [f] := by simp [h0]
  constructor
  · rw [e1, List.filter_append, e2]
    have h1 : ((acc.take k ++ [f]) ++ acc.drop k).Perm (f :: (acc.take k ++ acc.drop k)) := by
      rw [List.append_assoc]; exact List.perm_middle
    rw [List.take_append_drop] at h1
    exact h1.trans ((List.Perm.cons f hp).trans (List.perm_append_singleton f _).symm)
  · have ha : ∀ a ∈ acc.take k, f ≤ a := fun a ha => by
      obtain ⟨j, hj, rfl⟩ := List.getElem_of_mem ha
      have hjk : j < k := by rw [List.length_take] at hj; omega
      have := hlo j hjk
      rw [List.getElem_take]
      simpa [List.getD, show j < acc.length by omega] using this
    have hb : ∀ b ∈ acc.drop k, b ≤ f := fun b hb => by
      obtain ⟨j, hj, rfl⟩ := List.getElem_of_mem hb
      rw [List.length_drop] at hj
      rcases hhi with h | h
      · omega
      · rw [List.getElem_drop]
        have hkl : k < acc.length := by omega
        have h2 : acc[k] < f := by simpa [List.getD, hkl] using h
        rcases Nat.eq_zero_or_pos j with rfl | hj0
        · simpa using Nat.le_of_lt h2
        · have := List.pairwise_iff_getElem.1 hs k (k + j) hkl (by omega) (by omega)
          omega
    have hd := hs
    rw [← List.take_append_drop k acc, List.pairwise_append] at hd
    rw [List.pairwise_append, List.pairwise_append]
    refine ⟨⟨hd.1, List.pairwise_singleton _ _, fun a h1 b h2 => ?_⟩, hd.2.1, fun a h1 b h2 => ?_⟩
    · rw [List.mem_singleton.1 h2]; exact ha a h1
    · rcases List.mem_append.1 h1 with h | h
      · exact hd.2.2 a h b h2
      · rw [List.mem_singleton.1 h]; exact hb b h2
theorem fall_skip {F acc : List Nat} {i : Nat} (hi : i < F.length) (h0 : F.getD i 0 = 0) (hp : acc.Perm ((F.take i).filter fun x => decide (0 < x))) : acc.Perm ((F.take (i + 1)).filter fun x => decide (0 < x)) := by
  have e1 : F.take (i + 1) = F.take i ++ [F.getD i 0] := by rw [List.take_succ_eq_append_getElem hi]; simp [List.getD, hi]
  rw [e1, List.filter_append, h0]; simpa using hp
theorem refall_len {F acc : List Nat} {i : Nat} (hi : i ≤ F.length) (hp : acc.Perm ((F.take i).filter fun x => decide (0 < x))) : acc.length ≤ i := by
  rw [hp.length_eq]
  exact Nat.le_trans (List.length_filter_le _ _) (by rw [List.length_take]; omega)
set_option maxHeartbeats 8000000 in
set_option maxRecDepth 100000 in
theorem ref_fall (F : List Nat) (v : Value) (w : World) (hv : ViewL w v (intsL F)) (hl : F.length ≤ 100) :
    Calls Try.prog 21 #[v] w (FallRes F w) := by
  obtain ⟨fa, cap, rfl⟩ := hv.shape
  rw [length_intsL] at hv ⊢
  obtain ⟨N, hN⟩ : ∃ N, N = F.length := ⟨_, rfl⟩
  rw [← hN] at hv hl ⊢
  have hNz : (N : Int) ≤ 100 := by omega
  have HN := Lib.hid (And.intro hN hl)
  have HC := Lib.hid (show ∀ i, i < N → ∃ b o, fa = some ⟨b, o, none⟩ ∧ b < w.heap.size ∧ w.cell? ⟨b, o + i, none⟩ = some (.int .i64 (F.getD i 0 : Nat)) from fun i hi => by
    obtain ⟨b, o, rfl, _, hc⟩ := viewL_cells hv (by rw [length_intsL]; omega)
    have h := hc i (.int .i64 (F.getD i 0 : Nat)) (by rw [hN] at hi; simp [intsL, hi, List.getD])
    exact ⟨b, o, rfl, World.block_lt_of_cell? w _ h, h⟩)
  clear hv hN hl
  go_enter Try.func21, Try.ntmps21
  go_wp2_with fail
  go_loopw [3, 4] (fun vo vi wr => FlI F N w vo vi wr) (fun _ vi _ => N - (intOf vi).toNat)
  case atStart => exact ⟨0, [], by go_num, Nat.zero_le _, IOn.nil w, by simp, List.Pairwise.nil⟩
  case round =>
    obtain ⟨i, acc, rfl, hiN, hio, hperm, hpw⟩ := hrel
    obtain ⟨wo, rfl⟩ : ∃ wo : World, wo = wr := ⟨_, rfl⟩
    obtain ⟨oa, oc, rfl⟩ := hio.shape
    obtain ⟨M, hM⟩ : ∃ M, M = acc.length := ⟨_, rfl⟩
    have hMi : M ≤ i := by rw [hM]; exact refall_len (by rw [← HN.out.1]; exact hiN) hperm
    rw [← hM] at hio ⊢
    have HI := Lib.hid (show i ≤ N ∧ IOn w acc (.slice oa M oc) wo ∧ acc.Perm ((F.take i).filter fun x => decide (0 < x)) ∧ acc.Pairwise (· ≥ ·) ∧ M = acc.length ∧ M ≤ i from ⟨hiN, hio, hperm, hpw, hM, hMi⟩)
    clear hiN hio hperm hpw hM hMi
    by_cases hlt : i < N
    · have hltz : (i : Int) < (N : Int) := by omega
      obtain ⟨fb, fo, rfl, hfl, c0⟩ := HC.out i hlt
      have c1 : wo.cell? ⟨fb, fo + i, none⟩ = some (.int .i64 (F.getD i 0 : Nat)) := cell_touch HI.out.2.1.toExt c0 (fun f => f)
      have HFB := Lib.hid (show fb < w.heap.size ∧ (∀ wx, Ext w wx → wx.cell? ⟨fb, fo + i, none⟩ = some (.int .i64 (F.getD i 0 : Nat))) from ⟨hfl, fun wx hx => cell_touch hx c0 (fun f => f)⟩)
      obtain ⟨f, hf⟩ : ∃ f, f = F.getD i 0 := ⟨_, rfl⟩
      rw [← hf] at c1 HFB
      obtain ⟨i1, hi1⟩ : ∃ i1, i1 = i + 1 := ⟨_, rfl⟩
      have wi : IntKind.i64.wrap ((i : Int) + 1) = (i1 : Int) := by rw [show (i : Int) + 1 = ((i1 : Nat) : Int) by omega]; exact IntWalk.i64_in _ (by omega)
      have HLT := Lib.hid (show i1 = i + 1 ∧ i < N ∧ f = F.getD i 0 from ⟨hi1, hlt, hf⟩)
      clear hlt hfl c0 hf hi1
      by_cases hf0 : f = 0
      · subst hf0
        go_wp2_with fail
        refine ⟨⟨i1, acc, rfl, by have := HLT.out; omega, HI.out.2.1, by rw [HLT.out.1]; exact fall_skip (by rw [← HN.out.1]; exact HLT.out.2.1) HLT.out.2.2.symm HI.out.2.2.1, HI.out.2.2.2.1⟩, by simp [intOf]; have := HLT.out; omega⟩
      · have hf0z : (0 : Int) < (f : Int) := by omega
        have HF0 := Lib.hid (show 0 < f from by omega)
        have HMC := Lib.hid (show ∀ m j, j < M → ∃ b o, oa = some ⟨b, o, none⟩ ∧ (wo.drewN m).cell? ⟨b, o + j, none⟩ = some (.int .i64 (acc.getD j 0 : Nat)) from fun m j hj => by
          obtain ⟨b, o, rfl, _, hc⟩ := viewL_cells (HI.out.2.1.viewL.ext ((Ext.refl wo).drewN m)) (by rw [length_intsL, ← HI.out.2.2.2.2.1]; omega)
          exact ⟨b, o, rfl, hc j _ (by rw [HI.out.2.2.2.2.1] at hj; simp [intsL, hj, List.getD])⟩)
        clear hf0
        have hMz : (M : Int) ≤ 100 := by have := HI.out.2.2.2.2.2; have := HN.out; have := HLT.out; omega
        go_wp2_with fail
        clear hf0z c1
        go_loopw [5] (fun vk wr => FlJ acc M f wo vk wr) (fun vk _ => M - (intOf vk).toNat)
        case atStart => exact ⟨0, 0, by go_num, Nat.zero_le _, rfl, fun j h => by omega⟩
        case round =>
          obtain ⟨k, m, rfl, hkM, hwq, hlo⟩ := hrel
          have HJ := Lib.hid (show k ≤ M ∧ wr = wo.drewN m ∧ (∀ j, j < k → f ≤ acc.getD j 0) from ⟨hkM, hwq, hlo⟩)
          clear hkM hwq hlo
          have c2 : wr.cell? ⟨fb, fo + i, none⟩ = some (.int .i64 f) := HFB.out.2 wr (by rw [HJ.out.2.1]; exact HI.out.2.1.toExt.drewN m)
          by_cases hkM : k < M
          · have hkMz : (k : Int) < (M : Int) := by omega
            obtain ⟨b, o, rfl, c3⟩ := HMC.out m k hkM
            rw [← HJ.out.2.1] at c3
            obtain ⟨y, hy⟩ : ∃ y, y = acc.getD k 0 := ⟨_, rfl⟩
            rw [← hy] at c3
            have HKM := Lib.hid (show k < M ∧ y = acc.getD k 0 from ⟨hkM, hy⟩)
            clear hkM hy
            by_cases hfy : f ≤ y
            · have hfyz : (f : Int) ≤ (y : Int) := by omega
              obtain ⟨k1, hk1⟩ : ∃ k1, k1 = k + 1 := ⟨_, rfl⟩
              have wk : IntKind.i64.wrap ((k : Int) + 1) = (k1 : Int) := by rw [show (k : Int) + 1 = ((k1 : Nat) : Int) by omega]; exact IntWalk.i64_in _ (by omega)
              have HK1 := Lib.hid (show k1 = k + 1 ∧ f ≤ y from ⟨hk1, hfy⟩)
              clear hk1 hfy
              go_wp2_with fail
              go_quiet (fail)
              go_wp2_with fail
              refine ⟨⟨k1, m + nq, rfl, by have := HK1.out; have := HKM.out; omega, by rw [HJ.out.2.1, World.drewN_drewN], fun j hj => ?_⟩, by simp [intOf]; have := HK1.out; have := HKM.out; omega⟩
              by_cases hjk : j < k
              · exact HJ.out.2.2 j hjk
              · obtain rfl : j = k := by have := HK1.out; omega
                rw [← HKM.out.2]; exact HK1.out.2
            · have hfyz : ¬ (f : Int) ≤ (y : Int) := by omega
              have HHI := Lib.hid (show k = acc.length ∨ acc.getD k 0 < f from Or.inr (by rw [← HKM.out.2]; omega))
              have HKL := Lib.hid (show k ≤ acc.length from by have := HKM.out; have := HI.out.2.2.2.2.1; omega)
              have hfyd : decide (f ≤ y) = false := decide_eq_false (by omega)
              clear hfy
              go_wp2_with fail
              go_quiet (fail)
              clear hfyz c3
              obtain ⟨wk, hwk⟩ : ∃ wk, wk = wr.drewN nq := ⟨_, rfl⟩
              rw [← hwk]
              have HWK := Lib.hid (show Ext wo wk from by rw [hwk, HJ.out.2.1, World.drewN_drewN]; exact (Ext.refl wo).drewN _)
              have HIK := Lib.hid (show IOn w acc (.slice (some ⟨b, o, none⟩) M oc) wk from HI.out.2.1.ext HWK.out)
              have hMoc : M ≤ oc := by
                obtain ⟨_, cap', e, hh, _⟩ := HIK.out.viewL
                rw [length_intsL] at hh e
                cases e; have := HI.out.2.2.2.2.1; omega
              have hkM2 : k ≤ M := by have := HKL.out; have := HI.out.2.2.2.2.1; omega
              have kM : (k : Int) ≤ (M : Int) := by omega
              have koc : (k : Int) ≤ (oc : Int) := by omega
              have k0 : (0 : Int) ≤ (k : Int) := by omega
              have HKO := Lib.hid (show k ≤ M ∧ M ≤ oc from ⟨hkM2, hMoc⟩)
              have hpl : ViewL wk (.slice (some ⟨b, o, none⟩) (intsL acc).length oc) (intsL acc) := by rw [length_intsL, ← HI.out.2.2.2.2.1]; exact HIK.out.viewL
              clear hwk hkM2 hMoc c2
              obtain ⟨i0, hi, hz0', hz1, hz2⟩ := info_parts info_int
              have HOWN := Lib.hid (show (wk.alloc (.cells #[] 3)).ownsRow wk.heap.size 3 1 (.slice (some ⟨wk.heap.size, 0, none⟩) 0 0) 0 [] from World.ownsRow_made wk #[] 0 (Nat.le_refl _) (by decide) rfl)
              have HLP := Lib.hid (show ((acc.take k ++ [f]) ++ acc.drop k).Perm ((F.take i1).filter fun x => decide (0 < x)) ∧ ((acc.take k ++ [f]) ++ acc.drop k).Pairwise (· ≥ ·) from by rw [HLT.out.1]; exact fall_put (by rw [← HN.out.1]; exact HLT.out.2.1) HLT.out.2.2 HF0.out HI.out.2.2.1 HI.out.2.2.2.1 HKL.out HJ.out.2.2 HHI.out)
              have HLS := Lib.hid (show (intsL (acc.take k)).length ≤ 100 ∧ (intsL [f]).length ≤ 100 ∧ (intsL (acc.take k ++ [f])).length ≤ 101 ∧ (intsL (acc.drop k)).length ≤ 100 from by
                have h1 := HI.out.2.2.2.2; have h2 := HN.out.2; have h3 := HLT.out.2.1; have h4 := HKL.out
                simp only [length_intsL, List.length_append, List.length_cons, List.length_nil, List.length_take, List.length_drop]
                omega)
              have HVE := Lib.hid (show ViewL (wk.alloc (.cells #[] 3)) (.slice (some ⟨b, o + k, none⟩) (M - k) (oc - k)) (intsL (acc.drop k)) from by
                have h := viewL_drop (HIK.out.viewL) k HKM.out.1
                rw [← intsL_drop] at h
                exact h.ext ((Ext.refl wk).alloc _))
              have hck : ¬ oc = k := by have := HKO.out; have := HKM.out; omega
              clear hpl
              go_wp2_with (at_builtin; go_must (refine wpList_append_view _ rfl (.tmp 35) (.tmp 38) 24 rfl wk.heap.size 3 i0 (.int .i64 0) 8 Try.underlying24 hi hz0' hz1 hz2 rfl _ 0 [] rfl HOWN.out _ (intsL (acc.drop k)) rfl HVE.out (ints_one' _) (by have := HLS.out; unfold maxLen; omega) (by have := HLS.out; omega) (by rw [World.size_alloc]; omega) ?_))
              intro rv w4 hown' hgrow hat
              have hio := copy_io (by simpa using hown') hgrow
              have HEW := Lib.hid (show Ext w w4 from HIK.out.toExt.trans hio.toExt)
              obtain ⟨og0, hog1, hog2, _⟩ := HIK.out
              have hogl : ∀ g, og0 = some g → g < wk.heap.size := hog1.lt
              have HOG := Lib.hid (show Owns w4 3 1 (.slice (some ⟨b, o, none⟩) M oc) og0 acc.length (intsL acc) ∧ ∀ g, og0 = some g → w.heap.size ≤ g from ⟨hog1.ext' hio.toExt, hog2⟩)
              have HRV := Lib.hid (show ∀ wx, Touch (fun k => og0 = some k) w4 wx → ViewL wx rv (intsL (acc.drop k)) from fun wx hx => by
                obtain ⟨rg, rr1, rr2, rr3⟩ := hio
                refine rr1.viewL.keep hx (fun b o n c e h => ?_)
                rcases rr1.form with ⟨_, e2, _⟩ | ⟨g, c2, cur, e1, e2, _⟩
                · rw [e] at e2; cases e2
                · rw [e] at e2; cases e2
                  have := rr2 _ e1
                  have := hogl _ h
                  omega)
              have HCF := Lib.hid (HFB.out.2 w4 HEW.out)
              have HNF := Lib.hid (show og0 = some fb → False from fun e => by have := hog2 fb e; have := HFB.out.1; omega)
              have HKZ := Lib.hid (show (k : Int) ≤ (M : Int) ∧ (k : Int) ≤ (oc : Int) ∧ (0 : Int) ≤ (k : Int) from ⟨kM, koc, k0⟩)
              have HIZ := Lib.hid hltz
              clear hown' hgrow hat hio hog1 hog2 hogl HOWN HVE
              go_wp2_with fail
              refine wp_region_owns 52 [3, 0, 4, 5, 6] [40, 41, 42, 43, 44, 45, 46, 47, 48, 49, 50, 3] [15, 0, 2, 7, 8, 10, 11] (fun k => og0 = some k) [(12, .slice (some ⟨fb, fo, none⟩) N cap), (16, .int .i64 i), (17, .int .i64 k), (18, rv), (1, .int .i64 k), (3, .slice (some ⟨fb, fo, none⟩) N cap), (4, .int .i64 i), (5, .pointer (some ⟨fb, fo + i, none⟩)), (6, .int .i64 f), (9, rv)] [(15, wOwn 3 (intsL (acc))), (0, wOwn 3 (intsL (acc))), (2, wOwn 3 (intsL (acc.take k))), (7, wOwn 3 (intsL ([f]))), (8, wOwn 3 (intsL (acc.take k ++ [f]))), (10, wOwn 3 (intsL ((acc.take k ++ [f]) ++ acc.drop k))), (11, wOwn 3 (intsL ((acc.take k ++ [f]) ++ acc.drop k)))] (by kernel_rfl) rfl (by kernel_rfl) (by kernel_rfl) rfl ?base ⟨?_, ?_, ?_, ?_, ?_, ?_, ?_, ?_, ?_, ?_, ?_, ?_, trivial⟩ ?fin
              case base =>
                refine BaseD.one 3 (fun k => og0 = some k) (fun _ => PhiD.ofWord rfl ⟨og0, (by rw [length_intsL]; exact HOG.out.1), fun _ => Iff.rfl⟩) (fun k e => Or.inl e) (fun t ht hne => ?_)
                simp only [List.mem_cons, List.not_mem_nil, or_false] at ht
                rcases ht with rfl | rfl | rfl | rfl | rfl
                · exact (hne rfl).elim
                · exact PhiD.ofVal rfl rfl
                · exact PhiD.ofVal rfl rfl
                · exact PhiD.ofVal rfl rfl
                · exact PhiD.ofVal rfl rfl
              · refine OblD.gen (fun ev w1 Ss hE hT hk hd hs => ?_)
                obtain ⟨hc, hf, hg⟩ := hE
                have h0 := PhiD.word (kn (k' := 15) hk.1 (by kernel_rfl)) rfl
                clear hk
                exact ⟨rfl, ev (.tmp 3), w1, Ss 15, by go_simp, Touch.refl _ _, fun k e => Or.inl (handed_of 15 (by kernel_rfl) e), PhiD.ofWord rfl h0⟩
              · refine OblD.val (.int .i64 k) (fun ev w1 Ss hE hT hk => ?_) (fun _ => PhiD.ofVal rfl rfl)
                obtain ⟨hc, hf, hg⟩ := hE
                have h0 := PhiD.fact (kn (k' := 17) hk.1 (by kernel_rfl)) rfl rfl
                clear hk
                exact ⟨rfl, by go_simp⟩
              · refine OblD.gen (fun ev w1 Ss hE hT hk hd hs => ?_)
                obtain ⟨hc, hf, hg⟩ := hE
                have h0 := PhiD.word (kn (k' := 0) hk.1 (by kernel_rfl)) rfl; have h1 := PhiD.fact (kn (k' := 1) hk.2.1 (by kernel_rfl)) rfl rfl
                clear hk
                obtain ⟨og, k1, k2⟩ := h0
                have kz := HKZ.out
                rcases k1.form with ⟨e0, e1, e2, e3⟩ | ⟨g, c, cur, e0, e1, e2, e3, e4, e5, e6⟩
                · have hk0 : k = 0 := by rw [length_intsL] at e2; have := HKL.out; omega
                  have hacc : acc = [] := List.eq_nil_of_length_eq_zero (by rw [length_intsL] at e2; exact e2)
                  rw [hk0] at h1
                  refine ⟨rfl, .slice none 0 0, w1, fun _ => False, by go_simp, Touch.refl _ w1, fun k e => e.elim, PhiD.ofWord rfl ⟨none, (by rw [hacc, List.take_nil]; exact Owns.nil _ _ _), fun k => ⟨fun e => e.elim, fun e => by cases e⟩⟩⟩
                · rw [length_intsL] at e1 e3
                  have kc : (k : Int) ≤ (c : Int) := by have := HKL.out; omega
                  have kk := k1.1
                  rw [e1, length_intsL] at kk
                  have ko := owns_head kk HKL.out
                  refine ⟨rfl, .slice (some ⟨g, 0, none⟩) k c, w1, fun q => og = some q, by go_simp, Touch.refl _ w1, fun q e => Or.inl (handed_of 0 (by kernel_rfl) ((k2 q).2 e)), PhiD.ofWord rfl ⟨og, ⟨(by rw [length_intsL, List.length_take, Nat.min_eq_left HKL.out]; exact ko), e0.symm⟩, fun _ => Iff.rfl⟩⟩
              · refine OblD.val (.slice (some ⟨fb, fo, none⟩) N cap) (fun ev w1 Ss hE hT hk => ?_) (fun _ => PhiD.ofVal rfl rfl)
                obtain ⟨hc, hf, hg⟩ := hE
                have h0 := PhiD.fact (kn (k' := 12) hk.1 (by kernel_rfl)) rfl rfl
                clear hk
                exact ⟨rfl, by go_simp⟩
              · refine OblD.val (.int .i64 i) (fun ev w1 Ss hE hT hk => ?_) (fun _ => PhiD.ofVal rfl rfl)
                obtain ⟨hc, hf, hg⟩ := hE
                have h0 := PhiD.fact (kn (k' := 16) hk.1 (by kernel_rfl)) rfl rfl
                clear hk
                exact ⟨rfl, by go_simp⟩
              · refine OblD.val (.pointer (some ⟨fb, fo + i, none⟩)) (fun ev w1 Ss hE hT hk => ?_) (fun _ => PhiD.ofVal rfl rfl)
                obtain ⟨hc, hf, hg⟩ := hE
                have h0 := PhiD.fact (kn (k' := 3) hk.1 (by kernel_rfl)) rfl rfl; have h1 := PhiD.fact (kn (k' := 4) hk.2.1 (by kernel_rfl)) rfl rfl
                clear hk
                have iz := HIZ.out
                exact ⟨rfl, by go_simp⟩
              · refine OblD.val (.int .i64 f) (fun ev w1 Ss hE hT hk => ?_) (fun _ => PhiD.ofVal rfl rfl)
                obtain ⟨hc, hf, hg⟩ := hE
                have h0 := PhiD.fact (kn (k' := 5) hk.1 (by kernel_rfl)) rfl rfl
                clear hk
                have hc9 : w1.cell? ⟨fb, fo + i, none⟩ = some (.int .i64 f) := cell_touch hT.drew_l HCF.out (fun e => HNF.out e)
                exact ⟨rfl, by go_simp⟩
              · refine OblD.gen (fun ev w1 Ss hE hT hk hd hs => ?_)
                obtain ⟨hc, hf, hg⟩ := hE
                have h0 := PhiD.fact (kn (k' := 6) hk.1 (by kernel_rfl)) rfl rfl
                clear hk
                exact ⟨rfl, .slice (some ⟨w1.heap.size, 0, none⟩) 1 1, w1.alloc (.cells #[.int .i64 f] 3), fun g => g = w1.heap.size, by go_simp, (Touch.refl _ w1).alloc _, fun g e => Or.inr (by rw [e]; exact Nat.le_refl _), PhiD.ofWord rfl ⟨some w1.heap.size, ⟨World.ownsRow_lit w1 #[.int .i64 f] 1 (Nat.zero_le _) (by decide) rfl, rfl⟩, fun g => ⟨fun e => by rw [e], fun e => by cases e; rfl⟩⟩⟩
              · refine OblD.gen (fun ev w1 Ss hE hT hk hd hs => ?_)
                obtain ⟨hc, hf, hg⟩ := hE
                have h0 := PhiD.word (kn (k' := 2) hk.1 (by kernel_rfl)) rfl; have h1 := PhiD.word (kn (k' := 7) hk.2.1 (by kernel_rfl)) rfl
                clear hk
                obtain ⟨og, k1, k2⟩ := h0
                obtain ⟨og9, k5, k6⟩ := h1
                have hview := k5.viewL
                obtain ⟨v', w2, r1, r2, r3, r4⟩ := run_append_view (P := Try.prog) w1 0 24 24 3 i0 (.int .i64 0) 8 Try.underlying24 hi hz0' hz1 hz2 rfl (ev (.tmp 42)) (intsL (acc.take k)).length (intsL (acc.take k)) k1.1 (ev (.tmp 47)) (intsL ([f])) hview (ints_one' _) (by have := HLS.out; unfold maxLen; omega) (by have := HLS.out; omega) (Nat.zero_le _)
                refine ⟨rfl, v', w2, fun g => v'.ownBlock = some g, by simp [execOp, resolve, invoke, builtin, r1, Result.andThen], (Touch.refl _ w1).grown r3 (fun k e => Or.inl (handed_of 2 (by kernel_rfl) ((k2 k).2 (by rw [← k1.2]; exact e)))), fun k e => ?_, PhiD.ofWord rfl ⟨v'.ownBlock, ⟨(by first | (rw [intsL_append, List.length_append]; exact r2) | exact r2 | simpa [intsL] using r2), rfl⟩, fun _ => Iff.rfl⟩⟩
                rcases r4 with r4 | r4
                · exact Or.inl (handed_of 2 (by kernel_rfl) ((k2 k).2 (by rw [← k1.2, ← r4]; exact e)))
                · rw [r4] at e; cases e; exact Or.inr (Nat.le_refl _)
              · refine OblD.val (rv) (fun ev w1 Ss hE hT hk => ?_) (fun _ => PhiD.ofVal rfl rfl)
                obtain ⟨hc, hf, hg⟩ := hE
                have h0 := PhiD.fact (kn (k' := 18) hk.1 (by kernel_rfl)) rfl rfl
                clear hk
                exact ⟨rfl, by go_simp⟩
              · refine OblD.gen (fun ev w1 Ss hE hT hk hd hs => ?_)
                obtain ⟨hc, hf, hg⟩ := hE
                have h0 := PhiD.word (kn (k' := 8) hk.1 (by kernel_rfl)) rfl; have h1 := PhiD.fact (kn (k' := 9) hk.2.1 (by kernel_rfl)) rfl rfl
                clear hk
                obtain ⟨og, k1, k2⟩ := h0
                have hview : ViewL w1 (ev (.tmp 49)) (intsL (acc.drop k)) := by rw [h1]; exact HRV.out w1 hT.drew_l
                obtain ⟨v', w2, r1, r2, r3, r4⟩ := run_append_view (P := Try.prog) w1 0 24 24 3 i0 (.int .i64 0) 8 Try.underlying24 hi hz0' hz1 hz2 rfl (ev (.tmp 48)) (intsL (acc.take k ++ [f])).length (intsL (acc.take k ++ [f])) k1.1 (ev (.tmp 49)) (intsL (acc.drop k)) hview (ints_one' _) (by have := HLS.out; unfold maxLen; omega) (by have := HLS.out; omega) (Nat.zero_le _)
                refine ⟨rfl, v', w2, fun g => v'.ownBlock = some g, by simp [execOp, resolve, invoke, builtin, r1, Result.andThen], (Touch.refl _ w1).grown r3 (fun k e => Or.inl (handed_of 8 (by kernel_rfl) ((k2 k).2 (by rw [← k1.2]; exact e)))), fun k e => ?_, PhiD.ofWord rfl ⟨v'.ownBlock, ⟨(by first | (rw [intsL_append, List.length_append]; exact r2) | exact r2 | simpa [intsL] using r2), rfl⟩, fun _ => Iff.rfl⟩⟩
                rcases r4 with r4 | r4
                · exact Or.inl (handed_of 8 (by kernel_rfl) ((k2 k).2 (by rw [← k1.2, ← r4]; exact e)))
                · rw [r4] at e; cases e; exact Or.inr (Nat.le_refl _)
              · refine OblD.gen (fun ev w1 Ss hE hT hk hd hs => ?_)
                obtain ⟨hc, hf, hg⟩ := hE
                have h0 := PhiD.word (kn (k' := 10) hk.1 (by kernel_rfl)) rfl
                clear hk
                exact ⟨rfl, ev (.tmp 50), w1, Ss 10, by go_simp, Touch.refl _ _, fun k e => Or.inl (handed_of 10 (by kernel_rfl) e), PhiD.ofWord rfl h0⟩
              case fin =>
                intro vs w5 Ss hT hF hB
                have h5 := (hF 11 _ 3 rfl rfl (by kernel_rfl)).1.word rfl
                have h6 := (hF 11 _ 3 rfl rfl (by kernel_rfl)).2
                obtain ⟨og, k1, k2⟩ := h5
                clear hF hB
                simp only [List.foldl_cons, List.foldl_nil]
                generalize vs 40 = x40 at *
                generalize vs 41 = x41 at *
                generalize vs 42 = x42 at *
                generalize vs 43 = x43 at *
                generalize vs 44 = x44 at *
                generalize vs 45 = x45 at *
                generalize vs 46 = x46 at *
                generalize vs 47 = x47 at *
                generalize vs 48 = x48 at *
                generalize vs 49 = x49 at *
                generalize vs 50 = x50 at *
                generalize vs 3 = x3 at *
                simp only [Act.put, List.setIfInBounds_toArray, List.set_cons_succ, List.set_cons_zero]
                have HG := Lib.hid (show IOn w ((acc.take k ++ [f]) ++ acc.drop k) x3 w5 from ⟨og, (by rw [length_intsL] at k1; exact k1), fun g e => by rcases h6 g ((k2 g).2 e) with f | f; exact HOG.out.2 g f; exact Nat.le_trans HEW.out.size f, HEW.out.touch hT (fun i hi e => Nat.lt_irrefl _ (Nat.lt_of_lt_of_le hi (HOG.out.2 i e)))⟩)
                clear k1 k2 h6 hT
                go_wp2_with fail
                refine ⟨⟨i1, _, rfl, by have := HLT.out; omega, HG.out, HLP.out.1, HLP.out.2⟩, by simp [intOf]; have := HLT.out; omega⟩
          · have hkMz : ¬ (k : Int) < (M : Int) := by omega
            have hkMd : decide (k < M) = false := decide_eq_false (by omega)
            have HHI := Lib.hid (show k = acc.length ∨ acc.getD k 0 < f from Or.inl (by have := HJ.out.1; have := HI.out.2.2.2.2.1; omega))
            have HKL := Lib.hid (show k ≤ acc.length from by have := HJ.out.1; have := HI.out.2.2.2.2.1; omega)
            clear hkM
            go_wp2_with fail
            go_quiet (fail)
            clear hkMz hkMd
            obtain ⟨wk, hwk⟩ : ∃ wk, wk = wr.drewN nq := ⟨_, rfl⟩
            rw [← hwk]
            have HWK := Lib.hid (show Ext wo wk from by rw [hwk, HJ.out.2.1, World.drewN_drewN]; exact (Ext.refl wo).drewN _)
            have HIK := Lib.hid (show IOn w acc (.slice oa M oc) wk from HI.out.2.1.ext HWK.out)
            have hMoc : M ≤ oc := by
              obtain ⟨_, cap', e, hh, _⟩ := HIK.out.viewL
              rw [length_intsL] at hh e
              cases e; have := HI.out.2.2.2.2.1; omega
            have hkM2 : k ≤ M := by have := HKL.out; have := HI.out.2.2.2.2.1; omega
            have kM : (k : Int) ≤ (M : Int) := by omega
            have koc : (k : Int) ≤ (oc : Int) := by omega
            have k0 : (0 : Int) ≤ (k : Int) := by omega
            have HKO := Lib.hid (show k ≤ M ∧ M ≤ oc from ⟨hkM2, hMoc⟩)
            have hpl : ViewL wk (.slice oa (intsL acc).length oc) (intsL acc) := by rw [length_intsL, ← HI.out.2.2.2.2.1]; exact HIK.out.viewL
            clear hwk hkM2 hMoc c2
            obtain ⟨i0, hi, hz0', hz1, hz2⟩ := info_parts info_int
            have HOWN := Lib.hid (show (wk.alloc (.cells #[] 3)).ownsRow wk.heap.size 3 1 (.slice (some ⟨wk.heap.size, 0, none⟩) 0 0) 0 [] from World.ownsRow_made wk #[] 0 (Nat.le_refl _) (by decide) rfl)
            have HLP := Lib.hid (show ((acc.take k ++ [f]) ++ acc.drop k).Perm ((F.take i1).filter fun x => decide (0 < x)) ∧ ((acc.take k ++ [f]) ++ acc.drop k).Pairwise (· ≥ ·) from by rw [HLT.out.1]; exact fall_put (by rw [← HN.out.1]; exact HLT.out.2.1) HLT.out.2.2 HF0.out HI.out.2.2.1 HI.out.2.2.2.1 HKL.out HJ.out.2.2 HHI.out)
            have HLS := Lib.hid (show (intsL (acc.take k)).length ≤ 100 ∧ (intsL [f]).length ≤ 100 ∧ (intsL (acc.take k ++ [f])).length ≤ 101 ∧ (intsL (acc.drop k)).length ≤ 100 from by
              have h1 := HI.out.2.2.2.2; have h2 := HN.out.2; have h3 := HLT.out.2.1; have h4 := HKL.out
              simp only [length_intsL, List.length_append, List.length_cons, List.length_nil, List.length_take, List.length_drop]
              omega)
            by_cases hck : oc = k
            · have HVE := Lib.hid (show ViewL (wk.alloc (.cells #[] 3)) (.slice oa (M - k) 0) (intsL (acc.drop k)) from by
                rw [show M - k = 0 by have := HKO.out; omega]
                have e : acc.drop k = [] := List.drop_of_length_le (by have := HKO.out; have := HI.out.2.2.2.2.1; omega)
                rw [e]
                exact ((hpl.piece_end 0 (by rw [length_intsL]; have := HKO.out; have := HI.out.2.2.2.2.1; omega)).2).ext ((Ext.refl wk).alloc _))
              clear hpl
              obtain rfl : k = oc := hck.symm
              go_wp2_with (at_builtin; go_must (refine wpList_append_view _ rfl (.tmp 35) (.tmp 38) 24 rfl wk.heap.size 3 i0 (.int .i64 0) 8 Try.underlying24 hi hz0' hz1 hz2 rfl _ 0 [] rfl HOWN.out _ (intsL (acc.drop k)) rfl HVE.out (ints_one' _) (by have := HLS.out; unfold maxLen; omega) (by have := HLS.out; omega) (by rw [World.size_alloc]; omega) ?_))
              intro rv w4 hown' hgrow hat
              have hio := copy_io (by simpa using hown') hgrow
              have HEW := Lib.hid (show Ext w w4 from HIK.out.toExt.trans hio.toExt)
              obtain ⟨og0, hog1, hog2, _⟩ := HIK.out
              have hogl : ∀ g, og0 = some g → g < wk.heap.size := hog1.lt
              have HOG := Lib.hid (show Owns w4 3 1 (.slice oa M k) og0 acc.length (intsL acc) ∧ ∀ g, og0 = some g → w.heap.size ≤ g from ⟨hog1.ext' hio.toExt, hog2⟩)
              have HRV := Lib.hid (show ∀ wx, Touch (fun k => og0 = some k) w4 wx → ViewL wx rv (intsL (acc.drop k)) from fun wx hx => by
                obtain ⟨rg, rr1, rr2, rr3⟩ := hio
                refine rr1.viewL.keep hx (fun b o n c e h => ?_)
                rcases rr1.form with ⟨_, e2, _⟩ | ⟨g, c2, cur, e1, e2, _⟩
                · rw [e] at e2; cases e2
                · rw [e] at e2; cases e2
                  have := rr2 _ e1
                  have := hogl _ h
                  omega)
              have HCF := Lib.hid (HFB.out.2 w4 HEW.out)
              have HNF := Lib.hid (show og0 = some fb → False from fun e => by have := hog2 fb e; have := HFB.out.1; omega)
              have HKZ := Lib.hid (show (k : Int) ≤ (M : Int) ∧ (k : Int) ≤ (k : Int) ∧ (0 : Int) ≤ (k : Int) from ⟨kM, koc, k0⟩)
              have HIZ := Lib.hid hltz
              clear hown' hgrow hat hio hog1 hog2 hogl HOWN HVE
              go_wp2_with fail
              refine wp_region_owns 52 [3, 0, 4, 5, 6] [40, 41, 42, 43, 44, 45, 46, 47, 48, 49, 50, 3] [15, 0, 2, 7, 8, 10, 11] (fun k => og0 = some k) [(12, .slice (some ⟨fb, fo, none⟩) N cap), (16, .int .i64 i), (17, .int .i64 k), (18, rv), (1, .int .i64 k), (3, .slice (some ⟨fb, fo, none⟩) N cap), (4, .int .i64 i), (5, .pointer (some ⟨fb, fo + i, none⟩)), (6, .int .i64 f), (9, rv)] [(15, wOwn 3 (intsL (acc))), (0, wOwn 3 (intsL (acc))), (2, wOwn 3 (intsL (acc.take k))), (7, wOwn 3 (intsL ([f]))), (8, wOwn 3 (intsL (acc.take k ++ [f]))), (10, wOwn 3 (intsL ((acc.take k ++ [f]) ++ acc.drop k))), (11, wOwn 3 (intsL ((acc.take k ++ [f]) ++ acc.drop k)))] (by kernel_rfl) rfl (by kernel_rfl) (by kernel_rfl) rfl ?base ⟨?_, ?_, ?_, ?_, ?_, ?_, ?_, ?_, ?_, ?_, ?_, ?_, trivial⟩ ?fin
              case base =>
                refine BaseD.one 3 (fun k => og0 = some k) (fun _ => PhiD.ofWord rfl ⟨og0, (by rw [length_intsL]; exact HOG.out.1), fun _ => Iff.rfl⟩) (fun k e => Or.inl e) (fun t ht hne => ?_)
                simp only [List.mem_cons, List.not_mem_nil, or_false] at ht
                rcases ht with rfl | rfl | rfl | rfl | rfl
                · exact (hne rfl).elim
                · exact PhiD.ofVal rfl rfl
                · exact PhiD.ofVal rfl rfl
                · exact PhiD.ofVal rfl rfl
                · exact PhiD.ofVal rfl rfl
              · refine OblD.gen (fun ev w1 Ss hE hT hk hd hs => ?_)
                obtain ⟨hc, hf, hg⟩ := hE
                have h0 := PhiD.word (kn (k' := 15) hk.1 (by kernel_rfl)) rfl
                clear hk
                exact ⟨rfl, ev (.tmp 3), w1, Ss 15, by go_simp, Touch.refl _ _, fun k e => Or.inl (handed_of 15 (by kernel_rfl) e), PhiD.ofWord rfl h0⟩
              · refine OblD.val (.int .i64 k) (fun ev w1 Ss hE hT hk => ?_) (fun _ => PhiD.ofVal rfl rfl)
                obtain ⟨hc, hf, hg⟩ := hE
                have h0 := PhiD.fact (kn (k' := 17) hk.1 (by kernel_rfl)) rfl rfl
                clear hk
                exact ⟨rfl, by go_simp⟩
              · refine OblD.gen (fun ev w1 Ss hE hT hk hd hs => ?_)
                obtain ⟨hc, hf, hg⟩ := hE
                have h0 := PhiD.word (kn (k' := 0) hk.1 (by kernel_rfl)) rfl; have h1 := PhiD.fact (kn (k' := 1) hk.2.1 (by kernel_rfl)) rfl rfl
                clear hk
                obtain ⟨og, k1, k2⟩ := h0
                have kz := HKZ.out
                rcases k1.form with ⟨e0, e1, e2, e3⟩ | ⟨g, c, cur, e0, e1, e2, e3, e4, e5, e6⟩
                · have hk0 : k = 0 := by rw [length_intsL] at e2; have := HKL.out; omega
                  have hacc : acc = [] := List.eq_nil_of_length_eq_zero (by rw [length_intsL] at e2; exact e2)
                  rw [hk0] at h1
                  refine ⟨rfl, .slice none 0 0, w1, fun _ => False, by go_simp, Touch.refl _ w1, fun k e => e.elim, PhiD.ofWord rfl ⟨none, (by rw [hacc, List.take_nil]; exact Owns.nil _ _ _), fun k => ⟨fun e => e.elim, fun e => by cases e⟩⟩⟩
                · rw [length_intsL] at e1 e3
                  have kc : (k : Int) ≤ (c : Int) := by have := HKL.out; omega
                  have kk := k1.1
                  rw [e1, length_intsL] at kk
                  have ko := owns_head kk HKL.out
                  refine ⟨rfl, .slice (some ⟨g, 0, none⟩) k c, w1, fun q => og = some q, by go_simp, Touch.refl _ w1, fun q e => Or.inl (handed_of 0 (by kernel_rfl) ((k2 q).2 e)), PhiD.ofWord rfl ⟨og, ⟨(by rw [length_intsL, List.length_take, Nat.min_eq_left HKL.out]; exact ko), e0.symm⟩, fun _ => Iff.rfl⟩⟩
              · refine OblD.val (.slice (some ⟨fb, fo, none⟩) N cap) (fun ev w1 Ss hE hT hk => ?_) (fun _ => PhiD.ofVal rfl rfl)
                obtain ⟨hc, hf, hg⟩ := hE
                have h0 := PhiD.fact (kn (k' := 12) hk.1 (by kernel_rfl)) rfl rfl
                clear hk
                exact ⟨rfl, by go_simp⟩
              · refine OblD.val (.int .i64 i) (fun ev w1 Ss hE hT hk => ?_) (fun _ => PhiD.ofVal rfl rfl)
                obtain ⟨hc, hf, hg⟩ := hE
                have h0 := PhiD.fact (kn (k' := 16) hk.1 (by kernel_rfl)) rfl rfl
                clear hk
                exact ⟨rfl, by go_simp⟩
              · refine OblD.val (.pointer (some ⟨fb, fo + i, none⟩)) (fun ev w1 Ss hE hT hk => ?_) (fun _ => PhiD.ofVal rfl rfl)
                obtain ⟨hc, hf, hg⟩ := hE
                have h0 := PhiD.fact (kn (k' := 3) hk.1 (by kernel_rfl)) rfl rfl; have h1 := PhiD.fact (kn (k' := 4) hk.2.1 (by kernel_rfl)) rfl rfl
                clear hk
                have iz := HIZ.out
                exact ⟨rfl, by go_simp⟩
              · refine OblD.val (.int .i64 f) (fun ev w1 Ss hE hT hk => ?_) (fun _ => PhiD.ofVal rfl rfl)
                obtain ⟨hc, hf, hg⟩ := hE
                have h0 := PhiD.fact (kn (k' := 5) hk.1 (by kernel_rfl)) rfl rfl
                clear hk
                have hc9 : w1.cell? ⟨fb, fo + i, none⟩ = some (.int .i64 f) := cell_touch hT.drew_l HCF.out (fun e => HNF.out e)
                exact ⟨rfl, by go_simp⟩
              · refine OblD.gen (fun ev w1 Ss hE hT hk hd hs => ?_)
                obtain ⟨hc, hf, hg⟩ := hE
                have h0 := PhiD.fact (kn (k' := 6) hk.1 (by kernel_rfl)) rfl rfl
                clear hk
                exact ⟨rfl, .slice (some ⟨w1.heap.size, 0, none⟩) 1 1, w1.alloc (.cells #[.int .i64 f] 3), fun g => g = w1.heap.size, by go_simp, (Touch.refl _ w1).alloc _, fun g e => Or.inr (by rw [e]; exact Nat.le_refl _), PhiD.ofWord rfl ⟨some w1.heap.size, ⟨World.ownsRow_lit w1 #[.int .i64 f] 1 (Nat.zero_le _) (by decide) rfl, rfl⟩, fun g => ⟨fun e => by rw [e], fun e => by cases e; rfl⟩⟩⟩
              · refine OblD.gen (fun ev w1 Ss hE hT hk hd hs => ?_)
                obtain ⟨hc, hf, hg⟩ := hE
                have h0 := PhiD.word (kn (k' := 2) hk.1 (by kernel_rfl)) rfl; have h1 := PhiD.word (kn (k' := 7) hk.2.1 (by kernel_rfl)) rfl
                clear hk
                obtain ⟨og, k1, k2⟩ := h0
                obtain ⟨og9, k5, k6⟩ := h1
                have hview := k5.viewL
                obtain ⟨v', w2, r1, r2, r3, r4⟩ := run_append_view (P := Try.prog) w1 0 24 24 3 i0 (.int .i64 0) 8 Try.underlying24 hi hz0' hz1 hz2 rfl (ev (.tmp 42)) (intsL (acc.take k)).length (intsL (acc.take k)) k1.1 (ev (.tmp 47)) (intsL ([f])) hview (ints_one' _) (by have := HLS.out; unfold maxLen; omega) (by have := HLS.out; omega) (Nat.zero_le _)
                refine ⟨rfl, v', w2, fun g => v'.ownBlock = some g, by simp [execOp, resolve, invoke, builtin, r1, Result.andThen], (Touch.refl _ w1).grown r3 (fun k e => Or.inl (handed_of 2 (by kernel_rfl) ((k2 k).2 (by rw [← k1.2]; exact e)))), fun k e => ?_, PhiD.ofWord rfl ⟨v'.ownBlock, ⟨(by first | (rw [intsL_append, List.length_append]; exact r2) | exact r2 | simpa [intsL] using r2), rfl⟩, fun _ => Iff.rfl⟩⟩
                rcases r4 with r4 | r4
                · exact Or.inl (handed_of 2 (by kernel_rfl) ((k2 k).2 (by rw [← k1.2, ← r4]; exact e)))
                · rw [r4] at e; cases e; exact Or.inr (Nat.le_refl _)
              · refine OblD.val (rv) (fun ev w1 Ss hE hT hk => ?_) (fun _ => PhiD.ofVal rfl rfl)
                obtain ⟨hc, hf, hg⟩ := hE
                have h0 := PhiD.fact (kn (k' := 18) hk.1 (by kernel_rfl)) rfl rfl
                clear hk
                exact ⟨rfl, by go_simp⟩
              · refine OblD.gen (fun ev w1 Ss hE hT hk hd hs => ?_)
                obtain ⟨hc, hf, hg⟩ := hE
                have h0 := PhiD.word (kn (k' := 8) hk.1 (by kernel_rfl)) rfl; have h1 := PhiD.fact (kn (k' := 9) hk.2.1 (by kernel_rfl)) rfl rfl
                clear hk
                obtain ⟨og, k1, k2⟩ := h0
                have hview : ViewL w1 (ev (.tmp 49)) (intsL (acc.drop k)) := by rw [h1]; exact HRV.out w1 hT.drew_l
                obtain ⟨v', w2, r1, r2, r3, r4⟩ := run_append_view (P := Try.prog) w1 0 24 24 3 i0 (.int .i64 0) 8 Try.underlying24 hi hz0' hz1 hz2 rfl (ev (.tmp 48)) (intsL (acc.take k ++ [f])).length (intsL (acc.take k ++ [f])) k1.1 (ev (.tmp 49)) (intsL (acc.drop k)) hview (ints_one' _) (by have := HLS.out; unfold maxLen; omega) (by have := HLS.out; omega) (Nat.zero_le _)
                refine ⟨rfl, v', w2, fun g => v'.ownBlock = some g, by simp [execOp, resolve, invoke, builtin, r1, Result.andThen], (Touch.refl _ w1).grown r3 (fun k e => Or.inl (handed_of 8 (by kernel_rfl) ((k2 k).2 (by rw [← k1.2]; exact e)))), fun k e => ?_, PhiD.ofWord rfl ⟨v'.ownBlock, ⟨(by first | (rw [intsL_append, List.length_append]; exact r2) | exact r2 | simpa [intsL] using r2), rfl⟩, fun _ => Iff.rfl⟩⟩
                rcases r4 with r4 | r4
                · exact Or.inl (handed_of 8 (by kernel_rfl) ((k2 k).2 (by rw [← k1.2, ← r4]; exact e)))
                · rw [r4] at e; cases e; exact Or.inr (Nat.le_refl _)
              · refine OblD.gen (fun ev w1 Ss hE hT hk hd hs => ?_)
                obtain ⟨hc, hf, hg⟩ := hE
                have h0 := PhiD.word (kn (k' := 10) hk.1 (by kernel_rfl)) rfl
                clear hk
                exact ⟨rfl, ev (.tmp 50), w1, Ss 10, by go_simp, Touch.refl _ _, fun k e => Or.inl (handed_of 10 (by kernel_rfl) e), PhiD.ofWord rfl h0⟩
              case fin =>
                intro vs w5 Ss hT hF hB
                have h5 := (hF 11 _ 3 rfl rfl (by kernel_rfl)).1.word rfl
                have h6 := (hF 11 _ 3 rfl rfl (by kernel_rfl)).2
                obtain ⟨og, k1, k2⟩ := h5
                clear hF hB
                simp only [List.foldl_cons, List.foldl_nil]
                generalize vs 40 = x40 at *
                generalize vs 41 = x41 at *
                generalize vs 42 = x42 at *
                generalize vs 43 = x43 at *
                generalize vs 44 = x44 at *
                generalize vs 45 = x45 at *
                generalize vs 46 = x46 at *
                generalize vs 47 = x47 at *
                generalize vs 48 = x48 at *
                generalize vs 49 = x49 at *
                generalize vs 50 = x50 at *
                generalize vs 3 = x3 at *
                simp only [Act.put, List.setIfInBounds_toArray, List.set_cons_succ, List.set_cons_zero]
                have HG := Lib.hid (show IOn w ((acc.take k ++ [f]) ++ acc.drop k) x3 w5 from ⟨og, (by rw [length_intsL] at k1; exact k1), fun g e => by rcases h6 g ((k2 g).2 e) with f | f; exact HOG.out.2 g f; exact Nat.le_trans HEW.out.size f, HEW.out.touch hT (fun i hi e => Nat.lt_irrefl _ (Nat.lt_of_lt_of_le hi (HOG.out.2 i e)))⟩)
                clear k1 k2 h6 hT
                go_wp2_with fail
                refine ⟨⟨i1, _, rfl, by have := HLT.out; omega, HG.out, HLP.out.1, HLP.out.2⟩, by simp [intOf]; have := HLT.out; omega⟩
            · have HVE := Lib.hid (show ViewL (wk.alloc (.cells #[] 3)) (.slice (oa.map fun x => x.add k) (M - k) (oc - k)) (intsL (acc.drop k)) from by
                have h := hpl.piece k (M - k) (by rw [length_intsL]; have := HKO.out; have := HI.out.2.2.2.2.1; omega) hck
                have e : ((intsL acc).drop k).take (M - k) = intsL (acc.drop k) := by
                  rw [List.take_of_length_le (by rw [List.length_drop, length_intsL]; have := HI.out.2.2.2.2.1; omega), intsL_drop]
                rw [e] at h
                exact h.ext ((Ext.refl wk).alloc _))
              clear hpl
              go_wp2_with (at_builtin; go_must (refine wpList_append_view _ rfl (.tmp 35) (.tmp 38) 24 rfl wk.heap.size 3 i0 (.int .i64 0) 8 Try.underlying24 hi hz0' hz1 hz2 rfl _ 0 [] rfl HOWN.out _ (intsL (acc.drop k)) rfl HVE.out (ints_one' _) (by have := HLS.out; unfold maxLen; omega) (by have := HLS.out; omega) (by rw [World.size_alloc]; omega) ?_))
              intro rv w4 hown' hgrow hat
              have hio := copy_io (by simpa using hown') hgrow
              have HEW := Lib.hid (show Ext w w4 from HIK.out.toExt.trans hio.toExt)
              obtain ⟨og0, hog1, hog2, _⟩ := HIK.out
              have hogl : ∀ g, og0 = some g → g < wk.heap.size := hog1.lt
              have HOG := Lib.hid (show Owns w4 3 1 (.slice oa M oc) og0 acc.length (intsL acc) ∧ ∀ g, og0 = some g → w.heap.size ≤ g from ⟨hog1.ext' hio.toExt, hog2⟩)
              have HRV := Lib.hid (show ∀ wx, Touch (fun k => og0 = some k) w4 wx → ViewL wx rv (intsL (acc.drop k)) from fun wx hx => by
                obtain ⟨rg, rr1, rr2, rr3⟩ := hio
                refine rr1.viewL.keep hx (fun b o n c e h => ?_)
                rcases rr1.form with ⟨_, e2, _⟩ | ⟨g, c2, cur, e1, e2, _⟩
                · rw [e] at e2; cases e2
                · rw [e] at e2; cases e2
                  have := rr2 _ e1
                  have := hogl _ h
                  omega)
              have HCF := Lib.hid (HFB.out.2 w4 HEW.out)
              have HNF := Lib.hid (show og0 = some fb → False from fun e => by have := hog2 fb e; have := HFB.out.1; omega)
              have HKZ := Lib.hid (show (k : Int) ≤ (M : Int) ∧ (k : Int) ≤ (oc : Int) ∧ (0 : Int) ≤ (k : Int) from ⟨kM, koc, k0⟩)
              have HIZ := Lib.hid hltz
              clear hown' hgrow hat hio hog1 hog2 hogl HOWN HVE
              go_wp2_with fail
              refine wp_region_owns 52 [3, 0, 4, 5, 6] [40, 41, 42, 43, 44, 45, 46, 47, 48, 49, 50, 3] [15, 0, 2, 7, 8, 10, 11] (fun k => og0 = some k) [(12, .slice (some ⟨fb, fo, none⟩) N cap), (16, .int .i64 i), (17, .int .i64 k), (18, rv), (1, .int .i64 k), (3, .slice (some ⟨fb, fo, none⟩) N cap), (4, .int .i64 i), (5, .pointer (some ⟨fb, fo + i, none⟩)), (6, .int .i64 f), (9, rv)] [(15, wOwn 3 (intsL (acc))), (0, wOwn 3 (intsL (acc))), (2, wOwn 3 (intsL (acc.take k))), (7, wOwn 3 (intsL ([f]))), (8, wOwn 3 (intsL (acc.take k ++ [f]))), (10, wOwn 3 (intsL ((acc.take k ++ [f]) ++ acc.drop k))), (11, wOwn 3 (intsL ((acc.take k ++ [f]) ++ acc.drop k)))] (by kernel_rfl) rfl (by kernel_rfl) (by kernel_rfl) rfl ?base ⟨?_, ?_, ?_, ?_, ?_, ?_, ?_, ?_, ?_, ?_, ?_, ?_, trivial⟩ ?fin
              case base =>
                refine BaseD.one 3 (fun k => og0 = some k) (fun _ => PhiD.ofWord rfl ⟨og0, (by rw [length_intsL]; exact HOG.out.1), fun _ => Iff.rfl⟩) (fun k e => Or.inl e) (fun t ht hne => ?_)
                simp only [List.mem_cons, List.not_mem_nil, or_false] at ht
                rcases ht with rfl | rfl | rfl | rfl | rfl
                · exact (hne rfl).elim
                · exact PhiD.ofVal rfl rfl
                · exact PhiD.ofVal rfl rfl
                · exact PhiD.ofVal rfl rfl
                · exact PhiD.ofVal rfl rfl
              · refine OblD.gen (fun ev w1 Ss hE hT hk hd hs => ?_)
                obtain ⟨hc, hf, hg⟩ := hE
                have h0 := PhiD.word (kn (k' := 15) hk.1 (by kernel_rfl)) rfl
                clear hk
                exact ⟨rfl, ev (.tmp 3), w1, Ss 15, by go_simp, Touch.refl _ _, fun k e => Or.inl (handed_of 15 (by kernel_rfl) e), PhiD.ofWord rfl h0⟩
              · refine OblD.val (.int .i64 k) (fun ev w1 Ss hE hT hk => ?_) (fun _ => PhiD.ofVal rfl rfl)
                obtain ⟨hc, hf, hg⟩ := hE
                have h0 := PhiD.fact (kn (k' := 17) hk.1 (by kernel_rfl)) rfl rfl
                clear hk
                exact ⟨rfl, by go_simp⟩
              · refine OblD.gen (fun ev w1 Ss hE hT hk hd hs => ?_)
                obtain ⟨hc, hf, hg⟩ := hE
                have h0 := PhiD.word (kn (k' := 0) hk.1 (by kernel_rfl)) rfl; have h1 := PhiD.fact (kn (k' := 1) hk.2.1 (by kernel_rfl)) rfl rfl
                clear hk
                obtain ⟨og, k1, k2⟩ := h0
                have kz := HKZ.out
                rcases k1.form with ⟨e0, e1, e2, e3⟩ | ⟨g, c, cur, e0, e1, e2, e3, e4, e5, e6⟩
                · have hk0 : k = 0 := by rw [length_intsL] at e2; have := HKL.out; omega
                  have hacc : acc = [] := List.eq_nil_of_length_eq_zero (by rw [length_intsL] at e2; exact e2)
                  rw [hk0] at h1
                  refine ⟨rfl, .slice none 0 0, w1, fun _ => False, by go_simp, Touch.refl _ w1, fun k e => e.elim, PhiD.ofWord rfl ⟨none, (by rw [hacc, List.take_nil]; exact Owns.nil _ _ _), fun k => ⟨fun e => e.elim, fun e => by cases e⟩⟩⟩
                · rw [length_intsL] at e1 e3
                  have kc : (k : Int) ≤ (c : Int) := by have := HKL.out; omega
                  have kk := k1.1
                  rw [e1, length_intsL] at kk
                  have ko := owns_head kk HKL.out
                  refine ⟨rfl, .slice (some ⟨g, 0, none⟩) k c, w1, fun q => og = some q, by go_simp, Touch.refl _ w1, fun q e => Or.inl (handed_of 0 (by kernel_rfl) ((k2 q).2 e)), PhiD.ofWord rfl ⟨og, ⟨(by rw [length_intsL, List.length_take, Nat.min_eq_left HKL.out]; exact ko), e0.symm⟩, fun _ => Iff.rfl⟩⟩
              · refine OblD.val (.slice (some ⟨fb, fo, none⟩) N cap) (fun ev w1 Ss hE hT hk => ?_) (fun _ => PhiD.ofVal rfl rfl)
                obtain ⟨hc, hf, hg⟩ := hE
                have h0 := PhiD.fact (kn (k' := 12) hk.1 (by kernel_rfl)) rfl rfl
                clear hk
                exact ⟨rfl, by go_simp⟩
              · refine OblD.val (.int .i64 i) (fun ev w1 Ss hE hT hk => ?_) (fun _ => PhiD.ofVal rfl rfl)
                obtain ⟨hc, hf, hg⟩ := hE
                have h0 := PhiD.fact (kn (k' := 16) hk.1 (by kernel_rfl)) rfl rfl
                clear hk
                exact ⟨rfl, by go_simp⟩
              · refine OblD.val (.pointer (some ⟨fb, fo + i, none⟩)) (fun ev w1 Ss hE hT hk => ?_) (fun _ => PhiD.ofVal rfl rfl)
                obtain ⟨hc, hf, hg⟩ := hE
                have h0 := PhiD.fact (kn (k' := 3) hk.1 (by kernel_rfl)) rfl rfl; have h1 := PhiD.fact (kn (k' := 4) hk.2.1 (by kernel_rfl)) rfl rfl
                clear hk
                have iz := HIZ.out
                exact ⟨rfl, by go_simp⟩
              · refine OblD.val (.int .i64 f) (fun ev w1 Ss hE hT hk => ?_) (fun _ => PhiD.ofVal rfl rfl)
                obtain ⟨hc, hf, hg⟩ := hE
                have h0 := PhiD.fact (kn (k' := 5) hk.1 (by kernel_rfl)) rfl rfl
                clear hk
                have hc9 : w1.cell? ⟨fb, fo + i, none⟩ = some (.int .i64 f) := cell_touch hT.drew_l HCF.out (fun e => HNF.out e)
                exact ⟨rfl, by go_simp⟩
              · refine OblD.gen (fun ev w1 Ss hE hT hk hd hs => ?_)
                obtain ⟨hc, hf, hg⟩ := hE
                have h0 := PhiD.fact (kn (k' := 6) hk.1 (by kernel_rfl)) rfl rfl
                clear hk
                exact ⟨rfl, .slice (some ⟨w1.heap.size, 0, none⟩) 1 1, w1.alloc (.cells #[.int .i64 f] 3), fun g => g = w1.heap.size, by go_simp, (Touch.refl _ w1).alloc _, fun g e => Or.inr (by rw [e]; exact Nat.le_refl _), PhiD.ofWord rfl ⟨some w1.heap.size, ⟨World.ownsRow_lit w1 #[.int .i64 f] 1 (Nat.zero_le _) (by decide) rfl, rfl⟩, fun g => ⟨fun e => by rw [e], fun e => by cases e; rfl⟩⟩⟩
              · refine OblD.gen (fun ev w1 Ss hE hT hk hd hs => ?_)
                obtain ⟨hc, hf, hg⟩ := hE
                have h0 := PhiD.word (kn (k' := 2) hk.1 (by kernel_rfl)) rfl; have h1 := PhiD.word (kn (k' := 7) hk.2.1 (by kernel_rfl)) rfl
                clear hk
                obtain ⟨og, k1, k2⟩ := h0
                obtain ⟨og9, k5, k6⟩ := h1
                have hview := k5.viewL
                obtain ⟨v', w2, r1, r2, r3, r4⟩ := run_append_view (P := Try.prog) w1 0 24 24 3 i0 (.int .i64 0) 8 Try.underlying24 hi hz0' hz1 hz2 rfl (ev (.tmp 42)) (intsL (acc.take k)).length (intsL (acc.take k)) k1.1 (ev (.tmp 47)) (intsL ([f])) hview (ints_one' _) (by have := HLS.out; unfold maxLen; omega) (by have := HLS.out; omega) (Nat.zero_le _)
                refine ⟨rfl, v', w2, fun g => v'.ownBlock = some g, by simp [execOp, resolve, invoke, builtin, r1, Result.andThen], (Touch.refl _ w1).grown r3 (fun k e => Or.inl (handed_of 2 (by kernel_rfl) ((k2 k).2 (by rw [← k1.2]; exact e)))), fun k e => ?_, PhiD.ofWord rfl ⟨v'.ownBlock, ⟨(by first | (rw [intsL_append, List.length_append]; exact r2) | exact r2 | simpa [intsL] using r2), rfl⟩, fun _ => Iff.rfl⟩⟩
                rcases r4 with r4 | r4
                · exact Or.inl (handed_of 2 (by kernel_rfl) ((k2 k).2 (by rw [← k1.2, ← r4]; exact e)))
                · rw [r4] at e; cases e; exact Or.inr (Nat.le_refl _)
              · refine OblD.val (rv) (fun ev w1 Ss hE hT hk => ?_) (fun _ => PhiD.ofVal rfl rfl)
                obtain ⟨hc, hf, hg⟩ := hE
                have h0 := PhiD.fact (kn (k' := 18) hk.1 (by kernel_rfl)) rfl rfl
                clear hk
                exact ⟨rfl, by go_simp⟩
              · refine OblD.gen (fun ev w1 Ss hE hT hk hd hs => ?_)
                obtain ⟨hc, hf, hg⟩ := hE
                have h0 := PhiD.word (kn (k' := 8) hk.1 (by kernel_rfl)) rfl; have h1 := PhiD.fact (kn (k' := 9) hk.2.1 (by kernel_rfl)) rfl rfl
                clear hk
                obtain ⟨og, k1, k2⟩ := h0
                have hview : ViewL w1 (ev (.tmp 49)) (intsL (acc.drop k)) := by rw [h1]; exact HRV.out w1 hT.drew_l
                obtain ⟨v', w2, r1, r2, r3, r4⟩ := run_append_view (P := Try.prog) w1 0 24 24 3 i0 (.int .i64 0) 8 Try.underlying24 hi hz0' hz1 hz2 rfl (ev (.tmp 48)) (intsL (acc.take k ++ [f])).length (intsL (acc.take k ++ [f])) k1.1 (ev (.tmp 49)) (intsL (acc.drop k)) hview (ints_one' _) (by have := HLS.out; unfold maxLen; omega) (by have := HLS.out; omega) (Nat.zero_le _)
                refine ⟨rfl, v', w2, fun g => v'.ownBlock = some g, by simp [execOp, resolve, invoke, builtin, r1, Result.andThen], (Touch.refl _ w1).grown r3 (fun k e => Or.inl (handed_of 8 (by kernel_rfl) ((k2 k).2 (by rw [← k1.2]; exact e)))), fun k e => ?_, PhiD.ofWord rfl ⟨v'.ownBlock, ⟨(by first | (rw [intsL_append, List.length_append]; exact r2) | exact r2 | simpa [intsL] using r2), rfl⟩, fun _ => Iff.rfl⟩⟩
                rcases r4 with r4 | r4
                · exact Or.inl (handed_of 8 (by kernel_rfl) ((k2 k).2 (by rw [← k1.2, ← r4]; exact e)))
                · rw [r4] at e; cases e; exact Or.inr (Nat.le_refl _)
              · refine OblD.gen (fun ev w1 Ss hE hT hk hd hs => ?_)
                obtain ⟨hc, hf, hg⟩ := hE
                have h0 := PhiD.word (kn (k' := 10) hk.1 (by kernel_rfl)) rfl
                clear hk
                exact ⟨rfl, ev (.tmp 50), w1, Ss 10, by go_simp, Touch.refl _ _, fun k e => Or.inl (handed_of 10 (by kernel_rfl) e), PhiD.ofWord rfl h0⟩
              case fin =>
                intro vs w5 Ss hT hF hB
                have h5 := (hF 11 _ 3 rfl rfl (by kernel_rfl)).1.word rfl
                have h6 := (hF 11 _ 3 rfl rfl (by kernel_rfl)).2
                obtain ⟨og, k1, k2⟩ := h5
                clear hF hB
                simp only [List.foldl_cons, List.foldl_nil]
                generalize vs 40 = x40 at *
                generalize vs 41 = x41 at *
                generalize vs 42 = x42 at *
                generalize vs 43 = x43 at *
                generalize vs 44 = x44 at *
                generalize vs 45 = x45 at *
                generalize vs 46 = x46 at *
                generalize vs 47 = x47 at *
                generalize vs 48 = x48 at *
                generalize vs 49 = x49 at *
                generalize vs 50 = x50 at *
                generalize vs 3 = x3 at *
                simp only [Act.put, List.setIfInBounds_toArray, List.set_cons_succ, List.set_cons_zero]
                have HG := Lib.hid (show IOn w ((acc.take k ++ [f]) ++ acc.drop k) x3 w5 from ⟨og, (by rw [length_intsL] at k1; exact k1), fun g e => by rcases h6 g ((k2 g).2 e) with f | f; exact HOG.out.2 g f; exact Nat.le_trans HEW.out.size f, HEW.out.touch hT (fun i hi e => Nat.lt_irrefl _ (Nat.lt_of_lt_of_le hi (HOG.out.2 i e)))⟩)
                clear k1 k2 h6 hT
                go_wp2_with fail
                refine ⟨⟨i1, _, rfl, by have := HLT.out; omega, HG.out, HLP.out.1, HLP.out.2⟩, by simp [intOf]; have := HLT.out; omega⟩
    · have hltz : ¬ (i : Int) < (N : Int) := by omega
      have HE := Lib.hid (show i = F.length from by have := HI.out.1; have := HN.out.1; omega)
      clear hlt
      go_wp2_with fail
      go_ret
      exact ⟨_, acc, rfl, HI.out.2.1, (by have h := HI.out.2.2.1; rw [HE.out, List.take_of_length_le (Nat.le_refl _)] at h; exact h), HI.out.2.2.2.1⟩
end Go.Proofs.Ytblbggdglndiiaa
