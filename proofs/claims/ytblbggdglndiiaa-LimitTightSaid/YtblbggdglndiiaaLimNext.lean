/- limit.next: its walk. -/
import Derived.Test.YtblbggdglndiiaaLimPut
import Derived.Test.YtblbggdglndiiaaLimPlain
namespace Go.Proofs.Ytblbggdglndiiaa
open Go.RowKit Go.Sort
set_option linter.unusedVariables false

/-- where the row stands: all that was there is as it was, but for the row's own box. -/
def NxI (Wt LW : List Nat) (wb : World) (B : Nat) (vi vk : Value) (wr : World) : Prop :=
  ∃ (i k : Nat) (D : List (Nat × Bool)) (oW oS : Option Nat) (wv sv : Value), vi = .int .i64 i ∧ vk = .int .i64 k ∧ i ≤ Wt.length ∧ k ≤ LW.length + 1 ∧ D ++ restM Wt LW i k = mix Wt (pairs LW) ∧ IsRow wr B oW oS (wts D) (cnts D) wv sv ∧
    (∀ g, oW = some g → wb.heap.size ≤ g) ∧ (∀ g, oS = some g → wb.heap.size ≤ g) ∧ Touch (fun k => k = B) wb wr
set_option maxHeartbeats 4000000 in
set_option maxRecDepth 100000 in
theorem lim_next (v : Value) (Wt LW : List Nat) (lw ls : Value) (w : World) (hv : ViewL w v (intsL Wt)) (hlv : ViewL w lw (intsL LW)) (hn : Wt.length ≤ 2 ^ 18) (hl : LW.length ≤ 2 ^ 18) (hWx : ∀ x ∈ Wt, x ≤ 2 ^ 60) (hLx : ∀ x ∈ LW, x ≤ 2 ^ 60) :
    Calls Try.prog 18 #[v, .agg #[lw, ls]] w fun e w' => ∃ wv sv, e = .returned (.agg #[wv, sv]) ∧ IOn w (wts (mix Wt (pairs LW))) wv w' ∧ IOn w (cnts (mix Wt (pairs LW))) sv w' := by
  obtain ⟨ao, cap, rfl⟩ := hv.shape
  obtain ⟨lo, lc, rfl⟩ := hlv.shape
  rw [length_intsL] at hv hlv ⊢
  rw [length_intsL]
  obtain ⟨n, hnn⟩ : ∃ n, n = Wt.length := ⟨_, rfl⟩
  obtain ⟨nl, hnl⟩ : ∃ nl, nl = LW.length := ⟨_, rfl⟩
  rw [← hnn] at hv ⊢
  rw [← hnl] at hlv ⊢
  obtain ⟨wb, hwb⟩ : ∃ wb, wb = (((w.alloc (.cells #[.slice lo nl lc, ls] 45)).alloc (.cells #[.slice none 0 0, .slice none 0 0] 45)).alloc (.cells #[.slice none 0 0, .slice none 0 0] 45)) := ⟨_, rfl⟩
  have hx0 : Ext w wb := by rw [hwb]; exact (((Ext.refl w).alloc _).alloc _).alloc _
  have hsz : wb.heap.size = w.heap.size + 1 + 1 + 1 := by rw [hwb]; simp
  have hb0 : wb.heap[w.heap.size]? = some (.cells #[.slice lo nl lc, ls] 45 (0, 0)) := by
    rw [hwb, Below.heap_alloc _ _ _ (by simp; omega), Below.heap_alloc _ _ _ (by simp)]; exact heap_alloc_new w _
  have hb1 : wb.heap[w.heap.size + 1]? = some (.cells #[.slice none 0 0, .slice none 0 0] 45 (0, 0)) := by
    rw [hwb, Below.heap_alloc _ _ _ (by simp)]; simpa using heap_alloc_new (w.alloc (.cells #[.slice lo nl lc, ls] 45)) _
  have hb2 : wb.heap[w.heap.size + 1 + 1]? = some (.cells #[.slice none 0 0, .slice none 0 0] 45 (0, 0)) := by
    rw [hwb]; simpa using heap_alloc_new ((w.alloc (.cells #[.slice lo nl lc, ls] 45)).alloc (.cells #[.slice none 0 0, .slice none 0 0] 45)) _
  obtain ⟨B, hB⟩ : ∃ B, B = w.heap.size + 1 + 1 := ⟨_, rfl⟩
  rw [← hB] at hb2
  have HWB : Hid (wb = (((w.alloc (.cells #[.slice lo nl lc, ls] 45)).alloc (.cells #[.slice none 0 0, .slice none 0 0] 45)).alloc (.cells #[.slice none 0 0, .slice none 0 0] 45))) := hwb
  have HB : Hid (B = w.heap.size + 1 + 1 ∧ wb.heap.size = B + 1) := ⟨hB, by omega⟩
  have HX0 : Hid (Ext w wb) := hx0
  have HR0 : Hid (IsRow wb B none none [] [] (.slice none 0 0) (.slice none 0 0)) := ⟨hb2, Owns.nil _ _ _, Owns.nil _ _ _, fun g e => (by cases e), fun g e => (by cases e)⟩
  have HK : Hid (∀ wr, Touch (fun k => k = B) wb wr → wr.heap[w.heap.size]? = some (.cells #[.slice lo nl lc, ls] 45 (0, 0)) ∧ wr.heap[w.heap.size + 1]? = some (.cells #[.slice none 0 0, .slice none 0 0] 45 (0, 0))) := fun wr ht => ⟨ht.keep hb0 (by omega), ht.keep hb1 (by omega)⟩
  have HV : Hid (∀ wr, Touch (fun k => k = B) wb wr → ∀ j, j < n → ∃ b o, ao = some ⟨b, o, none⟩ ∧ wr.cell? ⟨b, o + j, none⟩ = some (.int .i64 (Wt.getD j 0 : Nat))) := fun wr ht j hj => by
    obtain ⟨b, o, rfl, _, hc⟩ := viewL_cells hv (by rw [length_intsL]; omega)
    have hc' := hc j (.int .i64 (Wt.getD j 0 : Nat)) (by rw [hnn] at hj; simp [intsL, hj, List.getD])
    have hlt := World.block_lt_of_cell? _ _ hc'
    exact ⟨b, o, rfl, cell_touch ht (cell_touch hx0 hc' (fun f => f)) (by simp at hlt ⊢; omega)⟩
  have HL : Hid (∀ wr, Touch (fun k => k = B) wb wr → ∀ j, j < nl → ∃ b o, lo = some ⟨b, o, none⟩ ∧ wr.cell? ⟨b, o + j, none⟩ = some (.int .i64 (LW.getD j 0 : Nat))) := fun wr ht j hj => by
    obtain ⟨b, o, rfl, _, hc⟩ := viewL_cells hlv (by rw [length_intsL]; omega)
    have hc' := hc j (.int .i64 (LW.getD j 0 : Nat)) (by rw [hnl] at hj; simp [intsL, hj, List.getD])
    have hlt := World.block_lt_of_cell? _ _ hc'
    exact ⟨b, o, rfl, cell_touch ht (cell_touch hx0 hc' (fun f => f)) (by simp at hlt ⊢; omega)⟩
  have HN : Hid (n = Wt.length ∧ nl = LW.length ∧ n ≤ 2 ^ 18 ∧ nl ≤ 2 ^ 18) := ⟨hnn, hnl, by omega, by omega⟩
  have HM : Hid ((∀ x ∈ Wt, x ≤ 2 ^ 60) ∧ (∀ x ∈ LW, x ≤ 2 ^ 60)) := ⟨hWx, hLx⟩
  have HML : Hid ((mix Wt (pairs LW)).length ≤ 2 ^ 19) := by
    show _ ≤ _
    rw [mix_len _ Wt (pairs LW) rfl, pairs_len]; omega
  clear hv hlv hn hl hWx hLx hnn hnl hwb hx0 hsz hb0 hb1 hb2
  go_enter Try.func18, Try.ntmps18
  go_wp2_with fail
  rw [← HWB.out, ← hB]
  clear hB
  go_loopw [6, 7] (fun vi vk wr => NxI Wt LW wb B vi vk wr) (fun vi vk _ => (n - (intOf vi).toNat) + (nl + 1 - (intOf vk).toNat))
  case atStart => exact ⟨0, 0, [], none, none, _, _, by go_num, by go_num, Nat.zero_le _, Nat.zero_le _, by simp [restM], HR0.out, fun g e => (by cases e), fun g e => (by cases e), Touch.refl _ _⟩
  case round =>
    obtain ⟨i, k, D, oW, oS, wv, sv, rfl, rfl, hin, hkl, hD, hrow, hW, hS, ht⟩ := hrel
    have HI : Hid (i ≤ n ∧ k ≤ nl + 1 ∧ D ++ restM Wt LW i k = mix Wt (pairs LW) ∧ IsRow wr B oW oS (wts D) (cnts D) wv sv ∧ (∀ g, oW = some g → wb.heap.size ≤ g) ∧ (∀ g, oS = some g → wb.heap.size ≤ g) ∧ Touch (fun k => k = B) wb wr) := ⟨by rw [HN.out.1]; exact hin, by rw [HN.out.2.1]; exact hkl, hD, hrow, hW, hS, ht⟩
    obtain ⟨hk0, hk1⟩ := HK.out wr ht
    have c0 : wr.cell? ⟨w.heap.size, 0, none⟩ = some (.slice lo nl lc) := by simp [World.cell?, hk0]
    -- a put, whatever is put
    have HPUT : Hid (∀ (x b : Nat), b ≤ 1 → x ≤ 2 ^ 61 → D.length < 2 ^ 19 → ∀ (wr2 : World), (∃ q, wr2 = wr.drewN q) → Calls Try.prog 27 #[.pointer (some ⟨B, 0, none⟩), .int .i64 x, .int .i64 b] wr2 fun e w' => e = .returned (.tuple #[]) ∧
        ∃ oW' oS' wv' sv', IsRow w' B oW' oS' (wts (D ++ [(x, decide (b = 1))])) (cnts (D ++ [(x, decide (b = 1))])) wv' sv' ∧ (∀ g, oW' = some g → wb.heap.size ≤ g) ∧ (∀ g, oS' = some g → wb.heap.size ≤ g) ∧ Touch (fun k => k = B) wb w') := by
      intro x b hb hx hlen wr2 hwr2
      obtain ⟨_, _, _, r, rW, rS, rt⟩ := HI.out
      have hr2 : IsRow wr2 B oW oS (wts D) (cnts D) wv sv ∧ Touch (fun k => k = B) wb wr2 ∧ wr2.heap.size = wr.heap.size := by
        obtain ⟨q, rfl⟩ := hwr2
        exact ⟨r.keep ((Touch.refl (fun _ => False) wr).drewN q) (fun f => f) (fun _ _ f => f) (fun _ _ f => f), rt.drewN q, rfl⟩
      have hsl := syms_le D D.length
      refine (lim_put B oW oS (wts D) (cnts D) wv sv wr2 x b (syms D D.length + b) hr2.1 ?_ (by rw [wts_len]; omega) (by rw [cnts_len]; omega) (by omega) (by omega)).mono ?_
      · have := cnts_get D D.length (Nat.le_refl _)
        rw [cnts_len, ← this]
      · rintro e w' ⟨rfl, oW', oS', wv', sv', q1, q2, q3, q4⟩
        have hsz := rt.size
        refine ⟨rfl, oW', oS', wv', sv', ?_, fun g e => ?_, fun g e => ?_, hr2.2.1.trans q4 (fun j hj hr => ?_)⟩
        · rw [wts_snoc, cnts_snoc]
          have : (if decide (b = 1) then 1 else 0) = b := by
            rcases Nat.lt_or_ge b 1 with h | h
            · obtain rfl : b = 0 := by omega
              rfl
            · obtain rfl : b = 1 := by omega
              rfl
          rw [this]
          exact q1
        · rcases q2 with e2 | ⟨g2, e2, hg2⟩
          · exact rW g (by rw [← e2]; exact e)
          · rw [e] at e2; cases e2; have := hr2.2.2; omega
        · rcases q3 with e2 | ⟨g2, e2, hg2⟩
          · exact rS g (by rw [← e2]; exact e)
          · rw [e] at e2; cases e2; have := hr2.2.2; omega
        · rcases hr with rfl | e | e
          · rfl
          · have := rW j e; omega
          · have := rS j e; omega
    have hk62 : (k : Int) + 1 < 4611686018427387904 := by have := HI.out.2.1; have := HN.out; omega
    have hk63 : (k : Int) + 2 < 4611686018427387904 := by have := HI.out.2.1; have := HN.out; omega
    have hi62 : (i : Int) + 1 < 4611686018427387904 := by have := HI.out.1; have := HN.out; omega
    have hDl : D.length + (restM Wt LW i k).length = (mix Wt (pairs LW)).length := by rw [← hD]; simp
    have HDL : Hid (D.length + (restM Wt LW i k).length ≤ 2 ^ 19) := by rw [hDl]; exact HML.out
    clear hin hkl hD hrow hW hS ht hk0 hk1 hDl
    by_cases htwo : k + 1 < nl
    · have htz : (k : Int) + 1 < (nl : Int) := by omega
      go_wp2_with fail
      have htz2 : (k : Int) < (nl : Int) := by omega
      obtain ⟨lb, lof, rfl, d1⟩ := HL.out wr HI.out.2.2.2.2.2.2 k (by omega)
      obtain ⟨lb2, lof2, e2, d2⟩ := HL.out wr HI.out.2.2.2.2.2.2 (k + 1) htwo
      cases e2
      obtain ⟨y1, hy1⟩ : ∃ y1, y1 = LW.getD k 0 := ⟨_, rfl⟩
      obtain ⟨y2, hy2⟩ : ∃ y2, y2 = LW.getD (k + 1) 0 := ⟨_, rfl⟩
      obtain ⟨z, hz⟩ : ∃ z, z = y1 + y2 := ⟨_, rfl⟩
      rw [← hy1] at d1
      rw [← hy2] at d2
      have hy1b : y1 ≤ 2 ^ 60 := by rw [hy1]; exact HM.out.2 _ (getD_mem (by have := HN.out.2.1; omega))
      have hy2b : y2 ≤ 2 ^ 60 := by rw [hy2]; exact HM.out.2 _ (getD_mem (by have := HN.out.2.1; omega))
      have hzw : IntKind.i64.wrap ((y1 : Int) + (y2 : Int)) = (z : Int) := by rw [show (y1 : Int) + (y2 : Int) = ((z : Nat) : Int) by omega]; exact IntWalk.i64_in _ (by omega)
      have HYB : Hid (z ≤ 2 ^ 61 ∧ z = y1 + y2 ∧ y1 = LW.getD k 0 ∧ y2 = LW.getD (k + 1) 0) := ⟨by omega, hz, hy1, hy2⟩
      have hDD : restM Wt LW i k ≠ [] → D.length < 2 ^ 19 := fun h => by have := HDL.out; have := List.length_pos_iff.2 h; omega
      have HDD : Hid (restM Wt LW i k ≠ [] → D.length < 2 ^ 19) := hDD
      clear hz hy1 hy2 hy1b hy2b hDD
      have e1 : ((k : Int) + 1).toNat = k + 1 := by omega
      have p0 : (0 : Int) ≤ (k : Int) + 1 := by omega
      by_cases hi : i < n
      · have hiz : (i : Int) < (n : Int) := by omega
        obtain ⟨b, o, rfl, hc⟩ := HV.out wr HI.out.2.2.2.2.2.2 i hi
        obtain ⟨x, hx⟩ : ∃ x, x = Wt.getD i 0 := ⟨_, rfl⟩
        rw [← hx] at hc
        have hxb : x ≤ 2 ^ 60 := by rw [hx]; exact HM.out.1 _ (getD_mem (by have := HN.out.1; omega))
        by_cases hle : x ≤ z
        · have hlez : (x : Int) ≤ (z : Int) := by omega
          have hfa : k + 1 < LW.length → Wt.getD i 0 ≤ LW.getD k 0 + LW.getD (k + 1) 0 := fun _ => by rw [← hx, ← HYB.out.2.2.1, ← HYB.out.2.2.2, ← HYB.out.2.1]; exact hle
          have HFA : Hid (k + 1 < LW.length → Wt.getD i 0 ≤ LW.getD k 0 + LW.getD (k + 1) 0) := hfa
          have HXX : Hid (x = Wt.getD i 0 ∧ x ≤ 2 ^ 60 ∧ i < n ∧ D.length < 2 ^ 19) := ⟨hx, hxb, hi, HDD.out (by rw [rest_sym Wt LW i k (by have := HN.out.1; omega) hfa]; simp)⟩
          clear hx hxb hi hfa hle
          go_quiet (fail)
          go_wp2_with fail
          refine (HPUT.out x 1 (Nat.le_refl _) (by have := HXX.out.2.1; omega) HXX.out.2.2.2 _ ⟨nq, rfl⟩).mono ?_
          rintro e w' ⟨rfl, oW', oS', wv', sv', q1, q2, q3, q4⟩
          have HQ : Hid (IsRow w' B oW' oS' (wts (D ++ [(x, true)])) (cnts (D ++ [(x, true)])) wv' sv' ∧ (∀ g, oW' = some g → wb.heap.size ≤ g) ∧ (∀ g, oS' = some g → wb.heap.size ≤ g) ∧ Touch (fun k => k = B) wb w') := ⟨q1, q2, q3, q4⟩
          clear q1 q2 q3 q4 hc d1 d2 hiz htz htz2 hlez hzw e1 c0 hk62
          go_wp2_with fail
          obtain ⟨q1, q2, q3, q4⟩ := HQ.out
          obtain ⟨i1, i2, i3, i4⟩ := HI.out
          have hre : restM Wt LW i k = (x, true) :: restM Wt LW (i + 1) k := by rw [HXX.out.1]; exact rest_sym Wt LW i k (by rw [← HN.out.1]; exact HXX.out.2.2.1) HFA.out
          refine ⟨⟨i + 1, k, D ++ [(x, true)], oW', oS', wv', sv', by go_num, rfl, by have := HXX.out.2.2.1; have := HN.out.1; omega, by have := HN.out.2.1; omega, by rw [← i3, hre]; simp, q1, q2, q3, q4⟩, by simp [intOf]; have := HXX.out.2.2.1; omega⟩
        · have hlez : ¬ (x : Int) ≤ (z : Int) := by omega
          have hfa : i < Wt.length → ¬ Wt.getD i 0 ≤ LW.getD k 0 + LW.getD (k + 1) 0 := fun _ => by rw [← hx, ← HYB.out.2.2.1, ← HYB.out.2.2.2, ← HYB.out.2.1]; exact hle
          have HFA : Hid (i < Wt.length → ¬ Wt.getD i 0 ≤ LW.getD k 0 + LW.getD (k + 1) 0) := hfa
          have HYY : Hid (z = y1 + y2 ∧ y1 = LW.getD k 0 ∧ y2 = LW.getD (k + 1) 0 ∧ D.length < 2 ^ 19 ∧ k + 1 < nl) := ⟨HYB.out.2.1, HYB.out.2.2.1, HYB.out.2.2.2, HDD.out (by rw [rest_pack Wt LW i k (by have := HN.out.2.1; omega) hfa]; simp), htwo⟩
          clear hx hxb hi hfa hle htwo
          go_quiet (fail)
          go_wp2_with fail
          have d1' : (wr.drewN nq).cell? ⟨lb, lof + k, none⟩ = some (.int .i64 y1) := d1
          have d2' : (wr.drewN nq).cell? ⟨lb, lof + (k + 1), none⟩ = some (.int .i64 y2) := d2
          have c0' : (wr.drewN nq).cell? ⟨w.heap.size, 0, none⟩ = some (.slice (some ⟨lb, lof, none⟩) nl lc) := c0
          obtain ⟨w2, hw2⟩ : ∃ w2, w2 = wr.drewN nq := ⟨_, rfl⟩
          rw [← hw2] at d1' d2' c0' ⊢
          have HW2 : Hid (w2 = wr.drewN nq) := hw2
          clear hw2 d1 d2 c0
          have hwk : IntKind.i64.wrap ((k : Int) + 1) = (k : Int) + 1 := by rw [IntKind.wrap_i64]; omega
          go_still_tail 12, (by kernel_rfl)
          clear hwk p0 hk62
          clear hc d1' d2' c0' hiz htz htz2 hlez hzw e1
          go_wp2_with fail
          refine (HPUT.out z 0 (by omega) (by have := HYB.out.1; omega) HYY.out.2.2.2.1 w2.drew ⟨nq + 1, by rw [HW2.out]; rfl⟩).mono ?_
          rintro e w' ⟨rfl, oW', oS', wv', sv', q1, q2, q3, q4⟩
          have HQ : Hid (IsRow w' B oW' oS' (wts (D ++ [(z, false)])) (cnts (D ++ [(z, false)])) wv' sv' ∧ (∀ g, oW' = some g → wb.heap.size ≤ g) ∧ (∀ g, oS' = some g → wb.heap.size ≤ g) ∧ Touch (fun k => k = B) wb w') := ⟨q1, q2, q3, q4⟩
          clear q1 q2 q3 q4
          go_wp2_with fail
          obtain ⟨q1, q2, q3, q4⟩ := HQ.out
          obtain ⟨i1, i2, i3, i4⟩ := HI.out
          obtain ⟨z1, z2, z3, z4, z5⟩ := HYY.out
          have hre : restM Wt LW i k = (z, false) :: restM Wt LW i (k + 2) := by rw [z1, z2, z3]; exact rest_pack Wt LW i k (by rw [← HN.out.2.1]; exact z5) HFA.out
          refine ⟨⟨i, k + 2, D ++ [(z, false)], oW', oS', wv', sv', rfl, by go_num, by have := HN.out.1; omega, by have := HN.out.2.1; omega, by rw [← i3, hre]; simp, q1, q2, q3, q4⟩, by simp [intOf]; omega⟩
      · have hiz : ¬ (i : Int) < (n : Int) := by omega
        have hfa : i < Wt.length → ¬ Wt.getD i 0 ≤ LW.getD k 0 + LW.getD (k + 1) 0 := fun h => by have := HN.out.1; omega
        have HFA : Hid (i < Wt.length → ¬ Wt.getD i 0 ≤ LW.getD k 0 + LW.getD (k + 1) 0) := hfa
        have HYY : Hid (z = y1 + y2 ∧ y1 = LW.getD k 0 ∧ y2 = LW.getD (k + 1) 0 ∧ D.length < 2 ^ 19 ∧ k + 1 < nl) := ⟨HYB.out.2.1, HYB.out.2.2.1, HYB.out.2.2.2, HDD.out (by rw [rest_pack Wt LW i k (by have := HN.out.2.1; omega) hfa]; simp), htwo⟩
        clear hfa htwo
        go_quiet (fail)
        go_wp2_with fail
        have d1' : (wr.drewN nq).cell? ⟨lb, lof + k, none⟩ = some (.int .i64 y1) := d1
        have d2' : (wr.drewN nq).cell? ⟨lb, lof + (k + 1), none⟩ = some (.int .i64 y2) := d2
        have c0' : (wr.drewN nq).cell? ⟨w.heap.size, 0, none⟩ = some (.slice (some ⟨lb, lof, none⟩) nl lc) := c0
        obtain ⟨w2, hw2⟩ : ∃ w2, w2 = wr.drewN nq := ⟨_, rfl⟩
        rw [← hw2] at d1' d2' c0' ⊢
        have HW2 : Hid (w2 = wr.drewN nq) := hw2
        clear hw2 d1 d2 c0
        have hwk : IntKind.i64.wrap ((k : Int) + 1) = (k : Int) + 1 := by rw [IntKind.wrap_i64]; omega
        go_still_tail 12, (by kernel_rfl)
        clear hwk p0 hk62
        clear d1' d2' c0' hiz htz htz2 hzw e1
        go_wp2_with fail
        refine (HPUT.out z 0 (by omega) (by have := HYB.out.1; omega) HYY.out.2.2.2.1 w2.drew ⟨nq + 1, by rw [HW2.out]; rfl⟩).mono ?_
        rintro e w' ⟨rfl, oW', oS', wv', sv', q1, q2, q3, q4⟩
        have HQ : Hid (IsRow w' B oW' oS' (wts (D ++ [(z, false)])) (cnts (D ++ [(z, false)])) wv' sv' ∧ (∀ g, oW' = some g → wb.heap.size ≤ g) ∧ (∀ g, oS' = some g → wb.heap.size ≤ g) ∧ Touch (fun k => k = B) wb w') := ⟨q1, q2, q3, q4⟩
        clear q1 q2 q3 q4
        go_wp2_with fail
        obtain ⟨q1, q2, q3, q4⟩ := HQ.out
        obtain ⟨i1, i2, i3, i4⟩ := HI.out
        obtain ⟨z1, z2, z3, z4, z5⟩ := HYY.out
        have hre : restM Wt LW i k = (z, false) :: restM Wt LW i (k + 2) := by rw [z1, z2, z3]; exact rest_pack Wt LW i k (by rw [← HN.out.2.1]; exact z5) HFA.out
        refine ⟨⟨i, k + 2, D ++ [(z, false)], oW', oS', wv', sv', rfl, by go_num, by have := HN.out.1; omega, by have := HN.out.2.1; omega, by rw [← i3, hre]; simp, q1, q2, q3, q4⟩, by simp [intOf]; omega⟩
    · have htz : ¬ (k : Int) + 1 < (nl : Int) := by omega
      go_wp2_with fail
      by_cases hi : i < n
      · have hiz : (i : Int) < (n : Int) := by omega
        obtain ⟨b, o, rfl, hc⟩ := HV.out wr HI.out.2.2.2.2.2.2 i hi
        obtain ⟨x, hx⟩ : ∃ x, x = Wt.getD i 0 := ⟨_, rfl⟩
        rw [← hx] at hc
        have hxb : x ≤ 2 ^ 60 := by rw [hx]; exact HM.out.1 _ (getD_mem (by have := HN.out.1; omega))
        have hfa : k + 1 < LW.length → Wt.getD i 0 ≤ LW.getD k 0 + LW.getD (k + 1) 0 := fun h => by have := HN.out.2.1; omega
        have HFA : Hid (k + 1 < LW.length → Wt.getD i 0 ≤ LW.getD k 0 + LW.getD (k + 1) 0) := hfa
        have HXX : Hid (x = Wt.getD i 0 ∧ x ≤ 2 ^ 60 ∧ i < n ∧ D.length < 2 ^ 19) := ⟨hx, hxb, hi, by have := HDL.out; rw [rest_sym Wt LW i k (by have := HN.out.1; omega) hfa] at this; simp at this; omega⟩
        clear hx hxb hi hfa htwo
        go_quiet (fail)
        go_wp2_with fail
        refine (HPUT.out x 1 (Nat.le_refl _) (by have := HXX.out.2.1; omega) HXX.out.2.2.2 _ ⟨nq, rfl⟩).mono ?_
        rintro e w' ⟨rfl, oW', oS', wv', sv', q1, q2, q3, q4⟩
        have HQ : Hid (IsRow w' B oW' oS' (wts (D ++ [(x, true)])) (cnts (D ++ [(x, true)])) wv' sv' ∧ (∀ g, oW' = some g → wb.heap.size ≤ g) ∧ (∀ g, oS' = some g → wb.heap.size ≤ g) ∧ Touch (fun k => k = B) wb w') := ⟨q1, q2, q3, q4⟩
        clear q1 q2 q3 q4 hc hiz htz c0 hk62
        go_wp2_with fail
        obtain ⟨q1, q2, q3, q4⟩ := HQ.out
        obtain ⟨i1, i2, i3, i4⟩ := HI.out
        have hre : restM Wt LW i k = (x, true) :: restM Wt LW (i + 1) k := by rw [HXX.out.1]; exact rest_sym Wt LW i k (by rw [← HN.out.1]; exact HXX.out.2.2.1) HFA.out
        refine ⟨⟨i + 1, k, D ++ [(x, true)], oW', oS', wv', sv', by go_num, rfl, by have := HXX.out.2.2.1; have := HN.out.1; omega, by have := HN.out.2.1; omega, by rw [← i3, hre]; simp, q1, q2, q3, q4⟩, by simp [intOf]; have := HXX.out.2.2.1; omega⟩
      · have hiz : ¬ (i : Int) < (n : Int) := by omega
        have HEND : Hid (restM Wt LW i k = []) := rest_end Wt LW i k (by have := HN.out.1; omega) (by have := HN.out.2.1; omega)
        obtain ⟨wa, wc, hwv⟩ := HI.out.2.2.2.1.wts.shape
        obtain ⟨sa, sc, hsv⟩ := HI.out.2.2.2.1.sym.shape
        obtain ⟨nd, hnd⟩ : ∃ nd, nd = (wts D).length := ⟨_, rfl⟩
        obtain ⟨ns, hns⟩ : ∃ ns, ns = (cnts D).length := ⟨_, rfl⟩
        rw [← hnd] at hwv
        rw [← hns] at hsv
        subst hwv hsv
        clear hnd hns
        obtain ⟨_, _, _, hr, _, _, htt⟩ := HI.out
        have g0 : wr.cell? ⟨B, 0, none⟩ = some (.slice wa nd wc) := by simp [World.cell?, hr.box]
        have g1 : wr.cell? ⟨B, 1, none⟩ = some (.slice sa ns sc) := by simp [World.cell?, hr.box]
        obtain ⟨_, hk1⟩ := HK.out wr htt
        have g2 : wr.cell? ⟨w.heap.size + 1, 0, none⟩ = some (.slice none 0 0) := by simp [World.cell?, hk1]
        have g3 : wr.cell? ⟨w.heap.size + 1, 1, none⟩ = some (.slice none 0 0) := by simp [World.cell?, hk1]
        have g4 : wr.frozen? ⟨w.heap.size + 1, 0, none⟩ = false := by simp [World.frozen?, hk1]
        have g5 : wr.frozen? ⟨w.heap.size + 1, 1, none⟩ = false := by simp [World.frozen?, hk1]
        clear hr htt hk1 htwo
        go_quiet (fail)
        go_wp2_with fail
        obtain ⟨i1, i2, i3, hr, hrW, hrS, htt⟩ := HI.out
        have hD : D = mix Wt (pairs LW) := by rw [← i3, HEND.out, List.append_nil]
        refine bodyPost_ret ?_ rfl ⟨.slice wa nd wc, .slice sa ns sc, rfl, ?_⟩
        · obtain ⟨w5, hw5⟩ : ∃ w5, w5 = ((wr.drewN nq).setCell ⟨w.heap.size + 1, 0, none⟩ (.slice wa nd wc)).setCell ⟨w.heap.size + 1, 1, none⟩ (.slice sa ns sc) := ⟨_, rfl⟩
          have hh := heap_setCell_at (w := wr.drewN nq) (a := ⟨w.heap.size + 1, 0, none⟩) (u := .slice wa nd wc) (HK.out wr htt).2 rfl
          have hh2 := heap_setCell_at (a := ⟨w.heap.size + 1, 1, none⟩) (u := .slice sa ns sc) hh rfl
          have c50 : w5.cell? ⟨w.heap.size + 1, 0, none⟩ = some (.slice wa nd wc) := by rw [hw5, World.cell?]; simp only [hh2]; rfl
          have c51 : w5.cell? ⟨w.heap.size + 1, 1, none⟩ = some (.slice sa ns sc) := by rw [hw5, World.cell?]; simp only [hh2]; rfl
          rw [← hw5]
          clear hw5 hh hh2
          simp only [results, show Try.f18.results = #[.cell 4 45] from by kernel_rfl]
          go_simp
        · have hre : Ext w (((wr.drewN nq).setCell ⟨w.heap.size + 1, 0, none⟩ (.slice wa nd wc)).setCell ⟨w.heap.size + 1, 1, none⟩ (.slice sa ns sc)) := by
            have h1 : Touch (fun k => k = B) wb (wr.drewN nq) := htt.drewN nq
            have h2 : Touch (fun k => k = B) w (wr.drewN nq) := HX0.out.trans' h1
            have h3 : Touch (fun k => k = B ∨ k = w.heap.size + 1) w (((wr.drewN nq).setCell ⟨w.heap.size + 1, 0, none⟩ (.slice wa nd wc)).setCell ⟨w.heap.size + 1, 1, none⟩ (.slice sa ns sc)) :=
              Touch.setCell (S := fun k => k = B ∨ k = w.heap.size + 1) (a := ⟨w.heap.size + 1, 1, none⟩) (Touch.setCell (S := fun k => k = B ∨ k = w.heap.size + 1) (a := ⟨w.heap.size + 1, 0, none⟩) (h2.mono (fun _ _ e => Or.inl e)) (Or.inl (Or.inr rfl)) _) (Or.inl (Or.inr rfl)) _
            exact h3.mono (fun k hk e => by have := HB.out; omega)
          have htt2 : Touch (fun k => k = w.heap.size + 1) wr (((wr.drewN nq).setCell ⟨w.heap.size + 1, 0, none⟩ (.slice wa nd wc)).setCell ⟨w.heap.size + 1, 1, none⟩ (.slice sa ns sc)) :=
            Touch.setCell (S := fun k => k = w.heap.size + 1) (a := ⟨w.heap.size + 1, 1, none⟩) (Touch.setCell (S := fun k => k = w.heap.size + 1) (a := ⟨w.heap.size + 1, 0, none⟩) ((Touch.refl _ wr).drewN nq) (Or.inl rfl) _) (Or.inl rfl) _
          have hb := HB.out
          have hx0 := HX0.out.size
          refine ⟨⟨oW, ?_, fun g e => by have := hrW g e; omega, hre⟩, ⟨oS, ?_, fun g e => by have := hrS g e; omega, hre⟩⟩
          · rw [← hD]
            exact hr.wts.keep htt2 (fun g e he => by have := hrW g e; omega)
          · rw [← hD]
            exact hr.sym.keep htt2 (fun g e he => by have := hrS g e; omega)
end Go.Proofs.Ytblbggdglndiiaa
