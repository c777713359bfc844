/- pressworklaw02.MsbBack: its walk, the loops. -/
import Derived.Test.YtnmibfdpaamlgaaMsbBack
namespace Go.Proofs.Ytnmibfdpaamlgaa
open Go.RowKit
set_option linter.unusedVariables false

set_option maxHeartbeats 2000000 in
set_option maxRecDepth 100000 in
theorem msb_back_some (v : Value) (l : List ActV) (w : World) (hv : ViewA w v l) (hl : l.length ≤ 200) :
    Calls Try.prog 12 #[v] w fun e w' => e = .returned (.bool true) ∧ Ext w w' := by
  obtain ⟨ao, cap, rfl, hc⟩ := hv
  have hl2 : ¬ (200 : Int) < (l.length : Int) := by omega
  have HC := Lib.hid hc
  obtain ⟨i0, hi, hz0, hz1, hz2⟩ := info_parts msb_infoA
  clear hc
  have HS : Hid (MsbSt w w.heap.size [] [] (.slice none 0 0) (w.alloc (.cells #[.slice none 0 0, .int .i64 0] 37))) :=
    Lib.hid ⟨none, none, msb_zero w, Owns.nil _ _ _, ⟨Nat.le_refl _, fun g e => by cases e⟩, fun g e => (by cases e), (Ext.refl w).alloc _⟩
  go_enter Try.func12, Try.ntmps12
  go_wp2_with fail
  go_loopw [4, 5] (fun dv i wr => ∃ k : Nat, k ≤ l.length ∧ i = .int .i64 k ∧ MsbSt w w.heap.size (rowOf true (l.take k)) (didOf (l.take k)) dv wr) (fun _ i _ => l.length - (intOf i).toNat)
  case atStart => exact ⟨0, Nat.zero_le _, rfl, HS.out⟩
  case round =>
    obtain ⟨k, hk, rfl, hst⟩ := hrel
    by_cases hlt : k < l.length
    · obtain ⟨b, o, rfl, hx⟩ := HC.out (by omega)
      obtain ⟨x, hxk⟩ : ∃ x, l[k]? = some x := ⟨_, List.getElem?_eq_getElem hlt⟩
      obtain ⟨hact, xv, xn⟩ := hx k x hxk
      obtain ⟨og, od, s1, s2, s3, s4, s5⟩ := id hst
      have hrow := rowOf_succ true l k x hxk
      have hdid := didOf_succ l k x hxk
      have hlr := rowOf_len true (l.take k)
      have hld : (didOf (l.take k)).length ≤ k := Nat.le_trans (List.length_filter_le _ _) (List.length_take_le _ _)
      have hlr2 : (rowOf true (l.take k)).length ≤ 6400 := by
        have := List.length_take_le k l; omega
      generalize rowOf true (l.take k) = row at *
      generalize didOf (l.take k) = D at *
      have HACT := Lib.hid hact
      have HROW := Lib.hid hrow
      have HDID := Lib.hid hdid
      have S1 := Lib.hid s1
      have S2 := Lib.hid s2
      have S3 := Lib.hid s3
      have S4 := Lib.hid s4
      have S5 := Lib.hid s5
      clear hst hx hact hrow hdid s1 s2 s3 s4 s5 hlr
      obtain ⟨xV, xN, xA, xD⟩ := x
      have hco : Value.cells (.agg #[.int .u32 xV, .int .i64 xN, .bool xA, .bool xD]) = #[.int .u32 xV, .int .i64 xN, .bool xA, .bool xD] := rfl
      cases xA with
      | true =>
        obtain ⟨c0, c1, c2, c3⟩ := HACT.out.ext S5.out
        simp only [] at c0 c1 c2 c3
        go_wp2_with fail
        refine (msb_align _ og _ _ S1.out (by omega)).mono ?_
        rintro e w1 ⟨rfl, p1⟩
        have st1 := msb_st_row S2.out S3.out S4.out S5.out p1
        obtain ⟨d0, d1, d2, d3⟩ := HACT.out.ext st1.choose_spec.choose_spec.2.2.2.2
        simp only [] at d0 d1 d2 d3
        have ST1 := Lib.hid st1
        clear c0 c1 c2 c3 p1 st1
        have ho := ST1.out.choose_spec.choose_spec.2.1
        have HO := Lib.hid ho
        clear ho
        go_wp2_with (at_builtin; go_must (refine wpList_append_own_at _ rfl (.tmp 27) (.tmp 32) 50 rfl 0 53 i0 (.agg #[.int .u32 0, .int .i64 0, .bool false, .bool false]) 4 24 Try.underlying50 hi hz0 hz1 hz2 rfl (by decide) _ D.length (acells D) rfl (HO.out.1.alloc _) ⟨w1.heap.size, 0, none⟩ 1 1 (cells4 ⟨xV, xN, true, xD⟩) rfl rfl (news_new w1 [.int .u32 xV, .int .i64 xN, .bool true, .bool xD] 53 (0, 0)) (by simp [cells4, Value.oneCell']) (by unfold maxLen; omega) (by omega) (by omega) ?_))
        intro v' w2 hown' hgrow _ hat
        have st2 := msb_st_push ST1.out hown' hgrow hat
        have ST2 := Lib.hid st2
        clear hown' hgrow hat d0 d1 d2 d3 st2
        go_wp2_with fail
        go_roundw
        case rel =>
          refine ⟨k + 1, by omega, by go_num, ?_⟩
          rw [HROW.out, HDID.out]
          exact ST2.out
        case measure => simp [intOf]; omega
      | false =>
        have q1 := S1.out.ext (Ext.refl wr).drew
        have q2 := S2.out.keep ((Touch.refl (fun _ => False) wr).drew) (fun _ _ f => f)
        have Q1 := Lib.hid q1
        have Q2 := Lib.hid q2
        have Q5 := Lib.hid (S5.out.drew)
        obtain ⟨c0, c1, c2, c3⟩ := HACT.out.ext S5.out
        simp only [] at c0 c1 c2 c3
        clear q1 q2
        have k1 : (k : Int).toNat = k := Int.toNat_natCast k
        have k2 : (0 : Int) ≤ (k : Int) := by omega
        have k3 : (k : Int) < (l.length : Int) := by omega
        go_wp2_with fail
        go_still_tail 10, (by kernel_rfl)
        clear k1 k2 k3
        go_wp2_with fail
        refine (msb_put _ xV xN og _ _ Q1.out (by omega) xv).mono ?_
        rintro e w1 ⟨rfl, p1⟩
        have st1 := msb_st_row Q2.out S3.out S4.out Q5.out p1
        by_cases hm : mayPut xV xN = true
        · rw [show putE xV xN = 0 from by simp [putE, hm]]
          obtain ⟨d0, d1, d2, d3⟩ := HACT.out.ext st1.choose_spec.choose_spec.2.2.2.2
          simp only [] at d0 d1 d2 d3
          have ST1 := Lib.hid st1
          have HM := Lib.hid hm
          clear c0 c1 c2 c3 p1 st1 hm
          have ho := ST1.out.choose_spec.choose_spec.2.1
          have HO := Lib.hid ho
          clear ho
          go_wp2_with (at_builtin; go_must (refine wpList_append_own_at _ rfl (.tmp 46) (.tmp 51) 50 rfl 0 53 i0 (.agg #[.int .u32 0, .int .i64 0, .bool false, .bool false]) 4 24 Try.underlying50 hi hz0 hz1 hz2 rfl (by decide) _ D.length (acells D) rfl (HO.out.1.alloc _) ⟨w1.heap.size, 0, none⟩ 1 1 (cells4 ⟨xV, xN, false, xD⟩) rfl rfl (news_new w1 [.int .u32 xV, .int .i64 xN, .bool false, .bool xD] 53 (0, 0)) (by simp [cells4, Value.oneCell']) (by unfold maxLen; omega) (by omega) (by omega) ?_))
          intro v' w2 hown' hgrow _ hat
          have st2 := msb_st_push ST1.out hown' hgrow hat
          have ST2 := Lib.hid st2
          clear hown' hgrow hat d0 d1 d2 d3 st2
          go_wp2_with fail
          go_roundw
          case rel =>
            refine ⟨k + 1, by omega, by go_num, ?_⟩
            rw [HROW.out, HDID.out]
            simp only [okAct, HM.out, Bool.or_true, if_true, stepB, Bool.false_eq_true, if_false]
            exact ST2.out
          case measure => simp [intOf]; omega
        · have hm' : mayPut xV xN = false := by simpa using hm
          rw [show putE xV xN = 5 from by simp [putE, hm']]
          have ST1 := Lib.hid st1
          have HM := Lib.hid hm'
          clear c0 c1 c2 c3 p1 st1 hm hm'
          go_wp2_with fail
          go_roundw
          case rel =>
            refine ⟨k + 1, by omega, by go_num, ?_⟩
            rw [HROW.out, HDID.out]
            simp only [okAct, HM.out, Bool.or_false, Bool.false_eq_true, if_false, stepB]
            exact ST1.out
          case measure => simp [intOf]; omega
    · obtain rfl : k = l.length := by omega
      obtain ⟨wo, rfl⟩ : ∃ wo : World, wo = wr := ⟨_, rfl⟩
      rw [List.take_length] at hst
      obtain ⟨og, od, s1, s2, s3, s4, s5⟩ := hst
      have hok : ∀ x ∈ didOf l, okAct x = true := fun x hx => (List.mem_filter.1 hx).2
      have hlD : (didOf l).length ≤ 200 := Nat.le_trans (List.length_filter_le _ _) hl
      rw [← rowOf_did] at s1
      generalize didOf l = D at *
      have hlr := rowOf_len true D
      have hlr2 : (rowOf true D).length ≤ 6400 := by omega
      have hpl := length_packs true (rowOf true D)
      obtain ⟨ad, capD, rfl⟩ := s2.shape
      have S1 := Lib.hid s1
      have S2 := Lib.hid s2
      have S4 := Lib.hid s4
      have S5 := Lib.hid s5
      have HOK := Lib.hid hok
      have HPL := Lib.hid hpl
      clear s1 s2 s3 s4 s5 hok hlr hpl hi hz0 hz1 hz2 HS
      go_wp2_with fail
      refine (msb_bytes _ og _ _ S1.out (by omega)).mono ?_
      rintro e w1 ⟨u, ou, rfl, c1, c2, c3⟩
      obtain ⟨ao2, cap2, rfl⟩ := c1.shape
      have V1 := Lib.hid c1.view
      have X1 := Lib.hid (show Ext _ _ from c3)
      clear c1 c2 c3
      go_wp2_with fail
      refine (msb_new _ _ _ V1.out (by have := HPL.out; omega)).mono ?_
      rintro e w2 ⟨R, orr, rfl, b1, b2, b3, b4⟩
      have X2 := Lib.hid (X1.out.trans b4)
      have R2 := Lib.hid b1
      have RN := Lib.hid (show wo.heap.size ≤ R from Nat.le_trans X1.out.size b2)
      clear b1 b2 b3 b4
      go_wp2_with fail
      go_loopw [7] (fun i w3 => ∃ k : Nat, k ≤ D.length ∧ i = .int .i64 k ∧ RPost 79 w2 R orr (packs true (rowOf true D)) (rowOf true (D.take k)).length w3) (fun i _ => D.length - (intOf i).toNat)
      case atStart => exact ⟨0, Nat.zero_le _, rfl, by simpa [rowOf] using RPost.refl R2.out⟩
      case round =>
        obtain ⟨j, hj, rfl, hp⟩ := hrel
        by_cases hlt2 : j < D.length
        · obtain ⟨y, hy⟩ : ∃ y, D[j]? = some y := ⟨_, List.getElem?_eq_getElem hlt2⟩
          have hoky := HOK.out y (List.mem_of_getElem? hy)
          rcases S2.out.form with ⟨_, _, hz, _⟩ | ⟨g, cap3, cur, rfl, hsl, _⟩
          · omega
          cases hsl
          have hpos := rowOf_take_le true D j
          have hg := S2.out.lt g rfl
          have ha := ((owns_act S2.out j y hy).ext X2.out).keep hp.2 (fun e : g = R => by have := RN.out; omega)
          have hgR := Lib.hid (show ¬ g = R from fun e => by have := RN.out; omega)
          obtain ⟨yV, yN, yA, yD⟩ := y
          have HA := Lib.hid ha
          have HP := Lib.hid hp
          clear hp hg
          cases yA with
          | true =>
            have hra := Lib.hid (read_align true D j _ hy rfl)
            obtain ⟨d0, d1, d2, d3⟩ := ha
            simp only [] at d0 d1 d2 d3
            clear hy hoky
            go_wp2_with fail
            refine (msb_ralign R orr _ _ _ HP.out.1 (by have := HPL.out; omega) (by have := HPL.out; omega)).mono ?_
            rw [hra.out]
            rintro e w' ⟨rfl, p1⟩
            have HP1 := Lib.hid (RPost.step HP.out p1)
            clear p1 d0 d1 d2 d3
            go_wp2_with fail
            go_roundw
            case rel => exact ⟨j + 1, by omega, by go_num, HP1.out⟩
            case measure => simp [intOf]; omega
          | false =>
            have hm : mayPut yV yN = true := by simpa [okAct] using hoky
            have hrp := Lib.hid (read_put true D j _ hy rfl hm)
            obtain ⟨d0, d1, d2, d3⟩ := ha
            simp only [] at d0 d1 d2 d3
            clear hy hoky hm
            go_wp2_with fail
            refine (msb_get R orr _ _ yN _ HP.out.1 (by have := HPL.out; omega) (packs_lt _ _) (by have := HPL.out; omega)).mono ?_
            rw [show getR true (packs true (rowOf true D)) (rowOf true (D.take j)).length yN = (yV, (rowOf true (D.take (j + 1))).length, 0) from hrp.out]
            rintro e w' ⟨rfl, p1⟩
            obtain ⟨f0, f1, f2, f3⟩ := HA.out.keep p1.2 hgR.out
            simp only [] at f0 f1 f2 f3
            have HP1 := Lib.hid (RPost.step HP.out p1)
            clear p1 d0 d1 d2 d3
            go_wp2_with fail
            go_roundw
            case rel => exact ⟨j + 1, by omega, by go_num, HP1.out⟩
            case measure => simp [intOf]; omega
        · obtain rfl : j = D.length := by omega
          rw [List.take_length] at hp
          have HP := Lib.hid hp
          have hBR : ¬ (w.heap.size = R ∨ og = some R) := by
            have h1 := RN.out; have h2 := S1.out.lt; have h3 := S1.out.glt
            rintro (e | e)
            · omega
            · have := h3 _ e; omega
          have HBR := Lib.hid hBR
          have W3 := Lib.hid ((S1.out.ext X2.out).keep hp.2 (fun e => HBR.out (Or.inl e)) (fun g e h => HBR.out (Or.inr (by rw [e]; exact congrArg some h))))
          have HXR := Lib.hid ((S5.out.trans X2.out).touch hp.2 (fun i hi e => by have h1 := S5.out.size; have h2 := RN.out; omega))
          have he := read_end true (rowOf true D)
          have HE := Lib.hid he
          have h7 : 8 * ((packs true (rowOf true D)).length : Int) - ((rowOf true D).length : Int) ≤ 7 := by have := HPL.out; omega
          have h7' : ¬ 7 < 8 * ((packs true (rowOf true D)).length : Int) - ((rowOf true D).length : Int) := by omega
          have hlr3 : (rowOf true D).length ≤ 8 * (packs true (rowOf true D)).length := by have := HPL.out; omega
          clear hp hBR he
          go_wp2_with fail
          refine (msb_at R orr _ _ _ HP.out.1).mono ?_
          rintro e w' ⟨rfl, rfl⟩
          go_wp2_with fail
          refine (msb_len _ og _ _ W3.out).mono ?_
          rintro e w' ⟨rfl, rfl⟩
          go_wp2_with fail
          refine (msb_left R orr _ _ _ HP.out.1 (by have := HPL.out; omega) hlr3).mono ?_
          rintro e w' ⟨rfl, q, rfl⟩
          go_wp2_with fail
          refine (msb_left R orr _ _ _ (HP.out.drewN q).1 (by have := HPL.out; omega) hlr3).mono ?_
          rintro e w' ⟨rfl, q2, rfl⟩
          go_wp2_with fail
          refine (msb_get R orr _ _ _ _ (HP.out.drewN (q + q2)).1 (by have := HPL.out; omega) (packs_lt _ _) hlr3).mono ?_
          rw [HE.out]
          rintro e w5 ⟨rfl, p1⟩
          have X5 := Lib.hid ((HXR.out.drewN (q + q2)).touch p1.2 (fun i hi e => by have h1 := S5.out.size; have h2 := RN.out; omega))
          clear p1
          go_wp2_with fail
          refine (msb_lays _).mono ?_
          rintro e w6 ⟨rfl, hx⟩
          have HX := Lib.hid hx
          clear hx
          go_wp2_with fail
          go_ret
          exact ⟨rfl, X5.out.trans HX.out⟩
end Go.Proofs.Ytnmibfdpaamlgaa
