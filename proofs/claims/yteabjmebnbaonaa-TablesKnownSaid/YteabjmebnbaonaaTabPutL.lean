/- tables.PutLengths, Size: their walks. -/
import Derived.Test.YteabjmebnbaonaaTabPut
namespace Go.Proofs.Yteabjmebnbaonaa
open Go.RowKit
set_option linter.unusedVariables false

theorem bits_up : bitsOf true 2 2 = [true, false] := by decide
theorem bits_down : bitsOf true 3 2 = [true, true] := by decide
theorem bits_end : bitsOf true 0 1 = [false] := by decide
theorem tab_put_nil (v : Value) (w : World) : Calls Try.prog 28 #[.pointer none, v] w fun e w' => e = .returned (.int .i64 8) ∧ w = w' := by
  go_enter Try.func28, Try.ntmps28
  go_wp2_with fail
  go_ret
  exact ⟨rfl, rfl⟩
set_option maxHeartbeats 4000000 in
set_option maxRecDepth 100000 in
theorem tab_put (B : Nat) (og : Option Nat) (l : List Bool) (v : Value) (bs : List Nat) (w : World) (hw : IsW 30 true w B og l) (hv : ViewL w v (u8s bs)) (hd : 0 < bs.length → ∀ b o n cap, v = .slice (some ⟨b, o, none⟩) n cap → ¬ FP B og b) (hl : l.length ≤ 2 ^ 20) (hbl : bs.length ≤ 2 ^ 40) :
    Calls Try.prog 28 #[.pointer (some ⟨B, 0, none⟩), v] w fun e w' => (e = .returned (.int .i64 0) ∧ MayP bs ∧ WPost 30 true w B og (l ++ lenBits bs) w') ∨ (e = .returned (.int .i64 5) ∧ ¬ MayP bs ∧ w = w') := by
  obtain ⟨ao, cap, rfl⟩ := hv.shape
  rw [length_u8s] at *
  have HW := Lib.hid hw
  have HV := Lib.hid hv
  have HD := Lib.hid hd
  clear hw hv hd
  go_enter Try.func28, Try.ntmps28
  go_wp2_with fail
  refine (tab_may _ bs _ HV.out hbl).mono ?_
  rintro e w' ⟨(⟨rfl, hm⟩ | ⟨rfl, hm⟩), rfl⟩
  · obtain ⟨m1, m2, m3⟩ := hm
    have HM := Lib.hid (show MayP bs from ⟨m1, m2, m3⟩)
    have hat := atK_le bs m3
    have hll := lenTo_len bs m3
    have HC : Hid (∀ wr l', WPost 30 true w B og l' wr → ∃ b o, ao = some ⟨b, o, none⟩ ∧ ∀ (k x : Nat), bs[k]? = some x → wr.cell? ⟨b, o + k, none⟩ = some (.int .u8 x)) := Lib.hid (fun wr l' h => by
      obtain ⟨og', h1, h2, h3⟩ := h
      obtain ⟨b, o, e, _, hc⟩ := viewL_cells (HV.out.keep h3 (fun b o n c e => HD.out (by omega) b o n c e)) (by rw [length_u8s]; omega)
      exact ⟨b, o, e, fun k x hx => hc k (.int .u8 x) (by simp [u8s, hx])⟩)
    obtain ⟨b, o, rfl, hc⟩ := HC.out w l (WPost.refl HW.out)
    obtain ⟨x, hx⟩ : ∃ x, bs[0]? = some x := ⟨_, List.getElem?_eq_getElem (by omega)⟩
    have c0 := hc 0 x hx
    rw [Nat.add_zero] at c0
    have hx20 := m3 x (List.mem_of_getElem? hx)
    have hxd : bs.getD 0 0 = x := by simp [List.getD, hx]
    have h0i : (0 : Int) < (bs.length : Int) := by omega
    have HXD := Lib.hid hxd
    have HAT := Lib.hid hat
    have HLL := Lib.hid hll
    have HM3 := Lib.hid m3
    clear hc hx hxd hat hll m3
    go_wp2_with fail
    refine (msb_put_ok B x 5 og l _ HW.out (by omega) (by decide) (by omega) (by omega)).mono ?_
    rintro e w1 ⟨rfl, p1⟩
    have HP1 := Lib.hid p1
    clear p1 c0
    go_wp2_with fail
    go_loopw [5, 24] (fun atv iv wr => ∃ k : Nat, iv = .int .i64 k ∧ atv = .int .u8 (atK bs k) ∧ k ≤ bs.length ∧ WPost 30 true w B og (l ++ lenTo bs k) wr) (fun _ iv _ => bs.length - (intOf iv).toNat)
    case atStart => exact ⟨0, rfl, by rw [atK, if_pos rfl, HXD.out], Nat.zero_le _, by rw [lenTo, HXD.out]; exact HP1.out⟩
    case round =>
      obtain ⟨k, rfl, rfl, hk, hp⟩ := hrel
      have HP := Lib.hid hp
      clear hp
      by_cases hlt : k < bs.length
      · have hlti : (k : Int) < (bs.length : Int) := by omega
        obtain ⟨n, hn⟩ : ∃ n, bs[k]? = some n := ⟨_, List.getElem?_eq_getElem hlt⟩
        obtain ⟨b', o', e', hc⟩ := HC.out _ _ HP.out
        cases e'
        have c1 := hc k n hn
        have hn20 := HM3.out n (List.mem_of_getElem? hn)
        have ha20 := HAT.out k
        have hll := HLL.out k
        have hnd : bs.getD k 0 = n := by simp [List.getD, hn]
        have hst : lenTo bs (k + 1) = lenTo bs k ++ (upB (n - atK bs k) ++ (downB (atK bs k - n) ++ [false])) := by rw [lenTo, hnd]
        have hak : atK bs (k + 1) = n := by rw [atK, if_neg (by omega), Nat.add_sub_cancel, hnd]
        generalize atK bs k = a at *
        generalize lenTo bs k = L at *
        have HST := Lib.hid hst
        have HAK := Lib.hid hak
        clear hc hn hnd hst hak
        go_wp2_with fail
        clear c1
        go_loopw [5] (fun atv wr => ∃ x : Nat, atv = .int .u8 x ∧ a ≤ x ∧ (x ≤ n ∨ x = a) ∧ WPost 30 true w B og (l ++ (L ++ upB (x - a))) wr) (fun atv _ => 300 - (intOf atv).toNat)
        case atStart => exact ⟨a, rfl, Nat.le_refl _, Or.inr rfl, by rw [Nat.sub_self]; simpa [upB] using HP.out⟩
        case round =>
          obtain ⟨x, rfl, hax, hxn, og2, p2, n2, t2⟩ := hrel
          have HP2 := Lib.hid p2
          have HN2 := Lib.hid n2
          have HT2 := Lib.hid t2
          clear p2 n2 t2
          by_cases hc2 : x < n
          · have hci : (x : Int) < (n : Int) := by omega
            have k1 : IntKind.u8.wrap ((x : Int) + 1) = (x : Int) + 1 := IntWalk.u8_in _ (by omega)
            have hul := upB_len (x - a)
            go_wp2_with fail
            refine (msb_put_ok B 2 2 og2 _ _ HP2.out (by simp only [List.length_append]; omega) (by decide) (by decide) (by decide)).mono ?_
            rw [bits_up]
            rintro e w3 ⟨rfl, p3⟩
            have HP3 := Lib.hid (WPost.step HN2.out HT2.out p3)
            clear p3
            go_wp2_with fail
            go_roundw
            case rel => exact ⟨x + 1, by go_num, by omega, Or.inl (by omega), by rw [show x + 1 - a = (x - a) + 1 by omega, upB_succ]; have := HP3.out; simpa [List.append_assoc] using this⟩
            case measure => simp [intOf]; omega
          · have hci : ¬ (x : Int) < (n : Int) := by omega
            have hxa : x - a = n - a := by omega
            rw [hxa] at HP2
            have HQ := Lib.hid (show WPost 30 true w B og (l ++ (L ++ upB (n - a))) _ from ⟨og2, HP2.out, HN2.out, HT2.out⟩)
            have hxm : x - n = a - n := by omega
            clear HP2 HN2 HT2 hxa
            go_wp2_with fail
            go_loopw [5] (fun atv wr => ∃ y : Nat, atv = .int .u8 y ∧ n ≤ y ∧ y ≤ x ∧ WPost 30 true w B og (l ++ (L ++ (upB (n - a) ++ downB (x - y)))) wr) (fun atv _ => (intOf atv).toNat)
            case atStart => exact ⟨x, rfl, by omega, Nat.le_refl _, by rw [Nat.sub_self]; simpa [downB] using HQ.out⟩
            case round =>
              obtain ⟨y, rfl, hny, hyx, og3, p3, n3, t3⟩ := hrel
              have HP3 := Lib.hid p3
              have HN3 := Lib.hid n3
              have HT3 := Lib.hid t3
              clear p3 n3 t3
              have hul := upB_len (n - a)
              have hdl := downB_len (x - y)
              by_cases hc3 : n < y
              · have hci3 : (n : Int) < (y : Int) := by omega
                have k1 : IntKind.u8.wrap ((y : Int) - 1) = (y : Int) - 1 := IntWalk.u8_in _ (by omega)
                go_wp2_with fail
                refine (msb_put_ok B 3 2 og3 _ _ HP3.out (by simp only [List.length_append]; omega) (by decide) (by decide) (by decide)).mono ?_
                rw [bits_down]
                rintro e w4 ⟨rfl, p4⟩
                have HP4 := Lib.hid (WPost.step HN3.out HT3.out p4)
                clear p4
                go_wp2_with fail
                go_roundw
                case rel => exact ⟨y - 1, by congr 1; omega, by omega, by omega, by rw [show x - (y - 1) = (x - y) + 1 by omega, downB_succ]; have := HP4.out; simpa [List.append_assoc] using this⟩
                case measure => simp [intOf]; omega
              · have hci3 : ¬ (n : Int) < (y : Int) := by omega
                obtain rfl : n = y := by omega
                go_wp2_with fail
                refine (msb_put_ok B 0 1 og3 _ _ HP3.out (by simp only [List.length_append]; omega) (by decide) (by decide) (by decide)).mono ?_
                rw [bits_end, hxm]
                rintro e w4 ⟨rfl, p4⟩
                have HP4 := Lib.hid (WPost.step HN3.out HT3.out p4)
                clear p4
                go_wp2_with fail
                go_roundw
                case rel => exact ⟨k + 1, by go_num, by rw [HAK.out], by omega, by rw [HST.out]; have := HP4.out; simpa [List.append_assoc] using this⟩
                case measure => simp [intOf]; omega
      · obtain rfl : k = bs.length := by omega
        go_wp2_with fail
        go_ret
        exact Or.inl ⟨rfl, HM.out, HP.out⟩
  · have HM := Lib.hid hm
    clear hm
    go_wp2_with fail
    go_ret
    exact Or.inr ⟨rfl, HM.out, rfl⟩
end Go.Proofs.Yteabjmebnbaonaa
