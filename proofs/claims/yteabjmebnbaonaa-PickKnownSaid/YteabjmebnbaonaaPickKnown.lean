/- pressworklaw23.PickKnown: its walk (written by gen_pickknown.py). -/
import Derived.Test.YteabjmebnbaonaaPickSame
namespace Go.Proofs.Yteabjmebnbaonaa
open Go.RowKit
set_option linter.unusedVariables false

theorem pick_get_nil (w : World) : Calls Try.prog 14 #[.pointer none] w fun e w' => e = .returned (.tuple #[.slice none 0 0, .int .i64 8]) ∧ w = w' := by
  go_enter Try.func14, Try.ntmps14
  go_wp2_with fail
  go_ret2
  exact ⟨rfl, rfl⟩
theorem not_rises_ba : ¬ RisesP [98, 97] := fun h => by have := h.2 0 98 97 rfl rfl; omega
theorem not_rises_aa : ¬ RisesP [97, 97] := fun h => by have := h.2 0 97 97 rfl rfl; omega
theorem not_rises_nil : ¬ RisesP [] := fun h => Nat.lt_irrefl _ h.1
def allL : List Nat := List.range 256
theorem rises_all : RisesP allL := by
  refine (rises_pair _).2 ⟨by simp [allL], ?_⟩
  exact List.pairwise_lt_range
theorem all_lt : ∀ b ∈ allL, b < 256 := fun b hb => by simpa [allL] using hb
theorem put_all_len : (putOf allL).length = 272 := by decide +kernel
theorem get_00 : pickGet (rbit true [0, 0]) 16 0 = ([], 16, 2) := by decide +kernel
theorem get_80000 : pickGet (rbit true [128, 0, 0, 0]) 32 0 = ([], 32, 2) := by decide +kernel
theorem get_80 : pickGet (rbit true [128]) 8 0 = ([], 0, 2) := by decide +kernel
theorem get_c0 : pickGet (rbit true [192, 0, 0, 0, 128, 0]) 48 0 = ([16], 48, 0) := by decide +kernel
def rowTo (k : Nat) : List Nat := List.range k ++ List.replicate (256 - k) 0
theorem rowTo_set (k : Nat) (hk : k < 256) : (rowTo k).set k k = rowTo (k + 1) := by
  rw [rowTo, rowTo, List.set_append_right _ _ (by simp), List.length_range, Nat.sub_self, show 256 - k = (256 - (k + 1)) + 1 by omega, List.replicate_succ, List.set_cons_zero, List.range_succ]
  simp
theorem rowTo_len (k : Nat) (hk : k ≤ 256) : (rowTo k).length = 256 := by simp [rowTo]; omega
theorem rowTo_all : rowTo 256 = allL := by simp [rowTo, allL]
set_option maxHeartbeats 4000000 in
set_option maxRecDepth 100000 in
theorem pick_known (w : World) : Calls Try.prog 6 #[] w fun e w' => e = .returned (.bool true) ∧ Ext w w' := by
  obtain ⟨j0, hj, hj0, hj1, hj2⟩ := info_parts info_u8
  obtain ⟨W0, hW0⟩ : ∃ W0, w.alloc (.cells #[.slice none 0 0, .int .i64 0] 30) = W0 := ⟨_, rfl⟩
  have a0 := pick_zero w
  have x0 : Ext w W0 := hW0 ▸ (Ext.refl w).alloc _
  have hs0 : W0.heap.size = w.heap.size + 1 := by rw [← hW0]; simp
  rw [hW0] at a0
  have A0 := Lib.hid a0
  have X0 := Lib.hid x0
  have HW0 := Lib.hid hW0
  have HS0 := Lib.hid hs0
  clear a0 x0 hW0
  go_enter Try.func6, Try.ntmps6
  have kc := Go.Lib.run_convert_bytes_const (P := Try.prog) W0 22 5 #[.int .u8 98, .int .u8 97] 2 2 Try.underlying22 Try.underlying5
  rw [hs0, ← HW0.out] at kc
  have hv0 := viewL_new W0 [98, 97] [.int .u8 98, .int .u8 97] rfl 5 (2, 3)
  rw [hs0] at hv0
  have HV0 := Lib.hid hv0
  clear hv0 hs0
  go_wp2_with fail
  rw [HW0.out]
  refine (pick_put_bad w.heap.size none [] _ [98, 97] _ (A0.out.ext ((Ext.refl _).alloc _)) HV0.out (fun b o n c e h => by cases e; rcases h with h | h; omega; cases h) (by decide) (by decide) not_rises_ba).mono ?_
  rintro e w1 ⟨rfl, x1⟩
  have X1 := Lib.hid (X0.out.trans (((Ext.refl W0).alloc _).trans x1))
  have A1 := Lib.hid (A0.out.ext (((Ext.refl W0).alloc _).trans x1))
  clear x1 kc
  have hlt1 := A1.out.lt
  have kc := Go.Lib.run_convert_bytes_const (P := Try.prog) w1 22 5 #[.int .u8 97, .int .u8 97] 2 2 Try.underlying22 Try.underlying5
  have HV1 := Lib.hid (viewL_new w1 [97, 97] [.int .u8 97, .int .u8 97] rfl 5 (2, 3))
  go_wp2_with fail
  refine (pick_put_bad w.heap.size none [] _ [97, 97] _ (A1.out.ext ((Ext.refl _).alloc _)) HV1.out (fun b o n c e h => by cases e; rcases h with h | h; omega; cases h) (by decide) (by decide) not_rises_aa).mono ?_
  rintro e w2 ⟨rfl, x2⟩
  have X2 := Lib.hid (X1.out.trans (((Ext.refl w1).alloc _).trans x2))
  have A2 := Lib.hid (A1.out.ext (((Ext.refl w1).alloc _).trans x2))
  clear x2 kc hlt1
  go_wp2_with fail
  refine (pick_put_bad w.heap.size none [] _ [] _ A2.out ⟨none, 0, rfl, Nat.le_refl _, fun _ => rfl, fun h => by cases h⟩ (fun b o n c e h => by cases e) (by decide) (by decide) not_rises_nil).mono ?_
  rintro e w3 ⟨rfl, x3⟩
  have X3 := Lib.hid (X2.out.trans x3)
  have A3 := Lib.hid (A2.out.ext x3)
  clear x3
  have kc := Go.Lib.run_convert_bytes_const (P := Try.prog) w3 22 5 #[.int .u8 97] 1 1 Try.underlying22 Try.underlying5
  go_wp2_with fail
  refine (pick_put_nil _ _).mono ?_
  rintro e w4 ⟨rfl, x4⟩
  have X4 := Lib.hid (X3.out.trans (((Ext.refl w3).alloc _).trans x4))
  have A4 := Lib.hid (A3.out.ext (((Ext.refl w3).alloc _).trans x4))
  clear x4 kc
  go_wp2_with fail
  refine (msb_len w.heap.size none [] _ A4.out).mono ?_
  rintro e w4' ⟨rfl, rfl⟩
  go_wp2_with (at_make; go_must (refine wpList_make_full _ rfl (.const (.int .i64 256)) (.const (.int .i64 256)) 22 rfl w4.heap.size 5 j0 (.int .u8 0) 1 Try.underlying22 hj hj0 hj1 .i64 .i64 256 256 256 rfl rfl rfl rfl (by rw [hj2]; omega) (by unfold maxLen; omega) (Nat.le_refl _) ?_))
  intro w5 hown5 hgrow5

  have ho5 : Owns w5 5 1 (.slice (some ⟨w4.heap.size, 0, none⟩) 256 256) (some w4.heap.size) 256 (u8s (rowTo 0)) := by
    refine ⟨?_, rfl⟩
    have e : (madeCells #[Value.int .u8 0] 256).toList = u8s (rowTo 0) := by rw [made_one]; simp [u8s, rowTo]
    rw [← e]; exact ownsRow_zero hown5
  have x5 : Ext w4 w5 := (Touch.refl _ w4).grown hgrow5 (fun k e => by cases e)
  have O5 := Lib.hid ho5
  have X5 := Lib.hid x5
  clear hown5 hgrow5 ho5 x5
  go_wp2_with fail
  go_loopw [4] (fun iv wr => ∃ k : Nat, iv = .int .i64 k ∧ k ≤ 256 ∧ Owns wr 5 1 (.slice (some ⟨w4.heap.size, 0, none⟩) 256 256) (some w4.heap.size) 256 (u8s (rowTo k)) ∧ Ext w4 wr) (fun iv _ => 256 - (intOf iv).toNat)
  case atStart => exact ⟨0, rfl, Nat.zero_le _, O5.out, X5.out⟩
  case round =>
    obtain ⟨k, rfl, hk, ho, hx⟩ := hrel
    have HO := Lib.hid ho
    have HX := Lib.hid hx
    clear ho hx
    by_cases hlt : k < 256
    · have hlti : (k : Int) < 256 := by omega
      have k1 : IntKind.u8.wrap (k : Int) = (k : Int) := IntWalk.u8_in _ (by omega)
      have k2 : (k : Int).toNat = k := by omega
      have k3 : (0 : Int) ≤ (k : Int) := by omega
      have hrl := rowTo_len k hk
      have hck := HO.out.cell k (.int .u8 ((rowTo k)[k]'(by omega))) (by simp [u8s, hrl, hlt])
      have hfr := HO.out.free k
      have hset := HO.out.set k (.int .u8 k) hlt
      rw [← u8s_set, rowTo_set k hlt] at hset
      have HST := Lib.hid hset
      clear hset
      go_wp2_with fail
      clear hck hfr k1 k2 k3 hrl
      go_wp2_with fail
      go_roundw
      case rel => exact ⟨k + 1, by go_num, by omega, HST.out.keep (S := fun _ => False) ⟨rfl, rfl, rfl, Nat.le_refl _, fun _ _ _ => rfl⟩ (fun _ _ f => f), (HX.out.mono (T := fun _ => False) (fun _ _ f => f)).setCell (Or.inr (Nat.le_refl _)) _⟩
      case measure => simp [intOf]; omega
    · obtain rfl : k = 256 := by omega
      rw [rowTo_all] at HO
      have A5 := Lib.hid (A4.out.ext HX.out)
      have X6 := Lib.hid (X4.out.trans HX.out)
      have hw4 := A4.out.lt
      have hX4 := X4.out.size
      go_wp2_with fail
      refine (pick_put_ok w.heap.size none [] _ allL _ A5.out (HO.out.viewL) (fun b o n c e h => by cases e; rcases h with h | h; omega; cases h) (by decide) (by decide) rises_all).mono ?_
      rintro e w7 ⟨rfl, og7, a7, n7, t7⟩
      rw [List.nil_append] at a7
      have X7 := Lib.hid (X6.out.touch t7 (fun i hi h => by rcases h with h | h; omega; cases h))
      have A7 := Lib.hid a7
      have V7 := Lib.hid ((HO.out.keep t7 (fun g e h => by cases e; rcases h with h | h; omega; cases h)).view (bs := allL))
      clear a7 n7 t7 hX4 hw4
      go_wp2_with fail
      refine (msb_bytes w.heap.size og7 _ _ A7.out (by rw [put_all_len]; decide)).mono ?_
      rintro e w8 ⟨v8, og8, rfl, o8, g8, x8⟩
      have VB8 := Lib.hid (show View w8 v8 (packs true (putOf allL)) from o8.view)
      have hpk := length_packs true (putOf allL)
      rw [put_all_len] at hpk
      have HPK := Lib.hid hpk
      have X8 := Lib.hid (X7.out.trans x8)
      have A8 := Lib.hid (A7.out.ext x8)
      have V8 := Lib.hid (V7.out.ext x8)
      clear o8 g8 x8 hpk
      go_wp2_with fail
      refine (msb_new _ _ _ VB8.out (by rw [HPK.out]; decide)).mono ?_
      rintro e w9 ⟨B9, og9, rfl, r9, hB9, hg9, x9⟩
      have X9' := Lib.hid (show Ext w8 w9 from x9)
      have R9 := Lib.hid r9
      clear x9 r9 hg9
      go_wp2_with fail
      refine (pick_get B9 og9 _ 0 _ R9.out (by rw [HPK.out]; decide) (packs_lt true _) (by omega)).mono ?_
      rw [get_put_bytes allL rises_all all_lt]
      rintro e w10 ⟨v10, rfl, pg10⟩
      obtain ⟨x10, vw10, _, ao10, cap10, hvv⟩ := newget hB9 X9'.out pg10
      have X10 := Lib.hid (X8.out.trans x10)
      have A10 := Lib.hid (A8.out.ext x10)
      have V10 := Lib.hid (V8.out.ext x10)
      have C10 := Lib.hid vw10
      clear x10 vw10 pg10 hB9 hvv
      go_wp2_with fail
      refine (pick_get_nil _).mono ?_
      rintro e w10' ⟨rfl, rfl⟩
      go_wp2_with fail
      have hv := view_new w10 [0, 0] 5 (0, 0)
      refine (msb_new _ [0, 0] _ hv (by decide)).mono ?_
      rintro e wa ⟨B, og, rfl, r, hB, hg, xa⟩
      have XA := Lib.hid (show Ext w10 wa from ((Ext.refl _).alloc _).trans xa)
      have R := Lib.hid r
      have HB := Lib.hid (show w10.heap.size ≤ B from Nat.le_trans (by simp) hB)
      clear hv r hB hg xa
      go_wp2_with fail
      refine (pick_get B og [0, 0] 0 _ R.out (by decide) (by decide) (by decide)).mono ?_
      rw [show 8 * [0, 0].length = 16 from rfl, get_00]
      rintro e w11 ⟨v11, rfl, pg⟩
      obtain ⟨x, vw, _, ao11, cap11, hvv⟩ := newget HB.out XA.out pg
      have X11 := Lib.hid (X10.out.trans x)
      have A11 := Lib.hid (A10.out.ext x)
      have V11 := Lib.hid (V10.out.ext x)
      have C11 := Lib.hid (C10.out.ext x)
      clear x vw pg hvv XA R HB
      go_wp2_with fail
      have hv := view_new w11 [128, 0, 0, 0] 5 (0, 0)
      refine (msb_new _ [128, 0, 0, 0] _ hv (by decide)).mono ?_
      rintro e wa ⟨B, og, rfl, r, hB, hg, xa⟩
      have XA := Lib.hid (show Ext w11 wa from ((Ext.refl _).alloc _).trans xa)
      have R := Lib.hid r
      have HB := Lib.hid (show w11.heap.size ≤ B from Nat.le_trans (by simp) hB)
      clear hv r hB hg xa
      go_wp2_with fail
      refine (pick_get B og [128, 0, 0, 0] 0 _ R.out (by decide) (by decide) (by decide)).mono ?_
      rw [show 8 * [128, 0, 0, 0].length = 32 from rfl, get_80000]
      rintro e w12 ⟨v12, rfl, pg⟩
      obtain ⟨x, vw, _, ao12, cap12, hvv⟩ := newget HB.out XA.out pg
      have X12 := Lib.hid (X11.out.trans x)
      have A12 := Lib.hid (A11.out.ext x)
      have V12 := Lib.hid (V11.out.ext x)
      have C12 := Lib.hid (C11.out.ext x)
      clear x vw pg hvv XA R HB
      go_wp2_with fail
      have hv := view_new w12 [128] 5 (0, 0)
      refine (msb_new _ [128] _ hv (by decide)).mono ?_
      rintro e wa ⟨B, og, rfl, r, hB, hg, xa⟩
      have XA := Lib.hid (show Ext w12 wa from ((Ext.refl _).alloc _).trans xa)
      have R := Lib.hid r
      have HB := Lib.hid (show w12.heap.size ≤ B from Nat.le_trans (by simp) hB)
      clear hv r hB hg xa
      go_wp2_with fail
      refine (pick_get B og [128] 0 _ R.out (by decide) (by decide) (by decide)).mono ?_
      rw [show 8 * [128].length = 8 from rfl, get_80]
      rintro e w13 ⟨v13, rfl, pg⟩
      obtain ⟨x, vw, _, ao13, cap13, hvv⟩ := newget HB.out XA.out pg
      have X13 := Lib.hid (X12.out.trans x)
      have A13 := Lib.hid (A12.out.ext x)
      have V13 := Lib.hid (V12.out.ext x)
      have C13 := Lib.hid (C12.out.ext x)
      clear x vw pg hvv XA R HB
      go_wp2_with fail
      have hv := view_new w13 [192, 0, 0, 0, 128, 0] 5 (0, 0)
      refine (msb_new _ [192, 0, 0, 0, 128, 0] _ hv (by decide)).mono ?_
      rintro e wa ⟨B, og, rfl, r, hB, hg, xa⟩
      have XA := Lib.hid (show Ext w13 wa from ((Ext.refl _).alloc _).trans xa)
      have R := Lib.hid r
      have HB := Lib.hid (show w13.heap.size ≤ B from Nat.le_trans (by simp) hB)
      clear hv r hB hg xa
      go_wp2_with fail
      refine (pick_get B og [192, 0, 0, 0, 128, 0] 0 _ R.out (by decide) (by decide) (by decide)).mono ?_
      rw [show 8 * [192, 0, 0, 0, 128, 0].length = 48 from rfl, get_c0]
      rintro e w14 ⟨v14, rfl, pg⟩
      obtain ⟨x, vw, _, ao14, cap14, hvv⟩ := newget HB.out XA.out pg
      have X14 := Lib.hid (X13.out.trans x)
      have A14 := Lib.hid (A13.out.ext x)
      have V14 := Lib.hid (V13.out.ext x)
      have C14 := Lib.hid (C13.out.ext x)
      have D14 := Lib.hid vw
      clear x vw pg hvv XA R HB
      go_wp2_with fail
      refine (msb_len w.heap.size og7 (putOf allL) _ A14.out).mono ?_
      rw [put_all_len]
      rintro e w14' ⟨rfl, rfl⟩
      have hs1 := run_string_view (P := Try.prog) 22 9 5 C14.out Try.underlying22 Try.underlying5 Try.underlying9
      have hs2 := run_string_view (P := Try.prog) 22 9 5 V14.out Try.underlying22 Try.underlying5 Try.underlying9
      have hs3 := run_string_view (P := Try.prog) 22 9 5 D14.out Try.underlying22 Try.underlying5 Try.underlying9
      have hq1 : ((strOf allL).toList == (strOf allL).toList) = true := by simp
      have hq2 : ((strOf [16]).toList == [16]) = true := by rw [strOf_toList]; decide
      go_wp2_with fail
      refine (pick_picks _).mono ?_
      rintro e w15 ⟨rfl, x15⟩
      have X15 := Lib.hid (X14.out.trans x15)
      clear x15
      go_wp2_with fail
      go_ret
      exact ⟨rfl, X15.out⟩
end Go.Proofs.Yteabjmebnbaonaa
