/- pressworklaw23.PickGets: its walk (written by gen_pickgets.py). -/
import Derived.Test.YteabjmebnbaonaaPickSame
import Derived.Test.YteabjmebnbaonaaPickRefGet
import Derived.Test.YteabjmebnbaonaaMsbRefOf
namespace Go.Proofs.Yteabjmebnbaonaa
open Go.RowKit
set_option linter.unusedVariables false

set_option maxHeartbeats 2000000 in
set_option maxRecDepth 100000 in
theorem pick_gets_some (v : Value) (bs : List Nat) (n K : Nat) (w : World) (hv : View w v bs ∧ ViewL w v (u8s bs)) (hb : ∀ b ∈ bs, b < 256) (hbl : bs.length ≤ 100) (hn : n < 256) (hK : (n : Int) % 16 = (K : Int)) (hK16 : K < 16) (hwK : wrap64 (K : Int) = (K : Int)) :
    Calls Try.prog 5 #[v, .int .u8 n] w fun e w' => e = .returned (.bool true) ∧ Ext w w' := by
  obtain ⟨ao, cap, rfl⟩ := hv.2.shape
  rw [length_u8s] at *
  have HV := Lib.hid hv
  have HB := Lib.hid hb
  clear hv hb
  have h1 : ¬ (100 : Int) < (bs.length : Int) := by omega
  go_enter Try.func5, Try.ntmps5
  go_wp2_with fail
  refine (msb_new _ bs _ HV.out.1 (by omega)).mono ?_
  rintro e w1 ⟨B1, og1, rfl, r1, hB1, hg1, x1⟩
  have HX1 := Lib.hid (show Ext w w1 from x1)
  have HR1' := Lib.hid r1
  have HBW' := Lib.hid hB1
  clear x1 r1 hB1 hg1
  go_wp2_with fail
  refine (msb_ref_of _ bs _ (HV.out.2.ext HX1.out) (by omega) HB.out).mono ?_
  rintro e w3 ⟨v2, og2, rfl, o2, g2, x3⟩
  obtain ⟨ao2, cap2, rfl⟩ := o2.shape
  rw [length_ofBits] at o2 ⊢
  have HX13 := Lib.hid (HX1.out.trans x3)
  have HR1 := Lib.hid (HR1'.out.ext x3)
  have HO2 := Lib.hid o2
  have HG2 := Lib.hid (show ∀ g, og2 = some g → B1 < g from fun g hg => by have := g2 g hg; have := HR1'.out.lt; omega)
  clear g2 x3 o2
  by_cases hc : 8 * bs.length < K
  · have hci : 8 * (bs.length : Int) < (K : Int) := by omega
    go_wp2_with fail
    refine (msb_get B1 og1 bs 0 0 _ HR1.out (by omega) HB.out (by omega)).mono ?_
    rw [show getR true bs 0 0 = (numOf true (bitsAt true bs 0 0), 0 + 0, 0) from getR_ok true bs 0 0 (by omega) (by omega)]
    rintro e w4 ⟨rfl, r4, t4⟩
    rw [Nat.zero_add] at r4
    have HR4 := Lib.hid r4
    have HX4 := Lib.hid (show Ext w w4 from HX13.out.touch t4 (fun i hi e => by have := HBW'.out; omega))
    have HO4 := Lib.hid (HO2.out.keep t4 (fun g hg e => by have := HG2.out g hg; omega))
    clear r4 t4
    go_wp2_with fail
    refine (pick_get B1 og1 bs 0 _ HR4.out (by omega) HB.out (by omega)).mono ?_
    rintro e w5 ⟨v5, rfl, oo5, o5, g5, r5, t5⟩
    have HO5 := Lib.hid (HO4.out.keep t5 (fun g hg e => by have := HG2.out g hg; omega))
    have HX5 := Lib.hid (show Ext w w5 from HX4.out.touch t5 (fun i hi e => by have := HBW'.out; omega))
    have HR5 := Lib.hid r5
    have HV5 := Lib.hid o5.view
    clear r5 t5 o5 g5
    have herr := got_err (rbit true bs) (8 * bs.length) 0
    generalize hR : pickGet (rbit true bs) (8 * bs.length) 0 = R at *
    obtain ⟨o, p, er⟩ := R
    have HRR := Lib.hid hR
    clear hR
    simp only at *
    go_wp2_with fail
    have hrg := pick_ref_get (.slice ao2 (8 * bs.length) cap2) (ofBits true bs) 0 w5 HO5.out.viewL (by rw [length_ofBits]; omega) (by omega)
    rw [show (((0 : Nat) : Int)) = 0 from rfl] at hrg
    refine hrg.mono ?_
    clear hrg
    rw [length_ofBits, show (fun j => (ofBits true bs).getD j false) = rbit true bs from funext (ofBits_get true bs), HRR.out]
    rintro e w6 ⟨v6, rfl, b6⟩
    simp only at b6
    have hs5 := run_string_view (P := Try.prog) 22 9 5 (HV5.out.ext b6.toExt) Try.underlying22 Try.underlying5 Try.underlying9
    have hs6 := run_string_view (P := Try.prog) 22 9 5 b6.view Try.underlying22 Try.underlying5 Try.underlying9
    have hq : ((strOf o).toList == (strOf o).toList) = true := by simp
    have HX6 := Lib.hid (HX5.out.trans b6.toExt)
    have HR6 := Lib.hid (HR5.out.ext b6.toExt)
    clear b6
    rcases herr with rfl | ⟨rfl, rfl⟩
    · go_wp2_with fail
      refine (msb_at B1 og1 bs p _ HR6.out).mono ?_
      rintro e w7 ⟨rfl, rfl⟩
      go_wp2_with fail
      refine (pick_picks _).mono ?_
      rintro e w8 ⟨rfl, x8⟩
      have HX8 := Lib.hid (HX6.out.trans x8)
      clear x8
      go_wp2_with fail
      go_ret
      exact ⟨rfl, HX8.out⟩
    · go_wp2_with fail
      refine (pick_picks _).mono ?_
      rintro e w8 ⟨rfl, x8⟩
      have HX8 := Lib.hid (HX6.out.trans x8)
      clear x8
      go_wp2_with fail
      go_ret
      exact ⟨rfl, HX8.out⟩
  · have hci : ¬ 8 * (bs.length : Int) < (K : Int) := by omega
    go_wp2_with fail
    refine (msb_get B1 og1 bs 0 K _ HR1.out (by omega) HB.out (by omega)).mono ?_
    rw [show getR true bs 0 K = (numOf true (bitsAt true bs 0 K), 0 + K, 0) from getR_ok true bs 0 K (by omega) (by omega)]
    rintro e w4 ⟨rfl, r4, t4⟩
    rw [Nat.zero_add] at r4
    have HR4 := Lib.hid r4
    have HX4 := Lib.hid (show Ext w w4 from HX13.out.touch t4 (fun i hi e => by have := HBW'.out; omega))
    have HO4 := Lib.hid (HO2.out.keep t4 (fun g hg e => by have := HG2.out g hg; omega))
    clear r4 t4
    go_wp2_with fail
    refine (pick_get B1 og1 bs K _ HR4.out (by omega) HB.out (by omega)).mono ?_
    rintro e w5 ⟨v5, rfl, oo5, o5, g5, r5, t5⟩
    have HO5 := Lib.hid (HO4.out.keep t5 (fun g hg e => by have := HG2.out g hg; omega))
    have HX5 := Lib.hid (show Ext w w5 from HX4.out.touch t5 (fun i hi e => by have := HBW'.out; omega))
    have HR5 := Lib.hid r5
    have HV5 := Lib.hid o5.view
    clear r5 t5 o5 g5
    have herr := got_err (rbit true bs) (8 * bs.length) K
    generalize hR : pickGet (rbit true bs) (8 * bs.length) K = R at *
    obtain ⟨o, p, er⟩ := R
    have HRR := Lib.hid hR
    clear hR
    simp only at *
    go_wp2_with fail
    have hrg := pick_ref_get (.slice ao2 (8 * bs.length) cap2) (ofBits true bs) K w5 HO5.out.viewL (by rw [length_ofBits]; omega) (by omega)
    refine hrg.mono ?_
    clear hrg
    rw [length_ofBits, show (fun j => (ofBits true bs).getD j false) = rbit true bs from funext (ofBits_get true bs), HRR.out]
    rintro e w6 ⟨v6, rfl, b6⟩
    simp only at b6
    have hs5 := run_string_view (P := Try.prog) 22 9 5 (HV5.out.ext b6.toExt) Try.underlying22 Try.underlying5 Try.underlying9
    have hs6 := run_string_view (P := Try.prog) 22 9 5 b6.view Try.underlying22 Try.underlying5 Try.underlying9
    have hq : ((strOf o).toList == (strOf o).toList) = true := by simp
    have HX6 := Lib.hid (HX5.out.trans b6.toExt)
    have HR6 := Lib.hid (HR5.out.ext b6.toExt)
    clear b6
    rcases herr with rfl | ⟨rfl, rfl⟩
    · go_wp2_with fail
      refine (msb_at B1 og1 bs p _ HR6.out).mono ?_
      rintro e w7 ⟨rfl, rfl⟩
      go_wp2_with fail
      refine (pick_picks _).mono ?_
      rintro e w8 ⟨rfl, x8⟩
      have HX8 := Lib.hid (HX6.out.trans x8)
      clear x8
      go_wp2_with fail
      go_ret
      exact ⟨rfl, HX8.out⟩
    · go_wp2_with fail
      refine (pick_picks _).mono ?_
      rintro e w8 ⟨rfl, x8⟩
      have HX8 := Lib.hid (HX6.out.trans x8)
      clear x8
      go_wp2_with fail
      go_ret
      exact ⟨rfl, HX8.out⟩
theorem pick_gets (v : Value) (bs : List Nat) (n : Nat) (w : World) (hv : View w v bs ∧ ViewL w v (u8s bs)) (hb : ∀ b ∈ bs, b < 256) (hbm : bs.length ≤ 140737488351232) (hn : n < 256) :
    Calls Try.prog 5 #[v, .int .u8 n] w fun e w' => e = .returned (.bool true) ∧ Ext w w' := by
  by_cases hbl : 100 < bs.length
  · obtain ⟨ao, cap, rfl⟩ := hv.2.shape
    rw [length_u8s] at *
    clear hv hb
    have h1 : (100 : Int) < (bs.length : Int) := by omega
    go_enter Try.func5, Try.ntmps5
    go_wp2_with fail
    go_ret
    exact ⟨rfl, Ext.refl w⟩
  · exact pick_gets_some v bs n (n % 16) w hv hb (by omega) hn (by omega) (by omega) (by rw [wrap64]; omega)
end Go.Proofs.Yteabjmebnbaonaa
