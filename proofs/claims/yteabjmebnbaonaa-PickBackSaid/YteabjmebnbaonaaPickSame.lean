/- pressworklaw23.PickSame: its walk. -/
import Derived.Test.YteabjmebnbaonaaPickPicks
import Derived.Test.YteabjmebnbaonaaPickPlain
namespace Go.Proofs.Yteabjmebnbaonaa
open Go.RowKit
set_option linter.unusedVariables false

/-- behind New and Get. -/
theorem newget {w w2 w3 : World} {B : Nat} {og : Option Nat} {bs o : List Nat} {p : Nat} {v : Value} (hB : w.heap.size ≤ B) (x2 : Ext w w2) (hp : PG w2 B og bs o p v w3) :
    Ext w w3 ∧ View w3 v o ∧ ViewL w3 v (u8s o) ∧ ∃ ao cap, v = .slice ao o.length cap := by
  obtain ⟨oo, h1, h2, h3⟩ := hp
  exact ⟨x2.touch h3.2 (fun i hi e => by omega), h1.view, h1.viewL, h1.shape⟩
theorem writer_new (w w' : World) (x : Ext (w.alloc (.cells #[.slice none 0 0, .int .i64 0] 30)) w') : IsW 30 true w' w.heap.size none [] := (pick_zero w).ext x
theorem fp_new (w : World) (og : Option Nat) (h : Near none og w) : ∀ i, i < w.heap.size → ¬ FP w.heap.size og i := fun i hi e => by
  rcases e with e | e
  · omega
  · rcases h with h | ⟨g, h, hg⟩
    · rw [h] at e; cases e
    · rw [h] at e; cases e; omega
theorem view_block {w : World} {v : Value} {bs : List Nat} (h : ViewL w v (u8s bs)) (h0 : 0 < bs.length) : ∀ b o n c, v = .slice (some ⟨b, o, none⟩) n c → b < w.heap.size := fun b o n c e => by
  obtain ⟨ao', cap', e', _, _, h3⟩ := h
  obtain ⟨b', o', rfl, hc⟩ := h3 (by rwa [length_u8s])
  rw [e] at e'
  cases e'
  exact World.block_lt_of_cell? _ _ (hc 0 _ (by rw [getElem?_u8s _ _ h0]))
set_option maxHeartbeats 2000000 in
set_option maxRecDepth 100000 in
theorem pick_same (v : Value) (bs : List Nat) (w : World) (hv : View w v bs ∧ ViewL w v (u8s bs)) (hb : ∀ b ∈ bs, b < 256) (hbm : bs.length ≤ 140737488351232) :
    Calls Try.prog 3 #[v] w fun e w' => e = .returned (.bool true) ∧ Ext w w' := by
  obtain ⟨ao, cap, rfl⟩ := hv.2.shape
  rw [length_u8s] at *
  have HV := Lib.hid hv
  have HB := Lib.hid hb
  clear hv hb
  by_cases hbl : 100 < bs.length
  · have h1 : (100 : Int) < (bs.length : Int) := by omega
    go_enter Try.func3, Try.ntmps3
    go_wp2_with fail
    go_ret
    exact ⟨rfl, Ext.refl w⟩
  · have h1 : ¬ (100 : Int) < (bs.length : Int) := by omega
    go_enter Try.func3, Try.ntmps3
    go_wp2_with fail
    refine (msb_new _ bs _ HV.out.1 (by omega)).mono ?_
    rintro e w1 ⟨B1, og1, rfl, r1, hB1, hg1, x1⟩
    have HX1 := Lib.hid (show Ext w w1 from x1)
    clear x1
    go_wp2_with fail
    refine (pick_get B1 og1 bs 0 _ r1 (by omega) HB.out (by omega)).mono ?_
    rintro e w2 ⟨v2, rfl, pg⟩
    clear r1
    have herr := got_err (rbit true bs) (8 * bs.length) 0
    have hgl := got_len (rbit true bs) (8 * bs.length) 0
    have hgp := got_puts (rbit true bs) (8 * bs.length) 0
    obtain ⟨x2, vw2, vl2, ao2, cap2, rfl⟩ := newget hB1 HX1.out pg
    generalize pickGet (rbit true bs) (8 * bs.length) 0 = R at *
    obtain ⟨o, p, er⟩ := R
    simp only at *
    have HX2 := Lib.hid x2
    have HVW2 := Lib.hid vw2
    have HVL2 := Lib.hid vl2
    clear pg x2 vw2 vl2 HX1 hB1 hg1
    rcases herr with rfl | ⟨rfl, rfl⟩
    · obtain ⟨g1, g2, g3, g4, g5⟩ := hgp o p rfl
      have HRI := Lib.hid ((rises_pair o).2 ⟨g1, g2⟩)
      have HG3 := Lib.hid g3
      have ho0 : 0 < o.length := List.length_pos_iff.2 g1
      clear hgp g1 g2 g3
      go_wp2_with fail
      have hgo := view_block HVL2.out ho0
      have x23 : Ext w2 (w2.alloc (.cells #[.slice none 0 0, .int .i64 0] 30)) := (Ext.refl w2).alloc _
      refine (pick_put_ok w2.heap.size none [] _ o _ (pick_zero w2) (HVL2.out.ext x23) (fun b off n c e h => by have := hgo b off n c e; rcases h with h | h; omega; cases h) (by decide) (by omega) HRI.out).mono ?_
      rintro e w3 ⟨rfl, og3, a3, n3, t3⟩
      rw [List.nil_append] at a3
      have hpl := putOf_len o
      have n3' : Near none og3 w2 := (Near.refl _ _).trans n3 (by simp)
      have hfp := fp_new w2 og3 n3'
      have X3 : Ext w2 w3 := x23.touch t3 (fun i hi h => fp_new w2 none (Near.refl _ _) i hi h)
      have HX3 := Lib.hid (HX2.out.trans X3)
      have HV3 := Lib.hid (HVW2.out.ext X3)
      have HA3 := Lib.hid a3
      clear t3 n3 n3' hfp X3 a3 hgo x23
      go_wp2_with fail
      refine (msb_bytes w2.heap.size og3 _ _ HA3.out (by omega)).mono ?_
      rintro e w4 ⟨v4, og4, rfl, o4, g4, x4⟩
      have HV4 := Lib.hid (show View w4 v4 (packs true (putOf o)) from o4.view)
      have HV3' := Lib.hid (HV3.out.ext x4)
      have HX4 := Lib.hid (HX3.out.trans x4)
      have HA4 := Lib.hid (HA3.out.ext x4)
      have hpk := length_packs true (putOf o)
      have HPK := Lib.hid hpk
      clear o4 g4 x4
      go_wp2_with fail
      refine (msb_new _ _ _ HV4.out (by omega)).mono ?_
      rintro e w5 ⟨B5, og5, rfl, r5, hB5, hg5, x5⟩
      have HX5 := Lib.hid (show Ext w4 w5 from x5)
      have HR5 := Lib.hid r5
      clear x5 r5 hg5
      go_wp2_with fail
      refine (pick_get B5 og5 _ 0 _ HR5.out (by omega) (packs_lt true _) (by omega)).mono ?_
      rw [get_put_bytes o HRI.out HG3.out]
      rintro e w6 ⟨v6, rfl, pg6⟩
      obtain ⟨x6, vw6, vl6, ao6, cap6, rfl⟩ := newget hB5 HX5.out pg6
      have HX6 := Lib.hid (HX4.out.trans x6)
      have HA6 := Lib.hid (HA4.out.ext x6)
      have hs3 := run_string_view (P := Try.prog) 22 9 5 (HV3'.out.ext x6) Try.underlying22 Try.underlying5 Try.underlying9
      have hs6 := run_string_view (P := Try.prog) 22 9 5 vw6 Try.underlying22 Try.underlying5 Try.underlying9
      have hq : ((strOf o).toList == (strOf o).toList) = true := by simp
      clear x6 vw6 vl6 pg6 hB5
      go_wp2_with fail
      refine (msb_bytes w2.heap.size og3 _ _ HA6.out (by omega)).mono ?_
      rintro e w7 ⟨v7, og7, rfl, o7, g7, x7⟩
      obtain ⟨ao7, cap7, rfl⟩ := o7.shape
      have HX7 := Lib.hid (HX6.out.trans x7)
      have hle : (((packs true (putOf o)).length : Nat) : Int) ≤ (bs.length : Int) := by omega
      clear o7 g7 x7
      go_wp2_with fail
      refine (pick_picks _).mono ?_
      rintro e w8 ⟨rfl, x8⟩
      have HX8 := Lib.hid (HX7.out.trans x8)
      clear x8
      go_wp2_with fail
      go_ret
      exact ⟨rfl, HX8.out⟩
    · clear hgp
      go_wp2_with fail
      refine (pick_picks _).mono ?_
      rintro e w3 ⟨rfl, x3⟩
      have HX3 := Lib.hid (HX2.out.trans x3)
      clear x3
      go_wp2_with fail
      go_ret
      exact ⟨rfl, HX3.out⟩
end Go.Proofs.Yteabjmebnbaonaa
