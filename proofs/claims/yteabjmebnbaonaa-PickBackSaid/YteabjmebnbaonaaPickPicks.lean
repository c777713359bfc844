/- pressworklaw23.picks: its walk. -/
import Derived.Lib.SmallJoins
import Derived.Test.YteabjmebnbaonaaPickPut
import Derived.Test.YteabjmebnbaonaaMsbRd
import Derived.Test.YteabjmebnbaonaaPickGet
import Derived.Test.YteabjmebnbaonaaStr
namespace Go.Proofs.Yteabjmebnbaonaa
open Go.RowKit
set_option linter.unusedVariables false

theorem pick_zero (w : World) : IsW 30 true (w.alloc (.cells #[.slice none 0 0, .int .i64 0] 30)) w.heap.size none [] :=
  ⟨.slice none 0 0, by simpa using heap_alloc_new w (.cells #[.slice none 0 0, .int .i64 0] 30), ⟨World.ownsRow_nil _ _ _ _, rfl⟩, by simp⟩
/-- bytes in a block just laid. -/
theorem viewL_new (w : World) (bs : List Nat) (xs : List Value) (hx : xs = u8s bs) (e : TypeId) (fr : Nat × Nat) : ViewL (w.alloc (.cells xs.toArray e fr)) (.slice (some ⟨w.heap.size, 0, none⟩) bs.length bs.length) (u8s bs) := by
  subst hx
  have h := view_new w bs e fr
  refine h.viewL (fun a n cap e => ?_)
  cases e; exact Nat.le_refl _
theorem pick_put_ok (B : Nat) (og : Option Nat) (l : List Bool) (v : Value) (bs : List Nat) (w : World) (hw : IsW 30 true w B og l) (hv : ViewL w v (u8s bs)) (hd : ∀ b o n cap, v = .slice (some ⟨b, o, none⟩) n cap → ¬ FP B og b) (hl : l.length ≤ 2 ^ 20) (hbl : bs.length ≤ 2 ^ 40) (hr : RisesP bs) :
    Calls Try.prog 17 #[.pointer (some ⟨B, 0, none⟩), v] w fun e w' => e = .returned (.int .i64 0) ∧ WPost 30 true w B og (l ++ putOf bs) w' :=
  (pick_put B og l v bs w hw hv hd hl hbl).mono fun e w' h => h.elim (fun h => ⟨h.1, h.2.2⟩) (fun h => absurd hr h.2.1)
theorem pick_put_bad (B : Nat) (og : Option Nat) (l : List Bool) (v : Value) (bs : List Nat) (w : World) (hw : IsW 30 true w B og l) (hv : ViewL w v (u8s bs)) (hd : ∀ b o n cap, v = .slice (some ⟨b, o, none⟩) n cap → ¬ FP B og b) (hl : l.length ≤ 2 ^ 20) (hbl : bs.length ≤ 2 ^ 40) (hr : ¬ RisesP bs) :
    Calls Try.prog 17 #[.pointer (some ⟨B, 0, none⟩), v] w fun e w' => e = .returned (.int .i64 5) ∧ Ext w w' :=
  (pick_put B og l v bs w hw hv hd hl hbl).mono fun e w' h => h.elim (fun h => absurd h.2.1 hr) (fun h => ⟨h.1, h.2.2⟩)
theorem rises_ab : RisesP [97, 98] := by
  refine ⟨by decide, fun i x y hx hy => ?_⟩
  rcases i with _ | _ | i
  · simp at hx hy; omega
  · simp at hy
  · simp at hx
theorem put_ab : packs true (putOf [97, 98]) = [2, 0, 96, 0] := by decide +kernel
theorem get_ab : pickGet (rbit true [2, 0, 96, 0]) 32 0 = ([97, 98], 32, 0) := by decide +kernel
set_option maxHeartbeats 1000000 in
set_option maxRecDepth 100000 in
theorem pick_picks (w : World) : Calls Try.prog 16 #[] w fun e w' => e = .returned (.bool true) ∧ Ext w w' := by
  obtain ⟨W0, hW0⟩ : ∃ W0, w.alloc (.cells #[.slice none 0 0, .int .i64 0] 30) = W0 := ⟨_, rfl⟩
  have a0 := pick_zero w
  have x0 : Ext w W0 := hW0 ▸ (Ext.refl w).alloc _
  have hs0 : W0.heap.size = w.heap.size + 1 := by rw [← hW0]; simp
  rw [hW0] at a0
  have A0 := Lib.hid a0
  have X0 := Lib.hid x0
  have HW0 := Lib.hid hW0
  clear a0 x0 hW0
  go_enter Try.func16, Try.ntmps16
  have kc := Go.Lib.run_convert_bytes_const (P := Try.prog) W0 22 5 #[.int .u8 97, .int .u8 98] 2 2 Try.underlying22 Try.underlying5
  rw [hs0, ← HW0.out] at kc
  have hv0 := viewL_new W0 [97, 98] [.int .u8 97, .int .u8 98] rfl 5 (2, 3)
  rw [hs0] at hv0
  have HV0 := Lib.hid hv0
  clear hv0
  go_wp2_with fail
  rw [HW0.out]
  refine (pick_put_ok w.heap.size none [] _ [97, 98] _ (A0.out.ext ((Ext.refl _).alloc _)) HV0.out (fun b o n c e h => by cases e; rcases h with h | h; omega; cases h) (by decide) (by decide) rises_ab).mono ?_
  rintro e w1 ⟨rfl, og1, a1, n1, t1⟩
  have X1 : Ext w w1 := (X0.out.alloc _).touch t1 (fun i hi h => by rcases h with h | h; omega; cases h)
  have HX1 := Lib.hid X1
  have HA1 := Lib.hid a1
  clear X1 a1 n1 t1 kc
  go_wp2_with fail
  have hv2 := view_new w1 [2, 0, 96, 0] 5 (0, 0)
  refine (msb_new _ [2, 0, 96, 0] _ hv2 (by decide)).mono ?_
  rintro e w2 ⟨B2, og2, rfl, r2, hB2, hg2, x2⟩
  have HX2 := Lib.hid (HX1.out.trans (((Ext.refl w1).alloc _).trans x2))
  have HA2 := Lib.hid (HA1.out.ext (((Ext.refl w1).alloc _).trans x2))
  have HR2 := Lib.hid r2
  have hB2' : w1.heap.size + 1 ≤ B2 := by simpa using hB2
  have hAl := HA1.out.lt
  have hAg := HA1.out.glt
  have hXs := HX1.out.size
  have HK := Lib.hid (show (¬ w.heap.size = B2 ∧ ∀ g, og1 = some g → ¬ g = B2) ∧ ∀ i, i < w.heap.size → ¬ i = B2 from ⟨⟨by omega, fun g e => by have := hAg g e; omega⟩, fun i hi => by omega⟩)
  clear hv2 x2 r2 hB2 hB2' hAl hAg hXs hg2
  go_wp2_with fail
  refine (pick_get B2 og2 [2, 0, 96, 0] 0 _ HR2.out (by decide) (by decide) (by decide)).mono ?_
  rw [show 8 * [2, 0, 96, 0].length = 32 from rfl, get_ab]
  rintro e w3 ⟨v3, rfl, oo3, o3, g3, p3⟩
  have HX3 := Lib.hid (HX2.out.touch p3.2 HK.out.2)
  have HA3 := Lib.hid (HA2.out.keep p3.2 HK.out.1.1 HK.out.1.2)
  have hv3 := o3.view
  have HO3 := Lib.hid o3
  clear p3 o3 g3
  go_wp2_with fail
  refine (msb_bytes w.heap.size og1 _ _ HA3.out (by rw [List.nil_append]; have := putOf_len [97, 98]; omega)).mono ?_
  rw [List.nil_append, put_ab]
  rintro e w4 ⟨v4, og4, rfl, o4, g4, x4⟩
  have HX4 := Lib.hid (HX3.out.trans x4)
  have hs3 := run_string_view (P := Try.prog) 22 9 5 (hv3.ext x4) Try.underlying22 Try.underlying5 Try.underlying9
  have hs4 := run_string_view (P := Try.prog) 22 9 5 (Owns.view (bs := [2, 0, 96, 0]) o4) Try.underlying22 Try.underlying5 Try.underlying9
  have hq1 : ((strOf [97, 98]).toList == [97, 98]) = true := by rw [strOf_toList]; decide
  have hq2 : ((strOf [2, 0, 96, 0]).toList == [2, 0, 96, 0]) = true := by rw [strOf_toList]; decide
  clear hv3 o4 g4 x4
  go_wp2_with fail
  go_ret
  exact ⟨rfl, HX4.out⟩
end Go.Proofs.Yteabjmebnbaonaa
