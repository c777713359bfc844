/- pressworklaw01.lays: its walk. -/
import Derived.Test.YtnmibfdpaamlgaaLsbWr
import Derived.Test.YtnmibfdpaamlgaaLsbGet
import Derived.Test.YtnmibfdpaamlgaaStr
namespace Go.Proofs.Ytnmibfdpaamlgaa
open Go.RowKit

theorem lsb_zero (w : World) : IsW 25 false (w.alloc (.cells #[.slice none 0 0, .int .i64 0] 25)) w.heap.size none [] :=
  ⟨.slice none 0 0, heap_alloc_new w _, Owns.nil _ _ _, fun e => by cases e⟩
set_option maxHeartbeats 1000000 in
theorem lsb_lays (w : World) : Calls Try.prog 21 #[] w fun e w' => e = .returned (.bool true) ∧ Ext w w' := by
  have hz := lsb_zero w
  have e1 : putE 300 9 = 0 := by decide
  go_enter Try.func21, Try.ntmps21
  go_wp2_with fail
  refine (lsb_put _ 300 9 none [] _ hz (by decide) (by decide)).mono ?_
  rintro e w1 ⟨rfl, og1, a1, a2, a3⟩
  have x1 : Ext w w1 := ((Ext.refl w).alloc _).touch a3 (fun i hi => NewW.fp (n := w.heap.size) ⟨Nat.le_refl _, fun g e => by cases e⟩ i hi)
  have A1 := Lib.hid a1
  have X1 := Lib.hid x1
  clear hz a1 a2 a3 x1
  go_wp2_with fail
  refine (lsb_new _ [44, 1] _ (view_new w1 [44, 1] _ _) (by decide)).mono ?_
  rintro e w2 ⟨B, og, rfl, b1, b2, b3, b4⟩
  have B1 := Lib.hid b1
  have x2 : Ext w1 w2 := ((Ext.refl w1).alloc _).trans b4
  have A2 := Lib.hid (A1.out.ext x2)
  have X2 := Lib.hid (X1.out.trans x2)
  have hB : w1.heap.size < B := by have := b2; simp at this; omega
  have hBW : B ≠ w.heap.size := by have := X1.out.size; omega
  have hOB : og1 ≠ some B := fun e => by have := A1.out.glt _ e; omega
  have hwB : w.heap.size ≤ B := by have := X1.out.size; omega
  have HB := Lib.hid (And.intro hwB (And.intro hBW hOB))
  clear b1 b2 b3 b4 x2 hB hBW hOB hwB
  go_wp2_with fail
  refine (lsb_get B og _ 0 9 _ B1.out (by decide) (by decide) (by decide)).mono ?_
  rw [show getR false [44, 1] 0 9 = (300, 9, 0) from by decide]
  rintro e w3 ⟨rfl, c1, c2⟩
  have A3 := Lib.hid (A2.out.keep c2 (fun e => HB.out.2.1 e.symm) (fun g e h => HB.out.2.2 (by rw [e]; exact congrArg some h)))
  have X3 := Lib.hid (X2.out.touch c2 (fun i hi h => by have := HB.out.1; omega))
  have C1 := Lib.hid c1
  clear c1 c2
  go_wp2_with fail
  refine (lsb_bytes _ og1 _ _ A3.out (by decide)).mono ?_
  rintro e w4 ⟨v, og4, rfl, d1, d2, d3⟩
  rw [show packs false (putL false [] 300 9) = [44, 1] from by decide] at d1
  have hs := run_string_view (P := Try.prog) 23 9 5 d1.view Try.underlying23 Try.underlying5 Try.underlying9
  have he : ((strOf [44, 1]).toList == [44, 1]) = true := by rw [strOf_toList]; decide
  have A4 := Lib.hid (A3.out.ext d3)
  have C4 := Lib.hid (C1.out.ext d3)
  have X4 := Lib.hid (X3.out.trans d3)
  obtain ⟨ao, cap, rfl⟩ := d1.shape
  simp only [List.length_cons, List.length_nil, Nat.zero_add, Nat.reduceAdd] at hs
  clear d1 d2 d3
  go_wp2_with fail
  refine (lsb_len _ og1 _ _ A4.out).mono ?_
  rintro e w' ⟨rfl, rfl⟩
  go_wp2_with fail
  refine (lsb_at _ og _ _ _ C4.out).mono ?_
  rintro e w' ⟨rfl, rfl⟩
  go_wp2_with fail
  refine (lsb_left _ og _ _ _ C4.out (by decide) (by decide)).mono ?_
  rintro e w' ⟨rfl, q, rfl⟩
  go_wp2_with fail
  go_ret
  exact ⟨rfl, X4.out.drewN q⟩
end Go.Proofs.Ytnmibfdpaamlgaa
