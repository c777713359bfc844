/- pressworklaw01.LsbKnown: its walk. -/
import Derived.Test.YtnmibfdpaamlgaaLsbLays
import Derived.Test.YtnmibfdpaamlgaaBitsTwo
namespace Go.Proofs.Ytnmibfdpaamlgaa
open Go.RowKit
set_option linter.unusedVariables false

set_option maxHeartbeats 4000000 in
set_option maxRecDepth 100000 in
theorem lsb_known (w : World) : Calls Try.prog 7 #[] w fun e w' => e = .returned (.bool true) ∧ Ext w w' := by
  have A0 := Lib.hid (lsb_zero w)
  have N0 := Lib.hid (show NewW w.heap.size w.heap.size none from ⟨Nat.le_refl _, fun g e => by cases e⟩)
  have X0 := Lib.hid ((Ext.refl w).alloc (.cells #[.slice none 0 0, .int .i64 0] 25))
  go_enter Try.func7, Try.ntmps7
  go_wp2_with fail
  refine (lsb_put _ 1 1 none [] _ A0.out (by decide) (by decide)).mono ?_
  rw [show putE 1 1 = 0 from by decide, show putL false [] 1 1 = [true] from by decide +kernel]
  rintro e w1 ⟨rfl, p1⟩
  obtain ⟨og1, a1, na1, ea1, x1, t1⟩ := act p1 N0.out X0.out
  have A1 := Lib.hid a1
  have N1 := Lib.hid na1
  have X1 := Lib.hid x1
  clear p1 a1 na1 ea1 x1 t1 A0 N0 X0
  go_wp2_with fail
  refine (lsb_put _ 2 2 og1 [true] _ A1.out (by decide) (by decide)).mono ?_
  rw [show putE 2 2 = 0 from by decide, show putL false [true] 2 2 = [true, false, true] from by decide +kernel]
  rintro e w2 ⟨rfl, p1⟩
  obtain ⟨og2, a1, na1, ea1, x1, t1⟩ := act p1 N1.out X1.out
  have A2 := Lib.hid a1
  have N2 := Lib.hid na1
  have X2 := Lib.hid x1
  clear p1 a1 na1 ea1 x1 t1 A1 N1 X1
  go_wp2_with fail
  refine (lsb_bytes _ og2 _ _ A2.out (by decide)).mono ?_
  rintro e w3 ⟨v, og', rfl, d1, d2, d3⟩
  rw [show packs false [true, false, true] = [5] from by decide +kernel] at d1
  have A3 := Lib.hid (A2.out.ext d3)
  have N3 := N2
  have X3 := Lib.hid (X2.out.trans d3)
  have hs := run_string_view (P := Try.prog) 23 9 5 d1.view Try.underlying23 Try.underlying5 Try.underlying9
  have he : ((strOf [5]).toList == [5]) = true := by rw [strOf_toList]; decide
  obtain ⟨ao, cap, rfl⟩ := d1.shape
  simp only [List.length_cons, List.length_nil, Nat.zero_add] at hs
  clear d1 d2 d3 A2 N2 X2
  go_wp2_with fail
  refine (lsb_len _ og2 _ _ A3.out).mono ?_
  rintro e w' ⟨rfl, rfl⟩
  go_wp2_with fail
  clear hs he
  refine (lsb_put _ 2 1 og2 [true, false, true] _ A3.out (by decide) (by decide)).mono ?_
  rw [show putE 2 1 = 5 from by decide, show putL false [true, false, true] 2 1 = [true, false, true] from by decide +kernel]
  rintro e w4 ⟨rfl, p1⟩
  obtain ⟨og4, a1, na1, ea1, x1, t1⟩ := act p1 N3.out X3.out
  have A4 := Lib.hid a1
  have N4 := Lib.hid na1
  have X4 := Lib.hid x1
  clear p1 a1 na1 ea1 x1 t1 A3 N3 X3
  go_wp2_with fail
  refine (lsb_put _ 0 33 og4 [true, false, true] _ A4.out (by decide) (by decide)).mono ?_
  rw [show putE 0 33 = 5 from by decide, show putL false [true, false, true] 0 33 = [true, false, true] from by decide +kernel]
  rintro e w5 ⟨rfl, p1⟩
  obtain ⟨og5, a1, na1, ea1, x1, t1⟩ := act p1 N4.out X4.out
  have A5 := Lib.hid a1
  have N5 := Lib.hid na1
  have X5 := Lib.hid x1
  clear p1 a1 na1 ea1 x1 t1 A4 N4 X4
  go_wp2_with fail
  refine (lsb_put _ 0 (-1) og5 [true, false, true] _ A5.out (by decide) (by decide)).mono ?_
  rw [show putE 0 (-1) = 5 from by decide, show putL false [true, false, true] 0 (-1) = [true, false, true] from by decide +kernel]
  rintro e w6 ⟨rfl, p1⟩
  obtain ⟨og6, a1, na1, ea1, x1, t1⟩ := act p1 N5.out X5.out
  have A6 := Lib.hid a1
  have N6 := Lib.hid na1
  have X6 := Lib.hid x1
  clear p1 a1 na1 ea1 x1 t1 A5 N5 X5
  go_wp2_with fail
  refine (lsb_put _ 0 0 og6 [true, false, true] _ A6.out (by decide) (by decide)).mono ?_
  rw [show putE 0 0 = 0 from by decide, show putL false [true, false, true] 0 0 = [true, false, true] from by decide +kernel]
  rintro e w7 ⟨rfl, p1⟩
  obtain ⟨og7, a1, na1, ea1, x1, t1⟩ := act p1 N6.out X6.out
  have A7 := Lib.hid a1
  have N7 := Lib.hid na1
  have X7 := Lib.hid x1
  clear p1 a1 na1 ea1 x1 t1 A6 N6 X6
  go_wp2_with fail
  refine (lsb_len _ og7 _ _ A7.out).mono ?_
  rintro e w' ⟨rfl, rfl⟩
  go_wp2_with fail
  refine (lsb_align _ og7 _ _ A7.out (by decide)).mono ?_
  rw [show alignB [true, false, true] = [true, false, true, false, false, false, false, false] from by decide +kernel]
  rintro e w8 ⟨rfl, p1⟩
  obtain ⟨og8, a1, na1, ea1, x1, t1⟩ := act p1 N7.out X7.out
  have A8 := Lib.hid a1
  have N8 := Lib.hid na1
  have X8 := Lib.hid x1
  clear p1 a1 na1 ea1 x1 t1 A7 N7 X7
  go_wp2_with fail
  refine (lsb_put _ 4294967295 32 og8 [true, false, true, false, false, false, false, false] _ A8.out (by decide) (by decide)).mono ?_
  rw [show putE 4294967295 32 = 0 from by decide, show putL false [true, false, true, false, false, false, false, false] 4294967295 32 = [true, false, true, false, false, false, false, false, true, true, true, true, true, true, true, true, true, true, true, true, true, true, true, true, true, true, true, true, true, true, true, true, true, true, true, true, true, true, true, true] from by decide +kernel]
  rintro e w9 ⟨rfl, p1⟩
  obtain ⟨og9, a1, na1, ea1, x1, t1⟩ := act p1 N8.out X8.out
  have A9 := Lib.hid a1
  have N9 := Lib.hid na1
  have X9 := Lib.hid x1
  clear p1 a1 na1 ea1 x1 t1 A8 N8 X8
  go_wp2_with fail
  refine (lsb_bytes _ og9 _ _ A9.out (by decide)).mono ?_
  rintro e w10 ⟨v, og', rfl, d1, d2, d3⟩
  rw [show packs false [true, false, true, false, false, false, false, false, true, true, true, true, true, true, true, true, true, true, true, true, true, true, true, true, true, true, true, true, true, true, true, true, true, true, true, true, true, true, true, true] = [5, 255, 255, 255, 255] from by decide +kernel] at d1
  have A10 := Lib.hid (A9.out.ext d3)
  have N10 := N9
  have X10 := Lib.hid (X9.out.trans d3)
  obtain ⟨ao, cap, cur, rfl, hsl, hh, _⟩ : ∃ g cap cur, og' = some g ∧ v = .slice (some ⟨g, 0, none⟩) 5 cap ∧ w10.heap[g]? = some (.cells cur 5 (0, 0)) ∧ True := by
    rcases d1.form with ⟨_, _, h0, _⟩ | ⟨g, cap, cur, e1, e2, e3, _⟩
    · simp at h0
    · exact ⟨g, cap, cur, e1, e2, e3, trivial⟩
  subst hsl
  have d2' := d2 _ rfl
  have hq := d2'
  have c0 : w10.cell? ⟨ao, 0, none⟩ = some (.int .u8 5) := d1.cell 0 _ rfl
  have c1 : w10.cell? ⟨ao, 1, none⟩ = some (.int .u8 255) := d1.cell 1 _ rfl
  have c4 : w10.cell? ⟨ao, 4, none⟩ = some (.int .u8 255) := d1.cell 4 _ rfl
  have f0 : w10.frozen? ⟨ao, 0, none⟩ = false := d1.free 0
  have HQ := Lib.hid hq
  have HH := Lib.hid hh
  clear hq hh
  have HNE := Lib.hid (show ¬ (w.heap.size = ao ∨ og9 = some ao) from by
    have h2 := A9.out.lt; have h3 := A9.out.glt
    rintro (e | e)
    · omega
    · have := h3 _ e; omega)
  have HWA := Lib.hid (show w.heap.size ≤ ao from Nat.le_trans X9.out.size d2')
  clear d1 d2 d3 A9 N9 X9
  go_wp2_with fail
  refine (lsb_len _ og9 _ _ A10.out).mono ?_
  rintro e w' ⟨rfl, rfl⟩
  go_wp2_with fail
  have ht : Touch (fun i => i = ao) w10 (w10.setCell ⟨ao, 0, none⟩ (.int .u8 0)) := (Touch.refl (fun i => i = ao) w10).setCell (Or.inl rfl) _
  have x11 : Ext w (w10.setCell ⟨ao, 0, none⟩ (.int .u8 0)) := X10.out.touch ht (fun i hi e => by have := HWA.out; omega)
  have a11 := A10.out.keep ht (fun e => HNE.out (Or.inl e)) (fun g e h => HNE.out (Or.inr (by rw [e]; exact congrArg some h)))
  have hvn := view_new (w10.setCell ⟨ao, 0, none⟩ (.int .u8 0)) [44, 1] 5 (0, 0)
  rw [show (w10.setCell ⟨ao, 0, none⟩ (.int .u8 0)).heap.size = w10.heap.size from by simp [World.setCell]] at hvn
  refine (lsb_new (.slice (some ⟨w10.heap.size, 0, none⟩) 2 2) [44, 1] _ hvn (by decide)).mono ?_
  rintro e u0 ⟨R, og, rfl, b1, b2, b3, b4⟩
  have xx : Ext (w10.setCell ⟨ao, 0, none⟩ (.int .u8 0)) u0 := ((Ext.refl _).alloc _).trans b4
  have hR : (w10.setCell ⟨ao, 0, none⟩ (.int .u8 0)).heap.size ≤ R := Nat.le_trans (by simp) b2
  have HD := Lib.hid (show ¬ (w.heap.size = R ∨ og9 = some R) from by
    have h2 := a11.lt; have h3 := a11.glt
    rintro (e | e)
    · omega
    · have := h3 _ e; omega)
  have HR := Lib.hid (show w.heap.size ≤ R from Nat.le_trans x11.size hR)
  have B0 := Lib.hid (a11.ext xx)
  have Y0 := Lib.hid (x11.trans xx)
  have R0 := Lib.hid b1
  clear ht x11 a11 xx hR hvn b1 b2 b3 b4
  go_wp2_with fail
  refine (lsb_get R og [44, 1] 0 9 _ R0.out (by decide) (by decide) (by decide)).mono ?_
  rw [show getR false [44, 1] 0 9 = (300, 9, 0) from by decide]
  rintro e u1 ⟨rfl, r1, r2⟩
  have Y1 := Lib.hid (Y0.out.touch r2 (fun i hi e => by have := HR.out; omega))
  have B1 := Lib.hid (B0.out.keep r2 (fun e => HD.out (Or.inl e)) (fun g e h => HD.out (Or.inr (by rw [e]; exact congrArg some h))))
  have R1 := Lib.hid r1
  clear r1 r2 R0 Y0 B0
  go_wp2_with fail
  refine (lsb_get R og [44, 1] 9 8 _ R1.out (by decide) (by decide) (by decide)).mono ?_
  rw [show getR false [44, 1] 9 8 = (0, 9, 2) from by decide]
  rintro e u2 ⟨rfl, r1, r2⟩
  have Y2 := Lib.hid (Y1.out.touch r2 (fun i hi e => by have := HR.out; omega))
  have B2 := Lib.hid (B1.out.keep r2 (fun e => HD.out (Or.inl e)) (fun g e h => HD.out (Or.inr (by rw [e]; exact congrArg some h))))
  have R2 := Lib.hid r1
  clear r1 r2 R1 Y1 B1
  go_wp2_with fail
  refine (lsb_get R og [44, 1] 9 7 _ R2.out (by decide) (by decide) (by decide)).mono ?_
  rw [show getR false [44, 1] 9 7 = (0, 16, 0) from by decide]
  rintro e u3 ⟨rfl, r1, r2⟩
  have Y3 := Lib.hid (Y2.out.touch r2 (fun i hi e => by have := HR.out; omega))
  have B3 := Lib.hid (B2.out.keep r2 (fun e => HD.out (Or.inl e)) (fun g e h => HD.out (Or.inr (by rw [e]; exact congrArg some h))))
  have R3 := Lib.hid r1
  clear r1 r2 R2 Y2 B2
  go_wp2_with fail
  refine (lsb_get R og [44, 1] 16 (-1) _ R3.out (by decide) (by decide) (by decide)).mono ?_
  rw [show getR false [44, 1] 16 (-1) = (0, 16, 5) from by decide]
  rintro e u4 ⟨rfl, r1, r2⟩
  have Y4 := Lib.hid (Y3.out.touch r2 (fun i hi e => by have := HR.out; omega))
  have B4 := Lib.hid (B3.out.keep r2 (fun e => HD.out (Or.inl e)) (fun g e h => HD.out (Or.inr (by rw [e]; exact congrArg some h))))
  have R4 := Lib.hid r1
  clear r1 r2 R3 Y3 B3
  go_wp2_with fail
  refine (lsb_get R og [44, 1] 16 33 _ R4.out (by decide) (by decide) (by decide)).mono ?_
  rw [show getR false [44, 1] 16 33 = (0, 16, 5) from by decide]
  rintro e u5 ⟨rfl, r1, r2⟩
  have Y5 := Lib.hid (Y4.out.touch r2 (fun i hi e => by have := HR.out; omega))
  have B5 := Lib.hid (B4.out.keep r2 (fun e => HD.out (Or.inl e)) (fun g e h => HD.out (Or.inr (by rw [e]; exact congrArg some h))))
  have R5 := Lib.hid r1
  clear r1 r2 R4 Y4 B4
  go_wp2_with fail
  refine (lsb_get R og [44, 1] 16 0 _ R5.out (by decide) (by decide) (by decide)).mono ?_
  rw [show getR false [44, 1] 16 0 = (0, 16, 0) from by decide]
  rintro e u6 ⟨rfl, r1, r2⟩
  have Y6 := Lib.hid (Y5.out.touch r2 (fun i hi e => by have := HR.out; omega))
  have B6 := Lib.hid (B5.out.keep r2 (fun e => HD.out (Or.inl e)) (fun g e h => HD.out (Or.inr (by rw [e]; exact congrArg some h))))
  have R6 := Lib.hid r1
  clear r1 r2 R5 Y5 B5
  go_wp2_with fail
  refine (lsb_bytes _ og9 _ _ B6.out (by decide)).mono ?_
  rintro e u7 ⟨v, og', rfl, d1, d2, d3⟩
  rw [show packs false [true, false, true, false, false, false, false, false, true, true, true, true, true, true, true, true, true, true, true, true, true, true, true, true, true, true, true, true, true, true, true, true, true, true, true, true, true, true, true, true] = [5, 255, 255, 255, 255] from by decide +kernel] at d1
  obtain ⟨go, cap2, e2⟩ : ∃ g cap, og' = some g ∧ v = .slice (some ⟨g, 0, none⟩) 5 cap := by
    rcases d1.form with ⟨_, _, h0, _⟩ | ⟨g, cap, cur, e1, e2, _⟩
    · simp at h0
    · exact ⟨g, cap, e1, e2⟩
  obtain ⟨rfl, rfl⟩ := e2
  have hq0 : u7.cell? ⟨go, 0, none⟩ = some (.int .u8 5) := d1.cell 0 _ rfl
  have Y := Lib.hid (Y6.out.trans d3)
  clear d1 d2 d3
  go_wp2_with fail
  refine (lsb_lays _).mono ?_
  rintro e wl ⟨rfl, hx⟩
  have HX := Lib.hid hx
  clear hx
  go_wp2_with fail
  go_ret
  exact ⟨rfl, Y.out.trans HX.out⟩
end Go.Proofs.Ytnmibfdpaamlgaa
