/- pressworklaw06.puts: its walk. -/
import Derived.Test.YtomnhfcckalkiaaMsbPreSt
import Derived.Test.YtomnhfcckalkiaaStr
namespace Go.Proofs.Ytomnhfcckalkiaa
open Go.RowKit
set_option linter.unusedVariables false

abbrev exL : List Nat := [2, 1, 0, 2]
theorem exE : errW exL = 0 := by decide +kernel
theorem exG : Good exL := (good_iff _).2 exE
theorem ex0 : rowZ exL 0 = [true, false] := by decide +kernel
theorem ex1 : rowZ exL 1 = [false] := by decide +kernel
theorem ex3 : rowZ exL 3 = [true, true] := by decide +kernel
theorem exR0 : (rowsL exL)[0]? = some [true, false] := by decide +kernel
theorem ex152 : ofBits true [152] = [true, false, false, true, true, false, false, false] := by decide +kernel
theorem exLow : packs false ([] ++ [true, false] ++ [false] ++ [true, true]) = [25] := by decide +kernel
theorem exHigh : packs true ([] ++ [true, false] ++ [false] ++ [true, true]) = [152] := by decide +kernel
theorem St.newT {w0 w : World} {Ts : List Thing} (h : St w0 w Ts) (v : Value) (bs : List Nat) (hv : View w v bs) (hv2 : ViewL w v (u8s bs)) (hvb : ∀ b o n c, v = .slice (some ⟨b, o, none⟩) n c → 0 < bs.length → b < w.heap.size) (hl : bs.length ≤ 2 ^ 40) (he : errW bs = 0) :
    Calls Try.prog 9 #[v] w fun e w' => ∃ B, e = .returned (.tuple #[.pointer (some ⟨B, 0, none⟩), .int .i64 0]) ∧ St w0 w' (Ts ++ [tT B bs]) := by
  refine (pre_new v bs w hv hv2 hvb hl).mono ?_
  rintro e w' (⟨h1, _⟩ | ⟨_, B, og, og2, m, rfl, t, n, x⟩)
  · exact absurd he h1
  · exact ⟨B, rfl, h.tab t n x⟩
set_option maxHeartbeats 2000000 in
set_option maxRecDepth 100000 in
theorem pre_puts (w : World) : Calls Try.prog 11 #[] w fun e w' => e = .returned (.bool true) ∧ Ext w w' := by
  have hv0 := view_new w exL 5 (0, 0)
  have HS := Lib.hid ((St.of (Ext.refl w)).lit 5 (u8s exL) 4 rfl (by decide) (by decide))
  rw [List.nil_append] at HS
  have HV := Lib.hid hv0
  clear hv0
  go_enter Try.func11, Try.ntmps11
  go_wp2_with fail
  refine (HS.out.newT _ exL HV.out (HS.out.viewL 0 rfl) (fun b o n c e _ => by cases e; simp) (by decide) exE).mono ?_
  rintro e w1 ⟨T, rfl, s1⟩
  have h1 := s1.lsb_neww.msb_neww
  rw [World.size_alloc] at h1
  obtain ⟨A, hA⟩ : ∃ A, A = w1.heap.size := ⟨_, rfl⟩
  have HA := Lib.hid hA
  rw [← hA] at h1
  have HS := Lib.hid (show St w _ [oB (.slice (some ⟨w.heap.size, 0, none⟩) 4 4) exL, tT T exL, lW A [], mW (A + 1) []] from h1)
  clear s1 h1 hA
  go_wp2_with fail
  rw [← HA.out]
  clear HA HV
  refine (HS.out.lsb_put 2 1 rfl rfl (by decide) exG 0 (by decide)).mono ?_
  rintro e w2 ⟨rfl, s2⟩
  rw [ex0] at s2
  have HS := Lib.hid (show St w _ [oB (.slice (some ⟨w.heap.size, 0, none⟩) 4 4) exL, tT T exL, lW A ([] ++ [true, false]), mW (A + 1) []] from s2)
  clear s2
  go_wp2_with fail
  refine (HS.out.lsb_put 2 1 rfl rfl (by decide) exG 1 (by decide)).mono ?_
  rintro e w3 ⟨rfl, s2⟩
  rw [ex1] at s2
  have HS := Lib.hid (show St w _ [oB (.slice (some ⟨w.heap.size, 0, none⟩) 4 4) exL, tT T exL, lW A ([] ++ [true, false] ++ [false]), mW (A + 1) []] from s2)
  clear s2
  go_wp2_with fail
  refine (HS.out.lsb_put 2 1 rfl rfl (by decide) exG 3 (by decide)).mono ?_
  rintro e w4 ⟨rfl, s2⟩
  rw [ex3] at s2
  rw [show putErr exL 3 = 0 by decide +kernel]
  have HS := Lib.hid (show St w _ [oB (.slice (some ⟨w.heap.size, 0, none⟩) 4 4) exL, tT T exL, lW A ([] ++ [true, false] ++ [false] ++ [true, true]), mW (A + 1) []] from s2)
  clear s2
  go_wp2_with fail
  refine (HS.out.msb_put 3 1 rfl rfl (by decide) exG 0 (by decide)).mono ?_
  rintro e w5 ⟨rfl, s2⟩
  rw [ex0] at s2
  have HS := Lib.hid (show St w _ [oB (.slice (some ⟨w.heap.size, 0, none⟩) 4 4) exL, tT T exL, lW A ([] ++ [true, false] ++ [false] ++ [true, true]), mW (A + 1) ([] ++ [true, false])] from s2)
  clear s2
  go_wp2_with fail
  refine (HS.out.msb_put 3 1 rfl rfl (by decide) exG 1 (by decide)).mono ?_
  rintro e w6 ⟨rfl, s2⟩
  rw [ex1] at s2
  have HS := Lib.hid (show St w _ [oB (.slice (some ⟨w.heap.size, 0, none⟩) 4 4) exL, tT T exL, lW A ([] ++ [true, false] ++ [false] ++ [true, true]), mW (A + 1) ([] ++ [true, false] ++ [false])] from s2)
  clear s2
  go_wp2_with fail
  refine (HS.out.msb_put 3 1 rfl rfl (by decide) exG 3 (by decide)).mono ?_
  rintro e w7 ⟨rfl, s2⟩
  rw [ex3] at s2
  rw [show putErr exL 3 = 0 by decide +kernel]
  have HS := Lib.hid (show St w _ [oB (.slice (some ⟨w.heap.size, 0, none⟩) 4 4) exL, tT T exL, lW A ([] ++ [true, false] ++ [false] ++ [true, true]), mW (A + 1) ([] ++ [true, false] ++ [false] ++ [true, true])] from s2)
  clear s2
  go_wp2_with fail
  have HS := Lib.hid (HS.out.lit 5 (u8s [152]) 1 rfl (by decide) (by decide))
  refine (HS.out.msb_newr _ [152] (view_new w7 [152] 5 (0, 0)) (by decide)).mono ?_
  rintro e w8 ⟨R, rfl, s2⟩
  have HS := Lib.hid (show St w _ [oB (.slice (some ⟨w.heap.size, 0, none⟩) 4 4) exL, tT T exL, lW A ([] ++ [true, false] ++ [false] ++ [true, true]), mW (A + 1) ([] ++ [true, false] ++ [false] ++ [true, true]), oB (.slice (some ⟨w7.heap.size, 0, none⟩) 1 1) [152], mR R [152] 0] from s2)
  clear s2
  go_wp2_with fail
  refine (HS.out.msb_get 5 1 rfl rfl (by decide) exG (by decide) (by decide) (by decide)).mono ?_
  rintro e w9 ⟨s, q, er, rfl, hd, s2⟩
  obtain ⟨rfl, rfl, rfl⟩ := dec_one (rows_pf exG) hd (dec_put (rows_pf exG) (a := []) (r := [true, false]) (b := [false, true, true, false, false, false]) (s := 0) ex152 exR0 (by decide))
  have HS := Lib.hid s2
  clear s2 hd
  have hq1 : ((strOf [25]).toList == [25]) = true := by rw [strOf_toList]; decide
  have hq2 : ((strOf [152]).toList == [152]) = true := by rw [strOf_toList]; decide
  go_wp2_with fail
  refine (HS.out.lsb_bytes 2 rfl (by decide)).mono ?_
  rintro e w10 ⟨v, rfl, s2, x10⟩
  rw [exLow] at s2
  have hs3 := run_string_view (P := Try.prog) 22 9 5 (s2.view 6 rfl rfl) Try.underlying22 Try.underlying5 Try.underlying9
  have HS := Lib.hid s2
  clear s2 x10
  go_wp2_with fail
  refine (HS.out.msb_bytes 3 rfl (by decide)).mono ?_
  rintro e w11 ⟨v, rfl, s2, x10⟩
  rw [exHigh] at s2
  have hs4 := run_string_view (P := Try.prog) 22 9 5 (s2.view 7 rfl rfl) Try.underlying22 Try.underlying5 Try.underlying9
  have HS := Lib.hid s2
  clear s2 x10 hs3
  go_wp2_with fail
  refine (HS.out.bits 1 rfl exG 3).mono ?_
  rw [show bitsL exL 3 = 2 by decide +kernel]
  rintro e w12 ⟨rfl, hw⟩
  have HS := Lib.hid (hw ▸ HS.out)
  clear hw
  go_wp2_with fail
  refine (HS.out.bits 1 rfl exG 2).mono ?_
  rw [show bitsL exL 2 = 0 by decide +kernel]
  rintro e w13 ⟨rfl, hw⟩
  have HX := Lib.hid (show Ext w w13 from hw ▸ HS.out.ext)
  clear hw
  go_wp2_with fail
  go_ret
  exact ⟨rfl, HX.out⟩
end Go.Proofs.Ytomnhfcckalkiaa
