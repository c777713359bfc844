/- pressworklaw06.PrefixKnown: its walk (written by gen_preknown.py). -/
import Derived.Test.YtomnhfcckalkiaaPrePuts
namespace Go.Proofs.Ytomnhfcckalkiaa
open Go.RowKit
set_option linter.unusedVariables false

theorem exR1 : (rowsL exL)[1]? = some [false] := by decide +kernel
theorem exR3 : (rowsL exL)[3]? = some [true, true] := by decide +kernel
theorem viewL_nil0 {w : World} : ViewL w (.slice none 0 0) (u8s []) := ⟨none, 0, rfl, Nat.le_refl _, fun _ => rfl, fun h => by simp [u8s] at h⟩
theorem dec_none (bits : List Bool) : IsDec (rowsL []) bits 0 0 0 2 := ⟨0, rfl, Nat.zero_le _, fun m hm => by omega, Or.inr ⟨rfl, rfl, fun ⟨i, h, _⟩ => by simp [rowsL] at h, Or.inl (fun ⟨i, r, h, _⟩ => by simp [rowsL] at h)⟩⟩
theorem rows01 : rowsL [0, 1] = [[], [false]] := by decide +kernel
theorem on01 (bits : List Bool) (h : bits ≠ []) : GoOn (rowsL [0, 1]) bits 0 0 := by
  rw [rows01]
  refine ⟨fun ⟨i, h1, h2⟩ => h2 (by simp [xAt]), ⟨1, [false], rfl, by decide, by simp [xAt]⟩, fun e => h (List.eq_nil_of_length_eq_zero (by simpa using e.symm))⟩
theorem dec_wrong : IsDec (rowsL [0, 1]) (ofBits false [1]) 0 0 1 2 := by
  refine ⟨1, rfl, by decide, fun m hm => ?_, Or.inr ⟨rfl, rfl, ?_, Or.inl ?_⟩⟩
  · obtain rfl : m = 0 := by omega
    exact on01 _ (by decide)
  · rw [rows01, show xAt (ofBits false [1]) 0 1 = [true] by decide +kernel]
    rintro ⟨i, h1, h2⟩
    rcases i with _ | _ | i <;> simp at h1
  · rw [rows01, show xAt (ofBits false [1]) 0 1 = [true] by decide +kernel]
    rintro ⟨i, r, h1, h2, h3⟩
    rcases i with _ | _ | i
    · simp at h1; exact h2 h1
    · simp at h1; subst h1; exact absurd h3 (by decide)
    · simp at h1
theorem dec_end : IsDec (rowsL [0, 1]) (ofBits false []) 0 0 0 2 := ⟨0, rfl, Nat.zero_le _, fun m hm => by omega, Or.inr ⟨rfl, rfl, fun ⟨i, _, h⟩ => h (by simp [xAt]), Or.inr (by decide)⟩⟩
set_option maxHeartbeats 8000000 in
set_option maxRecDepth 100000 in
theorem pre_law_known (w : World) : Calls Try.prog 6 #[] w fun e w' => e = .returned (.bool true) ∧ Ext w w' := by
  have HS := Lib.hid (St.of (Ext.refl w))
  go_enter Try.func6, Try.ntmps6
  go_wp2_with fail
  have HS := Lib.hid (show St w (w.alloc (.cells (u8s exL).toArray 5)) [oB (.slice (some ⟨w.heap.size, 0, none⟩) 4 4) exL] from HS.out.lit 5 (u8s exL) 4 rfl (by decide) (by decide))
  refine (HS.out.newT _ exL (view_new w exL 5 (0, 0)) (HS.out.viewL 0 rfl) (fun b o n c e _ => by cases e; simp) (by decide) (exE)).mono ?_
  rintro e w1 ⟨T, rfl, s2⟩
  have HS := Lib.hid (show St w w1 [oB (.slice (some ⟨w.heap.size, 0, none⟩) 4 4) exL, tT T exL] from s2)
  clear s2
  go_wp2_with fail
  have HS := Lib.hid (show St w (w1.alloc (.cells (u8s [152]).toArray 5)) [oB (.slice (some ⟨w.heap.size, 0, none⟩) 4 4) exL, tT T exL, oB (.slice (some ⟨w1.heap.size, 0, none⟩) 1 1) [152]] from HS.out.lit 5 (u8s [152]) 1 rfl (by decide) (by decide))
  refine (HS.out.msb_newr _ [152] (view_new w1 [152] 5 (0, 0)) (by decide)).mono ?_
  rintro e w2 ⟨R, rfl, s2⟩
  have HS := Lib.hid (show St w w2 [oB (.slice (some ⟨w.heap.size, 0, none⟩) 4 4) exL, tT T exL, oB (.slice (some ⟨w1.heap.size, 0, none⟩) 1 1) [152], mR R [152] 0] from s2)
  clear s2
  go_wp2_with fail
  refine (HS.out.msb_get 3 1 rfl rfl (by decide) exG (by decide) (by decide) (by decide)).mono ?_
  rintro e w3 ⟨s, q, er, rfl, hd, s2⟩
  obtain ⟨rfl, rfl, rfl⟩ := dec_one (rows_pf exG) hd (dec_put (rows_pf exG) (a := []) (r := [true, false]) (b := [false, true, true, false, false, false]) (s := 0) ex152 exR0 (by decide))
  have HS := Lib.hid (show St w w3 [oB (.slice (some ⟨w.heap.size, 0, none⟩) 4 4) exL, tT T exL, oB (.slice (some ⟨w1.heap.size, 0, none⟩) 1 1) [152], mR R [152] 2] from s2)
  clear s2 hd
  go_wp2_with fail
  refine (HS.out.msb_get 3 1 rfl rfl (by decide) exG (by decide) (by decide) (by decide)).mono ?_
  rintro e w4 ⟨s, q, er, rfl, hd, s2⟩
  obtain ⟨rfl, rfl, rfl⟩ := dec_one (rows_pf exG) hd (dec_put (rows_pf exG) (a := [true, false]) (r := [false]) (b := [true, true, false, false, false]) (s := 1) ex152 exR1 (by decide))
  have HS := Lib.hid (show St w w4 [oB (.slice (some ⟨w.heap.size, 0, none⟩) 4 4) exL, tT T exL, oB (.slice (some ⟨w1.heap.size, 0, none⟩) 1 1) [152], mR R [152] 3] from s2)
  clear s2 hd
  go_wp2_with fail
  refine (HS.out.msb_get 3 1 rfl rfl (by decide) exG (by decide) (by decide) (by decide)).mono ?_
  rintro e w5 ⟨s, q, er, rfl, hd, s2⟩
  obtain ⟨rfl, rfl, rfl⟩ := dec_one (rows_pf exG) hd (dec_put (rows_pf exG) (a := [true, false, false]) (r := [true, true]) (b := [false, false, false]) (s := 3) ex152 exR3 (by decide))
  have HS := Lib.hid (show St w w5 [oB (.slice (some ⟨w.heap.size, 0, none⟩) 4 4) exL, tT T exL, oB (.slice (some ⟨w1.heap.size, 0, none⟩) 1 1) [152], mR R [152] 5] from s2)
  clear s2 hd
  go_wp2_with fail
  refine (HS.out.msb_get 3 1 rfl rfl (by decide) exG (by decide) (by decide) (by decide)).mono ?_
  rintro e w6 ⟨s, q, er, rfl, hd, s2⟩
  obtain ⟨rfl, rfl, rfl⟩ := dec_one (rows_pf exG) hd (dec_put (rows_pf exG) (a := [true, false, false, true, true]) (r := [false]) (b := [false, false]) (s := 1) ex152 exR1 (by decide))
  have HS := Lib.hid (show St w w6 [oB (.slice (some ⟨w.heap.size, 0, none⟩) 4 4) exL, tT T exL, oB (.slice (some ⟨w1.heap.size, 0, none⟩) 1 1) [152], mR R [152] 6] from s2)
  clear s2 hd
  have h1 := HS.out.lsb_neww
  obtain ⟨A, hA⟩ : ∃ A, A = w6.heap.size := ⟨_, rfl⟩
  have HA := Lib.hid hA
  rw [← hA] at h1
  have HS := Lib.hid (show St w _ [oB (.slice (some ⟨w.heap.size, 0, none⟩) 4 4) exL, tT T exL, oB (.slice (some ⟨w1.heap.size, 0, none⟩) 1 1) [152], mR R [152] 6, lW A []] from h1)
  clear h1 hA
  go_wp2_with fail
  rw [← HA.out]
  clear HA
  refine (HS.out.lsb_put 4 1 rfl rfl (by decide) exG 2 (by decide)).mono ?_
  rw [show rowZ exL 2 = [] by decide +kernel, show putErr exL 2 = 5 by decide +kernel]
  rintro e w7 ⟨rfl, s2⟩
  have HS := Lib.hid (show St w w7 [oB (.slice (some ⟨w.heap.size, 0, none⟩) 4 4) exL, tT T exL, oB (.slice (some ⟨w1.heap.size, 0, none⟩) 1 1) [152], mR R [152] 6, lW A []] from s2)
  clear s2
  go_wp2_with fail
  refine (HS.out.lsb_put 4 1 rfl rfl (by decide) exG (-1) (by decide)).mono ?_
  rw [show rowZ exL (-1) = [] by decide +kernel, show putErr exL (-1) = 5 by decide +kernel]
  rintro e w8 ⟨rfl, s2⟩
  have HS := Lib.hid (show St w w8 [oB (.slice (some ⟨w.heap.size, 0, none⟩) 4 4) exL, tT T exL, oB (.slice (some ⟨w1.heap.size, 0, none⟩) 1 1) [152], mR R [152] 6, lW A []] from s2)
  clear s2
  go_wp2_with fail
  refine (HS.out.lsb_put 4 1 rfl rfl (by decide) exG 4 (by decide)).mono ?_
  rw [show rowZ exL 4 = [] by decide +kernel, show putErr exL 4 = 5 by decide +kernel]
  rintro e w9 ⟨rfl, s2⟩
  have HS := Lib.hid (show St w w9 [oB (.slice (some ⟨w.heap.size, 0, none⟩) 4 4) exL, tT T exL, oB (.slice (some ⟨w1.heap.size, 0, none⟩) 1 1) [152], mR R [152] 6, lW A []] from s2)
  clear s2
  go_wp2_with fail
  refine (HS.out.lsb_len 4 rfl).mono ?_
  rintro e w10 ⟨rfl, hw⟩
  have HS := Lib.hid (show St w w10 [oB (.slice (some ⟨w.heap.size, 0, none⟩) 4 4) exL, tT T exL, oB (.slice (some ⟨w1.heap.size, 0, none⟩) 1 1) [152], mR R [152] 6, lW A []] from by rw [← hw]; exact HS.out)
  clear hw
  go_wp2_with fail
  refine (HS.out.bits 1 rfl exG 0).mono ?_
  rw [show bitsL exL 0 = 2 by decide +kernel]
  rintro e w11 ⟨rfl, hw⟩
  have HS := Lib.hid (show St w w11 [oB (.slice (some ⟨w.heap.size, 0, none⟩) 4 4) exL, tT T exL, oB (.slice (some ⟨w1.heap.size, 0, none⟩) 1 1) [152], mR R [152] 6, lW A []] from by rw [← hw]; exact HS.out)
  clear hw
  go_wp2_with fail
  refine (HS.out.bits 1 rfl exG 2).mono ?_
  rw [show bitsL exL 2 = 0 by decide +kernel]
  rintro e w12 ⟨rfl, hw⟩
  have HS := Lib.hid (show St w w12 [oB (.slice (some ⟨w.heap.size, 0, none⟩) 4 4) exL, tT T exL, oB (.slice (some ⟨w1.heap.size, 0, none⟩) 1 1) [152], mR R [152] 6, lW A []] from by rw [← hw]; exact HS.out)
  clear hw
  go_wp2_with fail
  refine (HS.out.bits 1 rfl exG 9).mono ?_
  rw [show bitsL exL 9 = 0 by decide +kernel]
  rintro e w13 ⟨rfl, hw⟩
  have HS := Lib.hid (show St w w13 [oB (.slice (some ⟨w.heap.size, 0, none⟩) 4 4) exL, tT T exL, oB (.slice (some ⟨w1.heap.size, 0, none⟩) 1 1) [152], mR R [152] 6, lW A []] from by rw [← hw]; exact HS.out)
  clear hw
  go_wp2_with fail
  refine (HS.out.bits 1 rfl exG (-1)).mono ?_
  rw [show bitsL exL (-1) = 0 by decide +kernel]
  rintro e w14 ⟨rfl, hw⟩
  have HS := Lib.hid (show St w w14 [oB (.slice (some ⟨w.heap.size, 0, none⟩) 4 4) exL, tT T exL, oB (.slice (some ⟨w1.heap.size, 0, none⟩) 1 1) [152], mR R [152] 6, lW A []] from by rw [← hw]; exact HS.out)
  clear hw
  go_wp2_with fail
  refine (HS.out.newT _ [] (Or.inl ⟨rfl, rfl⟩) viewL_nil0 (fun b o n c e _ => by cases e) (by decide) (by decide +kernel)).mono ?_
  rintro e w15 ⟨N, rfl, s2⟩
  have HS := Lib.hid (show St w w15 [oB (.slice (some ⟨w.heap.size, 0, none⟩) 4 4) exL, tT T exL, oB (.slice (some ⟨w1.heap.size, 0, none⟩) 1 1) [152], mR R [152] 6, lW A [], tT N []] from s2)
  clear s2
  go_wp2_with fail
  have HS := Lib.hid (show St w (w15.alloc (.cells (u8s [0]).toArray 5)) [oB (.slice (some ⟨w.heap.size, 0, none⟩) 4 4) exL, tT T exL, oB (.slice (some ⟨w1.heap.size, 0, none⟩) 1 1) [152], mR R [152] 6, lW A [], tT N [], oB (.slice (some ⟨w15.heap.size, 0, none⟩) 1 1) [0]] from HS.out.lit 5 (u8s [0]) 1 rfl (by decide) (by decide))
  refine (HS.out.lsb_newr _ [0] (view_new w15 [0] 5 (0, 0)) (by decide)).mono ?_
  rintro e w16 ⟨X, rfl, s2⟩
  have HS := Lib.hid (show St w w16 [oB (.slice (some ⟨w.heap.size, 0, none⟩) 4 4) exL, tT T exL, oB (.slice (some ⟨w1.heap.size, 0, none⟩) 1 1) [152], mR R [152] 6, lW A [], tT N [], oB (.slice (some ⟨w15.heap.size, 0, none⟩) 1 1) [0], lR X [0] 0] from s2)
  clear s2
  go_wp2_with fail
  refine (HS.out.lsb_get 7 5 rfl rfl (by decide) ((good_iff _).2 (by decide +kernel)) (by decide) (by decide) (by decide)).mono ?_
  rintro e w17 ⟨s, q, er, rfl, hd, s2⟩
  obtain ⟨rfl, rfl, rfl⟩ := dec_one (rows_pf ((good_iff _).2 (by decide +kernel))) hd (dec_none _)
  have HS := Lib.hid (show St w w17 [oB (.slice (some ⟨w.heap.size, 0, none⟩) 4 4) exL, tT T exL, oB (.slice (some ⟨w1.heap.size, 0, none⟩) 1 1) [152], mR R [152] 6, lW A [], tT N [], oB (.slice (some ⟨w15.heap.size, 0, none⟩) 1 1) [0], lR X [0] 0] from s2)
  clear s2 hd
  go_wp2_with fail
  have HS := Lib.hid (show St w (w17.alloc (.cells (u8s [0, 1]).toArray 5)) [oB (.slice (some ⟨w.heap.size, 0, none⟩) 4 4) exL, tT T exL, oB (.slice (some ⟨w1.heap.size, 0, none⟩) 1 1) [152], mR R [152] 6, lW A [], tT N [], oB (.slice (some ⟨w15.heap.size, 0, none⟩) 1 1) [0], lR X [0] 0, oB (.slice (some ⟨w17.heap.size, 0, none⟩) 2 2) [0, 1]] from HS.out.lit 5 (u8s [0, 1]) 2 rfl (by decide) (by decide))
  refine (HS.out.newT _ [0, 1] (view_new w17 [0, 1] 5 (0, 0)) (HS.out.viewL 8 rfl) (fun b o n c e _ => by cases e; simp) (by decide) (by decide +kernel)).mono ?_
  rintro e w18 ⟨O, rfl, s2⟩
  have HS := Lib.hid (show St w w18 [oB (.slice (some ⟨w.heap.size, 0, none⟩) 4 4) exL, tT T exL, oB (.slice (some ⟨w1.heap.size, 0, none⟩) 1 1) [152], mR R [152] 6, lW A [], tT N [], oB (.slice (some ⟨w15.heap.size, 0, none⟩) 1 1) [0], lR X [0] 0, oB (.slice (some ⟨w17.heap.size, 0, none⟩) 2 2) [0, 1], tT O [0, 1]] from s2)
  clear s2
  go_wp2_with fail
  refine (HS.out.lsb_get 7 9 rfl rfl (by decide) ((good_iff _).2 (by decide +kernel)) (by decide) (by decide) (by decide)).mono ?_
  rintro e w19 ⟨s, q, er, rfl, hd, s2⟩
  obtain ⟨rfl, rfl, rfl⟩ := dec_one (rows_pf ((good_iff _).2 (by decide +kernel))) hd (dec_put (rows_pf ((good_iff _).2 (by decide +kernel))) (a := []) (r := [false]) (b := [false, false, false, false, false, false, false]) (s := 1) (by decide +kernel) (by decide +kernel) (by decide))
  have HS := Lib.hid (show St w w19 [oB (.slice (some ⟨w.heap.size, 0, none⟩) 4 4) exL, tT T exL, oB (.slice (some ⟨w1.heap.size, 0, none⟩) 1 1) [152], mR R [152] 6, lW A [], tT N [], oB (.slice (some ⟨w15.heap.size, 0, none⟩) 1 1) [0], lR X [0] 1, oB (.slice (some ⟨w17.heap.size, 0, none⟩) 2 2) [0, 1], tT O [0, 1]] from s2)
  clear s2 hd
  go_wp2_with fail
  have HS := Lib.hid (show St w (w19.alloc (.cells (u8s [1]).toArray 5)) [oB (.slice (some ⟨w.heap.size, 0, none⟩) 4 4) exL, tT T exL, oB (.slice (some ⟨w1.heap.size, 0, none⟩) 1 1) [152], mR R [152] 6, lW A [], tT N [], oB (.slice (some ⟨w15.heap.size, 0, none⟩) 1 1) [0], lR X [0] 1, oB (.slice (some ⟨w17.heap.size, 0, none⟩) 2 2) [0, 1], tT O [0, 1], oB (.slice (some ⟨w19.heap.size, 0, none⟩) 1 1) [1]] from HS.out.lit 5 (u8s [1]) 1 rfl (by decide) (by decide))
  refine (HS.out.lsb_newr _ [1] (view_new w19 [1] 5 (0, 0)) (by decide)).mono ?_
  rintro e w20 ⟨Y, rfl, s2⟩
  have HS := Lib.hid (show St w w20 [oB (.slice (some ⟨w.heap.size, 0, none⟩) 4 4) exL, tT T exL, oB (.slice (some ⟨w1.heap.size, 0, none⟩) 1 1) [152], mR R [152] 6, lW A [], tT N [], oB (.slice (some ⟨w15.heap.size, 0, none⟩) 1 1) [0], lR X [0] 1, oB (.slice (some ⟨w17.heap.size, 0, none⟩) 2 2) [0, 1], tT O [0, 1], oB (.slice (some ⟨w19.heap.size, 0, none⟩) 1 1) [1], lR Y [1] 0] from s2)
  clear s2
  go_wp2_with fail
  refine (HS.out.lsb_get 11 9 rfl rfl (by decide) ((good_iff _).2 (by decide +kernel)) (by decide) (by decide) (by decide)).mono ?_
  rintro e w21 ⟨s, q, er, rfl, hd, s2⟩
  obtain ⟨rfl, rfl, rfl⟩ := dec_one (rows_pf ((good_iff _).2 (by decide +kernel))) hd (dec_wrong)
  have HS := Lib.hid (show St w w21 [oB (.slice (some ⟨w.heap.size, 0, none⟩) 4 4) exL, tT T exL, oB (.slice (some ⟨w1.heap.size, 0, none⟩) 1 1) [152], mR R [152] 6, lW A [], tT N [], oB (.slice (some ⟨w15.heap.size, 0, none⟩) 1 1) [0], lR X [0] 1, oB (.slice (some ⟨w17.heap.size, 0, none⟩) 2 2) [0, 1], tT O [0, 1], oB (.slice (some ⟨w19.heap.size, 0, none⟩) 1 1) [1], lR Y [1] 1] from s2)
  clear s2 hd
  go_wp2_with fail
  refine (HS.out.lsb_newr _ [] (Or.inl ⟨rfl, rfl⟩) (by decide)).mono ?_
  rintro e w22 ⟨Z, rfl, s2⟩
  have HS := Lib.hid (show St w w22 [oB (.slice (some ⟨w.heap.size, 0, none⟩) 4 4) exL, tT T exL, oB (.slice (some ⟨w1.heap.size, 0, none⟩) 1 1) [152], mR R [152] 6, lW A [], tT N [], oB (.slice (some ⟨w15.heap.size, 0, none⟩) 1 1) [0], lR X [0] 1, oB (.slice (some ⟨w17.heap.size, 0, none⟩) 2 2) [0, 1], tT O [0, 1], oB (.slice (some ⟨w19.heap.size, 0, none⟩) 1 1) [1], lR Y [1] 1, lR Z [] 0] from s2)
  clear s2
  go_wp2_with fail
  refine (HS.out.lsb_get 12 9 rfl rfl (by decide) ((good_iff _).2 (by decide +kernel)) (by decide) (by decide) (by decide)).mono ?_
  rintro e w23 ⟨s, q, er, rfl, hd, s2⟩
  obtain ⟨rfl, rfl, rfl⟩ := dec_one (rows_pf ((good_iff _).2 (by decide +kernel))) hd (dec_end)
  have HS := Lib.hid (show St w w23 [oB (.slice (some ⟨w.heap.size, 0, none⟩) 4 4) exL, tT T exL, oB (.slice (some ⟨w1.heap.size, 0, none⟩) 1 1) [152], mR R [152] 6, lW A [], tT N [], oB (.slice (some ⟨w15.heap.size, 0, none⟩) 1 1) [0], lR X [0] 1, oB (.slice (some ⟨w17.heap.size, 0, none⟩) 2 2) [0, 1], tT O [0, 1], oB (.slice (some ⟨w19.heap.size, 0, none⟩) 1 1) [1], lR Y [1] 1, lR Z [] 0] from s2)
  clear s2 hd
  go_wp2_with fail
  have HS := Lib.hid (show St w (w23.alloc (.cells (u8s [1, 1, 1]).toArray 5)) [oB (.slice (some ⟨w.heap.size, 0, none⟩) 4 4) exL, tT T exL, oB (.slice (some ⟨w1.heap.size, 0, none⟩) 1 1) [152], mR R [152] 6, lW A [], tT N [], oB (.slice (some ⟨w15.heap.size, 0, none⟩) 1 1) [0], lR X [0] 1, oB (.slice (some ⟨w17.heap.size, 0, none⟩) 2 2) [0, 1], tT O [0, 1], oB (.slice (some ⟨w19.heap.size, 0, none⟩) 1 1) [1], lR Y [1] 1, lR Z [] 0, oB (.slice (some ⟨w23.heap.size, 0, none⟩) 3 3) [1, 1, 1]] from HS.out.lit 5 (u8s [1, 1, 1]) 3 rfl (by decide) (by decide))
  refine (pre_new _ [1, 1, 1] _ (view_new w23 [1, 1, 1] 5 (0, 0)) (HS.out.viewL 13 rfl) (fun b o n c e _ => by cases e; simp) (by decide)).mono ?_
  rintro e w24 (⟨-, rfl, s2⟩ | ⟨hz, _⟩)
  rotate_left
  · exact absurd hz (by decide +kernel)
  rw [show errW [1, 1, 1] = 2 by decide +kernel]
  have HS := Lib.hid (show St w w24 [oB (.slice (some ⟨w.heap.size, 0, none⟩) 4 4) exL, tT T exL, oB (.slice (some ⟨w1.heap.size, 0, none⟩) 1 1) [152], mR R [152] 6, lW A [], tT N [], oB (.slice (some ⟨w15.heap.size, 0, none⟩) 1 1) [0], lR X [0] 1, oB (.slice (some ⟨w17.heap.size, 0, none⟩) 2 2) [0, 1], tT O [0, 1], oB (.slice (some ⟨w19.heap.size, 0, none⟩) 1 1) [1], lR Y [1] 1, lR Z [] 0, oB (.slice (some ⟨w23.heap.size, 0, none⟩) 3 3) [1, 1, 1]] from HS.out.step s2)
  clear s2
  go_wp2_with fail
  have HS := Lib.hid (show St w (w24.alloc (.cells (u8s [21]).toArray 5)) [oB (.slice (some ⟨w.heap.size, 0, none⟩) 4 4) exL, tT T exL, oB (.slice (some ⟨w1.heap.size, 0, none⟩) 1 1) [152], mR R [152] 6, lW A [], tT N [], oB (.slice (some ⟨w15.heap.size, 0, none⟩) 1 1) [0], lR X [0] 1, oB (.slice (some ⟨w17.heap.size, 0, none⟩) 2 2) [0, 1], tT O [0, 1], oB (.slice (some ⟨w19.heap.size, 0, none⟩) 1 1) [1], lR Y [1] 1, lR Z [] 0, oB (.slice (some ⟨w23.heap.size, 0, none⟩) 3 3) [1, 1, 1], oB (.slice (some ⟨w24.heap.size, 0, none⟩) 1 1) [21]] from HS.out.lit 5 (u8s [21]) 1 rfl (by decide) (by decide))
  refine (pre_new _ [21] _ (view_new w24 [21] 5 (0, 0)) (HS.out.viewL 14 rfl) (fun b o n c e _ => by cases e; simp) (by decide)).mono ?_
  rintro e w25 (⟨-, rfl, s2⟩ | ⟨hz, _⟩)
  rotate_left
  · exact absurd hz (by decide +kernel)
  rw [show errW [21] = 5 by decide +kernel]
  have HS := Lib.hid (show St w w25 [oB (.slice (some ⟨w.heap.size, 0, none⟩) 4 4) exL, tT T exL, oB (.slice (some ⟨w1.heap.size, 0, none⟩) 1 1) [152], mR R [152] 6, lW A [], tT N [], oB (.slice (some ⟨w15.heap.size, 0, none⟩) 1 1) [0], lR X [0] 1, oB (.slice (some ⟨w17.heap.size, 0, none⟩) 2 2) [0, 1], tT O [0, 1], oB (.slice (some ⟨w19.heap.size, 0, none⟩) 1 1) [1], lR Y [1] 1, lR Z [] 0, oB (.slice (some ⟨w23.heap.size, 0, none⟩) 3 3) [1, 1, 1], oB (.slice (some ⟨w24.heap.size, 0, none⟩) 1 1) [21]] from HS.out.step s2)
  clear s2
  go_wp2_with fail
  refine (HS.out.lsb_at 7 rfl).mono ?_
  rintro e w26 ⟨rfl, hw⟩
  have HS := Lib.hid (show St w w26 [oB (.slice (some ⟨w.heap.size, 0, none⟩) 4 4) exL, tT T exL, oB (.slice (some ⟨w1.heap.size, 0, none⟩) 1 1) [152], mR R [152] 6, lW A [], tT N [], oB (.slice (some ⟨w15.heap.size, 0, none⟩) 1 1) [0], lR X [0] 1, oB (.slice (some ⟨w17.heap.size, 0, none⟩) 2 2) [0, 1], tT O [0, 1], oB (.slice (some ⟨w19.heap.size, 0, none⟩) 1 1) [1], lR Y [1] 1, lR Z [] 0, oB (.slice (some ⟨w23.heap.size, 0, none⟩) 3 3) [1, 1, 1], oB (.slice (some ⟨w24.heap.size, 0, none⟩) 1 1) [21]] from by rw [← hw]; exact HS.out)
  clear hw
  go_wp2_with fail
  refine (pre_puts _).mono ?_
  rintro e w27 ⟨rfl, x⟩
  have HX := Lib.hid (HS.out.ext.trans x)
  clear x
  go_wp2_with fail
  go_ret
  exact ⟨rfl, HX.out⟩
end Go.Proofs.Ytomnhfcckalkiaa
