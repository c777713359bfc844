/- pressworklaw06.PrefixNil: its walk (written by gen_preknown.py). -/
import Derived.Test.YtomnhfcckalkiaaPrePuts
namespace Go.Proofs.Ytomnhfcckalkiaa
open Go.RowKit
set_option linter.unusedVariables false

theorem St.lsb_put_nil {w0 w : World} {Ts : List Thing} {T : Nat} {L : List Nat} (h : St w0 w Ts) (j : Nat) (hj : Ts[j]? = some (tT T L)) (hg : Good L) (s : Int) : Calls Try.prog 12 #[.pointer (some ⟨T, 0, none⟩), .pointer none, .int .i64 s] w fun e w' => e = .returned (.int .i64 8) ∧ w = w' := by
  obtain ⟨S, og, og2, m, h1, _⟩ := h.has hj
  exact pre_lsb_put_nil _ s w (Or.inr ⟨T, og, og2, m, L, rfl, h1, hg⟩)
theorem St.msb_put_nil {w0 w : World} {Ts : List Thing} {T : Nat} {L : List Nat} (h : St w0 w Ts) (j : Nat) (hj : Ts[j]? = some (tT T L)) (hg : Good L) (s : Int) : Calls Try.prog 13 #[.pointer (some ⟨T, 0, none⟩), .pointer none, .int .i64 s] w fun e w' => e = .returned (.int .i64 8) ∧ w = w' := by
  obtain ⟨S, og, og2, m, h1, _⟩ := h.has hj
  exact pre_msb_put_nil _ s w (Or.inr ⟨T, og, og2, m, L, rfl, h1, hg⟩)
set_option maxHeartbeats 4000000 in
set_option maxRecDepth 100000 in
theorem pre_law_nil (s : Int) (w : World) (hs : -9223372036854775808 ≤ s ∧ s ≤ 9223372036854775807) : Calls Try.prog 5 #[.int .i64 s] w fun e w' => e = .returned (.bool true) ∧ Ext w w' := by
  have HS := Lib.hid (St.of (Ext.refl w))
  go_enter Try.func5, Try.ntmps5
  go_wp2_with fail
  have HS := Lib.hid (show St w (w.alloc (.cells (u8s [1, 1]).toArray 5)) [oB (.slice (some ⟨w.heap.size, 0, none⟩) 2 2) [1, 1]] from HS.out.lit 5 (u8s [1, 1]) 2 rfl (by decide) (by decide))
  refine (HS.out.newT _ [1, 1] (view_new w [1, 1] 5 (0, 0)) (HS.out.viewL 0 rfl) (fun b o n c e _ => by cases e; simp) (by decide) (by decide +kernel)).mono ?_
  rintro e w1 ⟨T, rfl, s2⟩
  have HS := Lib.hid (show St w w1 [oB (.slice (some ⟨w.heap.size, 0, none⟩) 2 2) [1, 1], tT T [1, 1]] from s2)
  clear s2
  have h1 := HS.out.lsb_neww.msb_neww.lit 5 (u8s [0]) 1 rfl (by decide) (by decide)
  simp only [World.size_alloc] at h1
  obtain ⟨A, hA⟩ : ∃ A, A = w1.heap.size := ⟨_, rfl⟩
  have HA := Lib.hid hA
  rw [← hA] at h1
  have HV := Lib.hid (view_new ((w1.alloc (.cells #[.slice none 0 0, .int .i64 0] 33)).alloc (.cells #[.slice none 0 0, .int .i64 0] 35)) [0] 5 (0, 0))
  simp only [World.size_alloc] at HV
  rw [← hA] at HV
  have HS := Lib.hid (show St w _ [oB (.slice (some ⟨w.heap.size, 0, none⟩) 2 2) [1, 1], tT T [1, 1], lW A [], mW (A + 1) [], oB (.slice (some ⟨A + 1 + 1, 0, none⟩) 1 1) [0]] from h1)
  clear h1 hA
  go_wp2_with fail
  rw [← HA.out]
  clear HA
  refine (HS.out.lsb_newr _ [0] HV.out (by decide)).mono ?_
  rintro e w2 ⟨R, rfl, s2⟩
  have HS := Lib.hid (show St w w2 [oB (.slice (some ⟨w.heap.size, 0, none⟩) 2 2) [1, 1], tT T [1, 1], lW A [], mW (A + 1) [], oB (.slice (some ⟨A + 1 + 1, 0, none⟩) 1 1) [0], lR R [0] 0] from s2)
  clear s2 HV
  go_wp2_with fail
  refine (pre_lsb_get_nil _ _ _ (Or.inl rfl) ⟨_, rfl⟩).mono ?_
  rintro e w3 ⟨rfl, hw⟩
  have HS := Lib.hid (show St w w3 [oB (.slice (some ⟨w.heap.size, 0, none⟩) 2 2) [1, 1], tT T [1, 1], lW A [], mW (A + 1) [], oB (.slice (some ⟨A + 1 + 1, 0, none⟩) 1 1) [0], lR R [0] 0] from by rw [← hw]; exact HS.out)
  clear hw
  go_wp2_with fail
  have HS := Lib.hid (show St w (w3.alloc (.cells (u8s [0]).toArray 5)) [oB (.slice (some ⟨w.heap.size, 0, none⟩) 2 2) [1, 1], tT T [1, 1], lW A [], mW (A + 1) [], oB (.slice (some ⟨A + 1 + 1, 0, none⟩) 1 1) [0], lR R [0] 0, oB (.slice (some ⟨w3.heap.size, 0, none⟩) 1 1) [0]] from HS.out.lit 5 (u8s [0]) 1 rfl (by decide) (by decide))
  refine (HS.out.msb_newr _ [0] (view_new w3 [0] 5 (0, 0)) (by decide)).mono ?_
  rintro e w4 ⟨Q, rfl, s2⟩
  have HS := Lib.hid (show St w w4 [oB (.slice (some ⟨w.heap.size, 0, none⟩) 2 2) [1, 1], tT T [1, 1], lW A [], mW (A + 1) [], oB (.slice (some ⟨A + 1 + 1, 0, none⟩) 1 1) [0], lR R [0] 0, oB (.slice (some ⟨w3.heap.size, 0, none⟩) 1 1) [0], mR Q [0] 0] from s2)
  clear s2
  go_wp2_with fail
  refine (pre_msb_get_nil _ _ _ (Or.inl rfl) ⟨_, rfl⟩).mono ?_
  rintro e w5 ⟨rfl, hw⟩
  have HS := Lib.hid (show St w w5 [oB (.slice (some ⟨w.heap.size, 0, none⟩) 2 2) [1, 1], tT T [1, 1], lW A [], mW (A + 1) [], oB (.slice (some ⟨A + 1 + 1, 0, none⟩) 1 1) [0], lR R [0] 0, oB (.slice (some ⟨w3.heap.size, 0, none⟩) 1 1) [0], mR Q [0] 0] from by rw [← hw]; exact HS.out)
  clear hw
  go_wp2_with fail
  refine (pre_lsb_get_nil _ none _ (Or.inr rfl) ⟨_, rfl⟩).mono ?_
  rintro e w6 ⟨rfl, hw⟩
  have HS := Lib.hid (show St w w6 [oB (.slice (some ⟨w.heap.size, 0, none⟩) 2 2) [1, 1], tT T [1, 1], lW A [], mW (A + 1) [], oB (.slice (some ⟨A + 1 + 1, 0, none⟩) 1 1) [0], lR R [0] 0, oB (.slice (some ⟨w3.heap.size, 0, none⟩) 1 1) [0], mR Q [0] 0] from by rw [← hw]; exact HS.out)
  clear hw
  go_wp2_with fail
  refine (pre_msb_get_nil _ none _ (Or.inr rfl) ⟨_, rfl⟩).mono ?_
  rintro e w7 ⟨rfl, hw⟩
  have HS := Lib.hid (show St w w7 [oB (.slice (some ⟨w.heap.size, 0, none⟩) 2 2) [1, 1], tT T [1, 1], lW A [], mW (A + 1) [], oB (.slice (some ⟨A + 1 + 1, 0, none⟩) 1 1) [0], lR R [0] 0, oB (.slice (some ⟨w3.heap.size, 0, none⟩) 1 1) [0], mR Q [0] 0] from by rw [← hw]; exact HS.out)
  clear hw
  go_wp2_with fail
  refine (pre_lsb_put_not _ _ _).mono ?_
  rintro e w8 ⟨rfl, hw⟩
  have HS := Lib.hid (show St w w8 [oB (.slice (some ⟨w.heap.size, 0, none⟩) 2 2) [1, 1], tT T [1, 1], lW A [], mW (A + 1) [], oB (.slice (some ⟨A + 1 + 1, 0, none⟩) 1 1) [0], lR R [0] 0, oB (.slice (some ⟨w3.heap.size, 0, none⟩) 1 1) [0], mR Q [0] 0] from by rw [← hw]; exact HS.out)
  clear hw
  go_wp2_with fail
  refine (pre_msb_put_not _ _ _).mono ?_
  rintro e w9 ⟨rfl, hw⟩
  have HS := Lib.hid (show St w w9 [oB (.slice (some ⟨w.heap.size, 0, none⟩) 2 2) [1, 1], tT T [1, 1], lW A [], mW (A + 1) [], oB (.slice (some ⟨A + 1 + 1, 0, none⟩) 1 1) [0], lR R [0] 0, oB (.slice (some ⟨w3.heap.size, 0, none⟩) 1 1) [0], mR Q [0] 0] from by rw [← hw]; exact HS.out)
  clear hw
  go_wp2_with fail
  refine (HS.out.lsb_put_nil 1 rfl ((good_iff _).2 (by decide +kernel)) 0).mono ?_
  rintro e w10 ⟨rfl, hw⟩
  have HS := Lib.hid (show St w w10 [oB (.slice (some ⟨w.heap.size, 0, none⟩) 2 2) [1, 1], tT T [1, 1], lW A [], mW (A + 1) [], oB (.slice (some ⟨A + 1 + 1, 0, none⟩) 1 1) [0], lR R [0] 0, oB (.slice (some ⟨w3.heap.size, 0, none⟩) 1 1) [0], mR Q [0] 0] from by rw [← hw]; exact HS.out)
  clear hw
  go_wp2_with fail
  refine (HS.out.msb_put_nil 1 rfl ((good_iff _).2 (by decide +kernel)) 0).mono ?_
  rintro e w11 ⟨rfl, hw⟩
  have HS := Lib.hid (show St w w11 [oB (.slice (some ⟨w.heap.size, 0, none⟩) 2 2) [1, 1], tT T [1, 1], lW A [], mW (A + 1) [], oB (.slice (some ⟨A + 1 + 1, 0, none⟩) 1 1) [0], lR R [0] 0, oB (.slice (some ⟨w3.heap.size, 0, none⟩) 1 1) [0], mR Q [0] 0] from by rw [← hw]; exact HS.out)
  clear hw
  go_wp2_with fail
  refine (pre_bits_nil _ _).mono ?_
  rintro e w12 ⟨rfl, hw⟩
  have HS := Lib.hid (show St w w12 [oB (.slice (some ⟨w.heap.size, 0, none⟩) 2 2) [1, 1], tT T [1, 1], lW A [], mW (A + 1) [], oB (.slice (some ⟨A + 1 + 1, 0, none⟩) 1 1) [0], lR R [0] 0, oB (.slice (some ⟨w3.heap.size, 0, none⟩) 1 1) [0], mR Q [0] 0] from by rw [← hw]; exact HS.out)
  clear hw
  go_wp2_with fail
  refine (HS.out.lsb_len 2 rfl).mono ?_
  rintro e w13 ⟨rfl, hw⟩
  have HS := Lib.hid (show St w w13 [oB (.slice (some ⟨w.heap.size, 0, none⟩) 2 2) [1, 1], tT T [1, 1], lW A [], mW (A + 1) [], oB (.slice (some ⟨A + 1 + 1, 0, none⟩) 1 1) [0], lR R [0] 0, oB (.slice (some ⟨w3.heap.size, 0, none⟩) 1 1) [0], mR Q [0] 0] from by rw [← hw]; exact HS.out)
  clear hw
  go_wp2_with fail
  refine (HS.out.msb_len 3 rfl).mono ?_
  rintro e w14 ⟨rfl, hw⟩
  have HS := Lib.hid (show St w w14 [oB (.slice (some ⟨w.heap.size, 0, none⟩) 2 2) [1, 1], tT T [1, 1], lW A [], mW (A + 1) [], oB (.slice (some ⟨A + 1 + 1, 0, none⟩) 1 1) [0], lR R [0] 0, oB (.slice (some ⟨w3.heap.size, 0, none⟩) 1 1) [0], mR Q [0] 0] from by rw [← hw]; exact HS.out)
  clear hw
  go_wp2_with fail
  refine (pre_puts _).mono ?_
  rintro e w15 ⟨rfl, x⟩
  have HX := Lib.hid (HS.out.ext.trans x)
  clear x
  go_wp2_with fail
  go_ret
  exact ⟨rfl, HX.out⟩
end Go.Proofs.Ytomnhfcckalkiaa
