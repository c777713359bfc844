/- pressworklaw05.LimitKnown: its walk. -/
import Derived.Test.YtblbggdglndiiaaLimRes
namespace Go.Proofs.Ytblbggdglndiiaa
open Go.RowKit
set_option linter.unusedVariables false

theorem ord_of {F P : List Nat} (h1 : P.Pairwise (Before F)) (h2 : ∀ s ∈ P, s < F.length) (h3 : ∀ s, s < F.length → (s ∈ P ↔ 0 < F.getD s 0)) : IsOrd F P := ⟨h1, fun s => ⟨fun h => ⟨h2 s h, (h3 s (h2 s h)).1 h⟩, fun h => (h3 s h.1).2 h.2⟩⟩
/-- a call that answers, on a literal. -/
theorem lit_ok (w : World) (F P : List Nat) (L n : Nat) (R : List Nat) (xs : List Value) (hx : xs = intsL F) (hn : n = F.length) (h0 : 0 < n) (h1 : 1 ≤ L) (h17 : L ≤ 17) (hl : F.length ≤ 512) (hF : ∀ x ∈ F, x ≤ 2 ^ 40) (hP : IsOrd F P) (hp : P.length ≤ 2 ^ L) (hR : lensP F P (L - 1) = R) :
    Calls Try.prog 11 #[.slice (some ⟨w.heap.size, 0, none⟩) n n, .int .i64 L] (w.alloc (.cells xs.toArray 3)) fun e w' => ∃ ov, e = .returned (.tuple #[ov, .int .i64 0]) ∧ BO w R ov w' := by
  have hv := viewL_ints w F n hn h0 xs hx 3 (0, 0)
  refine (lim_len _ F P L _ hv h1 h17 hl hF hP hp).mono ?_
  rintro e w' ⟨ov, rfl, og, b1, b2, b3⟩
  rw [hR] at b1
  exact ⟨ov, rfl, og, b1, fun g e => by have := b2 g e; simp at this; omega, ((Ext.refl w).alloc _).trans b3⟩
theorem lit_form (w : World) (F P : List Nat) (L n : Nat) (xs : List Value) (hx : xs = intsL F) (hn : n = F.length) (h0 : 0 < n) (h1 : 1 ≤ L) (h17 : L ≤ 17) (hl : F.length ≤ 512) (hF : ∀ x ∈ F, x ≤ 2 ^ 40) (hP : IsOrd F P) (hp : 2 ^ L < P.length) :
    Calls Try.prog 11 #[.slice (some ⟨w.heap.size, 0, none⟩) n n, .int .i64 L] (w.alloc (.cells xs.toArray 3)) fun e w' => e = .returned (.tuple #[.slice none 0 0, .int .i64 2]) ∧ Ext w w' := by
  have hv := viewL_ints w F n hn h0 xs hx 3 (0, 0)
  exact (lim_len_form _ F P L _ hv h1 h17 hl hF hP hp).mono fun e w' ⟨h1, h2⟩ => ⟨h1, ((Ext.refl w).alloc _).trans h2⟩
theorem lit_arg (w : World) (fs : List Int) (lim : Int) (n : Nat) (xs : List Value) (hx : xs = ints fs) (hn : n = fs.length) (h0 : 0 < n) (hl : fs.length ≤ 512) (hb : LenBad fs lim) :
    Calls Try.prog 11 #[.slice (some ⟨w.heap.size, 0, none⟩) n n, .int .i64 lim] (w.alloc (.cells xs.toArray 3)) fun e w' => e = .returned (.tuple #[.slice none 0 0, .int .i64 5]) ∧ Ext w w' := by
  subst hn hx
  have hv : ViewL (w.alloc (.cells (ints fs).toArray 3)) (.slice (some ⟨w.heap.size, 0, none⟩) fs.length fs.length) (ints fs) := by
    refine ⟨some ⟨w.heap.size, 0, none⟩, fs.length, by rw [length_ints], by rw [length_ints]; exact Nat.le_refl _, fun e => (by cases e), fun h => ⟨w.heap.size, 0, rfl, fun j u hu => ?_⟩⟩
    rw [World.cell?, heap_alloc_new]
    simpa using hu
  exact (lim_len_arg _ fs lim _ hv (by omega) hb).mono fun e w' ⟨h1, h2⟩ => ⟨h1, by rw [h2]; exact (Ext.refl w).alloc _⟩
theorem make_ints (w : World) (n : Nat) (hn : n ≤ 2 ^ 40) :
    ∃ w', (Instr.makeSlice 24 (.int .i64 (n : Int)) (.int .i64 (n : Int))).run Try.prog w = .ok (.slice (some ⟨w.heap.size, 0, none⟩) n n) w' ∧ IOn w (List.replicate n 0) (.slice (some ⟨w.heap.size, 0, none⟩) n n) w' := by
  obtain ⟨i0, hi, hz0, hz1, hz2⟩ := info_parts info_int
  obtain ⟨w', h1, h2, h3⟩ := make_ownsL w 24 3 i0 (.int .i64 0) n Try.underlying24 hi hz0 hz1 (by omega) rfl hn
  refine ⟨w', h1, some w.heap.size, ?_, fun g e => (by cases e; exact Nat.le_refl _), h3⟩
  have e : intsL (List.replicate n 0) = List.replicate n (.int .i64 0) := by simp [intsL]
  rw [List.length_replicate, e]; exact h2
theorem kn_ord0 : IsOrd [1, 1, 2, 4] [0, 1, 2, 3] := ord_of (by simp [Before]) (by decide) (by decide)
theorem kn_lens0 : lensP [1, 1, 2, 4] [0, 1, 2, 3] (2 - 1) = [2, 2, 2, 2] := by rw [lensP_eval]; decide +kernel
theorem kn_ord1 : IsOrd [0, 9, 0] [1] := ord_of (by simp) (by decide) (by decide)
theorem kn_lens1 : lensP [0, 9, 0] [1] (1 - 1) = [0, 1, 0] := by rw [lensP_eval]; decide +kernel
theorem kn_ord2 : IsOrd [0, 0] [] := ord_of (by simp) (by decide) (by decide)
theorem kn_lens2 : lensP [0, 0] [] (1 - 1) = [0, 0] := by rw [lensP_eval]; decide +kernel
theorem kn_ord3 : IsOrd [5, 4, 3] [2, 1, 0] := ord_of (by simp [Before]) (by decide) (by decide)
theorem kn_ord8 : IsOrd [21, 13, 8, 5, 3, 2, 1, 1] [6, 7, 5, 4, 3, 2, 1, 0] := ord_of (by simp [Before]) (by decide) (by decide)
theorem kn_lens8 : lensP [21, 13, 8, 5, 3, 2, 1, 1] [6, 7, 5, 4, 3, 2, 1, 0] (7 - 1) = [1, 2, 3, 4, 5, 6, 7, 7] := by rw [lensP_eval]; decide +kernel
theorem kn_ord9 : IsOrd [21, 13, 8, 5, 3, 2, 1, 1] [6, 7, 5, 4, 3, 2, 1, 0] := ord_of (by simp [Before]) (by decide) (by decide)
def kn4 : List Nat := lensF [21, 13, 8, 5, 3, 2, 1, 1] [6, 7, 5, 4, 3, 2, 1, 0] (4 - 1)
theorem kn_lens9 : lensP [21, 13, 8, 5, 3, 2, 1, 1] [6, 7, 5, 4, 3, 2, 1, 0] (4 - 1) = kn4 := lensP_eval _ _ _
theorem kn4_sum : sumTo [21, 13, 8, 5, 3, 2, 1, 1] kn4 8 = 135 ∧ kn4.length = 8 ∧ (∀ x ∈ kn4, x ≤ 2 ^ 8) := by decide +kernel
set_option maxHeartbeats 8000000 in
set_option maxRecDepth 1000000 in
theorem lim_known (w : World) : Calls Try.prog 7 #[] w fun e w' => e = .returned (.bool true) ∧ Ext w w' := by
  obtain ⟨w0, hw0⟩ : ∃ w0, w0 = w := ⟨_, rfl⟩
  have X0 := Lib.hid (show Ext w w0 from by rw [hw0]; exact Ext.refl w)
  rw [show Calls Try.prog 7 #[] w = Calls Try.prog 7 #[] w0 by rw [hw0]]
  clear hw0
  go_enter Try.func7, Try.ntmps7
  go_wp2_with fail
  refine (lit_ok w0 [1, 1, 2, 4] [0, 1, 2, 3] 2 4 [2, 2, 2, 2] [.int .i64 1, .int .i64 1, .int .i64 2, .int .i64 4] rfl rfl (by decide) (by decide) (by decide) (by decide) (by decide) kn_ord0 (by decide) kn_lens0).mono ?_
  rintro e w1 ⟨o0, rfl, hbo⟩
  have B0 := Lib.hid hbo
  have E1 := Lib.hid (show Ext w0 w1 from hbo.toExt)
  have X1 := Lib.hid (show Ext w w1 from X0.out.trans E1.out)
  clear hbo
  go_wp2_with fail
  refine (lit_ok w1 [0, 9, 0] [1] 1 3 [0, 1, 0] [.int .i64 0, .int .i64 9, .int .i64 0] rfl rfl (by decide) (by decide) (by decide) (by decide) (by decide) kn_ord1 (by decide) kn_lens1).mono ?_
  rintro e w2 ⟨o1, rfl, hbo⟩
  have B1 := Lib.hid hbo
  have E2 := Lib.hid (show Ext w1 w2 from hbo.toExt)
  have X2 := Lib.hid (show Ext w w2 from X1.out.trans E2.out)
  clear hbo
  go_wp2_with fail
  refine (lit_ok w2 [0, 0] [] 1 2 [0, 0] [.int .i64 0, .int .i64 0] rfl rfl (by decide) (by decide) (by decide) (by decide) (by decide) kn_ord2 (by decide) kn_lens2).mono ?_
  rintro e w3 ⟨o2, rfl, hbo⟩
  have B2 := Lib.hid hbo
  have E3 := Lib.hid (show Ext w2 w3 from hbo.toExt)
  have X3 := Lib.hid (show Ext w w3 from X2.out.trans E3.out)
  clear hbo
  go_wp2_with fail
  refine (lit_form w3 [5, 4, 3] [2, 1, 0] 1 3 [.int .i64 5, .int .i64 4, .int .i64 3] rfl rfl (by decide) (by decide) (by decide) (by decide) (by decide) kn_ord3 (by decide)).mono ?_
  rintro e w4 ⟨rfl, hx⟩
  have E4 := Lib.hid (show Ext w3 w4 from hx)
  have X4 := Lib.hid (show Ext w w4 from X3.out.trans E4.out)
  clear hx
  go_wp2_with fail
  refine (lit_arg w4 [1] 18 1 [.int .i64 1] rfl rfl (by decide) (by decide) (Or.inr (Or.inl (by decide)))).mono ?_
  rintro e w5 ⟨rfl, hx⟩
  have E5 := Lib.hid (show Ext w4 w5 from hx)
  have X5 := Lib.hid (show Ext w w5 from X4.out.trans E5.out)
  clear hx
  go_wp2_with fail
  refine (lit_arg w5 [-1] 3 1 [.int .i64 (-1)] rfl rfl (by decide) (by decide) (Or.inr (Or.inr (Or.inr (by decide))))).mono ?_
  rintro e w6 ⟨rfl, hx⟩
  have E6 := Lib.hid (show Ext w5 w6 from hx)
  have X6 := Lib.hid (show Ext w w6 from X5.out.trans E6.out)
  clear hx
  go_wp2_with fail
  refine (lit_arg w6 [1099511627777] 3 1 [.int .i64 1099511627777] rfl rfl (by decide) (by decide) (Or.inr (Or.inr (Or.inr (by decide))))).mono ?_
  rintro e w7 ⟨rfl, hx⟩
  have E7 := Lib.hid (show Ext w6 w7 from hx)
  have X7 := Lib.hid (show Ext w w7 from X6.out.trans E7.out)
  clear hx
  obtain ⟨wm, hmk, hio⟩ := make_ints w7 513 (by decide)
  have hcm := lim_len_arg (.slice (some ⟨w7.heap.size, 0, none⟩) 513 513) ((List.replicate 513 0).map fun (x : Nat) => (x : Int)) 3 wm (by rw [ints_nat rfl]; exact hio.viewL) (by simp) (Or.inr (Or.inr (Or.inl (by simp))))
  have hmk2 : (Instr.makeSlice 24 (.int .i64 513) (.int .i64 513)).run Try.prog w7 = .ok (.slice (some ⟨w7.heap.size, 0, none⟩) 513 513) wm := hmk
  have HIO := Lib.hid hio
  have HCM := Lib.hid hcm
  clear hio hcm
  go_wp2_with fail
  refine Calls.mono HCM.out ?_
  rintro e w8 ⟨rfl, hx⟩
  have E8 := Lib.hid (show Ext w7 w8 from (by rw [hx]; exact HIO.out.toExt))
  have X8 := Lib.hid (show Ext w w8 from X7.out.trans E8.out)
  clear hx hmk hmk2 HCM
  go_wp2_with fail
  refine (lit_ok w8 [21, 13, 8, 5, 3, 2, 1, 1] [6, 7, 5, 4, 3, 2, 1, 0] 7 8 [1, 2, 3, 4, 5, 6, 7, 7] [.int .i64 21, .int .i64 13, .int .i64 8, .int .i64 5, .int .i64 3, .int .i64 2, .int .i64 1, .int .i64 1] rfl rfl (by decide) (by decide) (by decide) (by decide) (by decide) kn_ord8 (by decide) kn_lens8).mono ?_
  rintro e w9 ⟨o8, rfl, hbo⟩
  have B8 := Lib.hid hbo
  have E9 := Lib.hid (show Ext w8 w9 from hbo.toExt)
  have X9 := Lib.hid (show Ext w w9 from X8.out.trans E9.out)
  clear hbo
  go_wp2_with fail
  refine (lit_ok w9 [21, 13, 8, 5, 3, 2, 1, 1] [6, 7, 5, 4, 3, 2, 1, 0] 4 8 kn4 [.int .i64 21, .int .i64 13, .int .i64 8, .int .i64 5, .int .i64 3, .int .i64 2, .int .i64 1, .int .i64 1] rfl rfl (by decide) (by decide) (by decide) (by decide) (by decide) kn_ord9 (by decide) kn_lens9).mono ?_
  rintro e w10 ⟨o9, rfl, hbo⟩
  have B9 := Lib.hid hbo
  have E10 := Lib.hid (show Ext w9 w10 from hbo.toExt)
  have X10 := Lib.hid (show Ext w w10 from X9.out.trans E10.out)
  clear hbo
  go_wp2_with fail
  have hsum := lim_sum [21, 13, 8, 5, 3, 2, 1, 1] kn4 (.slice (some ⟨w10.heap.size, 0, none⟩) 8 8) o9 (w10.alloc (.cells #[.int .i64 21, .int .i64 13, .int .i64 8, .int .i64 5, .int .i64 3, .int .i64 2, .int .i64 1, .int .i64 1] 3)) (viewL_ints w10 [21, 13, 8, 5, 3, 2, 1, 1] 8 rfl (by decide) [.int .i64 21, .int .i64 13, .int .i64 8, .int .i64 5, .int .i64 3, .int .i64 2, .int .i64 1, .int .i64 1] rfl 3 (0, 0)) (B9.out.viewL.ext ((Ext.refl w10).alloc _)) (by decide) kn4_sum.2.2 (by decide) kn4_sum.2.1
  rw [show sumTo [21, 13, 8, 5, 3, 2, 1, 1] kn4 ([21, 13, 8, 5, 3, 2, 1, 1] : List Nat).length = 135 from kn4_sum.1] at hsum
  refine hsum.mono ?_
  rintro e w11 ⟨rfl, hx⟩
  clear hsum
  have X11 := Lib.hid (show Ext w10 w11 from ((Ext.refl w10).alloc _).trans hx)
  clear hx
  have V0 := Lib.hid (show View w11 o0 [2, 2, 2, 2] from B0.out.view.ext (E2.out.trans (E3.out.trans (E4.out.trans (E5.out.trans (E6.out.trans (E7.out.trans (E8.out.trans (E9.out.trans (E10.out.trans (X11.out)))))))))))
  have V1 := Lib.hid (show View w11 o1 [0, 1, 0] from B1.out.view.ext (E3.out.trans (E4.out.trans (E5.out.trans (E6.out.trans (E7.out.trans (E8.out.trans (E9.out.trans (E10.out.trans (X11.out))))))))))
  have V2 := Lib.hid (show View w11 o2 [0, 0] from B2.out.view.ext (E4.out.trans (E5.out.trans (E6.out.trans (E7.out.trans (E8.out.trans (E9.out.trans (E10.out.trans (X11.out)))))))))
  have V8 := Lib.hid (show View w11 o8 [1, 2, 3, 4, 5, 6, 7, 7] from B8.out.view.ext (E10.out.trans (X11.out)))
  obtain ⟨wz, hwz⟩ : ∃ wz, wz = w11 := ⟨_, rfl⟩
  have s0 := run_string_view (P := Try.prog) 26 9 5 V0.out Try.underlying26 Try.underlying5 Try.underlying9
  have q0 : ((strOf [2, 2, 2, 2]).toList == [2, 2, 2, 2]) = true := by rw [strOf_toList]; decide
  have s1 := run_string_view (P := Try.prog) 26 9 5 V1.out Try.underlying26 Try.underlying5 Try.underlying9
  have q1 : ((strOf [0, 1, 0]).toList == [0, 1, 0]) = true := by rw [strOf_toList]; decide
  have s2 := run_string_view (P := Try.prog) 26 9 5 V2.out Try.underlying26 Try.underlying5 Try.underlying9
  have q2 : ((strOf [0, 0]).toList == [0, 0]) = true := by rw [strOf_toList]; decide
  have s8 := run_string_view (P := Try.prog) 26 9 5 V8.out Try.underlying26 Try.underlying5 Try.underlying9
  have q8 : ((strOf [1, 2, 3, 4, 5, 6, 7, 7]).toList == [1, 2, 3, 4, 5, 6, 7, 7]) = true := by rw [strOf_toList]; decide
  clear hwz
  go_wp2_with fail
  refine (lim_picks w11).mono ?_
  rintro e w12 ⟨rfl, hx⟩
  have X12 := Lib.hid hx
  clear hx s0 s1 s2 s8 q0 q1 q2 q8
  go_wp2_with fail
  go_ret
  exact ⟨rfl, X10.out.trans (X11.out.trans X12.out)⟩
end Go.Proofs.Ytblbggdglndiiaa
