/- TablesKnown: the law's walk (written by gen_tabknown.py). -/
import Derived.Test.YteabjmebnbaonaaTabStC
namespace Go.Proofs.Yteabjmebnbaonaa
open Go.RowKit
set_option linter.unusedVariables false

theorem known_none0 : gLens (rbit true []) (8 * ([] : List Nat).length) 0 3 = none := by rw [gLens, if_pos (by decide)]
theorem known_none1 : gLens (rbit true [0, 0]) (8 * [0, 0].length) 0 3 = none := by
  rw [gLens, if_neg (by decide), show numOf true (fbits (rbit true [0, 0]) 0 5) = 0 by decide +kernel, lenGet, oneLen, if_pos (by decide)]; rfl
theorem known_none2 : gLens (rbit true [168, 0]) (8 * [168, 0].length) 0 3 = none := by
  rw [gLens, if_neg (by decide), show numOf true (fbits (rbit true [168, 0]) 0 5) = 21 by decide +kernel, lenGet, oneLen, if_pos (by decide)]; rfl
theorem known_some : gLens (rbit true [160, 0]) (8 * [160, 0].length) 0 3 = some ([20, 20, 20], 8) := by
  have h := gLens_app [20, 20, 20] ⟨by decide, by decide, by decide⟩ [] [0]
  rw [show packs true (lenBits [20, 20, 20] ++ []) = [160] by decide +kernel, show (lenBits [20, 20, 20]).length = 8 by decide +kernel] at h
  exact h
theorem known_none3 : gLens (rbit true [164, 0]) (8 * [164, 0].length) 0 3 = none := by
  rw [gLens, if_neg (by decide), show numOf true (fbits (rbit true [164, 0]) 0 5) = 20 by decide +kernel, lenGet, oneLen, if_neg (by decide), show rbit true [164, 0] (0 + 5) = true by decide +kernel, if_neg (by decide), if_neg (by decide), show rbit true [164, 0] (0 + 5 + 1) = false by decide +kernel, if_neg (by decide), oneLen, if_pos (by decide)]; rfl
theorem known_snone0 : gSel (rbit true []) (8 * ([] : List Nat).length) 0 2 = none := by rw [gSel, if_pos (by decide)]
theorem known_snone1 : gSel (rbit true [0, 0, 0]) (8 * [0, 0, 0].length) 0 2 = none := by
  rw [gSel, if_neg (by decide), if_pos (by decide +kernel)]
theorem known_snone2 : gSel (rbit true [0, 3, 128]) (8 * [0, 3, 128].length) 0 2 = none := by
  rw [gSel, if_neg (by decide), show numOf true (fbits (rbit true [0, 3, 128]) 0 15) = 1 by decide +kernel, if_neg (by decide), selGet, oneSel, if_neg (by decide), show rbit true [0, 3, 128] (0 + 15) = true by decide +kernel, if_neg (by decide), if_neg (by decide), oneSel, if_neg (by decide), show rbit true [0, 3, 128] (0 + 15 + 1) = true by decide +kernel, if_neg (by decide), if_pos (by decide)]; rfl
theorem known_zeros : (selBits (List.replicate 32767 0)).length = 32782 := by
  rw [selBits, selFrom_zeros, List.length_append, length_bitsOf, List.length_replicate]
theorem not_may_rep (n : Nat) (h : 32767 < n) : ¬ MayI (List.replicate n 0) 2 := fun k => by have := k.2.2.2.1; rw [List.length_replicate] at this; omega
theorem not_mayP_rep (n : Nat) (h : 258 < n) : ¬ MayP (List.replicate n 0) := fun k => by have := k.2.1; rw [List.length_replicate] at this; omega
theorem may_rep (n : Nat) (h0 : 0 < n) (h : n ≤ 32767) : MayN (List.replicate n 0) 2 := ⟨by decide, by decide, by rw [List.length_replicate]; exact h0, by rw [List.length_replicate]; exact h, fun v hv => by rw [(List.mem_replicate.1 hv).2]; decide⟩
theorem rep_le (n : Nat) {α : Type} (x : α) (h : n ≤ 2 ^ 40) : (List.replicate n x).length ≤ 2 ^ 40 := by rw [List.length_replicate]; exact h
theorem viewL_nil (w : World) : ViewL w (.slice none 0 0) (ints []) := ⟨none, 0, rfl, Nat.le_refl _, fun _ => rfl, fun h => by simp [ints] at h⟩
theorem viewL_nil8 (w : World) : ViewL w (.slice none 0 0) (u8s []) := ⟨none, 0, rfl, Nat.le_refl _, fun _ => rfl, fun h => by simp [u8s] at h⟩
theorem view_nil (w : World) : View w (.slice none 0 0) [] := Or.inl ⟨rfl, rfl⟩
theorem St.made {w0 w : World} {Ts : List Thing} (h : St w0 w Ts) (t e : TypeId) (i : TypeInfo) (z : Value) (by_ : Nat) (n : Nat) (L : Int) (hL : L = (n : Int)) (h1 : Try.prog.underlying t = some (.slice e)) (h2 : Try.prog.info? e = some i) (h3 : i.zero = some z) (h4 : i.size = 1) (h5 : i.bytes ≤ 8) (hz : z.cells = #[z]) (hn : n ≤ 2 ^ 20) :
    ∃ w', (Instr.makeSlice t (.int .i64 L) (.int .i64 L)).run Try.prog w = .ok (.slice (some ⟨w.heap.size, 0, none⟩) n n) w' ∧ St w0 w' (Ts ++ [tO e (.slice (some ⟨w.heap.size, 0, none⟩) n n) (List.replicate n z)]) := by
  subst hL
  obtain ⟨w', hrun, r1, r2⟩ := run_make_full (P := Try.prog) w 0 t e i z 1 h1 h2 h3 h4 .i64 .i64 n (by
    have : i.bytes * n ≤ 8 * 2 ^ 20 := Nat.mul_le_mul h5 hn
    omega) (by unfold maxLen; omega) (Nat.zero_le _)
  refine ⟨w', hrun, h.new ((Touch.refl _ w).grown r2 (fun k e => by cases e)) (og := some w.heap.size) ⟨?_, rfl⟩ (fun g e => by cases e; exact Nat.le_refl _)⟩
  rw [hz, Nat.mul_one, made_one] at r1
  rw [List.length_replicate]; exact r1
theorem St.madeB {w0 w : World} {Ts : List Thing} (h : St w0 w Ts) (n : Nat) (L : Int) (hL : L = (n : Int)) (hn : n ≤ 2 ^ 20) :
    ∃ w', (Instr.makeSlice 22 (.int .i64 L) (.int .i64 L)).run Try.prog w = .ok (.slice (some ⟨w.heap.size, 0, none⟩) n n) w' ∧ St w0 w' (Ts ++ [oB (.slice (some ⟨w.heap.size, 0, none⟩) n n) (List.replicate n 0)]) := by
  obtain ⟨i0, hi, hz0, hz1, hz2⟩ := info_parts info_u8
  have := h.made 22 5 i0 (.int .u8 0) 1 n L hL Try.underlying22 hi hz0 hz1 (by omega) rfl hn
  have e : u8s (List.replicate n 0) = List.replicate n (.int .u8 0) := by simp [u8s]
  show ∃ w', _ ∧ St w0 w' (Ts ++ [tO _ _ (u8s (List.replicate n 0))])
  rw [e]; exact this
theorem St.madeN {w0 w : World} {Ts : List Thing} (h : St w0 w Ts) (n : Nat) (L : Int) (hL : L = (n : Int)) (hn : n ≤ 2 ^ 20) :
    ∃ w', (Instr.makeSlice 48 (.int .i64 L) (.int .i64 L)).run Try.prog w = .ok (.slice (some ⟨w.heap.size, 0, none⟩) n n) w' ∧ St w0 w' (Ts ++ [tO 3 (.slice (some ⟨w.heap.size, 0, none⟩) n n) (i64s (List.replicate n 0))]) := by
  obtain ⟨i0, hi, hz0, hz1, hz2⟩ := info_parts info_int
  have := h.made 48 3 i0 (.int .i64 0) 8 n L hL Try.underlying48 hi hz0 hz1 (by omega) rfl hn
  simpa [i64s, List.map_replicate] using this
theorem St.madeI {w0 w : World} {Ts : List Thing} (h : St w0 w Ts) (n : Nat) (L : Int) (hL : L = (n : Int)) (hn : n ≤ 2 ^ 20) :
    ∃ w', (Instr.makeSlice 48 (.int .i64 L) (.int .i64 L)).run Try.prog w = .ok (.slice (some ⟨w.heap.size, 0, none⟩) n n) w' ∧ St w0 w' (Ts ++ [oI (.slice (some ⟨w.heap.size, 0, none⟩) n n) (List.replicate n 0)]) := by
  obtain ⟨i0, hi, hz0, hz1, hz2⟩ := info_parts info_int
  have := h.made 48 3 i0 (.int .i64 0) 8 n L hL Try.underlying48 hi hz0 hz1 (by omega) rfl hn
  have e : ints (List.replicate n 0) = List.replicate n (.int .i64 0) := by simp [ints]
  show ∃ w', _ ∧ St w0 w' (Ts ++ [tO _ _ (ints (List.replicate n 0))])
  rw [e]; exact this
set_option maxHeartbeats 8000000 in
set_option maxRecDepth 100000 in
theorem tab_law_known (w : World) : Calls Try.prog 10 #[] w fun e w' => e = .returned (.bool true) ∧ Ext w w' := by
  obtain ⟨i0, hi, hz0, hz1, hz2⟩ := info_parts info_u8
  obtain ⟨j0, hj, hj0, hj1, hj2⟩ := info_parts info_int
  go_enter Try.func10, Try.ntmps10
  have HS := Lib.hid (show St w _ [mW w.heap.size [], oB (.slice (some ⟨w.heap.size + 1, 0, none⟩) 2 2) [1, 2]] from by have h := ((St.of (Ext.refl w)).newW).lit 5 (u8s [1, 2]) 2 rfl (by decide) (by decide); rw [World.size_alloc] at h; exact h)
  go_wp2_with fail
  refine (HS.out.putL 0 rfl _ [1, 2] (HS.out.viewL 1 rfl) (fun _ => Or.inl ⟨1, _, _, by decide, rfl⟩) (by decide) (by decide)).mono ?_
  rintro e w1 (⟨_, k, _⟩ | ⟨rfl, -, hw⟩)
  · exact absurd k (fun h => absurd h.1 (by decide))
  have HS := Lib.hid (show St w w1 [mW w.heap.size []] from by rw [← hw]; exact HS.out.take 1)
  clear hw
  have HS := Lib.hid (show St w (w1.alloc (.cells (u8s [0, 1, 1]).toArray 5)) [mW w.heap.size [], oB (.slice (some ⟨w1.heap.size, 0, none⟩) 3 3) [0, 1, 1]] from HS.out.lit 5 (u8s [0, 1, 1]) 3 rfl (by decide) (by decide))
  go_wp2_with fail
  refine (HS.out.putL 0 rfl _ [0, 1, 1] (HS.out.viewL 1 rfl) (fun _ => Or.inl ⟨1, _, _, by decide, rfl⟩) (by decide) (by decide)).mono ?_
  rintro e w2 (⟨_, k, _⟩ | ⟨rfl, -, hw⟩)
  · exact absurd k (fun h => absurd (h.2.2 0 (by simp)) (by decide))
  have HS := Lib.hid (show St w w2 [mW w.heap.size []] from by rw [← hw]; exact HS.out.take 1)
  clear hw
  have HS := Lib.hid (show St w (w2.alloc (.cells (u8s [21, 1, 1]).toArray 5)) [mW w.heap.size [], oB (.slice (some ⟨w2.heap.size, 0, none⟩) 3 3) [21, 1, 1]] from HS.out.lit 5 (u8s [21, 1, 1]) 3 rfl (by decide) (by decide))
  go_wp2_with fail
  refine (HS.out.putL 0 rfl _ [21, 1, 1] (HS.out.viewL 1 rfl) (fun _ => Or.inl ⟨1, _, _, by decide, rfl⟩) (by decide) (by decide)).mono ?_
  rintro e w3 (⟨_, k, _⟩ | ⟨rfl, -, hw⟩)
  · exact absurd k (fun h => absurd (h.2.2 21 (by simp)) (by decide))
  have HS := Lib.hid (show St w w3 [mW w.heap.size []] from by rw [← hw]; exact HS.out.take 1)
  clear hw
  obtain ⟨w4, hmk, hs⟩ := HS.out.madeB 259 259 rfl (by decide)
  have HS := Lib.hid hs
  clear hs
  go_wp2_with fail
  clear hmk
  refine (HS.out.putL 0 rfl _ (List.replicate 259 0) (HS.out.viewL 1 rfl) (fun _ => Or.inl ⟨1, _, _, by decide, rfl⟩) (by decide) (rep_le 259 _ (by decide))).mono ?_
  rintro e w5 (⟨_, k, _⟩ | ⟨rfl, -, hw⟩)
  · exact absurd k (not_mayP_rep 259 (by decide))
  have HS := Lib.hid (show St w w5 [mW w.heap.size []] from by rw [← hw]; exact HS.out.take 1)
  clear hw
  have HS := Lib.hid (show St w (w5.alloc (.cells (u8s [1, 1, 1]).toArray 5)) [mW w.heap.size [], oB (.slice (some ⟨w5.heap.size, 0, none⟩) 3 3) [1, 1, 1]] from HS.out.lit 5 (u8s [1, 1, 1]) 3 rfl (by decide) (by decide))
  go_wp2_with fail
  refine (tab_put_nil _ _).mono ?_
  rintro e w6 ⟨rfl, hw⟩
  have HS := Lib.hid (show St w w6 [mW w.heap.size []] from by rw [← hw]; exact HS.out.take 1)
  clear hw
  go_wp2_with fail
  refine (tab_size _ [] _ (viewL_nil8 _) (by decide)).mono ?_
  rintro e w7 ⟨⟨_, k⟩ | ⟨rfl, -⟩, hx⟩
  · exact absurd k (fun h => absurd h.1 (by decide))
  have HS := Lib.hid (show St w w7 [mW w.heap.size []] from HS.out.step hx)
  clear hx
  go_wp2_with fail
  refine (HS.out.putS 0 rfl _ [] 2 (viewL_nil _) (Or.inr (Or.inr (fun b o n c e => by cases e))) (by decide) (by decide)).mono ?_
  rintro e w8 (⟨_, k, _⟩ | ⟨rfl, -, hw⟩)
  · exact absurd k (fun h => absurd h.2.2.1 (by decide))
  have HS := Lib.hid (show St w w8 [mW w.heap.size []] from by rw [← hw]; exact HS.out.take 1)
  clear hw
  have HS := Lib.hid (show St w (w8.alloc (.cells (ints [2]).toArray 3)) [mW w.heap.size [], oI (.slice (some ⟨w8.heap.size, 0, none⟩) 1 1) [2]] from HS.out.lit 3 (ints [2]) 1 rfl (by decide) (by decide))
  go_wp2_with fail
  refine (HS.out.putS 0 rfl _ [2] 2 (HS.out.viewL 1 rfl) (Or.inl ⟨1, _, _, by decide, rfl⟩) (by decide) (by decide)).mono ?_
  rintro e w9 (⟨_, k, _⟩ | ⟨rfl, -, hw⟩)
  · exact absurd k (fun h => absurd (h.2.2.2.2 2 (by simp)).2 (by decide))
  have HS := Lib.hid (show St w w9 [mW w.heap.size []] from by rw [← hw]; exact HS.out.take 1)
  clear hw
  have HS := Lib.hid (show St w (w9.alloc (.cells (ints [-1]).toArray 3)) [mW w.heap.size [], oI (.slice (some ⟨w9.heap.size, 0, none⟩) 1 1) [-1]] from HS.out.lit 3 (ints [-1]) 1 rfl (by decide) (by decide))
  go_wp2_with fail
  refine (HS.out.putS 0 rfl _ [-1] 2 (HS.out.viewL 1 rfl) (Or.inl ⟨1, _, _, by decide, rfl⟩) (by decide) (by decide)).mono ?_
  rintro e w10 (⟨_, k, _⟩ | ⟨rfl, -, hw⟩)
  · exact absurd k (fun h => absurd (h.2.2.2.2 (-1) (by simp)).1 (by decide))
  have HS := Lib.hid (show St w w10 [mW w.heap.size []] from by rw [← hw]; exact HS.out.take 1)
  clear hw
  have HS := Lib.hid (show St w (w10.alloc (.cells (ints [0]).toArray 3)) [mW w.heap.size [], oI (.slice (some ⟨w10.heap.size, 0, none⟩) 1 1) [0]] from HS.out.lit 3 (ints [0]) 1 rfl (by decide) (by decide))
  go_wp2_with fail
  refine (HS.out.putS 0 rfl _ [0] 1 (HS.out.viewL 1 rfl) (Or.inl ⟨1, _, _, by decide, rfl⟩) (by decide) (by decide)).mono ?_
  rintro e w11 (⟨_, k, _⟩ | ⟨rfl, -, hw⟩)
  · exact absurd k (fun h => absurd h.1 (by decide))
  have HS := Lib.hid (show St w w11 [mW w.heap.size []] from by rw [← hw]; exact HS.out.take 1)
  clear hw
  have HS := Lib.hid (show St w (w11.alloc (.cells (ints [0]).toArray 3)) [mW w.heap.size [], oI (.slice (some ⟨w11.heap.size, 0, none⟩) 1 1) [0]] from HS.out.lit 3 (ints [0]) 1 rfl (by decide) (by decide))
  go_wp2_with fail
  refine (HS.out.putS 0 rfl _ [0] 7 (HS.out.viewL 1 rfl) (Or.inl ⟨1, _, _, by decide, rfl⟩) (by decide) (by decide)).mono ?_
  rintro e w12 (⟨_, k, _⟩ | ⟨rfl, -, hw⟩)
  · exact absurd k (fun h => absurd h.2.1 (by decide))
  have HS := Lib.hid (show St w w12 [mW w.heap.size []] from by rw [← hw]; exact HS.out.take 1)
  clear hw
  obtain ⟨w13, hmk, hs⟩ := HS.out.madeI 32768 32768 rfl (by decide)
  have HS := Lib.hid hs
  clear hs
  go_wp2_with fail
  clear hmk
  refine (HS.out.putS 0 rfl _ (List.replicate 32768 0) 2 (HS.out.viewL 1 rfl) (Or.inl ⟨1, _, _, by decide, rfl⟩) (by decide) (rep_le 32768 _ (by decide))).mono ?_
  rintro e w14 (⟨_, k, _⟩ | ⟨rfl, -, hw⟩)
  · exact absurd k (not_may_rep 32768 (by decide))
  have HS := Lib.hid (show St w w14 [mW w.heap.size []] from by rw [← hw]; exact HS.out.take 1)
  clear hw
  have HS := Lib.hid (show St w (w14.alloc (.cells (ints [0]).toArray 3)) [mW w.heap.size [], oI (.slice (some ⟨w14.heap.size, 0, none⟩) 1 1) [0]] from HS.out.lit 3 (ints [0]) 1 rfl (by decide) (by decide))
  go_wp2_with fail
  refine (tab_puts_nil _ _ _).mono ?_
  rintro e w15 ⟨rfl, hw⟩
  have HS := Lib.hid (show St w w15 [mW w.heap.size []] from by rw [← hw]; exact HS.out.take 1)
  clear hw
  go_wp2_with fail
  refine (HS.out.mlen 0 rfl).mono ?_
  rintro e w16 ⟨rfl, hw⟩
  have HS := Lib.hid (show St w w16 [mW w.heap.size []] from by rw [← hw]; exact HS.out)
  clear hw
  obtain ⟨w17, hmk, hs⟩ := HS.out.madeN 32767 32767 rfl (by decide)
  have HS := Lib.hid hs
  clear hs
  go_wp2_with fail
  clear hmk
  refine (HS.out.putN 0 rfl _ (List.replicate 32767 0) 2 (HS.out.viewL 1 rfl) (Or.inl ⟨1, _, _, by decide, rfl⟩) (by decide) (may_rep 32767 (by decide) (by decide))).mono ?_
  rintro e w18 ⟨rfl, hs⟩
  obtain ⟨M, hM⟩ : ∃ M, M = selBits (List.replicate 32767 0) := ⟨_, rfl⟩
  have HML := Lib.hid (show ((M.length : Nat) : Int) = 32782 by rw [hM, known_zeros]; rfl)
  rw [← hM] at hs
  have HS := Lib.hid (show St w w18 [mW w.heap.size M] from hs.take 1)
  clear hs hM
  go_wp2_with fail
  refine (tab_get_nil _ _).mono ?_
  rintro e w19 ⟨rfl, hw⟩
  have HS := Lib.hid (show St w w19 [mW w.heap.size M] from by rw [← hw]; exact HS.out)
  clear hw
  go_wp2_with fail
  refine (HS.out.mnew _ [] (view_nil _) (by decide)).mono ?_
  rintro e w20 ⟨Br, rfl, hs⟩
  have HS := Lib.hid hs
  clear hs
  go_wp2_with fail
  refine (tab_get_arg Br 2 _ (Or.inl (by decide))).mono ?_
  rintro e w21 ⟨rfl, hw⟩
  have HS := Lib.hid (show St w w21 [mW w.heap.size M] from by rw [← hw]; exact HS.out.take 1)
  clear hw
  go_wp2_with fail
  refine (HS.out.mnew _ [] (view_nil _) (by decide)).mono ?_
  rintro e w22 ⟨Br, rfl, hs⟩
  have HS := Lib.hid hs
  clear hs
  go_wp2_with fail
  refine (tab_get_arg Br 259 _ (Or.inr (by decide))).mono ?_
  rintro e w23 ⟨rfl, hw⟩
  have HS := Lib.hid (show St w w23 [mW w.heap.size M] from by rw [← hw]; exact HS.out.take 1)
  clear hw
  go_wp2_with fail
  refine (HS.out.mnew _ [] (view_nil _) (by decide)).mono ?_
  rintro e w24 ⟨Br, rfl, hs⟩
  have HS := Lib.hid hs
  clear hs
  go_wp2_with fail
  refine (HS.out.getLno 1 rfl 3 (by decide) (by decide) (by decide) (by decide) (by decide) known_none0).mono ?_
  rintro e w25 ⟨q, rfl, hs, -⟩
  have HS := Lib.hid (show St w w25 [mW w.heap.size M] from hs.take 1)
  clear hs
  go_wp2_with fail
  have HS := Lib.hid (show St w (w25.alloc (.cells (u8s [0, 0]).toArray 5)) [mW w.heap.size M, oB (.slice (some ⟨w25.heap.size, 0, none⟩) 2 2) [0, 0]] from HS.out.lit 5 (u8s [0, 0]) 2 rfl (by decide) (by decide))
  go_wp2_with fail
  refine (HS.out.mnew _ [0, 0] (HS.out.view 1 rfl rfl) (by decide)).mono ?_
  rintro e w26 ⟨Br, rfl, hs⟩
  have HS := Lib.hid hs
  clear hs
  go_wp2_with fail
  refine (HS.out.getLno 2 rfl 3 (by decide) (by decide) (by decide) (by decide) (by decide) known_none1).mono ?_
  rintro e w27 ⟨q, rfl, hs, -⟩
  have HS := Lib.hid (show St w w27 [mW w.heap.size M] from hs.take 1)
  clear hs
  go_wp2_with fail
  have HS := Lib.hid (show St w (w27.alloc (.cells (u8s [168, 0]).toArray 5)) [mW w.heap.size M, oB (.slice (some ⟨w27.heap.size, 0, none⟩) 2 2) [168, 0]] from HS.out.lit 5 (u8s [168, 0]) 2 rfl (by decide) (by decide))
  go_wp2_with fail
  refine (HS.out.mnew _ [168, 0] (HS.out.view 1 rfl rfl) (by decide)).mono ?_
  rintro e w28 ⟨Br, rfl, hs⟩
  have HS := Lib.hid hs
  clear hs
  go_wp2_with fail
  refine (HS.out.getLno 2 rfl 3 (by decide) (by decide) (by decide) (by decide) (by decide) known_none2).mono ?_
  rintro e w29 ⟨q, rfl, hs, -⟩
  have HS := Lib.hid (show St w w29 [mW w.heap.size M] from hs.take 1)
  clear hs
  go_wp2_with fail
  have HS := Lib.hid (show St w (w29.alloc (.cells (u8s [160, 0]).toArray 5)) [mW w.heap.size M, oB (.slice (some ⟨w29.heap.size, 0, none⟩) 2 2) [160, 0]] from HS.out.lit 5 (u8s [160, 0]) 2 rfl (by decide) (by decide))
  go_wp2_with fail
  refine (HS.out.mnew _ [160, 0] (HS.out.view 1 rfl rfl) (by decide)).mono ?_
  rintro e w30 ⟨Br, rfl, hs⟩
  have HS := Lib.hid hs
  clear hs
  go_wp2_with fail
  refine (HS.out.getLok 2 rfl 3 (by decide) (by decide) (by decide) (by decide) (by decide) [20, 20, 20] 8 known_some).mono ?_
  rintro e w31 ⟨vy, rfl, hs⟩
  have HS := Lib.hid (show St w w31 [mW w.heap.size M, oB (.slice (some ⟨w29.heap.size, 0, none⟩) 2 2) [160, 0], mR Br [160, 0] 8, oB vy [20, 20, 20]] from hs)
  clear hs
  obtain ⟨Bx, hBx⟩ : ∃ Bx, Bx = Br := ⟨_, rfl⟩
  rw [← hBx] at HS
  clear hBx
  go_wp2_with fail
  have HS := Lib.hid (show St w (w31.alloc (.cells (u8s [164, 0]).toArray 5)) [mW w.heap.size M, oB (.slice (some ⟨w29.heap.size, 0, none⟩) 2 2) [160, 0], mR Bx [160, 0] 8, oB vy [20, 20, 20], oB (.slice (some ⟨w31.heap.size, 0, none⟩) 2 2) [164, 0]] from HS.out.lit 5 (u8s [164, 0]) 2 rfl (by decide) (by decide))
  go_wp2_with fail
  refine (HS.out.mnew _ [164, 0] (HS.out.view 4 rfl rfl) (by decide)).mono ?_
  rintro e w32 ⟨Br, rfl, hs⟩
  have HS := Lib.hid hs
  clear hs
  go_wp2_with fail
  refine (HS.out.getLno 5 rfl 3 (by decide) (by decide) (by decide) (by decide) (by decide) known_none3).mono ?_
  rintro e w33 ⟨q, rfl, hs, -⟩
  have HS := Lib.hid (show St w w33 [mW w.heap.size M, oB (.slice (some ⟨w29.heap.size, 0, none⟩) 2 2) [160, 0], mR Bx [160, 0] 8, oB vy [20, 20, 20]] from hs.take 4)
  clear hs
  go_wp2_with fail
  refine (tab_gets_nil _ _).mono ?_
  rintro e w34 ⟨rfl, hw⟩
  have HS := Lib.hid (show St w w34 [mW w.heap.size M, oB (.slice (some ⟨w29.heap.size, 0, none⟩) 2 2) [160, 0], mR Bx [160, 0] 8, oB vy [20, 20, 20]] from by rw [← hw]; exact HS.out)
  clear hw
  go_wp2_with fail
  refine (HS.out.mnew _ [] (view_nil _) (by decide)).mono ?_
  rintro e w35 ⟨Br, rfl, hs⟩
  have HS := Lib.hid hs
  clear hs
  go_wp2_with fail
  refine (tab_gets_arg Br 7 _ (Or.inr (by decide))).mono ?_
  rintro e w36 ⟨rfl, hw⟩
  have HS := Lib.hid (show St w w36 [mW w.heap.size M, oB (.slice (some ⟨w29.heap.size, 0, none⟩) 2 2) [160, 0], mR Bx [160, 0] 8, oB vy [20, 20, 20]] from by rw [← hw]; exact HS.out.take 4)
  clear hw
  go_wp2_with fail
  refine (HS.out.mnew _ [] (view_nil _) (by decide)).mono ?_
  rintro e w37 ⟨Br, rfl, hs⟩
  have HS := Lib.hid hs
  clear hs
  go_wp2_with fail
  refine (HS.out.getSno 4 rfl 2 (by decide) (by decide) (by decide) (by decide) (by decide) known_snone0).mono ?_
  rintro e w38 ⟨q, rfl, hs, -⟩
  have HS := Lib.hid (show St w w38 [mW w.heap.size M, oB (.slice (some ⟨w29.heap.size, 0, none⟩) 2 2) [160, 0], mR Bx [160, 0] 8, oB vy [20, 20, 20]] from hs.take 4)
  clear hs
  go_wp2_with fail
  have HS := Lib.hid (show St w (w38.alloc (.cells (u8s [0, 0, 0]).toArray 5)) [mW w.heap.size M, oB (.slice (some ⟨w29.heap.size, 0, none⟩) 2 2) [160, 0], mR Bx [160, 0] 8, oB vy [20, 20, 20], oB (.slice (some ⟨w38.heap.size, 0, none⟩) 3 3) [0, 0, 0]] from HS.out.lit 5 (u8s [0, 0, 0]) 3 rfl (by decide) (by decide))
  go_wp2_with fail
  refine (HS.out.mnew _ [0, 0, 0] (HS.out.view 4 rfl rfl) (by decide)).mono ?_
  rintro e w39 ⟨Br, rfl, hs⟩
  have HS := Lib.hid hs
  clear hs
  go_wp2_with fail
  refine (HS.out.getSno 5 rfl 2 (by decide) (by decide) (by decide) (by decide) (by decide) known_snone1).mono ?_
  rintro e w40 ⟨q, rfl, hs, -⟩
  have HS := Lib.hid (show St w w40 [mW w.heap.size M, oB (.slice (some ⟨w29.heap.size, 0, none⟩) 2 2) [160, 0], mR Bx [160, 0] 8, oB vy [20, 20, 20]] from hs.take 4)
  clear hs
  go_wp2_with fail
  have HS := Lib.hid (show St w (w40.alloc (.cells (u8s [0, 3, 128]).toArray 5)) [mW w.heap.size M, oB (.slice (some ⟨w29.heap.size, 0, none⟩) 2 2) [160, 0], mR Bx [160, 0] 8, oB vy [20, 20, 20], oB (.slice (some ⟨w40.heap.size, 0, none⟩) 3 3) [0, 3, 128]] from HS.out.lit 5 (u8s [0, 3, 128]) 3 rfl (by decide) (by decide))
  go_wp2_with fail
  refine (HS.out.mnew _ [0, 3, 128] (HS.out.view 4 rfl rfl) (by decide)).mono ?_
  rintro e w41 ⟨Br, rfl, hs⟩
  have HS := Lib.hid hs
  clear hs
  go_wp2_with fail
  refine (HS.out.getSno 5 rfl 2 (by decide) (by decide) (by decide) (by decide) (by decide) known_snone2).mono ?_
  rintro e w42 ⟨q, rfl, hs, -⟩
  have HS := Lib.hid (show St w w42 [mW w.heap.size M, oB (.slice (some ⟨w29.heap.size, 0, none⟩) 2 2) [160, 0], mR Bx [160, 0] 8, oB vy [20, 20, 20]] from hs.take 4)
  clear hs
  have hs1 := run_string_view (P := Try.prog) 22 9 5 (HS.out.view 3 rfl rfl) Try.underlying22 Try.underlying5 Try.underlying9
  have hq1 : ((strOf [20, 20, 20]).toList == [20, 20, 20]) = true := by rw [strOf_toList]; decide
  go_wp2_with fail
  have hln := HS.out.mlen 0 rfl
  rw [HML.out] at hln
  refine hln.mono ?_
  rintro e w' ⟨rfl, rfl⟩
  clear hln
  go_wp2_with fail
  refine (tab_example _).mono ?_
  rintro e we ⟨rfl, xe⟩
  have HX := Lib.hid (HS.out.ext.trans xe)
  clear xe
  go_wp2_with fail
  go_ret
  exact ⟨rfl, HX.out⟩
end Go.Proofs.Yteabjmebnbaonaa
