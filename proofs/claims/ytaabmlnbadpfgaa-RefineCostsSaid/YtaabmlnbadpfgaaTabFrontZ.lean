/- pressworkref24.front: its walk. -/
import Derived.Test.YtaabmlnbadpfgaaBnd5
import Derived.Test.YtaabmlnbadpfgaaBnd1
import Derived.Test.YtaabmlnbadpfgaaBO
namespace Go.Proofs.Ytaabmlnbadpfgaa
open Go.RowKit
set_option linter.unusedVariables false

/-- ints in new memory. -/
def IOt (w : World) (l : List Nat) (v : Value) (wr : World) : Prop := ∃ og, Owns wr 3 1 v og l.length (i64s l) ∧ (∀ g, og = some g → w.heap.size ≤ g) ∧ Ext w wr
theorem IOt.ext {w wr w' : World} {l : List Nat} {v : Value} (h : IOt w l v wr) (hx : Ext wr w') : IOt w l v w' := by
  obtain ⟨og, h1, h2, h3⟩ := h
  exact ⟨og, h1.ext' hx, h2, h3.trans hx⟩
theorem IOt.toExt {w wr : World} {l : List Nat} {v : Value} (h : IOt w l v wr) : Ext w wr := h.choose_spec.2.2
theorem IOt.viewL {w wr : World} {l : List Nat} {v : Value} (h : IOt w l v wr) : ViewL wr v (i64s l) := h.choose_spec.1.viewL
theorem IOt.shape {w wr : World} {l : List Nat} {v : Value} (h : IOt w l v wr) : ∃ ao cap, v = .slice ao l.length cap := h.choose_spec.1.shape
theorem IOt.own {w wr : World} {l : List Nat} {v : Value} (h : IOt w l v wr) : wr.ownsRow 0 3 1 v l.length (i64s l) := h.choose_spec.1.1
theorem io_app {w w1 w2 : World} {l xs : List Nat} {v v' : Value} (h : IOt w l v w1) (hown' : w2.ownsRow 0 3 1 v' (l.length + xs.length) (i64s l ++ i64s xs))
    (hgrow : w1.grownBy w2 v.ownBlock) (hat : v'.ownBlock = v.ownBlock ∨ v'.ownBlock = some w1.heap.size) : IOt w (l ++ xs) v' w2 := by
  obtain ⟨og, h1, h2, h3⟩ := h
  refine ⟨v'.ownBlock, ⟨by rw [i64s_append, List.length_append]; exact hown', rfl⟩, fun g e => ?_, h3.grown hgrow (fun i e => Or.inr (h2 i (by rw [← h1.2]; exact e)))⟩
  rcases hat with hat | hat
  · rw [hat, h1.2] at e; exact h2 g e
  · rw [hat] at e; cases e; exact h3.size
theorem io_new (w : World) (l : List Nat) (xs : List Value) (hx : xs = i64s l) (n : Nat) (hn : n = l.length) (h0 : 0 < n) (hl : n ≤ 2 ^ 20) : IOt w l (.slice (some ⟨w.heap.size, 0, none⟩) n n) (w.alloc (.cells xs.toArray 3)) := by
  subst hx hn
  refine ⟨some w.heap.size, ⟨⟨by rw [length_i64s]; omega, Or.inr ⟨w.heap.size, l.length, (i64s l).toArray, rfl, Nat.zero_le _, heap_alloc_new w _, Nat.le_refl _, by unfold maxLen; omega, by simp [length_i64s], ?_⟩⟩, rfl⟩, fun g e => (by cases e; exact Nat.le_refl _), (Ext.refl w).alloc _⟩
  rw [List.toList_toArray, Nat.mul_one, List.take_of_length_le (by rw [length_i64s]; exact Nat.le_refl _)]
theorem ViewL.take {w : World} {ao : Option Addr} {n cap : Nat} {xs : List Value} (h : ViewL w (.slice ao n cap) xs) (k : Nat) (hk : k ≤ n) : ViewL w (.slice ao k cap) (xs.take k) := by
  obtain ⟨ao', cap', e, h1, h2, h3⟩ := h
  cases e
  have hl : (xs.take k).length = k := by rw [List.length_take]; omega
  refine ⟨ao, cap, by rw [hl], by rw [hl]; omega, h2, fun h0 => ?_⟩
  obtain ⟨b, o, rfl, hc⟩ := h3 (by omega)
  refine ⟨b, o, rfl, fun j u hu => hc j u ?_⟩
  rw [List.getElem?_take] at hu
  split at hu
  · exact hu
  · cases hu
theorem ViewL.drop {w : World} {b o n cap : Nat} {xs : List Value} (h : ViewL w (.slice (some ⟨b, o, none⟩) n cap) xs) (k : Nat) (hk : k < n) : ViewL w (.slice (some ⟨b, o + k, none⟩) (n - k) (cap - k)) (xs.drop k) := by
  obtain ⟨ao', cap', e, h1, h2, h3⟩ := h
  cases e
  have hl : (xs.drop k).length = xs.length - k := by simp
  refine ⟨_, _, by rw [hl], by rw [hl]; omega, fun e => (by cases e), fun h0 => ?_⟩
  obtain ⟨b', o', e, hc⟩ := h3 (by omega)
  cases e
  refine ⟨b, o + k, rfl, fun j u hu => ?_⟩
  rw [List.getElem?_drop] at hu
  rw [← hc (k + j) u hu, Nat.add_assoc]
theorem ViewL.empty (w : World) (a : Addr) (cap : Nat) : ViewL w (.slice (some a) 0 cap) [] := ⟨some a, cap, rfl, Nat.zero_le _, fun e => (by cases e), fun h => by simp at h⟩
set_option maxHeartbeats 1000000 in
theorem tab_front (v : Value) (l : List Nat) (k : Nat) (w : World) (hv : ViewL w v (i64s l)) (hl : l.length = 6) (hk : k < 6) :
    Calls Try.prog 48 #[v, .int .i64 k] w fun e w' => ∃ v', e = .returned v' ∧ IOt w (mtf l k) v' w' := by
  obtain ⟨i0, hi, hz0, hz1, hz2⟩ := info_parts info_int
  obtain ⟨ao, cap, rfl⟩ := hv.shape
  rw [length_i64s, hl] at hv ⊢
  obtain ⟨b, o, rfl, hcap, hc⟩ := viewL_cells hv (by rw [length_i64s, hl]; omega)
  rw [length_i64s, hl] at hcap
  have hck := hc k (.int .i64 (l.getD k 0 : Nat)) (getElem?_i64s l k (by omega))
  obtain ⟨y, hy⟩ : ∃ y, y = l.getD k 0 := ⟨_, rfl⟩
  rw [← hy] at hck
  have hki : (k : Int) < 6 := by omega
  have hki2 : (k : Int) ≤ (cap : Int) := by omega
  have HV := Lib.hid hv
  have HY := Lib.hid hy
  have HL := Lib.hid hl
  have HIO := Lib.hid (io_new w [y] [.int .i64 y] (by simp [i64s]) 1 rfl (by decide) (by decide))
  obtain ⟨T, hT⟩ : ∃ T, T = l.take k := ⟨_, rfl⟩
  have hTl : T.length = k := by rw [hT, List.length_take, hl]; omega
  have HT := Lib.hid hT
  have HTL := Lib.hid hTl
  have HVT := Lib.hid (show ViewL w (.slice (some ⟨b, o, none⟩) k cap) (i64s T) by have := hv.take k (by omega); rwa [show (i64s l).take k = i64s (l.take k) by simp [i64s], ← hT] at this)
  clear hv hc hy hl hT hTl
  go_enter Try.func48, Try.ntmps48
  go_wp2_with (at_builtin; go_must (refine wpList_append_view _ rfl (.tmp 11) (.tmp 14) 23 rfl 0 3 i0 (.int .i64 0) 8 Try.underlying23 hi hz0 hz1 hz2 rfl (.slice (some ⟨w.heap.size, 0, none⟩) 1 1) 1 [.int .i64 y] rfl HIO.out.own _ (i64s T) rfl (HVT.out.ext HIO.out.toExt) (i64s_one _) (by rw [length_i64s, HTL.out]; unfold maxLen; omega) (by rw [length_i64s, HTL.out]; omega) (Nat.zero_le _) ?_))
  intro v2 w2 hown2 hgrow2 hat2
  rw [length_i64s] at hown2
  have HI2 := Lib.hid (io_app (l := [y]) (xs := T) HIO.out hown2 hgrow2 (by rw [World.size_alloc]; exact hat2))
  obtain ⟨a2, cap2, rfl⟩ := HI2.out.shape
  obtain ⟨L2, hL2⟩ : ∃ L2, L2 = [y] ++ T := ⟨_, rfl⟩
  have hl2 : L2.length = k + 1 := by rw [hL2, List.length_append, HTL.out]; simp; omega
  rw [← hL2] at HI2 ⊢
  have HL2 := Lib.hid hL2
  have HLL := Lib.hid hl2
  clear hown2 hgrow2 hat2 hl2 hL2
  by_cases h5 : k = 5
  · subst h5
    have HD0 := Lib.hid (show l.drop (5 + 1) = [] by rw [List.drop_eq_nil_iff, HL.out]; omega)
    by_cases hc6 : cap = 6
    · subst hc6
      go_wp2_with (at_builtin; go_must (refine wpList_append_view _ rfl (.tmp 16) (.tmp 20) 23 rfl 0 3 i0 (.int .i64 0) 8 Try.underlying23 hi hz0 hz1 hz2 rfl (.slice a2 L2.length cap2) L2.length (i64s L2) rfl HI2.out.own _ [] rfl (ViewL.empty _ _ _) (fun u hu => by cases hu) (by rw [HLL.out]; unfold maxLen; simp) (by rw [HLL.out]; simp) (Nat.zero_le _) ?_))
      intro v3 w3 hown3 hgrow3 hat3
      have HI3 := Lib.hid (io_app (xs := []) HI2.out (by simpa [i64s] using hown3) hgrow3 hat3)
      clear hown3 hgrow3 hat3
      go_wp2_with fail
      go_ret
      exact ⟨_, rfl, by rw [mtf, ← HY.out, ← HT.out, HD0.out]; have := HI3.out; rw [HL2.out] at this; simpa using this⟩
    · have k4 : ¬ cap = 5 + 1 := by omega
      go_wp2_with (at_builtin; go_must (refine wpList_append_view _ rfl (.tmp 16) (.tmp 20) 23 rfl 0 3 i0 (.int .i64 0) 8 Try.underlying23 hi hz0 hz1 hz2 rfl (.slice a2 L2.length cap2) L2.length (i64s L2) rfl HI2.out.own _ [] rfl (ViewL.empty _ _ _) (fun u hu => by cases hu) (by rw [HLL.out]; unfold maxLen; simp) (by rw [HLL.out]; simp) (Nat.zero_le _) ?_))
      intro v3 w3 hown3 hgrow3 hat3
      have HI3 := Lib.hid (io_app (xs := []) HI2.out (by simpa [i64s] using hown3) hgrow3 hat3)
      clear hown3 hgrow3 hat3
      go_wp2_with fail
      go_ret
      exact ⟨_, rfl, by rw [mtf, ← HY.out, ← HT.out, HD0.out]; have := HI3.out; rw [HL2.out] at this; simpa using this⟩
  · have k1 : ((k : Int) + 1) < 6 := by omega
    have k2 : ((k : Int) + 1).toNat = k + 1 := by omega
    have k3 : IntKind.i64.wrap ((k : Int) + 1) = (k : Int) + 1 := IntWalk.i64_in _ (by omega)
    have k4 : ¬ cap = k + 1 := by omega
    have k5 : 6 - (k + 1) = 5 - k := by omega
    have HVD := Lib.hid (show ViewL w (.slice (some ⟨b, o + (k + 1), none⟩) (5 - k) (cap - (k + 1))) (i64s (l.drop (k + 1))) by have := HV.out.drop (k + 1) (by omega); rwa [show (i64s l).drop (k + 1) = i64s (l.drop (k + 1)) by simp [i64s], k5] at this)
    obtain ⟨D, hD⟩ : ∃ D, D = l.drop (k + 1) := ⟨_, rfl⟩
    rw [← hD] at HVD
    have hDl : D.length = 5 - k := by rw [hD, List.length_drop, HL.out]; omega
    have HD := Lib.hid hD
    have HDL := Lib.hid hDl
    clear hD hDl
    go_wp2_with (at_builtin; go_must (refine wpList_append_view _ rfl (.tmp 16) (.tmp 20) 23 rfl 0 3 i0 (.int .i64 0) 8 Try.underlying23 hi hz0 hz1 hz2 rfl (.slice a2 L2.length cap2) L2.length (i64s L2) rfl HI2.out.own _ (i64s D) rfl (HVD.out.ext HI2.out.toExt) (i64s_one _) (by rw [length_i64s, HDL.out, HLL.out]; unfold maxLen; omega) (by rw [length_i64s, HDL.out, HLL.out]; omega) (Nat.zero_le _) ?_))
    intro v3 w3 hown3 hgrow3 hat3
    rw [length_i64s] at hown3
    have HI3 := Lib.hid (io_app HI2.out hown3 hgrow3 hat3)
    clear hown3 hgrow3 hat3
    go_wp2_with fail
    go_ret
    exact ⟨_, rfl, by rw [mtf, ← HY.out, ← HT.out, ← HD.out]; have := HI3.out; rw [HL2.out] at this; simpa using this⟩
end Go.Proofs.Ytaabmlnbadpfgaa
