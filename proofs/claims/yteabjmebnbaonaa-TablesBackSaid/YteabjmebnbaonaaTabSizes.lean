/- TablesSizes: the law's walk. -/
import Derived.Test.YteabjmebnbaonaaTabPuts
namespace Go.Proofs.Yteabjmebnbaonaa
open Go.RowKit
set_option linter.unusedVariables false

/-- the steps between lengths, up to the k-th. -/
def stp (l : List Nat) : Nat → Nat
  | 0 => 0
  | k + 1 => stp l k + if k = 0 then 0 else (l.getD k 0 - l.getD (k - 1) 0) + (l.getD (k - 1) 0 - l.getD k 0)
theorem stp_le (l : List Nat) (h : ∀ x ∈ l, x ≤ 20) : ∀ k, stp l k ≤ 40 * k
  | 0 => Nat.le_refl _
  | k + 1 => by
    have h1 := stp_le l h k
    have hg : ∀ i, l.getD i 0 ≤ 20 := fun i => by
      by_cases hi : i < l.length
      · simpa [List.getD, List.getElem?_eq_getElem hi] using h _ (List.getElem_mem hi)
      · simp [List.getD, List.getElem?_eq_none (Nat.le_of_not_lt hi)]
    have h2 := hg k
    have h3 := hg (k - 1)
    rw [stp]
    split <;> omega
theorem lenTo_stp (l : List Nat) : ∀ k, (lenTo l k).length = 5 + k + 2 * stp l k
  | 0 => by simp [lenTo, stp, length_bitsOf]
  | k + 1 => by
    rw [lenTo, stp]
    simp only [List.length_append, lenTo_stp l k, upB_len, downB_len, List.length_cons, List.length_nil]
    by_cases h : k = 0
    · subst h; simp [atK]; omega
    · rw [if_neg h, atK, if_neg h]; omega
theorem size_stp (l : List Nat) : (lenBits l).length = 5 + l.length + 2 * stp l l.length := lenTo_stp l l.length
theorem stp_flat (c n : Nat) : ∀ k, k ≤ n → stp (List.replicate n c) k = 0
  | 0, _ => rfl
  | k + 1, h => by
    rw [stp, stp_flat c n k (by omega)]
    have hg : ∀ i, i < n → (List.replicate n c).getD i 0 = c := fun i hi => by simp [List.getD, hi]
    by_cases h0 : k = 0
    · rw [if_pos h0]
    · rw [if_neg h0, hg k (by omega), hg (k - 1) (by omega)]; omega
def one20 (x : Nat) : Nat := 1 + x % 20
theorem one20_int (x : Nat) : (1 : Int) + (x : Int) % 20 = ((one20 x : Nat) : Int) := by unfold one20; omega
theorem one20_lt (x : Nat) : 1 ≤ one20 x ∧ one20 x ≤ 20 := by unfold one20; omega
set_option maxHeartbeats 4000000 in
set_option maxRecDepth 100000 in
theorem tab_sizes_some (v : Value) (bs : List Nat) (c : Nat) (w : World) (hv : ViewL w v (u8s bs)) (hb : ∀ b ∈ bs, b < 256) (hl : 3 ≤ bs.length) (hl2 : bs.length ≤ 258) (hc : c < 256) :
    Calls Try.prog 9 #[v, .int .u8 c] w fun e w' => e = .returned (.bool true) ∧ Ext w w' := by
  obtain ⟨i0, hi, hz0, hz1, hz2⟩ := info_parts info_u8
  obtain ⟨ao, cap, rfl⟩ := hv.shape
  rw [length_u8s] at *
  obtain ⟨b, o, rfl, _, hcell⟩ := viewL_cells hv (by rw [length_u8s]; omega)
  have HC := Lib.hid (show ∀ wr, Ext w wr → ∀ (k x : Nat), bs[k]? = some x → wr.cell? ⟨b, o + k, none⟩ = some (.int .u8 x) from fun wr hx k x hk => cell_touch hx (hcell k (.int .u8 x) (by simp [u8s, hk])) (fun f => f))
  have HB := Lib.hid hb
  have g1 : ¬ (258 : Int) < (bs.length : Int) := by omega
  have g2 : ¬ (bs.length : Int) < 3 := by omega
  obtain ⟨A, hA⟩ : ∃ A, A = bs.map one20 := ⟨_, rfl⟩
  have HAL := Lib.hid (show A.length = bs.length by rw [hA, List.length_map])
  have HAG := Lib.hid (show ∀ (k x : Nat), bs[k]? = some x → A[k]? = some (one20 x) from fun k x hk => by rw [hA]; simp [hk])
  have HA20 := Lib.hid (show ∀ x ∈ A, 1 ≤ x ∧ x ≤ 20 from fun x hx => by
    rw [hA] at hx
    obtain ⟨y, _, rfl⟩ := List.mem_map.1 hx
    unfold one20; omega)
  have HST := Lib.hid (fun k => stp_le A (fun x hx => (HA20.out x hx).2) k)
  clear hv hcell hb hA
  go_enter Try.func9, Try.ntmps9
  go_wp2_with fail
  have HS0 := Lib.hid (show St w w [oB (.slice none 0 0) [], oB (.slice none 0 0) []] from ((St.of (Ext.refl w)).new (Ext.refl w) (Owns.nil w 5 1) (fun g e => by cases e)).new (Ext.refl w) (Owns.nil w 5 1) (fun g e => by cases e))
  go_loopw [5, 6, 7, 8] (fun av bv sv iv wr => ∃ k : Nat, iv = .int .i64 k ∧ sv = .int .i64 (stp A k : Nat) ∧ k ≤ bs.length ∧ St w wr [oB av (A.take k), oB bv (List.replicate k (one20 c))]) (fun _ _ _ iv _ => bs.length - (intOf iv).toNat)
  case atStart => exact ⟨0, rfl, rfl, Nat.zero_le _, HS0.out⟩
  case round =>
    clear HS0
    obtain ⟨k, rfl, rfl, hk, hst⟩ := hrel
    have hak : (A.take k).length = k := by have := HAL.out; rw [List.length_take]; omega
    have hrk : (List.replicate k (one20 c)).length = k := List.length_replicate ..
    obtain ⟨a1, c1, rfl⟩ := hst.shapeB 0 rfl hak
    obtain ⟨a2, c2, rfl⟩ := hst.shapeB 1 rfl hrk
    have HS := Lib.hid hst
    have HAK := Lib.hid hak
    have HRK := Lib.hid hrk
    clear hst hak hrk
    by_cases hlt : k < bs.length
    · have hlti : (k : Int) < (bs.length : Int) := by omega
      obtain ⟨x, hx⟩ : ∃ x, bs[k]? = some x := ⟨_, List.getElem?_eq_getElem hlt⟩
      have hc1 := HC.out wr HS.out.ext k x hx
      have hx8 := HB.out x (List.mem_of_getElem? hx)
      have HX := Lib.hid hx
      clear hx
      obtain ⟨y, hy⟩ : ∃ y, y = one20 x := ⟨_, rfl⟩
      obtain ⟨z, hz⟩ : ∃ z, z = one20 c := ⟨_, rfl⟩
      have HYV := Lib.hid (show (1 : Int) + (x : Int) % 20 = (y : Nat) from hy ▸ one20_int x)
      have HZV := Lib.hid (show (1 : Int) + (c : Int) % 20 = (z : Nat) from hz ▸ one20_int c)
      have hy20 : 1 ≤ y ∧ y ≤ 20 := hy ▸ one20_lt x
      have hz20 : 1 ≤ z ∧ z ≤ 20 := hz ▸ one20_lt c
      rw [← hz] at HS HRK
      have HY := Lib.hid (show A[k]? = some y from hy ▸ HAG.out k x HX.out)
      have HTK := Lib.hid (show A.take (k + 1) = A.take k ++ [y] by
        have := HAL.out
        rw [List.take_succ_eq_append_getElem (show k < A.length by omega)]
        have h2 := HY.out
        rw [List.getElem?_eq_getElem (show k < A.length by omega)] at h2
        rw [Option.some.inj h2])
      clear hy hz
      go_wp2_with (at_builtin; go_must (refine wpList_append_own_at _ rfl (.tmp 25) (.tmp 32) 22 rfl 0 5 i0 (.int .u8 0) 1 1 Try.underlying22 hi hz0 hz1 hz2 rfl (by decide) _ k (u8s (A.take k)) rfl ((HS.out.rowB 0 rfl HAK.out).alloc _) ⟨wr.heap.size, 0, none⟩ 1 1 [.int .u8 (1 + (x : Int) % 20)] rfl rfl (news _ _ _ _) (by simp [Value.oneCell']) (by unfold maxLen; omega) (by omega) (Nat.zero_le _) ?_))
      intro v' w5 hown' hgrow _ hat
      rw [HYV.out] at hown'
      have h5 := HS.out.snocB 0 rfl HAK.out.symm hown' hgrow hat
      obtain ⟨a5, c5, rfl⟩ := h5.shapeB 0 rfl (n := k + 1) (by rw [List.length_append, HAK.out]; rfl)
      have HS5 := Lib.hid h5
      clear hown' hgrow hat h5 hc1
      go_wp2_with (at_builtin; go_must (refine wpList_append_own_at _ rfl (.tmp 34) (.tmp 38) 22 rfl 0 5 i0 (.int .u8 0) 1 1 Try.underlying22 hi hz0 hz1 hz2 rfl (by decide) _ k (u8s (List.replicate k z)) rfl ((HS5.out.rowB 1 rfl HRK.out).alloc _) ⟨w5.heap.size, 0, none⟩ 1 1 [.int .u8 (1 + (c : Int) % 20)] rfl rfl (news _ _ _ _) (by simp [Value.oneCell']) (by unfold maxLen; omega) (by omega) (Nat.zero_le _) ?_))
      intro v6 w6 hown' hgrow _ hat
      rw [HZV.out] at hown'
      have h6 := HS5.out.snocB 1 rfl HRK.out.symm hown' hgrow hat
      have HS6 := Lib.hid (show St w w6 [oB (.slice a5 (k + 1) c5) (A.take (k + 1)), oB v6 (List.replicate (k + 1) z)] from by
        rw [HTK.out, List.replicate_succ']; exact h6)
      clear hown' hgrow hat h6
      by_cases hk0 : k = 0
      · have hki : ¬ (0 : Int) < (k : Int) := by omega
        have HST1 := Lib.hid (show stp A k = stp A (k + 1) by rw [stp, if_pos hk0]; rfl)
        have HZ := Lib.hid (show z = one20 c by have := HZV.out; rw [one20_int] at this; omega)
        clear hk0
        go_wp2_with fail
        go_roundw
        case rel => exact ⟨k + 1, by go_num, by rw [HST1.out], by omega, by rw [← HZ.out]; exact HS6.out⟩
        case measure => simp [intOf]; omega
      · have hki : (0 : Int) < (k : Int) := by omega
        obtain ⟨y0, hy0⟩ : ∃ y0, A[k - 1]? = some y0 := ⟨_, List.getElem?_eq_getElem (by have := HAL.out; omega)⟩
        have hy020 := HA20.out y0 (List.mem_of_getElem? hy0)
        have HST1 := Lib.hid (show stp A (k + 1) = stp A k + ((y - y0) + (y0 - y)) by
          rw [stp, if_neg hk0]
          have h1 := HY.out
          simp [List.getD, h1, hy0])
        have HZ := Lib.hid (show z = one20 c by have := HZV.out; rw [one20_int] at this; omega)
        have hta : (A.take (k + 1)).length = k + 1 := by have := HAL.out; rw [List.length_take]; omega
        obtain ⟨b5, o5, rfl, _, hc5⟩ := viewL_cells (by have := HS6.out.viewL 0 rfl; exact this) (by rw [length_u8s, hta]; omega)
        have q1 := hc5 k (.int .u8 y) (by rw [u8s, List.getElem?_map, List.getElem?_take, if_pos (by omega), HY.out]; rfl)
        have q2 := hc5 (k - 1) (.int .u8 y0) (by rw [u8s, List.getElem?_map, List.getElem?_take, if_pos (by omega), hy0]; rfl)
        have e1 : ((k : Int) - 1).toNat = k - 1 := by omega
        have e2 : (0 : Int) ≤ (k : Int) - 1 := by omega
        have e3 : (k : Int) - 1 < (k : Int) + 1 := by omega
        have hsl := HST.out k
        clear hc5 hy0 hta hk0
        by_cases hyy : (y : Int) - (y0 : Int) ≤ -((y : Int) - (y0 : Int))
        · have HST2 := Lib.hid (show (stp A k : Int) + (-((y : Int) - (y0 : Int))) = (stp A (k + 1) : Nat) by rw [HST1.out]; omega)
          go_wp2_with fail
          go_quiet (fail)
          go_wp2_with fail
          go_roundw
          case rel => exact ⟨k + 1, by go_num, by rw [← HST2.out]; go_num, by omega, by rw [← HZ.out]; exact HS6.out.step ((Ext.refl _).drewN _)⟩
          case measure => simp [intOf]; omega
        · have HST2 := Lib.hid (show (stp A k : Int) + ((y : Int) - (y0 : Int)) = (stp A (k + 1) : Nat) by rw [HST1.out]; omega)
          go_wp2_with fail
          go_quiet (fail)
          go_wp2_with fail
          go_roundw
          case rel => exact ⟨k + 1, by go_num, by rw [← HST2.out], by omega, by rw [← HZ.out]; exact HS6.out.step ((Ext.refl _).drewN _)⟩
          case measure => simp [intOf]; omega
    · obtain rfl : k = bs.length := by omega
      have hsl := HST.out bs.length
      have HS2 := Lib.hid (show St w wr [oB (.slice a1 bs.length c1) A, oB (.slice a2 bs.length c2) (List.replicate bs.length (one20 c))] from by
        have h := HS.out; rw [List.take_of_length_le (by have := HAL.out; omega)] at h; exact h)
      have HSA := Lib.hid (show (((lenBits A).length : Nat) : Int) = 5 + (bs.length : Int) + 2 * (stp A bs.length : Int) by have h := size_stp A; rw [HAL.out] at h; omega)
      have HSB := Lib.hid (show (((lenBits (List.replicate bs.length (one20 c))).length : Nat) : Int) = 5 + (bs.length : Int) by
        have h := size_stp (List.replicate bs.length (one20 c))
        rw [List.length_replicate, stp_flat _ _ _ (Nat.le_refl _)] at h; omega)
      have HMA := Lib.hid (show MayP A from ⟨by have := HAL.out; omega, by have := HAL.out; omega, HA20.out⟩)
      have HMB := Lib.hid (show MayP (List.replicate bs.length (one20 c)) from ⟨by simpa using hl, by simpa using hl2, fun x hx => by rw [(List.mem_replicate.1 hx).2]; exact one20_lt c⟩)
      go_wp2_with fail
      refine (tab_size _ A _ (HS2.out.viewL 0 rfl) (by have := HAL.out; omega)).mono ?_
      rintro e w7 ⟨⟨rfl, -⟩ | ⟨rfl, hm⟩, x7⟩
      · rw [HSA.out]
        have HS7 := Lib.hid (HS2.out.step x7)
        clear x7
        go_wp2_with fail
        refine (tab_size _ (List.replicate bs.length (one20 c)) _ (HS7.out.viewL 1 rfl) (by rw [List.length_replicate]; omega)).mono ?_
        rintro e w8 ⟨⟨rfl, -⟩ | ⟨rfl, hm⟩, x8⟩
        · rw [HSB.out]
          have HX8 := Lib.hid (HS7.out.ext.trans x8)
          clear x8
          go_wp2_with fail
          refine (tab_example _).mono ?_
          rintro e w9 ⟨rfl, x9⟩
          have HX9 := Lib.hid (HX8.out.trans x9)
          clear x9
          go_wp2_with fail
          go_ret
          exact ⟨rfl, HX9.out⟩
        · exact absurd HMB.out hm
      · exact absurd HMA.out hm
theorem tab_sizes (v : Value) (bs : List Nat) (c : Nat) (w : World) (hv : View w v bs ∧ ViewL w v (u8s bs)) (hb : ∀ b ∈ bs, b < 256) (hbm : bs.length ≤ 140737488351232) (hc : c < 256) :
    Calls Try.prog 9 #[v, .int .u8 c] w fun e w' => e = .returned (.bool true) ∧ Ext w w' := by
  by_cases h1 : 258 < bs.length
  · obtain ⟨ao, cap, rfl⟩ := hv.2.shape
    rw [length_u8s] at *
    clear hv hb
    have h1 : (258 : Int) < (bs.length : Int) := by omega
    go_enter Try.func9, Try.ntmps9
    go_wp2_with fail
    refine (tab_example _).mono ?_
    rintro e w9 ⟨rfl, x9⟩
    have HX9 := Lib.hid x9
    clear x9
    go_wp2_with fail
    go_ret
    exact ⟨rfl, HX9.out⟩
  · by_cases h2 : bs.length < 3
    · obtain ⟨ao, cap, rfl⟩ := hv.2.shape
      rw [length_u8s] at *
      clear hv hb
      have h1 : ¬ (258 : Int) < (bs.length : Int) := by omega
      have h2 : (bs.length : Int) < 3 := by omega
      go_enter Try.func9, Try.ntmps9
      go_wp2_with fail
      refine (tab_example _).mono ?_
      rintro e w9 ⟨rfl, x9⟩
      have HX9 := Lib.hid x9
      clear x9
      go_wp2_with fail
      go_ret
      exact ⟨rfl, HX9.out⟩
    · exact tab_sizes_some v bs c w hv.2 hb (by omega) (by omega) hc
end Go.Proofs.Yteabjmebnbaonaa
