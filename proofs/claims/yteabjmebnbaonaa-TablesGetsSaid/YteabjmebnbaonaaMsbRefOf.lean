/- pressworkref02: Of, Get. -/
import Derived.Test.YteabjmebnbaonaaMsbRefBits
import Derived.Test.YteabjmebnbaonaaMsbRefNum
namespace Go.Proofs.Yteabjmebnbaonaa
open Go.RowKit
set_option linter.unusedVariables false

set_option maxHeartbeats 800000 in
theorem msb_ref_of (v : Value) (bs : List Nat) (w : World) (hv : ViewL w v (u8s bs)) (hl : bs.length ≤ 2 ^ 40) (hb : ∀ b ∈ bs, b < 256) :
    Calls Try.prog 24 #[v] w (NewRow w (ofBits true bs)) := by
  obtain ⟨ao, cap, rfl, _, _, hc⟩ := hv
  rw [length_u8s] at hc ⊢
  obtain ⟨i0, hi, hz0, hz1, hz2⟩ := info_parts msb_infoB
  have HC := Lib.hid hc
  have HB := Lib.hid hb
  clear hc hb
  go_enter Try.func24, Try.ntmps24
  go_wp2_with fail
  go_loopw [3, 4] (fun ov i wr => ∃ k : Nat, k ≤ bs.length ∧ i = .int .i64 k ∧ ∃ og, Owns wr 4 1 ov og (8 * k) (bls (ofBits true (bs.take k))) ∧ (∀ g, og = some g → w.heap.size ≤ g) ∧ Ext w wr) (fun _ i _ => bs.length - (intOf i).toNat)
  case atStart => exact ⟨0, Nat.zero_le _, rfl, none, Owns.nil _ _ _, fun g e => (by cases e), Ext.refl _⟩
  case round =>
    obtain ⟨k, hk, rfl, og, ho, hn, hx⟩ := hrel
    by_cases hlt : k < bs.length
    · obtain ⟨b, o, rfl, hx2⟩ := HC.out (by omega)
      obtain ⟨x, hxk⟩ : ∃ x, bs[k]? = some x := ⟨_, List.getElem?_eq_getElem hlt⟩
      have hx256 := HB.out x (List.mem_of_getElem? hxk)
      have hcell := cell_touch hx (hx2 k (.int .u8 x) (by simp [u8s, hxk])) (fun f => f)
      have hk1 : (x : Int) % 4294967296 = (x : Int) := by omega
      have HO := Lib.hid ho
      have HN := Lib.hid hn
      have HX := Lib.hid hx
      have HXK := Lib.hid hxk
      clear ho hn hx hx2 hxk
      go_wp2_with fail
      refine (msb_ref_bits x 8 _ (by omega) (by omega)).mono ?_
      rintro e w1 ⟨u, ou, rfl, c1, c2, c3⟩
      rw [length_bitsOf] at c1
      obtain ⟨g, cap2, cur, rfl, rfl, _⟩ : ∃ g cap cur, ou = some g ∧ u = .slice (some ⟨g, 0, none⟩) 8 cap ∧ w1.heap[g]? = some (.cells cur 4 (0, 0)) := by
        rcases c1.form with ⟨_, _, h0, _⟩ | ⟨g, cap, cur, h1, h2, h3, _⟩
        · omega
        · exact ⟨g, cap, cur, h1, h2, h3⟩
      have HNEWS : Hid (∀ j y, (bls (bitsOf true x 8))[j]? = some y → w1.cell? ((⟨g, 0, none⟩ : Addr).add j) = some y) := Lib.hid (c1.1.cells (g := g) rfl)
      have HO1 := Lib.hid (HO.out.keep c3 (fun _ _ f => f))
      have HX1 := Lib.hid (HX.out.trans c3)
      clear c1 c2 c3
      go_wp2_with (at_builtin; go_must (refine wpList_append_own_at _ rfl (.tmp 11) (.tmp 17) 38 rfl 0 4 i0 (.bool false) 1 1 Try.underlying38 hi hz0 hz1 hz2 rfl (by decide) _ (8 * k) (bls (ofBits true (bs.take k))) rfl HO1.out.1 ⟨g, 0, none⟩ 8 cap2 (bls (bitsOf true x 8)) rfl (by rw [length_bls, length_bitsOf]) HNEWS.out (bls_one _) (by unfold maxLen; omega) (by omega) (Nat.zero_le _) ?_))
      intro v' w2 hown' hgrow _ hat
      have hsnoc : bls (ofBits true (bs.take (k + 1))) = bls (ofBits true (bs.take k)) ++ bls (bitsOf true x 8) := by
        obtain ⟨hk2, rfl⟩ := List.getElem?_eq_some_iff.1 HXK.out
        rw [List.take_succ_eq_append_getElem hk2, ofBits_snoc, bls_append]
      have hx3 : Ext w w2 := Touch.grown HX1.out hgrow (fun i e => Or.inr (HN.out i (by rw [← HO1.out.2]; exact e)))
      have hn3 : ∀ g', v'.ownBlock = some g' → w.heap.size ≤ g' := by
        intro g' e
        rcases hat with h | h
        · rw [h, HO1.out.2] at e; exact HN.out g' e
        · rw [h] at e; cases e; exact HX1.out.size
      have HF := Lib.hid (show Owns w2 4 1 v' v'.ownBlock (8 * (k + 1)) (bls (ofBits true (bs.take (k + 1)))) from ⟨by rw [hsnoc]; exact hown', rfl⟩)
      have HX3 := Lib.hid hx3
      have HN3 := Lib.hid hn3
      clear hown' hgrow hat hsnoc hx3 hn3
      go_wp2_with fail
      go_roundw
      case rel => exact ⟨k + 1, by omega, by go_num, _, HF.out, HN3.out, HX3.out⟩
      case measure => simp [intOf]; omega
    · obtain rfl : k = bs.length := by omega
      rw [List.take_length] at ho
      have HO := Lib.hid ho
      have HN := Lib.hid hn
      have HX := Lib.hid hx
      clear ho hn hx hi hz0 hz1 hz2
      go_wp2_with fail
      go_ret
      exact ⟨_, og, rfl, by rw [length_ofBits]; exact HO.out, HN.out, HX.out⟩

theorem msb_ref_get_neg (v : Value) (i : Nat) (n : Int) (w : World) (h : n < 0) :
    Calls Try.prog 60 #[v, .int .i64 i, .int .i64 n] w fun e w' => e = .returned (.tuple #[.int .u32 0, .int .i64 i, .int .i64 5]) ∧ w = w' := by
  go_enter Try.func60, Try.ntmps60
  go_wp2_with fail
  go_ret3
  exact ⟨rfl, rfl⟩
theorem msb_ref_get_big (v : Value) (i : Nat) (n : Int) (w : World) (h : 32 < n) :
    Calls Try.prog 60 #[v, .int .i64 i, .int .i64 n] w fun e w' => e = .returned (.tuple #[.int .u32 0, .int .i64 i, .int .i64 5]) ∧ w = w' := by
  have h0 : ¬ n < 0 := by omega
  go_enter Try.func60, Try.ntmps60
  go_wp2_with fail
  go_ret3
  exact ⟨rfl, rfl⟩
theorem msb_ref_get_far (ao : Option Addr) (len cap : Nat) (i n : Nat) (w : World) (hn : n ≤ 32) (hl : len < 2 ^ 50) (hi : i ≤ len) (h : len < i + n) :
    Calls Try.prog 60 #[.slice ao len cap, .int .i64 i, .int .i64 n] w fun e w' => e = .returned (.tuple #[.int .u32 0, .int .i64 i, .int .i64 2]) ∧ w = w' := by
  have h0 : ¬ (n : Int) < 0 := by omega
  have h1 : ¬ (32 : Int) < (n : Int) := by omega
  have h2 : (len : Int) - i < (n : Int) := by omega
  go_enter Try.func60, Try.ntmps60
  go_wp2_with fail
  go_ret3
  exact ⟨rfl, rfl⟩
theorem msb_ref_get_ok (v : Value) (l : List Bool) (i n : Nat) (w : World) (hv : ViewL w v (bls l)) (hn : n ≤ 32) (hl : l.length < 2 ^ 50) (h : i + n ≤ l.length) :
    Calls Try.prog 60 #[v, .int .i64 i, .int .i64 n] w fun e w' => e = .returned (.tuple #[.int .u32 (numOf true ((l.drop i).take n)), .int .i64 (i + n), .int .i64 0]) ∧ w = w' := by
  obtain ⟨ao, cap, rfl⟩ := hv.shape
  have HV := Lib.hid hv
  clear hv
  have hlen := length_bls l
  have h0 : ¬ (n : Int) < 0 := by omega
  have h1 : ¬ (32 : Int) < (n : Int) := by omega
  have h2 : ¬ (l.length : Int) - i < (n : Int) := by omega
  have hcap : l.length ≤ cap := by obtain ⟨ao', cap', e, h1, _⟩ := HV.out; cases e; omega
  have HL := Lib.hid hlen
  rw [hlen]
  clear hlen
  by_cases hci : cap = i
  · subst hci
    obtain ⟨rfl, hp⟩ := HV.out.piece_end n (by rw [HL.out]; omega)
    have HP := Lib.hid hp
    clear hp
    go_enter Try.func60, Try.ntmps60
    go_wp2_with fail
    refine (msb_number _ [] _ HP.out (by simp)).mono ?_
    rintro e w' ⟨rfl, rfl⟩
    go_wp2_with fail
    go_ret3
    exact ⟨by simp, rfl⟩
  · have hp := HV.out.piece i n (by rw [HL.out]; omega) hci
    have e3 : ((bls l).drop i).take n = bls ((l.drop i).take n) := by simp [bls, List.map_drop, List.map_take]
    rw [e3] at hp
    have HP := Lib.hid hp
    clear hp e3
    go_enter Try.func60, Try.ntmps60
    go_wp2_with fail
    refine (msb_number _ _ _ HP.out (by rw [List.length_take]; omega)).mono ?_
    rintro e w' ⟨rfl, rfl⟩
    go_wp2_with fail
    go_ret3
    exact ⟨rfl, rfl⟩
/-- whatever number of bits. -/
theorem msb_ref_get (v : Value) (l : List Bool) (i : Nat) (n : Int) (w : World) (hv : ViewL w v (bls l)) (hl : l.length < 2 ^ 50) (hi : i ≤ l.length) :
    Calls Try.prog 60 #[v, .int .i64 i, .int .i64 n] w fun e w' => e = .returned (.tuple #[.int .u32 (refR true l i n).1, .int .i64 (refR true l i n).2.1, .int .i64 (refR true l i n).2.2]) ∧ w = w' := by
  by_cases h0 : n < 0
  · rw [show refR true l i n = (0, i, 5) by rw [refR, if_pos (Or.inl h0)]]
    exact msb_ref_get_neg v i n w h0
  by_cases h1 : 32 < n
  · rw [show refR true l i n = (0, i, 5) by rw [refR, if_pos (Or.inr h1)]]
    exact msb_ref_get_big v i n w h1
  obtain ⟨N, rfl⟩ := Int.eq_ofNat_of_zero_le (show 0 ≤ n by omega)
  by_cases h2 : l.length < i + N
  · rw [show refR true l i N = (0, i, 2) by rw [refR, if_neg (by omega), if_pos (by omega)]]
    obtain ⟨ao, cap, rfl⟩ := hv.shape
    rw [length_bls]
    exact msb_ref_get_far ao l.length cap i N w (by omega) hl hi h2
  · rw [show refR true l i N = (numOf true ((l.drop i).take N), i + N, 0) by rw [refR, if_neg (by omega), if_neg (by omega), Int.toNat_natCast]]
    have := msb_ref_get_ok v l i N w hv (by omega) hl (by omega)
    simpa using this
end Go.Proofs.Yteabjmebnbaonaa
