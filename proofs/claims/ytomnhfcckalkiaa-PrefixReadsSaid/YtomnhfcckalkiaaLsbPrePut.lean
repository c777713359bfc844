/- prefix.Table: Bits, PutLow: their walks. -/
import Derived.Test.YtomnhfcckalkiaaPreTab
import Derived.Test.YtomnhfcckalkiaaPreRefW
import Derived.Test.YtomnhfcckalkiaaLsbPut
import Derived.Test.YtomnhfcckalkiaaLsbWr
namespace Go.Proofs.Ytomnhfcckalkiaa
open Go.RowKit
set_option linter.unusedVariables false

/-- how many bits a symbol's word has. -/
def bitsL (L : List Nat) (s : Int) : Nat := if 0 ≤ s ∧ s < L.length then L.getD s.toNat 0 else 0
theorem pre_bits_nil (s : Int) (w : World) : Calls Try.prog 14 #[.pointer none, .int .i64 s] w fun e w' => e = .returned (.int .i64 0) ∧ w = w' := by
  go_enter Try.func14, Try.ntmps14
  go_wp2_with fail
  go_ret
  exact ⟨rfl, rfl⟩
set_option maxHeartbeats 1000000 in
theorem pre_bits (T : Nat) (og og2 : Option Nat) (m : Nat) (L : List Nat) (s : Int) (w : World) (ht : IsT w T og og2 m L) (hg : Good L) :
    Calls Try.prog 14 #[.pointer (some ⟨T, 0, none⟩), .int .i64 s] w fun e w' => e = .returned (.int .i64 (bitsL L s)) ∧ w = w' := by
  obtain ⟨lv, wv, h1, h2, h3, h4⟩ := ht
  obtain ⟨ao, cap, rfl⟩ := h2.shape
  have hg2 := hg.2.1
  have c0 : w.cell? ⟨T, 0, none⟩ = some (.slice ao L.length cap) := by simp [World.cell?, h1]
  by_cases hs : 0 ≤ s ∧ s < L.length
  · obtain ⟨k, rfl⟩ : ∃ k : Nat, s = k := ⟨s.toNat, by omega⟩
    have hk : k < L.length := by omega
    have hki : (k : Int) < (L.length : Int) := by omega
    have hki2 : ¬ (L.length : Int) ≤ (k : Int) := by omega
    obtain ⟨g, rfl, rfl⟩ : ∃ g, og = some g ∧ ao = some ⟨g, 0, none⟩ := by
      rcases h2.form with ⟨_, _, q1, _⟩ | ⟨g, cap, _, q1, q2, _⟩
      · omega
      · cases q2; exact ⟨g, q1, rfl⟩
    obtain ⟨n, hn⟩ : ∃ n, L.getD k 0 = n := ⟨_, rfl⟩
    have cL := h2.cell k _ (getElem?_u8s _ k hk)
    rw [hn] at cL
    have hn20 : n ≤ 20 := by
      rw [← hn, List.getD, List.getElem?_eq_getElem hk]; exact hg.1 _ (List.getElem_mem _)
    have HB := Lib.hid (show bitsL L k = n by rw [bitsL, if_pos hs]; exact hn)
    clear h1 h2 h3 h4 hn hs
    go_enter Try.func14, Try.ntmps14
    go_wp2_with fail
    go_ret
    exact ⟨by rw [HB.out]; rfl, rfl⟩
  · have HB := Lib.hid (show bitsL L s = 0 by rw [bitsL, if_neg hs])
    by_cases h0 : s < 0
    · clear h1 h2 h3 h4
      go_enter Try.func14, Try.ntmps14
      go_wp2_with fail
      go_ret
      exact ⟨by rw [HB.out]; rfl, rfl⟩
    · have h0i : (L.length : Int) ≤ s := by omega
      clear h1 h2 h3 h4
      go_enter Try.func14, Try.ntmps14
      go_wp2_with fail
      go_ret
      exact ⟨by rw [HB.out]; rfl, rfl⟩
theorem bitsOf_one (hi : Bool) (b : Bool) : bitsOf hi b.toNat 1 = [b] := by cases b <;> cases hi <;> rfl
theorem bitsL_pos {L : List Nat} {s : Int} (h : 0 < bitsL L s) : ∃ k : Nat, s = k ∧ k < L.length ∧ bitsL L s = L.getD k 0 := by
  by_cases hs : 0 ≤ s ∧ s < L.length
  · exact ⟨s.toNat, by omega, by omega, by rw [bitsL, if_pos hs]⟩
  · rw [bitsL, if_neg hs] at h; omega
theorem bitsL_le {L : List Nat} (hg : Good L) (s : Int) : bitsL L s ≤ 20 := by
  rcases Nat.eq_zero_or_pos (bitsL L s) with h | h
  · omega
  · obtain ⟨k, rfl, hk, e⟩ := bitsL_pos h
    rw [e, List.getD, List.getElem?_eq_getElem hk]; exact hg.1 _ (List.getElem_mem _)
/-- what a put answers. -/
def putErr (L : List Nat) (s : Int) : Int := if 0 < bitsL L s then 0 else 5
/-- what a put lays. -/
def rowZ (L : List Nat) (s : Int) : List Bool := if 0 < bitsL L s then rowOf L s.toNat else []

set_option maxHeartbeats 1000000 in
theorem pre_lsb_lay_nil (T : Value) (s : Int) (f : Value) (w : World) (hT : T = .pointer none ∨ ∃ t og og2 m L, T = .pointer (some ⟨t, 0, none⟩) ∧ IsT w t og og2 m L ∧ Good L) :
    Calls Try.prog 32 #[T, .pointer none, .int .i64 s, f] w fun e w' => e = .returned (.int .i64 8) ∧ w = w' := by
  rcases hT with rfl | ⟨t, og, og2, m, L, rfl, ht, hg⟩
  · go_enter Try.func32, Try.ntmps32
    go_wp2_with fail
    refine (pre_bits_nil s _).mono ?_
    rintro e w' ⟨rfl, rfl⟩
    go_wp2_with fail
    go_ret
    exact ⟨rfl, rfl⟩
  · have HT := Lib.hid ht
    clear ht
    go_enter Try.func32, Try.ntmps32
    go_wp2_with fail
    refine (pre_bits t og og2 m L s _ HT.out hg).mono ?_
    rintro e w' ⟨rfl, rfl⟩
    go_wp2_with fail
    go_ret
    exact ⟨rfl, rfl⟩
set_option maxHeartbeats 1000000 in
theorem pre_lsb_lay_not (B : Option Addr) (s : Int) (f : Value) (w : World) :
    Calls Try.prog 32 #[.pointer none, .pointer B, .int .i64 s, f] w fun e w' => e = .returned (.int .i64 8) ∧ w = w' := by
  go_enter Try.func32, Try.ntmps32
  go_wp2_with fail
  refine (pre_bits_nil s _).mono ?_
  rintro e w' ⟨rfl, rfl⟩
  go_wp2_with fail
  go_ret
  exact ⟨rfl, rfl⟩
set_option maxHeartbeats 4000000 in
set_option maxRecDepth 100000 in
theorem pre_lsb_lay (T : Nat) (og og2 : Option Nat) (m : Nat) (L : List Nat) (s : Int) (B : Nat) (ow : Option Nat) (l : List Bool) (w : World) (ht : IsT w T og og2 m L) (hg : Good L) (hw : IsW 33 false w B ow l) (hd : ∀ k, TB T og og2 m k → ¬ FP B ow k) (hl : l.length + 100 < 2 ^ 40) :
    Calls Try.prog 32 #[.pointer (some ⟨T, 0, none⟩), .pointer (some ⟨B, 0, none⟩), .int .i64 s, .func (.func 33) #[.pointer (some ⟨B, 0, none⟩)] #[]] w fun e w' =>
      e = .returned (.int .i64 (putErr L s)) ∧ WPost 33 false w B ow (l ++ rowZ L s) w' := by
  have HT := Lib.hid ht
  have HW := Lib.hid hw
  have HD := Lib.hid hd
  clear ht hw hd
  go_enter Try.func32, Try.ntmps32
  go_wp2_with fail
  refine (pre_bits T og og2 m L s _ HT.out hg).mono ?_
  rintro e w' ⟨rfl, rfl⟩
  have hb20 := bitsL_le hg s
  by_cases h0 : 0 < bitsL L s
  · have HZ := Lib.hid (show rowZ L s = rowOf L s.toNat by rw [rowZ, if_pos h0])
    have HI := Lib.hid (show putErr L s = 0 by rw [putErr, if_pos h0])
    obtain ⟨k, rfl, hk, hn⟩ := bitsL_pos h0
    obtain ⟨n, hnn⟩ : ∃ n, bitsL L k = n := ⟨_, rfl⟩
    rw [hnn] at hn h0 hb20 ⊢
    have hn0 : ((n : Int) == 0) = false := beq_eq_false_iff_ne.2 (by omega)
    have hn1 : ¬ (n : Int) = 0 := by omega
    have HN := Lib.hid hn
    have hrl := length_rowOf L k
    rw [← hn] at hrl
    obtain ⟨X, hX⟩ : ∃ X, (wordsL L).getD k 0 = X := ⟨_, rfl⟩
    have hX32 : X < 4294967296 := by
      have h1 := words_lt hg k hk (by omega)
      rw [hX, ← hn] at h1
      have h2 : 2 ^ n ≤ 2 ^ 20 := Nat.pow_le_pow_right (by decide) hb20
      omega
    have HX := Lib.hid hX
    have HRO := Lib.hid (show rowOf L k = bitsOf true X n by rw [rowOf, hX, ← hn])
    clear hn hnn hX
    obtain ⟨N1, hN1⟩ : ∃ N1 : Int, N1 = (n : Int) - 1 := ⟨_, rfl⟩
    go_wp2_with fail
    go_loopw [10] (fun kv wr => ∃ i : Nat, kv = .int .i64 ((n : Int) - 1 - i) ∧ i ≤ n ∧ WPost 33 false w B ow (l ++ (rowOf L k).take i) wr) (fun kv _ => (intOf kv + 1).toNat)
    case atStart => exact ⟨0, by simp, Nat.zero_le _, by simpa using WPost.refl HW.out⟩
    case round =>
      obtain ⟨i, rfl, hi, hp⟩ := hrel
      have HP := Lib.hid hp
      clear hp
      by_cases hin : i < n
      · obtain ⟨q, hq⟩ : ∃ q : Nat, (q : Int) = (n : Int) - 1 - i := ⟨n - 1 - i, by omega⟩
        have hq0 : (0 : Int) ≤ (q : Int) := by omega
        rw [← hq]
        have htk := bitsOf_succ true X n i hin
        rw [← HRO.out] at htk
        have HTK := Lib.hid (show (rowOf L k).take (i + 1) = (rowOf L k).take i ++ [X.testBit q] by rw [htk, if_pos rfl]; congr 3; omega)
        have hq20 : q < 20 := by omega
        have HQ := Lib.hid hq
        obtain ⟨ow', w1, w2, w3⟩ := HP.out
        have ht2 := HT.out.keep w3 HD.out
        obtain ⟨lv, wv, g1, g2, g3, g4⟩ := ht2
        obtain ⟨ao2, cap2, rfl⟩ := g3.shape
        obtain ⟨wg, rfl, rfl⟩ : ∃ g, og2 = some g ∧ ao2 = some ⟨g, 0, none⟩ := by
          rcases g3.form with ⟨_, _, h1, _⟩ | ⟨g, cap, _, h1, h2, _⟩
          · omega
          · cases h2; exact ⟨g, h1, rfl⟩
        have c1 : wr.cell? ⟨T, 1, none⟩ = some (.slice (some ⟨wg, 0, none⟩) L.length cap2) := by simp [World.cell?, g1]
        have cW := g3.cell k _ (getElem?_u32s _ k (by rw [length_wordsL]; exact hk))
        rw [HX.out] at cW
        have hki : (k : Int) < (L.length : Int) := by omega
        have hL5 := hg.2.1
        have HW1 := Lib.hid w1
        have HW2 := Lib.hid w2
        have HW3 := Lib.hid w3
        clear g1 g2 g3 g4 w1 w2 w3 hq htk
        go_wp2_with fail
        clear c1 cW
        have hxq : X / 2 ^ q < 2 ^ 32 := Nat.lt_of_le_of_lt (Nat.div_le_self _ _) hX32
        rw [div_part, u32_and_one _ hxq, show (X / 2 ^ q).testBit 0 = X.testBit q by rw [Nat.testBit_div_two_pow, Nat.zero_add]]
        have hbl := bool_le (X.testBit q)
        refine (lsb_put_ok B (X.testBit q).toNat 1 ow' _ _ HW1.out (by rw [List.length_append, List.length_take]; omega) (by decide) (by omega) (by omega)).mono ?_
        rintro e w5 ⟨rfl, p5⟩
        have HP5 := Lib.hid (show WPost 33 false w B ow (l ++ (rowOf L k).take (i + 1)) w5 from by
          have h := WPost.step HW2.out HW3.out p5
          rwa [bitsOf_one, List.append_assoc, ← HTK.out] at h)
        clear p5
        go_wp2_with fail
        go_roundw
        case rel => exact ⟨i + 1, by congr 1; have := HQ.out; omega, by omega, HP5.out⟩
        case measure => simp only [intOf]; omega
      · obtain rfl : i = n := by omega
        have e1 : ((i : Int) - 1 - i) = -1 := by omega
        rw [e1]
        have HF := Lib.hid (show WPost 33 false w B ow (l ++ rowZ L k) wr by rw [HZ.out, Int.toNat_natCast]; have := HP.out; rwa [List.take_of_length_le (by omega)] at this)
        clear e1
        go_wp2_with fail
        go_ret
        exact ⟨by rw [HI.out]; rfl, HF.out⟩
  · have HZ := Lib.hid (show rowZ L s = [] by rw [rowZ, if_neg h0])
    have HI := Lib.hid (show putErr L s = 5 by rw [putErr, if_neg h0])
    rw [show bitsL L s = 0 by omega]
    go_wp2_with fail
    go_ret
    exact ⟨by rw [HI.out]; rfl, by rw [HZ.out, List.append_nil]; exact WPost.refl HW.out⟩
/-- PutLow. -/
theorem pre_lsb_put (T : Nat) (og og2 : Option Nat) (m : Nat) (L : List Nat) (s : Int) (B : Nat) (ow : Option Nat) (l : List Bool) (w : World) (ht : IsT w T og og2 m L) (hg : Good L) (hw : IsW 33 false w B ow l) (hd : ∀ k, TB T og og2 m k → ¬ FP B ow k) (hl : l.length + 100 < 2 ^ 40) :
    Calls Try.prog 12 #[.pointer (some ⟨T, 0, none⟩), .pointer (some ⟨B, 0, none⟩), .int .i64 s] w fun e w' =>
      e = .returned (.int .i64 (putErr L s)) ∧ WPost 33 false w B ow (l ++ rowZ L s) w' := by
  have HT := Lib.hid ht
  have HW := Lib.hid hw
  have HD := Lib.hid hd
  clear ht hw hd
  go_enter Try.func12, Try.ntmps12
  go_wp2_with fail
  refine (pre_lsb_lay T og og2 m L s B ow l _ HT.out hg HW.out HD.out hl).mono ?_
  rintro e w' ⟨rfl, p⟩
  have HP := Lib.hid p
  clear p
  go_wp2_with fail
  go_ret
  exact ⟨rfl, HP.out⟩
theorem pre_lsb_put_nil (T : Value) (s : Int) (w : World) (hT : T = .pointer none ∨ ∃ t og og2 m L, T = .pointer (some ⟨t, 0, none⟩) ∧ IsT w t og og2 m L ∧ Good L) :
    Calls Try.prog 12 #[T, .pointer none, .int .i64 s] w fun e w' => e = .returned (.int .i64 8) ∧ w = w' := by
  have HT := Lib.hid hT
  clear hT
  go_enter Try.func12, Try.ntmps12
  go_wp2_with fail
  refine (pre_lsb_lay_nil T s _ _ HT.out).mono ?_
  rintro e w' ⟨rfl, rfl⟩
  go_wp2_with fail
  go_ret
  exact ⟨rfl, rfl⟩
theorem pre_lsb_put_not (B : Option Addr) (s : Int) (w : World) :
    Calls Try.prog 12 #[.pointer none, .pointer B, .int .i64 s] w fun e w' => e = .returned (.int .i64 8) ∧ w = w' := by
  go_enter Try.func12, Try.ntmps12
  go_wp2_with fail
  refine (pre_lsb_lay_not B s _ _).mono ?_
  rintro e w' ⟨rfl, rfl⟩
  go_wp2_with fail
  go_ret
  exact ⟨rfl, rfl⟩
end Go.Proofs.Ytomnhfcckalkiaa
