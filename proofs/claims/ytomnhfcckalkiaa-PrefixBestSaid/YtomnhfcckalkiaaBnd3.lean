/- prefix.Table: Bits, PutLow: their walks. A table, and rows of rows, as things apart. prefix.Table: Bits, PutHigh: their walks. prefix.Table: GetLow: its walk. prefix.Table: GetHigh: its walk. The calls of the Prefix laws, upon things apart. The calls of the Prefix laws, upon things apart. -/
import Derived.Test.YtomnhfcckalkiaaPreTab
import Derived.Test.YtomnhfcckalkiaaPreRefW
import Derived.Test.YtomnhfcckalkiaaLsbPut
import Derived.Test.YtomnhfcckalkiaaLsbWr
import Derived.Test.YtomnhfcckalkiaaPreRows
import Derived.Test.YtomnhfcckalkiaaPreNew
import Derived.Test.YtomnhfcckalkiaaMsbPut
import Derived.Test.YtomnhfcckalkiaaMsbWr
import Derived.BigQuiet
import Derived.Test.YtomnhfcckalkiaaLsbGet
import Derived.Test.YtomnhfcckalkiaaLsbRd
import Derived.Test.YtomnhfcckalkiaaMsbGet
import Derived.Test.YtomnhfcckalkiaaMsbRd
import Derived.Lib.SmallJoins
/-! prefix.Table: Bits, PutLow: their walks. -/
namespace Go.Proofs.Ytomnhfcckalkiaa
open Go.RowKit
set_option linter.unusedVariables false

/-- how many bits a symbol's word has. -/
def bitsL (L : List Nat) (s : Int) : Nat := if 0 ≤ s ∧ s < L.length then L.getD s.toNat 0 else 0
theorem pre_bits_nil (s : Int) (w : World) : Calls Try.prog 14 #[.pointer none, .int .i64 s] w fun e w' => e = .returned (.int .i64 0) ∧ w = w' := by
  go_enter Try.func14, Try.ntmps14
  go_wp2_with fail
  go_ret
  exact ⟨rfl, rfl⟩
set_option maxHeartbeats 1000000 in
theorem pre_bits (T : Nat) (og og2 : Option Nat) (m : Nat) (L : List Nat) (s : Int) (w : World) (ht : IsT w T og og2 m L) (hg : Good L) :
    Calls Try.prog 14 #[.pointer (some ⟨T, 0, none⟩), .int .i64 s] w fun e w' => e = .returned (.int .i64 (bitsL L s)) ∧ w = w' := by
  obtain ⟨lv, wv, h1, h2, h3, h4⟩ := ht
  obtain ⟨ao, cap, rfl⟩ := h2.shape
  have hg2 := hg.2.1
  have c0 : w.cell? ⟨T, 0, none⟩ = some (.slice ao L.length cap) := by simp [World.cell?, h1]
  by_cases hs : 0 ≤ s ∧ s < L.length
  · obtain ⟨k, rfl⟩ : ∃ k : Nat, s = k := ⟨s.toNat, by omega⟩
    have hk : k < L.length := by omega
    have hki : (k : Int) < (L.length : Int) := by omega
    have hki2 : ¬ (L.length : Int) ≤ (k : Int) := by omega
    obtain ⟨g, rfl, rfl⟩ : ∃ g, og = some g ∧ ao = some ⟨g, 0, none⟩ := by
      rcases h2.form with ⟨_, _, q1, _⟩ | ⟨g, cap, _, q1, q2, _⟩
      · omega
      · cases q2; exact ⟨g, q1, rfl⟩
    obtain ⟨n, hn⟩ : ∃ n, L.getD k 0 = n := ⟨_, rfl⟩
    have cL := h2.cell k _ (getElem?_u8s _ k hk)
    rw [hn] at cL
    have hn20 : n ≤ 20 := by
      rw [← hn, List.getD, List.getElem?_eq_getElem hk]; exact hg.1 _ (List.getElem_mem _)
    have HB := Lib.hid (show bitsL L k = n by rw [bitsL, if_pos hs]; exact hn)
    clear h1 h2 h3 h4 hn hs
    go_enter Try.func14, Try.ntmps14
    go_wp2_with fail
    go_ret
    exact ⟨by rw [HB.out]; rfl, rfl⟩
  · have HB := Lib.hid (show bitsL L s = 0 by rw [bitsL, if_neg hs])
    by_cases h0 : s < 0
    · clear h1 h2 h3 h4
      go_enter Try.func14, Try.ntmps14
      go_wp2_with fail
      go_ret
      exact ⟨by rw [HB.out]; rfl, rfl⟩
    · have h0i : (L.length : Int) ≤ s := by omega
      clear h1 h2 h3 h4
      go_enter Try.func14, Try.ntmps14
      go_wp2_with fail
      go_ret
      exact ⟨by rw [HB.out]; rfl, rfl⟩
theorem bitsOf_one (hi : Bool) (b : Bool) : bitsOf hi b.toNat 1 = [b] := by cases b <;> cases hi <;> rfl
theorem bitsL_pos {L : List Nat} {s : Int} (h : 0 < bitsL L s) : ∃ k : Nat, s = k ∧ k < L.length ∧ bitsL L s = L.getD k 0 := by
  by_cases hs : 0 ≤ s ∧ s < L.length
  · exact ⟨s.toNat, by omega, by omega, by rw [bitsL, if_pos hs]⟩
  · rw [bitsL, if_neg hs] at h; omega
theorem bitsL_le {L : List Nat} (hg : Good L) (s : Int) : bitsL L s ≤ 20 := by
  rcases Nat.eq_zero_or_pos (bitsL L s) with h | h
  · omega
  · obtain ⟨k, rfl, hk, e⟩ := bitsL_pos h
    rw [e, List.getD, List.getElem?_eq_getElem hk]; exact hg.1 _ (List.getElem_mem _)
/-- what a put answers. -/
def putErr (L : List Nat) (s : Int) : Int := if 0 < bitsL L s then 0 else 5
/-- what a put lays. -/
def rowZ (L : List Nat) (s : Int) : List Bool := if 0 < bitsL L s then rowOf L s.toNat else []

set_option maxHeartbeats 1000000 in
theorem pre_lsb_lay_nil (T : Value) (s : Int) (f : Value) (w : World) (hT : T = .pointer none ∨ ∃ t og og2 m L, T = .pointer (some ⟨t, 0, none⟩) ∧ IsT w t og og2 m L ∧ Good L) :
    Calls Try.prog 32 #[T, .pointer none, .int .i64 s, f] w fun e w' => e = .returned (.int .i64 8) ∧ w = w' := by
  rcases hT with rfl | ⟨t, og, og2, m, L, rfl, ht, hg⟩
  · go_enter Try.func32, Try.ntmps32
    go_wp2_with fail
    refine (pre_bits_nil s _).mono ?_
    rintro e w' ⟨rfl, rfl⟩
    go_wp2_with fail
    go_ret
    exact ⟨rfl, rfl⟩
  · have HT := Lib.hid ht
    clear ht
    go_enter Try.func32, Try.ntmps32
    go_wp2_with fail
    refine (pre_bits t og og2 m L s _ HT.out hg).mono ?_
    rintro e w' ⟨rfl, rfl⟩
    go_wp2_with fail
    go_ret
    exact ⟨rfl, rfl⟩
set_option maxHeartbeats 1000000 in
theorem pre_lsb_lay_not (B : Option Addr) (s : Int) (f : Value) (w : World) :
    Calls Try.prog 32 #[.pointer none, .pointer B, .int .i64 s, f] w fun e w' => e = .returned (.int .i64 8) ∧ w = w' := by
  go_enter Try.func32, Try.ntmps32
  go_wp2_with fail
  refine (pre_bits_nil s _).mono ?_
  rintro e w' ⟨rfl, rfl⟩
  go_wp2_with fail
  go_ret
  exact ⟨rfl, rfl⟩
set_option maxHeartbeats 4000000 in
set_option maxRecDepth 100000 in
theorem pre_lsb_lay (T : Nat) (og og2 : Option Nat) (m : Nat) (L : List Nat) (s : Int) (B : Nat) (ow : Option Nat) (l : List Bool) (w : World) (ht : IsT w T og og2 m L) (hg : Good L) (hw : IsW 33 false w B ow l) (hd : ∀ k, TB T og og2 m k → ¬ FP B ow k) (hl : l.length + 100 < 2 ^ 40) :
    Calls Try.prog 32 #[.pointer (some ⟨T, 0, none⟩), .pointer (some ⟨B, 0, none⟩), .int .i64 s, .func (.func 33) #[.pointer (some ⟨B, 0, none⟩)] #[]] w fun e w' =>
      e = .returned (.int .i64 (putErr L s)) ∧ WPost 33 false w B ow (l ++ rowZ L s) w' := by
  have HT := Lib.hid ht
  have HW := Lib.hid hw
  have HD := Lib.hid hd
  clear ht hw hd
  go_enter Try.func32, Try.ntmps32
  go_wp2_with fail
  refine (pre_bits T og og2 m L s _ HT.out hg).mono ?_
  rintro e w' ⟨rfl, rfl⟩
  have hb20 := bitsL_le hg s
  by_cases h0 : 0 < bitsL L s
  · have HZ := Lib.hid (show rowZ L s = rowOf L s.toNat by rw [rowZ, if_pos h0])
    have HI := Lib.hid (show putErr L s = 0 by rw [putErr, if_pos h0])
    obtain ⟨k, rfl, hk, hn⟩ := bitsL_pos h0
    obtain ⟨n, hnn⟩ : ∃ n, bitsL L k = n := ⟨_, rfl⟩
    rw [hnn] at hn h0 hb20 ⊢
    have hn0 : ((n : Int) == 0) = false := beq_eq_false_iff_ne.2 (by omega)
    have hn1 : ¬ (n : Int) = 0 := by omega
    have HN := Lib.hid hn
    have hrl := length_rowOf L k
    rw [← hn] at hrl
    obtain ⟨X, hX⟩ : ∃ X, (wordsL L).getD k 0 = X := ⟨_, rfl⟩
    have hX32 : X < 4294967296 := by
      have h1 := words_lt hg k hk (by omega)
      rw [hX, ← hn] at h1
      have h2 : 2 ^ n ≤ 2 ^ 20 := Nat.pow_le_pow_right (by decide) hb20
      omega
    have HX := Lib.hid hX
    have HRO := Lib.hid (show rowOf L k = bitsOf true X n by rw [rowOf, hX, ← hn])
    clear hn hnn hX
    obtain ⟨N1, hN1⟩ : ∃ N1 : Int, N1 = (n : Int) - 1 := ⟨_, rfl⟩
    go_wp2_with fail
    go_loopw [10] (fun kv wr => ∃ i : Nat, kv = .int .i64 ((n : Int) - 1 - i) ∧ i ≤ n ∧ WPost 33 false w B ow (l ++ (rowOf L k).take i) wr) (fun kv _ => (intOf kv + 1).toNat)
    case atStart => exact ⟨0, by simp, Nat.zero_le _, by simpa using WPost.refl HW.out⟩
    case round =>
      obtain ⟨i, rfl, hi, hp⟩ := hrel
      have HP := Lib.hid hp
      clear hp
      by_cases hin : i < n
      · obtain ⟨q, hq⟩ : ∃ q : Nat, (q : Int) = (n : Int) - 1 - i := ⟨n - 1 - i, by omega⟩
        have hq0 : (0 : Int) ≤ (q : Int) := by omega
        rw [← hq]
        have htk := bitsOf_succ true X n i hin
        rw [← HRO.out] at htk
        have HTK := Lib.hid (show (rowOf L k).take (i + 1) = (rowOf L k).take i ++ [X.testBit q] by rw [htk, if_pos rfl]; congr 3; omega)
        have hq20 : q < 20 := by omega
        have HQ := Lib.hid hq
        obtain ⟨ow', w1, w2, w3⟩ := HP.out
        have ht2 := HT.out.keep w3 HD.out
        obtain ⟨lv, wv, g1, g2, g3, g4⟩ := ht2
        obtain ⟨ao2, cap2, rfl⟩ := g3.shape
        obtain ⟨wg, rfl, rfl⟩ : ∃ g, og2 = some g ∧ ao2 = some ⟨g, 0, none⟩ := by
          rcases g3.form with ⟨_, _, h1, _⟩ | ⟨g, cap, _, h1, h2, _⟩
          · omega
          · cases h2; exact ⟨g, h1, rfl⟩
        have c1 : wr.cell? ⟨T, 1, none⟩ = some (.slice (some ⟨wg, 0, none⟩) L.length cap2) := by simp [World.cell?, g1]
        have cW := g3.cell k _ (getElem?_u32s _ k (by rw [length_wordsL]; exact hk))
        rw [HX.out] at cW
        have hki : (k : Int) < (L.length : Int) := by omega
        have hL5 := hg.2.1
        have HW1 := Lib.hid w1
        have HW2 := Lib.hid w2
        have HW3 := Lib.hid w3
        clear g1 g2 g3 g4 w1 w2 w3 hq htk
        go_wp2_with fail
        clear c1 cW
        have hxq : X / 2 ^ q < 2 ^ 32 := Nat.lt_of_le_of_lt (Nat.div_le_self _ _) hX32
        rw [div_part, u32_and_one _ hxq, show (X / 2 ^ q).testBit 0 = X.testBit q by rw [Nat.testBit_div_two_pow, Nat.zero_add]]
        have hbl := bool_le (X.testBit q)
        refine (lsb_put_ok B (X.testBit q).toNat 1 ow' _ _ HW1.out (by rw [List.length_append, List.length_take]; omega) (by decide) (by omega) (by omega)).mono ?_
        rintro e w5 ⟨rfl, p5⟩
        have HP5 := Lib.hid (show WPost 33 false w B ow (l ++ (rowOf L k).take (i + 1)) w5 from by
          have h := WPost.step HW2.out HW3.out p5
          rwa [bitsOf_one, List.append_assoc, ← HTK.out] at h)
        clear p5
        go_wp2_with fail
        go_roundw
        case rel => exact ⟨i + 1, by congr 1; have := HQ.out; omega, by omega, HP5.out⟩
        case measure => simp only [intOf]; omega
      · obtain rfl : i = n := by omega
        have e1 : ((i : Int) - 1 - i) = -1 := by omega
        rw [e1]
        have HF := Lib.hid (show WPost 33 false w B ow (l ++ rowZ L k) wr by rw [HZ.out, Int.toNat_natCast]; have := HP.out; rwa [List.take_of_length_le (by omega)] at this)
        clear e1
        go_wp2_with fail
        go_ret
        exact ⟨by rw [HI.out]; rfl, HF.out⟩
  · have HZ := Lib.hid (show rowZ L s = [] by rw [rowZ, if_neg h0])
    have HI := Lib.hid (show putErr L s = 5 by rw [putErr, if_neg h0])
    rw [show bitsL L s = 0 by omega]
    go_wp2_with fail
    go_ret
    exact ⟨by rw [HI.out]; rfl, by rw [HZ.out, List.append_nil]; exact WPost.refl HW.out⟩
/-- PutLow. -/
theorem pre_lsb_put (T : Nat) (og og2 : Option Nat) (m : Nat) (L : List Nat) (s : Int) (B : Nat) (ow : Option Nat) (l : List Bool) (w : World) (ht : IsT w T og og2 m L) (hg : Good L) (hw : IsW 33 false w B ow l) (hd : ∀ k, TB T og og2 m k → ¬ FP B ow k) (hl : l.length + 100 < 2 ^ 40) :
    Calls Try.prog 12 #[.pointer (some ⟨T, 0, none⟩), .pointer (some ⟨B, 0, none⟩), .int .i64 s] w fun e w' =>
      e = .returned (.int .i64 (putErr L s)) ∧ WPost 33 false w B ow (l ++ rowZ L s) w' := by
  have HT := Lib.hid ht
  have HW := Lib.hid hw
  have HD := Lib.hid hd
  clear ht hw hd
  go_enter Try.func12, Try.ntmps12
  go_wp2_with fail
  refine (pre_lsb_lay T og og2 m L s B ow l _ HT.out hg HW.out HD.out hl).mono ?_
  rintro e w' ⟨rfl, p⟩
  have HP := Lib.hid p
  clear p
  go_wp2_with fail
  go_ret
  exact ⟨rfl, HP.out⟩
theorem pre_lsb_put_nil (T : Value) (s : Int) (w : World) (hT : T = .pointer none ∨ ∃ t og og2 m L, T = .pointer (some ⟨t, 0, none⟩) ∧ IsT w t og og2 m L ∧ Good L) :
    Calls Try.prog 12 #[T, .pointer none, .int .i64 s] w fun e w' => e = .returned (.int .i64 8) ∧ w = w' := by
  have HT := Lib.hid hT
  clear hT
  go_enter Try.func12, Try.ntmps12
  go_wp2_with fail
  refine (pre_lsb_lay_nil T s _ _ HT.out).mono ?_
  rintro e w' ⟨rfl, rfl⟩
  go_wp2_with fail
  go_ret
  exact ⟨rfl, rfl⟩
theorem pre_lsb_put_not (B : Option Addr) (s : Int) (w : World) :
    Calls Try.prog 12 #[.pointer none, .pointer B, .int .i64 s] w fun e w' => e = .returned (.int .i64 8) ∧ w = w' := by
  go_enter Try.func12, Try.ntmps12
  go_wp2_with fail
  refine (pre_lsb_lay_not B s _ _).mono ?_
  rintro e w' ⟨rfl, rfl⟩
  go_wp2_with fail
  go_ret
  exact ⟨rfl, rfl⟩
end Go.Proofs.Ytomnhfcckalkiaa

/-! A table, and rows of rows, as things apart. -/
namespace Go.Proofs.Ytomnhfcckalkiaa
open Go.RowKit
set_option linter.unusedVariables false

def tT (B : Nat) (L : List Nat) : Thing where
  has w S := ∃ og og2 m, IsT w B og og2 m L ∧ ∀ k, S k ↔ TB B og og2 m k
  keep := fun ⟨og, og2, m, h, e⟩ t n => ⟨og, og2, m, h.keep t (fun k hk => n k ((e k).2 hk)), e⟩
  lt := fun ⟨og, og2, m, h, e⟩ k hk => h.lt k ((e k).1 hk)
def tRows (v : Value) (rows : List (List Nat)) : Thing where
  has w S := ∃ og In, RowsB w og In v rows ∧ ∀ k, S k ↔ (og = some k ∨ In k)
  keep := fun ⟨og, In, h, e⟩ t n => ⟨og, In, h.keep t (fun g eg => n g ((e g).2 (Or.inl eg))) (fun g eg => n g ((e g).2 (Or.inr eg))), e⟩
  lt := fun ⟨og, In, h, e⟩ k hk => by
    rcases (e k).1 hk with hk | hk
    · exact h.glt k hk
    · exact h.lt k hk
theorem St.tab {w0 w w' : World} {Ts : List Thing} {L : List Nat} {B : Nat} {og og2 : Option Nat} {m : Nat} (h : St w0 w Ts) (ht : IsT w' B og og2 m L) (hn : ∀ k, TB B og og2 m k → w.heap.size ≤ k) (x : Ext w w') : St w0 w' (Ts ++ [tT B L]) :=
  h.add x _ (TB B og og2 m) ⟨og, og2, m, ht, fun _ => Iff.rfl⟩ hn
theorem St.rws {w0 w w' : World} {Ts : List Thing} {rows : List (List Nat)} {v : Value} (h : St w0 w Ts) (hr : RRw w rows v w') : St w0 w' (Ts ++ [tRows v rows]) := by
  obtain ⟨og, In, h1, h2, h3⟩ := hr
  exact h.add h3 _ (fun k => og = some k ∨ In k) ⟨og, In, h1, fun _ => Iff.rfl⟩ (fun k hk => (h2 k hk).1)
theorem St.bits {w0 w : World} {Ts : List Thing} {B : Nat} {L : List Nat} (h : St w0 w Ts) (j : Nat) (hj : Ts[j]? = some (tT B L)) (hg : Good L) (s : Int) :
    Calls Try.prog 14 #[.pointer (some ⟨B, 0, none⟩), .int .i64 s] w fun e w' => e = .returned (.int .i64 (bitsL L s)) ∧ w = w' := by
  obtain ⟨S, og, og2, m, h1, _⟩ := h.has hj
  exact pre_bits B og og2 m L s w h1 hg
/-- a row of rows: its cells. -/
theorem St.rowsAt {w0 w : World} {Ts : List Thing} {v : Value} {rows : List (List Nat)} (h : St w0 w Ts) (j : Nat) (hj : Ts[j]? = some (tRows v rows)) (n : Nat) (hn : rows.length = n) :
    ∃ ao cap, v = .slice ao n cap ∧ ∀ (i : Nat) (r : List Nat) (m : Nat), rows[i]? = some r → r.length = m → ∃ g uo uc, ao = some ⟨g, 0, none⟩ ∧ w.cell? ⟨g, i, none⟩ = some (.slice uo m uc) ∧ ViewL w (.slice uo m uc) (u8s r) ∧ View w (.slice uo m uc) r := by
  subst hn
  obtain ⟨S, og, In, ⟨⟨vs, o, hi⟩, _, _⟩, _⟩ := h.has hj
  obtain ⟨ao, cap, rfl⟩ := o.shape
  refine ⟨ao, cap, rfl, fun i r m hr hm => ?_⟩
  subst hm
  obtain ⟨u, gi, k1, k2, k3⟩ := hi i r hr
  obtain ⟨uo, uc, rfl⟩ := k2.shape
  rcases o.form with ⟨_, _, h0, _⟩ | ⟨g, c, cur, e1, e2, _⟩
  · have := getE_lt hr; omega
  · cases e2
    cases e1
    refine ⟨g, uo, uc, rfl, o.cell i _ k1, ?_, k2.view⟩
    have := k2.viewL
    exact this
end Go.Proofs.Ytomnhfcckalkiaa

/-! prefix.Table: Bits, PutHigh: their walks. -/
namespace Go.Proofs.Ytomnhfcckalkiaa
open Go.RowKit
set_option linter.unusedVariables false


set_option maxHeartbeats 1000000 in
theorem pre_msb_lay_nil (T : Value) (s : Int) (f : Value) (w : World) (hT : T = .pointer none ∨ ∃ t og og2 m L, T = .pointer (some ⟨t, 0, none⟩) ∧ IsT w t og og2 m L ∧ Good L) :
    Calls Try.prog 34 #[T, .pointer none, .int .i64 s, f] w fun e w' => e = .returned (.int .i64 8) ∧ w = w' := by
  rcases hT with rfl | ⟨t, og, og2, m, L, rfl, ht, hg⟩
  · go_enter Try.func34, Try.ntmps34
    go_wp2_with fail
    refine (pre_bits_nil s _).mono ?_
    rintro e w' ⟨rfl, rfl⟩
    go_wp2_with fail
    go_ret
    exact ⟨rfl, rfl⟩
  · have HT := Lib.hid ht
    clear ht
    go_enter Try.func34, Try.ntmps34
    go_wp2_with fail
    refine (pre_bits t og og2 m L s _ HT.out hg).mono ?_
    rintro e w' ⟨rfl, rfl⟩
    go_wp2_with fail
    go_ret
    exact ⟨rfl, rfl⟩
set_option maxHeartbeats 1000000 in
theorem pre_msb_lay_not (B : Option Addr) (s : Int) (f : Value) (w : World) :
    Calls Try.prog 34 #[.pointer none, .pointer B, .int .i64 s, f] w fun e w' => e = .returned (.int .i64 8) ∧ w = w' := by
  go_enter Try.func34, Try.ntmps34
  go_wp2_with fail
  refine (pre_bits_nil s _).mono ?_
  rintro e w' ⟨rfl, rfl⟩
  go_wp2_with fail
  go_ret
  exact ⟨rfl, rfl⟩
set_option maxHeartbeats 4000000 in
set_option maxRecDepth 100000 in
theorem pre_msb_lay (T : Nat) (og og2 : Option Nat) (m : Nat) (L : List Nat) (s : Int) (B : Nat) (ow : Option Nat) (l : List Bool) (w : World) (ht : IsT w T og og2 m L) (hg : Good L) (hw : IsW 35 true w B ow l) (hd : ∀ k, TB T og og2 m k → ¬ FP B ow k) (hl : l.length + 100 < 2 ^ 40) :
    Calls Try.prog 34 #[.pointer (some ⟨T, 0, none⟩), .pointer (some ⟨B, 0, none⟩), .int .i64 s, .func (.func 35) #[.pointer (some ⟨B, 0, none⟩)] #[]] w fun e w' =>
      e = .returned (.int .i64 (putErr L s)) ∧ WPost 35 true w B ow (l ++ rowZ L s) w' := by
  have HT := Lib.hid ht
  have HW := Lib.hid hw
  have HD := Lib.hid hd
  clear ht hw hd
  go_enter Try.func34, Try.ntmps34
  go_wp2_with fail
  refine (pre_bits T og og2 m L s _ HT.out hg).mono ?_
  rintro e w' ⟨rfl, rfl⟩
  have hb20 := bitsL_le hg s
  by_cases h0 : 0 < bitsL L s
  · have HZ := Lib.hid (show rowZ L s = rowOf L s.toNat by rw [rowZ, if_pos h0])
    have HI := Lib.hid (show putErr L s = 0 by rw [putErr, if_pos h0])
    obtain ⟨k, rfl, hk, hn⟩ := bitsL_pos h0
    obtain ⟨n, hnn⟩ : ∃ n, bitsL L k = n := ⟨_, rfl⟩
    rw [hnn] at hn h0 hb20 ⊢
    have hn0 : ((n : Int) == 0) = false := beq_eq_false_iff_ne.2 (by omega)
    have hn1 : ¬ (n : Int) = 0 := by omega
    have HN := Lib.hid hn
    have hrl := length_rowOf L k
    rw [← hn] at hrl
    obtain ⟨X, hX⟩ : ∃ X, (wordsL L).getD k 0 = X := ⟨_, rfl⟩
    have hX32 : X < 4294967296 := by
      have h1 := words_lt hg k hk (by omega)
      rw [hX, ← hn] at h1
      have h2 : 2 ^ n ≤ 2 ^ 20 := Nat.pow_le_pow_right (by decide) hb20
      omega
    have HX := Lib.hid hX
    have HRO := Lib.hid (show rowOf L k = bitsOf true X n by rw [rowOf, hX, ← hn])
    clear hn hnn hX
    obtain ⟨N1, hN1⟩ : ∃ N1 : Int, N1 = (n : Int) - 1 := ⟨_, rfl⟩
    go_wp2_with fail
    go_loopw [10] (fun kv wr => ∃ i : Nat, kv = .int .i64 ((n : Int) - 1 - i) ∧ i ≤ n ∧ WPost 35 true w B ow (l ++ (rowOf L k).take i) wr) (fun kv _ => (intOf kv + 1).toNat)
    case atStart => exact ⟨0, by simp, Nat.zero_le _, by simpa using WPost.refl HW.out⟩
    case round =>
      obtain ⟨i, rfl, hi, hp⟩ := hrel
      have HP := Lib.hid hp
      clear hp
      by_cases hin : i < n
      · obtain ⟨q, hq⟩ : ∃ q : Nat, (q : Int) = (n : Int) - 1 - i := ⟨n - 1 - i, by omega⟩
        have hq0 : (0 : Int) ≤ (q : Int) := by omega
        rw [← hq]
        have htk := bitsOf_succ true X n i hin
        rw [← HRO.out] at htk
        have HTK := Lib.hid (show (rowOf L k).take (i + 1) = (rowOf L k).take i ++ [X.testBit q] by rw [htk, if_pos rfl]; congr 3; omega)
        have hq20 : q < 20 := by omega
        have HQ := Lib.hid hq
        obtain ⟨ow', w1, w2, w3⟩ := HP.out
        have ht2 := HT.out.keep w3 HD.out
        obtain ⟨lv, wv, g1, g2, g3, g4⟩ := ht2
        obtain ⟨ao2, cap2, rfl⟩ := g3.shape
        obtain ⟨wg, rfl, rfl⟩ : ∃ g, og2 = some g ∧ ao2 = some ⟨g, 0, none⟩ := by
          rcases g3.form with ⟨_, _, h1, _⟩ | ⟨g, cap, _, h1, h2, _⟩
          · omega
          · cases h2; exact ⟨g, h1, rfl⟩
        have c1 : wr.cell? ⟨T, 1, none⟩ = some (.slice (some ⟨wg, 0, none⟩) L.length cap2) := by simp [World.cell?, g1]
        have cW := g3.cell k _ (getElem?_u32s _ k (by rw [length_wordsL]; exact hk))
        rw [HX.out] at cW
        have hki : (k : Int) < (L.length : Int) := by omega
        have hL5 := hg.2.1
        have HW1 := Lib.hid w1
        have HW2 := Lib.hid w2
        have HW3 := Lib.hid w3
        clear g1 g2 g3 g4 w1 w2 w3 hq htk
        go_wp2_with fail
        clear c1 cW
        have hxq : X / 2 ^ q < 2 ^ 32 := Nat.lt_of_le_of_lt (Nat.div_le_self _ _) hX32
        rw [div_part, u32_and_one _ hxq, show (X / 2 ^ q).testBit 0 = X.testBit q by rw [Nat.testBit_div_two_pow, Nat.zero_add]]
        have hbl := bool_le (X.testBit q)
        refine (msb_put_ok B (X.testBit q).toNat 1 ow' _ _ HW1.out (by rw [List.length_append, List.length_take]; omega) (by decide) (by omega) (by omega)).mono ?_
        rintro e w5 ⟨rfl, p5⟩
        have HP5 := Lib.hid (show WPost 35 true w B ow (l ++ (rowOf L k).take (i + 1)) w5 from by
          have h := WPost.step HW2.out HW3.out p5
          rwa [bitsOf_one, List.append_assoc, ← HTK.out] at h)
        clear p5
        go_wp2_with fail
        go_roundw
        case rel => exact ⟨i + 1, by congr 1; have := HQ.out; omega, by omega, HP5.out⟩
        case measure => simp only [intOf]; omega
      · obtain rfl : i = n := by omega
        have e1 : ((i : Int) - 1 - i) = -1 := by omega
        rw [e1]
        have HF := Lib.hid (show WPost 35 true w B ow (l ++ rowZ L k) wr by rw [HZ.out, Int.toNat_natCast]; have := HP.out; rwa [List.take_of_length_le (by omega)] at this)
        clear e1
        go_wp2_with fail
        go_ret
        exact ⟨by rw [HI.out]; rfl, HF.out⟩
  · have HZ := Lib.hid (show rowZ L s = [] by rw [rowZ, if_neg h0])
    have HI := Lib.hid (show putErr L s = 5 by rw [putErr, if_neg h0])
    rw [show bitsL L s = 0 by omega]
    go_wp2_with fail
    go_ret
    exact ⟨by rw [HI.out]; rfl, by rw [HZ.out, List.append_nil]; exact WPost.refl HW.out⟩
/-- PutHigh. -/
theorem pre_msb_put (T : Nat) (og og2 : Option Nat) (m : Nat) (L : List Nat) (s : Int) (B : Nat) (ow : Option Nat) (l : List Bool) (w : World) (ht : IsT w T og og2 m L) (hg : Good L) (hw : IsW 35 true w B ow l) (hd : ∀ k, TB T og og2 m k → ¬ FP B ow k) (hl : l.length + 100 < 2 ^ 40) :
    Calls Try.prog 13 #[.pointer (some ⟨T, 0, none⟩), .pointer (some ⟨B, 0, none⟩), .int .i64 s] w fun e w' =>
      e = .returned (.int .i64 (putErr L s)) ∧ WPost 35 true w B ow (l ++ rowZ L s) w' := by
  have HT := Lib.hid ht
  have HW := Lib.hid hw
  have HD := Lib.hid hd
  clear ht hw hd
  go_enter Try.func13, Try.ntmps13
  go_wp2_with fail
  refine (pre_msb_lay T og og2 m L s B ow l _ HT.out hg HW.out HD.out hl).mono ?_
  rintro e w' ⟨rfl, p⟩
  have HP := Lib.hid p
  clear p
  go_wp2_with fail
  go_ret
  exact ⟨rfl, HP.out⟩
theorem pre_msb_put_nil (T : Value) (s : Int) (w : World) (hT : T = .pointer none ∨ ∃ t og og2 m L, T = .pointer (some ⟨t, 0, none⟩) ∧ IsT w t og og2 m L ∧ Good L) :
    Calls Try.prog 13 #[T, .pointer none, .int .i64 s] w fun e w' => e = .returned (.int .i64 8) ∧ w = w' := by
  have HT := Lib.hid hT
  clear hT
  go_enter Try.func13, Try.ntmps13
  go_wp2_with fail
  refine (pre_msb_lay_nil T s _ _ HT.out).mono ?_
  rintro e w' ⟨rfl, rfl⟩
  go_wp2_with fail
  go_ret
  exact ⟨rfl, rfl⟩
theorem pre_msb_put_not (B : Option Addr) (s : Int) (w : World) :
    Calls Try.prog 13 #[.pointer none, .pointer B, .int .i64 s] w fun e w' => e = .returned (.int .i64 8) ∧ w = w' := by
  go_enter Try.func13, Try.ntmps13
  go_wp2_with fail
  refine (pre_msb_lay_not B s _ _).mono ?_
  rintro e w' ⟨rfl, rfl⟩
  go_wp2_with fail
  go_ret
  exact ⟨rfl, rfl⟩
end Go.Proofs.Ytomnhfcckalkiaa

/-! prefix.Table: GetLow: its walk. -/
namespace Go.Proofs.Ytomnhfcckalkiaa
open Go.RowKit
set_option linter.unusedVariables false

theorem rx_row {L : List Nat} {x : List Bool} {a : Int} (hg : Good L) (h : RX (rowsL L) x a) : x.length ≤ 20 := by
  have hr : ∀ (i : Nat) (r : List Bool), (rowsL L)[i]? = some r → r.length ≤ 20 := fun i r hr => by
    have hi : i < L.length := by have := (List.getElem?_eq_some_iff.1 hr).1; rwa [length_rowsL] at this
    rw [rowsL_get L i hi] at hr
    cases hr
    rw [length_rowOf, List.getD, List.getElem?_eq_getElem hi]; exact hg.1 _ (List.getElem_mem _)
  rcases h with ⟨_, i, h, _⟩ | ⟨_, i, r, h, _, h2⟩
  · exact hr i x h
  · have := hr i r h; omega
theorem rx_lt {L : List Nat} {x : List Bool} (hg : Good L) (h : RX (rowsL L) x (-1)) : x.length < 20 := by
  rcases h with ⟨_, i, h, h3⟩ | ⟨_, i, r, h, _, h2⟩
  · omega
  · have := rx_row hg (Or.inl ⟨(fun e => by rw [e] at h2; simp at h2), i, h, rfl⟩ : RX (rowsL L) r i); omega
theorem rx_hit {rows : List (List Bool)} {x : List Bool} {a : Int} (h : RX rows x a) (h0 : 0 ≤ a) : Hit rows x a.toNat ∧ ((a.toNat : Nat) : Int) = a := by
  rcases h with ⟨h1, i, h2, h3⟩ | ⟨h1, _⟩
  · subst h3; exact ⟨⟨by simpa using h2, h1⟩, by simp⟩
  · omega
theorem rx_beg {rows : List (List Bool)} (hf : PFree rows) {x : List Bool} (h : RX rows x (-1)) : (¬ ∃ i, Hit rows x i) ∧ Beg rows x := by
  rcases h with ⟨h1, i, h2, h3⟩ | ⟨_, i, r, h1, h2, h3⟩
  · omega
  · have hr : r ≠ [] := fun e => by rw [e] at h3; simp at h3
    refine ⟨?_, i, r, h1, hr, h2⟩
    rintro ⟨j, k1, k2⟩
    have := hf j i x r k1 h1 k2 h2
    subst this
    rw [k1] at h1; cases h1; omega
theorem rx_none {rows : List (List Bool)} {x : List Bool} (h : ∀ a, ¬ RX rows x a) : (¬ ∃ i, Hit rows x i) ∧ ¬ Beg rows x := by
  have h1 : ¬ ∃ i, Hit rows x i := fun ⟨i, k1, k2⟩ => h i (Or.inl ⟨k2, i, k1, rfl⟩)
  refine ⟨h1, ?_⟩
  rintro ⟨i, r, k1, k2, k3⟩
  by_cases hl : x.length < r.length
  · exact h (-1) (Or.inr ⟨rfl, i, r, k1, k3, hl⟩)
  · have e : x = r := k3.eq_of_length (by have := k3.length_le; omega)
    exact h1 ⟨i, by rw [e]; exact k1, by rw [e]; exact k2⟩
theorem rx_fun {rows : List (List Bool)} (hf : PFree rows) {x : List Bool} {a b : Int} (h : RX rows x a) (k : RX rows x b) : a = b := by
  by_cases ha : 0 ≤ a
  · obtain ⟨h1, h2⟩ := rx_hit h ha
    by_cases hb : 0 ≤ b
    · obtain ⟨k1, k2⟩ := rx_hit k hb
      rw [← h2, ← k2, hit_one hf h1 k1]
    · have : b = -1 := by
        rcases k with ⟨_, i, _, k2⟩ | ⟨k1, _⟩
        · omega
        · exact k1
      subst this
      exact ((rx_beg hf k).1 ⟨_, h1⟩).elim
  · have e : a = -1 := by
      rcases h with ⟨_, i, _, k2⟩ | ⟨k1, _⟩
      · omega
      · exact k1
    subst e
    by_cases hb : 0 ≤ b
    · obtain ⟨k1, k2⟩ := rx_hit k hb
      exact ((rx_beg hf h).1 ⟨_, k1⟩).elim
    · rcases k with ⟨_, i, _, k2⟩ | ⟨k1, _⟩
      · omega
      · exact k1.symm
theorem rt_fun {rows : List (List Bool)} (hf : PFree rows) {v k : Nat} {a b : Int} (h : RT rows v k a) (h2 : RT rows v k b) : a = b := by
  obtain ⟨x, rfl, rfl, h1⟩ := h
  exact rx_fun hf h1 ((rt_iff _ _ _).1 h2)
/-- 'v, ok := m[word]', however many answers were drawn. -/
theorem MapIs.lookN {w : World} {b v k : Nat} {R : Nat → Nat → Int → Prop} (h : MapIs w b R) (hf : ∀ a b, R v k a → R v k b → a = b) (hv : v < 4294967296) (hk : k < 256) :
    (∃ a, R v k a ∧ ∀ n, (Instr.lookup 66 (.map (some b)) (wk v k) true).run Try.prog (w.drewN n) = .ok (.tuple #[.int .i64 a, .bool true]) (w.drewN n)) ∨
    ((∀ a, ¬ R v k a) ∧ ∀ n, (Instr.lookup 66 (.map (some b)) (wk v k) true).run Try.prog (w.drewN n) = .ok (.tuple #[.int .i64 0, .bool false]) (w.drewN n)) := by
  have hn : ∀ n, MapIs (w.drewN n) b R := fun n => h.keep ((Ext.refl w).drewN n) (fun f => f)
  by_cases hx : ∃ a, R v k a
  · obtain ⟨a, ha⟩ := hx
    refine Or.inl ⟨a, ha, fun n => ?_⟩
    rcases (hn n).look hv hk with ⟨a', h1, h2⟩ | ⟨h1, _⟩
    · rw [h2, hf a a' ha h1]
    · exact (h1 a ha).elim
  · refine Or.inr ⟨fun a ha => hx ⟨a, ha⟩, fun n => ?_⟩
    rcases (hn n).look hv hk with ⟨a', h1, h2⟩ | ⟨_, h2⟩
    · exact (hx ⟨a', h1⟩).elim
    · exact h2
theorem xAt_bits (hi : Bool) (bs : List Nat) (p n : Nat) (h : p + n ≤ 8 * bs.length) : xAt (ofBits hi bs) p n = bitsAt hi bs p n := ofBits_at hi bs p n h
theorem numOf_one (hi : Bool) (b : Bool) : numOf hi [b] = b.toNat := by cases hi <;> cases b <;> rfl
theorem shl_or (X : Nat) (b : Bool) (h : X < 2 ^ 20) : bits .or .u32 ((X : Int) * 2) ((b.toNat : Nat) : Int) = ((2 * X + b.toNat : Nat) : Int) := by
  have hb := bool_le b
  have e1 : (X : Int) * 2 = ((X * 2 : Nat) : Int) := by simp
  rw [e1, u32_or_nat _ _ (by omega) (by omega)]
  have h2 := or_low b.toNat X 1 (by omega)
  rw [Nat.or_comm, show X * 2 = X * 2 ^ 1 by rfl, h2]
  simp only [Nat.pow_one]
  omega

set_option maxHeartbeats 1000000 in
theorem pre_lsb_read_nil (T : Value) (R : Option Addr) (f : Value) (w : World) (hT : T = .pointer none ∨ R = none) (hp : ∃ a, T = .pointer a) :
    Calls Try.prog 36 #[T, .pointer R, f] w fun e w' => e = .returned (.tuple #[.int .i64 0, .int .i64 8]) ∧ w = w' := by
  obtain ⟨a, rfl⟩ := hp
  cases a with
  | none =>
    go_enter Try.func36, Try.ntmps36
    go_wp2_with fail
    go_ret2
    exact ⟨rfl, rfl⟩
  | some a =>
    obtain rfl : R = none := by
      rcases hT with h | h
      · cases h
      · exact h
    go_enter Try.func36, Try.ntmps36
    go_wp2_with fail
    go_ret2
    exact ⟨rfl, rfl⟩
set_option maxHeartbeats 4000000 in
set_option maxRecDepth 100000 in
theorem pre_lsb_read (T : Nat) (og og2 : Option Nat) (m : Nat) (L : List Nat) (B : Nat) (ow : Option Nat) (bs : List Nat) (p : Nat) (w : World) (ht : IsT w T og og2 m L) (hg : Good L) (hr : IsR 77 w B ow bs p) (hd : ∀ k, TB T og og2 m k → ¬ FP B ow k)
    (hl : bs.length ≤ 2 ^ 40) (hb : ∀ b ∈ bs, b < 256) (hp : p ≤ 8 * bs.length) :
    Calls Try.prog 36 #[.pointer (some ⟨T, 0, none⟩), .pointer (some ⟨B, 0, none⟩), .func (.func 37) #[.pointer (some ⟨B, 0, none⟩)] #[]] w fun e w' =>
      ∃ (s q : Nat) (er : Int), e = .returned (.tuple #[.int .i64 s, .int .i64 er]) ∧ IsDec (rowsL L) (ofBits false bs) p s q er ∧ RPost 77 w B ow bs q w' := by
  have HT := Lib.hid ht
  have HR := Lib.hid hr
  have HD := Lib.hid hd
  have HB := Lib.hid hb
  have HPF := Lib.hid (rows_pf hg)
  have hBw := hr.lt
  have hTw := ht.lt T (Or.inl rfl)
  have hTB : T ≠ B := fun e => hd T (Or.inl rfl) (Or.inl e)
  clear ht hr hd hb
  go_enter Try.func36, Try.ntmps36
  go_wp2_with fail
  go_loopw [8] (fun pv wr => ∃ n P : Nat, pv = .pointer (some ⟨P, 0, none⟩) ∧ n ≤ 20 ∧ p + n ≤ 8 * bs.length ∧ (∀ j, j < n → GoOn (rowsL L) (ofBits false bs) p j) ∧
      wr.heap[P]? = some (.cells #[.int .u32 (numOf true (bitsAt false bs p n)), .int .u8 n] 71 (0, 0)) ∧ w.heap.size ≤ P ∧ RPost 77 w B ow bs (p + n) wr) (fun pv wr => 21 - (match pv with | .pointer (some a) => (match wr.cell? ⟨a.block, 1, none⟩ with | some (.int _ n) => n.toNat | _ => 0) | _ => 0))
  case atStart => exact ⟨0, _, rfl, by omega, by omega, fun j hj => by omega, heap_alloc_new w _, Nat.le_refl _, ⟨HR.out.ext ((Ext.refl w).alloc _), (Touch.refl _ w).alloc _⟩⟩
  case round =>
    obtain ⟨n, P, rfl, hn, hpn, hgo, hP, hPw, hrp⟩ := hrel
    have cP0 : wr.cell? ⟨P, 0, none⟩ = some (.int .u32 (numOf true (bitsAt false bs p n))) := by simp [World.cell?, hP]
    have cP1 : wr.cell? ⟨P, 1, none⟩ = some (.int .u8 n) := by simp [World.cell?, hP]
    have fP0 : wr.frozen? ⟨P, 0, none⟩ = false := by simp [World.frozen?, hP]
    have fP1 : wr.frozen? ⟨P, 1, none⟩ = false := by simp [World.frozen?, hP]
    have ht2 := HT.out.keep hrp.2 (fun k hk e => HD.out k hk (Or.inl e))
    have HGO := Lib.hid hgo
    have HP := Lib.hid hP
    have HRP := Lib.hid hrp
    have hwrs := hrp.2.size
    obtain ⟨lv, wv, g1, g2, g3, g4⟩ := ht2
    have cT : wr.cell? ⟨T, 2, none⟩ = some (.map (some m)) := by simp [World.cell?, g1]
    have hX := numOf_lt true (bitsAt false bs p n)
    rw [length_bitsAt] at hX
    have hX20 : numOf true (bitsAt false bs p n) < 2 ^ 20 := Nat.lt_of_lt_of_le hX (Nat.pow_le_pow_right (by decide) hn)
    have hlk := g4.lookN (fun _ _ => rt_fun HPF.out) (v := numOf true (bitsAt false bs p n)) (k := n) (by omega) (by omega)
    have hrt : ∀ a, RT (rowsL L) (numOf true (bitsAt false bs p n)) n a ↔ RX (rowsL L) (bitsAt false bs p n) a := fun a => by
      have := rt_iff (rowsL L) (bitsAt false bs p n) a
      rwa [length_bitsAt] at this
    have hbx := xAt_bits false bs p n hpn
    have hst := numOf_high (bitsAt false bs p n) (rbit false bs (p + n))
    rw [← bitsAt_succ] at hst
    have HST := Lib.hid hst
    have HBX := Lib.hid hbx
    have HRT := Lib.hid hrt
    clear g1 g2 g3 g4 hgo hP hrp hX hrt hbx hst
    obtain ⟨X, hXX⟩ : ∃ X, X = numOf true (bitsAt false bs p n) := ⟨_, rfl⟩
    rw [← hXX] at cP0 hX20 hlk HST HRT
    have HXX := Lib.hid hXX.symm
    clear hXX
    simp only [wk] at hlk
    rcases hlk with ⟨a, ha, hrun⟩ | ⟨ha, hrun⟩
    · have ha2 := (HRT.out a).1 ha
      by_cases ha0 : 0 ≤ a
      · obtain ⟨hh, hae⟩ := rx_hit ha2 ha0
        have HF := Lib.hid (show IsDec (rowsL L) (ofBits false bs) p a.toNat (p + n) 0 from ⟨n, rfl, by rw [length_ofBits]; exact hpn, HGO.out, Or.inl ⟨rfl, by rw [HBX.out]; exact hh⟩⟩)
        have HR2 := Lib.hid (show ∀ q, RPost 77 w B ow bs (p + n) (wr.drewN q) from HRP.out.drewN)
        obtain ⟨s, hs⟩ : ∃ s, s = a.toNat := ⟨_, rfl⟩
        rw [← hs] at hae HF
        subst hae
        clear ha ha2 hh hs
        have h0s : (0 : Int) ≤ (s : Int) := Int.natCast_nonneg s
        go_wp2_with fail
        go_quiet (fail)
        clear hrun
        go_wp2_with fail
        go_ret2
        exact ⟨s, p + n, 0, rfl, HF.out, HR2.out nq⟩
      · obtain rfl : a = -1 := by
          rcases ha2 with ⟨_, i, _, k2⟩ | ⟨k1, _⟩
          · omega
          · exact k1
        obtain ⟨hnh, hbeg⟩ := rx_beg HPF.out ha2
        have hn20 := rx_lt hg ha2
        rw [length_bitsAt] at hn20
        have HNH := Lib.hid hnh
        have HBG := Lib.hid hbeg
        clear ha ha2 hnh hbeg ha0
        go_wp2_with fail
        go_quiet (fail)
        clear hrun cT
        by_cases hend : 8 * bs.length < p + n + 1
        · have HF := Lib.hid (show IsDec (rowsL L) (ofBits false bs) p 0 (p + n) 2 from ⟨n, rfl, by rw [length_ofBits]; exact hpn, HGO.out, Or.inr ⟨rfl, rfl, by rw [HBX.out]; exact HNH.out, Or.inr (by rw [length_ofBits]; omega)⟩⟩)
          go_wp2_with fail
          refine (lsb_get_far B ow bs (p + n) 1 _ (HRP.out.drewN nq).1 (by omega) hpn (by decide) hend).mono ?_
          rintro e w5 ⟨rfl, q5, rfl⟩
          have HR5 := Lib.hid (HRP.out.drewN (nq + q5))
          go_wp2_with fail
          go_ret2
          exact ⟨0, p + n, 2, rfl, HF.out, HR5.out⟩
        · go_wp2_with fail
          refine (lsb_get_ok B ow bs (p + n) 1 _ (HRP.out.drewN nq).1 (by omega) HB.out (by decide) (by omega)).mono ?_
          rintro e w5 ⟨rfl, r5⟩
          have hPB : ¬ P = B := by omega
          have hP5 := r5.2.keep (b := P) HP.out hPB
          have cP0 : w5.cell? ⟨P, 0, none⟩ = some (.int .u32 (numOf true (bitsAt false bs p n))) := by simp [World.cell?, hP5]
          rw [HXX.out] at cP0
          have cP1 : w5.cell? ⟨P, 1, none⟩ = some (.int .u8 n) := by simp [World.cell?, hP5]
          have fP0 : w5.frozen? ⟨P, 0, none⟩ = false := by simp [World.frozen?, hP5]
          have fP1 : w5.frozen? ⟨P, 1, none⟩ = false := by simp [World.frozen?, hP5]
          have HR5 := Lib.hid ((HRP.out.drewN nq).step r5)
          clear hP5 r5
          obtain ⟨b, hb⟩ : ∃ b, b = rbit false bs (p + n) := ⟨_, rfl⟩
          rw [show bitsAt false bs (p + n) 1 = [b] by rw [hb]; rfl, numOf_one]
          rw [← hb] at HST
          have HBB := Lib.hid hb
          clear hb
          have hbl := bool_le b
          have hgo : ∀ j, j < n + 1 → GoOn (rowsL L) (ofBits false bs) p j := fun j hj => by
            by_cases hjn : j < n
            · exact HGO.out j hjn
            · obtain rfl : j = n := by omega
              exact ⟨by rw [HBX.out]; exact HNH.out, by rw [HBX.out]; exact HBG.out, by rw [length_ofBits]; omega⟩
          have HGO2 := Lib.hid hgo
          clear hgo
          go_wp2_with fail
          rw [shl_or X b hX20, ← HST.out]
          have hPw5 : P < w5.heap.size := World.block_lt_of_cell? _ _ cP0
          have hwr : wr.cell? ⟨P, 1, none⟩ = some (.int .u8 n) := by simp [World.cell?, HP.out]
          obtain ⟨w6, hw6⟩ : ∃ w6, w6 = (w5.setCell ⟨P, 0, none⟩ (.int .u32 (numOf true (bitsAt false bs p (n + 1))))).setCell ⟨P, 1, none⟩ (.int .u8 ((n : Int) + 1)) := ⟨_, rfl⟩
          rw [← hw6]
          have hT6 : Touch (fun k => k = P) w5 w6 := by rw [hw6]; exact ((Touch.refl (fun k => k = P) w5).setCell (Or.inl rfl) _).setCell (Or.inl rfl) _
          have hz6 : w6.heap.size = w5.heap.size := by rw [hw6]; simp [World.setCell]
          have hR6 : RPost 77 w B ow bs (p + (n + 1)) w6 := by
            obtain ⟨r1, r2⟩ := HR5.out
            refine ⟨r1.keep hT6 (fun e => hPB e.symm) (fun g e e2 => ?_), ⟨hT6.os.trans r2.os, hT6.tape.trans r2.tape, hT6.output.trans r2.output, Nat.le_trans r2.size hT6.size, fun k hk hn => (hT6.block k (Nat.lt_of_lt_of_le hk r2.size) (by omega)).trans (r2.block k hk hn)⟩⟩
            have := HR.out.glt g e; omega
          have hal := heap_alloc_new w6 (.cells #[.int .u32 (numOf true (bitsAt false bs p (n + 1))), .int .u8 ((n : Int) + 1)] 71)
          refine ⟨⟨n + 1, w5.heap.size, rfl, by omega, by omega, HGO2.out, ?_, by omega, ⟨hR6.1.ext ((Ext.refl _).alloc _), hR6.2.alloc _⟩⟩, ?_⟩
          · rw [← hz6]; exact hal
          · have hc6 : (w6.alloc (.cells #[.int .u32 (numOf true (bitsAt false bs p (n + 1))), .int .u8 ((n : Int) + 1)] 71)).cell? ⟨w5.heap.size, 1, none⟩ = some (.int .u8 ((n : Int) + 1)) := by
              rw [← hz6]; simp only [World.cell?, hal]; rfl
            simp only [hc6, hwr]
            omega
    · obtain ⟨hnh, hnb⟩ := rx_none (fun a h => ha a ((HRT.out a).2 h))
      have HF := Lib.hid (show IsDec (rowsL L) (ofBits false bs) p 0 (p + n) 2 from ⟨n, rfl, by rw [length_ofBits]; exact hpn, HGO.out, Or.inr ⟨rfl, rfl, by rw [HBX.out]; exact hnh, Or.inl (by rw [HBX.out]; exact hnb)⟩⟩)
      have HR2 := Lib.hid (show ∀ q, RPost 77 w B ow bs (p + n) (wr.drewN q) from HRP.out.drewN)
      clear ha hnh hnb
      go_wp2_with fail
      go_quiet (fail)
      clear hrun
      go_wp2_with fail
      go_ret2
      exact ⟨0, p + n, 2, rfl, HF.out, HR2.out nq⟩
/-- GetLow. -/
theorem pre_lsb_get (T : Nat) (og og2 : Option Nat) (m : Nat) (L : List Nat) (B : Nat) (ow : Option Nat) (bs : List Nat) (p : Nat) (w : World) (ht : IsT w T og og2 m L) (hg : Good L) (hr : IsR 77 w B ow bs p) (hd : ∀ k, TB T og og2 m k → ¬ FP B ow k)
    (hl : bs.length ≤ 2 ^ 40) (hb : ∀ b ∈ bs, b < 256) (hp : p ≤ 8 * bs.length) :
    Calls Try.prog 22 #[.pointer (some ⟨T, 0, none⟩), .pointer (some ⟨B, 0, none⟩)] w fun e w' =>
      ∃ (s q : Nat) (er : Int), e = .returned (.tuple #[.int .i64 s, .int .i64 er]) ∧ IsDec (rowsL L) (ofBits false bs) p s q er ∧ RPost 77 w B ow bs q w' := by
  have HT := Lib.hid ht
  have HR := Lib.hid hr
  have HD := Lib.hid hd
  have HB := Lib.hid hb
  clear ht hr hd hb
  go_enter Try.func22, Try.ntmps22
  go_wp2_with fail
  refine (pre_lsb_read T og og2 m L B ow bs p _ HT.out hg HR.out HD.out hl HB.out hp).mono ?_
  rintro e w' ⟨s, q, er, rfl, hd, hr⟩
  have HP := Lib.hid hd
  have HQ := Lib.hid hr
  clear hd hr
  go_wp2_with fail
  go_ret2
  exact ⟨s, q, er, rfl, HP.out, HQ.out⟩
theorem pre_lsb_get_nil (T : Value) (R : Option Addr) (w : World) (hT : T = .pointer none ∨ R = none) (hp : ∃ a, T = .pointer a) :
    Calls Try.prog 22 #[T, .pointer R] w fun e w' => e = .returned (.tuple #[.int .i64 0, .int .i64 8]) ∧ w = w' := by
  have HT := Lib.hid hT
  have HP := Lib.hid hp
  clear hT hp
  go_enter Try.func22, Try.ntmps22
  go_wp2_with fail
  refine (pre_lsb_read_nil T R _ _ HT.out HP.out).mono ?_
  rintro e w' ⟨rfl, rfl⟩
  go_wp2_with fail
  go_ret2
  exact ⟨rfl, rfl⟩
end Go.Proofs.Ytomnhfcckalkiaa

/-! prefix.Table: GetHigh: its walk. -/
namespace Go.Proofs.Ytomnhfcckalkiaa
open Go.RowKit
set_option linter.unusedVariables false


set_option maxHeartbeats 1000000 in
theorem pre_msb_read_nil (T : Value) (R : Option Addr) (f : Value) (w : World) (hT : T = .pointer none ∨ R = none) (hp : ∃ a, T = .pointer a) :
    Calls Try.prog 39 #[T, .pointer R, f] w fun e w' => e = .returned (.tuple #[.int .i64 0, .int .i64 8]) ∧ w = w' := by
  obtain ⟨a, rfl⟩ := hp
  cases a with
  | none =>
    go_enter Try.func39, Try.ntmps39
    go_wp2_with fail
    go_ret2
    exact ⟨rfl, rfl⟩
  | some a =>
    obtain rfl : R = none := by
      rcases hT with h | h
      · cases h
      · exact h
    go_enter Try.func39, Try.ntmps39
    go_wp2_with fail
    go_ret2
    exact ⟨rfl, rfl⟩
set_option maxHeartbeats 4000000 in
set_option maxRecDepth 100000 in
theorem pre_msb_read (T : Nat) (og og2 : Option Nat) (m : Nat) (L : List Nat) (B : Nat) (ow : Option Nat) (bs : List Nat) (p : Nat) (w : World) (ht : IsT w T og og2 m L) (hg : Good L) (hr : IsR 79 w B ow bs p) (hd : ∀ k, TB T og og2 m k → ¬ FP B ow k)
    (hl : bs.length ≤ 2 ^ 40) (hb : ∀ b ∈ bs, b < 256) (hp : p ≤ 8 * bs.length) :
    Calls Try.prog 39 #[.pointer (some ⟨T, 0, none⟩), .pointer (some ⟨B, 0, none⟩), .func (.func 40) #[.pointer (some ⟨B, 0, none⟩)] #[]] w fun e w' =>
      ∃ (s q : Nat) (er : Int), e = .returned (.tuple #[.int .i64 s, .int .i64 er]) ∧ IsDec (rowsL L) (ofBits true bs) p s q er ∧ RPost 79 w B ow bs q w' := by
  have HT := Lib.hid ht
  have HR := Lib.hid hr
  have HD := Lib.hid hd
  have HB := Lib.hid hb
  have HPF := Lib.hid (rows_pf hg)
  have hBw := hr.lt
  have hTw := ht.lt T (Or.inl rfl)
  have hTB : T ≠ B := fun e => hd T (Or.inl rfl) (Or.inl e)
  clear ht hr hd hb
  go_enter Try.func39, Try.ntmps39
  go_wp2_with fail
  go_loopw [8] (fun pv wr => ∃ n P : Nat, pv = .pointer (some ⟨P, 0, none⟩) ∧ n ≤ 20 ∧ p + n ≤ 8 * bs.length ∧ (∀ j, j < n → GoOn (rowsL L) (ofBits true bs) p j) ∧
      wr.heap[P]? = some (.cells #[.int .u32 (numOf true (bitsAt true bs p n)), .int .u8 n] 71 (0, 0)) ∧ w.heap.size ≤ P ∧ RPost 79 w B ow bs (p + n) wr) (fun pv wr => 21 - (match pv with | .pointer (some a) => (match wr.cell? ⟨a.block, 1, none⟩ with | some (.int _ n) => n.toNat | _ => 0) | _ => 0))
  case atStart => exact ⟨0, _, rfl, by omega, by omega, fun j hj => by omega, heap_alloc_new w _, Nat.le_refl _, ⟨HR.out.ext ((Ext.refl w).alloc _), (Touch.refl _ w).alloc _⟩⟩
  case round =>
    obtain ⟨n, P, rfl, hn, hpn, hgo, hP, hPw, hrp⟩ := hrel
    have cP0 : wr.cell? ⟨P, 0, none⟩ = some (.int .u32 (numOf true (bitsAt true bs p n))) := by simp [World.cell?, hP]
    have cP1 : wr.cell? ⟨P, 1, none⟩ = some (.int .u8 n) := by simp [World.cell?, hP]
    have fP0 : wr.frozen? ⟨P, 0, none⟩ = false := by simp [World.frozen?, hP]
    have fP1 : wr.frozen? ⟨P, 1, none⟩ = false := by simp [World.frozen?, hP]
    have ht2 := HT.out.keep hrp.2 (fun k hk e => HD.out k hk (Or.inl e))
    have HGO := Lib.hid hgo
    have HP := Lib.hid hP
    have HRP := Lib.hid hrp
    have hwrs := hrp.2.size
    obtain ⟨lv, wv, g1, g2, g3, g4⟩ := ht2
    have cT : wr.cell? ⟨T, 2, none⟩ = some (.map (some m)) := by simp [World.cell?, g1]
    have hX := numOf_lt true (bitsAt true bs p n)
    rw [length_bitsAt] at hX
    have hX20 : numOf true (bitsAt true bs p n) < 2 ^ 20 := Nat.lt_of_lt_of_le hX (Nat.pow_le_pow_right (by decide) hn)
    have hlk := g4.lookN (fun _ _ => rt_fun HPF.out) (v := numOf true (bitsAt true bs p n)) (k := n) (by omega) (by omega)
    have hrt : ∀ a, RT (rowsL L) (numOf true (bitsAt true bs p n)) n a ↔ RX (rowsL L) (bitsAt true bs p n) a := fun a => by
      have := rt_iff (rowsL L) (bitsAt true bs p n) a
      rwa [length_bitsAt] at this
    have hbx := xAt_bits true bs p n hpn
    have hst := numOf_high (bitsAt true bs p n) (rbit true bs (p + n))
    rw [← bitsAt_succ] at hst
    have HST := Lib.hid hst
    have HBX := Lib.hid hbx
    have HRT := Lib.hid hrt
    clear g1 g2 g3 g4 hgo hP hrp hX hrt hbx hst
    obtain ⟨X, hXX⟩ : ∃ X, X = numOf true (bitsAt true bs p n) := ⟨_, rfl⟩
    rw [← hXX] at cP0 hX20 hlk HST HRT
    have HXX := Lib.hid hXX.symm
    clear hXX
    simp only [wk] at hlk
    rcases hlk with ⟨a, ha, hrun⟩ | ⟨ha, hrun⟩
    · have ha2 := (HRT.out a).1 ha
      by_cases ha0 : 0 ≤ a
      · obtain ⟨hh, hae⟩ := rx_hit ha2 ha0
        have HF := Lib.hid (show IsDec (rowsL L) (ofBits true bs) p a.toNat (p + n) 0 from ⟨n, rfl, by rw [length_ofBits]; exact hpn, HGO.out, Or.inl ⟨rfl, by rw [HBX.out]; exact hh⟩⟩)
        have HR2 := Lib.hid (show ∀ q, RPost 79 w B ow bs (p + n) (wr.drewN q) from HRP.out.drewN)
        obtain ⟨s, hs⟩ : ∃ s, s = a.toNat := ⟨_, rfl⟩
        rw [← hs] at hae HF
        subst hae
        clear ha ha2 hh hs
        have h0s : (0 : Int) ≤ (s : Int) := Int.natCast_nonneg s
        go_wp2_with fail
        go_quiet (fail)
        clear hrun
        go_wp2_with fail
        go_ret2
        exact ⟨s, p + n, 0, rfl, HF.out, HR2.out nq⟩
      · obtain rfl : a = -1 := by
          rcases ha2 with ⟨_, i, _, k2⟩ | ⟨k1, _⟩
          · omega
          · exact k1
        obtain ⟨hnh, hbeg⟩ := rx_beg HPF.out ha2
        have hn20 := rx_lt hg ha2
        rw [length_bitsAt] at hn20
        have HNH := Lib.hid hnh
        have HBG := Lib.hid hbeg
        clear ha ha2 hnh hbeg ha0
        go_wp2_with fail
        go_quiet (fail)
        clear hrun cT
        by_cases hend : 8 * bs.length < p + n + 1
        · have HF := Lib.hid (show IsDec (rowsL L) (ofBits true bs) p 0 (p + n) 2 from ⟨n, rfl, by rw [length_ofBits]; exact hpn, HGO.out, Or.inr ⟨rfl, rfl, by rw [HBX.out]; exact HNH.out, Or.inr (by rw [length_ofBits]; omega)⟩⟩)
          go_wp2_with fail
          refine (msb_get_far B ow bs (p + n) 1 _ (HRP.out.drewN nq).1 (by omega) hpn (by decide) hend).mono ?_
          rintro e w5 ⟨rfl, q5, rfl⟩
          have HR5 := Lib.hid (HRP.out.drewN (nq + q5))
          go_wp2_with fail
          go_ret2
          exact ⟨0, p + n, 2, rfl, HF.out, HR5.out⟩
        · go_wp2_with fail
          refine (msb_get_ok B ow bs (p + n) 1 _ (HRP.out.drewN nq).1 (by omega) HB.out (by decide) (by omega)).mono ?_
          rintro e w5 ⟨rfl, r5⟩
          have hPB : ¬ P = B := by omega
          have hP5 := r5.2.keep (b := P) HP.out hPB
          have cP0 : w5.cell? ⟨P, 0, none⟩ = some (.int .u32 (numOf true (bitsAt true bs p n))) := by simp [World.cell?, hP5]
          rw [HXX.out] at cP0
          have cP1 : w5.cell? ⟨P, 1, none⟩ = some (.int .u8 n) := by simp [World.cell?, hP5]
          have fP0 : w5.frozen? ⟨P, 0, none⟩ = false := by simp [World.frozen?, hP5]
          have fP1 : w5.frozen? ⟨P, 1, none⟩ = false := by simp [World.frozen?, hP5]
          have HR5 := Lib.hid ((HRP.out.drewN nq).step r5)
          clear hP5 r5
          obtain ⟨b, hb⟩ : ∃ b, b = rbit true bs (p + n) := ⟨_, rfl⟩
          rw [show bitsAt true bs (p + n) 1 = [b] by rw [hb]; rfl, numOf_one]
          rw [← hb] at HST
          have HBB := Lib.hid hb
          clear hb
          have hbl := bool_le b
          have hgo : ∀ j, j < n + 1 → GoOn (rowsL L) (ofBits true bs) p j := fun j hj => by
            by_cases hjn : j < n
            · exact HGO.out j hjn
            · obtain rfl : j = n := by omega
              exact ⟨by rw [HBX.out]; exact HNH.out, by rw [HBX.out]; exact HBG.out, by rw [length_ofBits]; omega⟩
          have HGO2 := Lib.hid hgo
          clear hgo
          go_wp2_with fail
          rw [shl_or X b hX20, ← HST.out]
          have hPw5 : P < w5.heap.size := World.block_lt_of_cell? _ _ cP0
          have hwr : wr.cell? ⟨P, 1, none⟩ = some (.int .u8 n) := by simp [World.cell?, HP.out]
          obtain ⟨w6, hw6⟩ : ∃ w6, w6 = (w5.setCell ⟨P, 0, none⟩ (.int .u32 (numOf true (bitsAt true bs p (n + 1))))).setCell ⟨P, 1, none⟩ (.int .u8 ((n : Int) + 1)) := ⟨_, rfl⟩
          rw [← hw6]
          have hT6 : Touch (fun k => k = P) w5 w6 := by rw [hw6]; exact ((Touch.refl (fun k => k = P) w5).setCell (Or.inl rfl) _).setCell (Or.inl rfl) _
          have hz6 : w6.heap.size = w5.heap.size := by rw [hw6]; simp [World.setCell]
          have hR6 : RPost 79 w B ow bs (p + (n + 1)) w6 := by
            obtain ⟨r1, r2⟩ := HR5.out
            refine ⟨r1.keep hT6 (fun e => hPB e.symm) (fun g e e2 => ?_), ⟨hT6.os.trans r2.os, hT6.tape.trans r2.tape, hT6.output.trans r2.output, Nat.le_trans r2.size hT6.size, fun k hk hn => (hT6.block k (Nat.lt_of_lt_of_le hk r2.size) (by omega)).trans (r2.block k hk hn)⟩⟩
            have := HR.out.glt g e; omega
          have hal := heap_alloc_new w6 (.cells #[.int .u32 (numOf true (bitsAt true bs p (n + 1))), .int .u8 ((n : Int) + 1)] 71)
          refine ⟨⟨n + 1, w5.heap.size, rfl, by omega, by omega, HGO2.out, ?_, by omega, ⟨hR6.1.ext ((Ext.refl _).alloc _), hR6.2.alloc _⟩⟩, ?_⟩
          · rw [← hz6]; exact hal
          · have hc6 : (w6.alloc (.cells #[.int .u32 (numOf true (bitsAt true bs p (n + 1))), .int .u8 ((n : Int) + 1)] 71)).cell? ⟨w5.heap.size, 1, none⟩ = some (.int .u8 ((n : Int) + 1)) := by
              rw [← hz6]; simp only [World.cell?, hal]; rfl
            simp only [hc6, hwr]
            omega
    · obtain ⟨hnh, hnb⟩ := rx_none (fun a h => ha a ((HRT.out a).2 h))
      have HF := Lib.hid (show IsDec (rowsL L) (ofBits true bs) p 0 (p + n) 2 from ⟨n, rfl, by rw [length_ofBits]; exact hpn, HGO.out, Or.inr ⟨rfl, rfl, by rw [HBX.out]; exact hnh, Or.inl (by rw [HBX.out]; exact hnb)⟩⟩)
      have HR2 := Lib.hid (show ∀ q, RPost 79 w B ow bs (p + n) (wr.drewN q) from HRP.out.drewN)
      clear ha hnh hnb
      go_wp2_with fail
      go_quiet (fail)
      clear hrun
      go_wp2_with fail
      go_ret2
      exact ⟨0, p + n, 2, rfl, HF.out, HR2.out nq⟩
/-- GetHigh. -/
theorem pre_msb_get (T : Nat) (og og2 : Option Nat) (m : Nat) (L : List Nat) (B : Nat) (ow : Option Nat) (bs : List Nat) (p : Nat) (w : World) (ht : IsT w T og og2 m L) (hg : Good L) (hr : IsR 79 w B ow bs p) (hd : ∀ k, TB T og og2 m k → ¬ FP B ow k)
    (hl : bs.length ≤ 2 ^ 40) (hb : ∀ b ∈ bs, b < 256) (hp : p ≤ 8 * bs.length) :
    Calls Try.prog 25 #[.pointer (some ⟨T, 0, none⟩), .pointer (some ⟨B, 0, none⟩)] w fun e w' =>
      ∃ (s q : Nat) (er : Int), e = .returned (.tuple #[.int .i64 s, .int .i64 er]) ∧ IsDec (rowsL L) (ofBits true bs) p s q er ∧ RPost 79 w B ow bs q w' := by
  have HT := Lib.hid ht
  have HR := Lib.hid hr
  have HD := Lib.hid hd
  have HB := Lib.hid hb
  clear ht hr hd hb
  go_enter Try.func25, Try.ntmps25
  go_wp2_with fail
  refine (pre_msb_read T og og2 m L B ow bs p _ HT.out hg HR.out HD.out hl HB.out hp).mono ?_
  rintro e w' ⟨s, q, er, rfl, hd, hr⟩
  have HP := Lib.hid hd
  have HQ := Lib.hid hr
  clear hd hr
  go_wp2_with fail
  go_ret2
  exact ⟨s, q, er, rfl, HP.out, HQ.out⟩
theorem pre_msb_get_nil (T : Value) (R : Option Addr) (w : World) (hT : T = .pointer none ∨ R = none) (hp : ∃ a, T = .pointer a) :
    Calls Try.prog 25 #[T, .pointer R] w fun e w' => e = .returned (.tuple #[.int .i64 0, .int .i64 8]) ∧ w = w' := by
  have HT := Lib.hid hT
  have HP := Lib.hid hp
  clear hT hp
  go_enter Try.func25, Try.ntmps25
  go_wp2_with fail
  refine (pre_msb_read_nil T R _ _ HT.out HP.out).mono ?_
  rintro e w' ⟨rfl, rfl⟩
  go_wp2_with fail
  go_ret2
  exact ⟨rfl, rfl⟩
end Go.Proofs.Ytomnhfcckalkiaa

/-! The calls of the Prefix laws, upon things apart. -/
namespace Go.Proofs.Ytomnhfcckalkiaa
open Go.RowKit
set_option linter.unusedVariables false

abbrev lW (B : Nat) (l : List Bool) : Thing := tW 33 false B l
abbrev lR (B : Nat) (bs : List Nat) (p : Nat) : Thing := tR 77 B bs p
abbrev oB (v : Value) (bs : List Nat) : Thing := tO 5 v (u8s bs)

theorem lsb_zero (w : World) : IsW 33 false (w.alloc (.cells #[.slice none 0 0, .int .i64 0] 33)) w.heap.size none [] :=
  ⟨_, heap_alloc_new w _, Owns.nil _ _ _, by simp⟩
theorem St.lsb_neww {w0 w : World} {Ts : List Thing} (h : St w0 w Ts) : St w0 (w.alloc (.cells #[.slice none 0 0, .int .i64 0] 33)) (Ts ++ [lW w.heap.size []]) :=
  h.add ((Ext.refl w).alloc _) _ (FP w.heap.size none) ⟨none, lsb_zero w, fun _ => Iff.rfl⟩ (fun k hk => by rcases hk with rfl | hk; exact Nat.le_refl _; cases hk)
theorem St.lsb_newr {w0 w : World} {Ts : List Thing} (h : St w0 w Ts) (v : Value) (bs : List Nat) (hv : View w v bs) (hl : bs.length ≤ 2 ^ 46) :
    Calls Try.prog 20 #[v] w fun e w' => ∃ B, e = .returned (.pointer (some ⟨B, 0, none⟩)) ∧ St w0 w' (Ts ++ [lR B bs 0]) := by
  refine (lsb_new v bs w hv hl).mono ?_
  rintro e w' ⟨B, og, rfl, r, hB, hg, x⟩
  exact ⟨B, rfl, h.add x _ (FP B og) ⟨og, r, fun _ => Iff.rfl⟩ (fun k hk => by rcases hk with rfl | hk; exact hB; exact hg k hk)⟩
theorem St.lsb_bytes {w0 w : World} {Ts : List Thing} (h : St w0 w Ts) {B : Nat} {l : List Bool} (i : Nat) (hti : Ts[i]? = some (lW B l)) (hl : l.length < 2 ^ 40) :
    Calls Try.prog 16 #[.pointer (some ⟨B, 0, none⟩)] w fun e w' => ∃ v, e = .returned v ∧ St w0 w' (Ts ++ [oB v (packs false l)]) ∧ Ext w w' := by
  obtain ⟨og, hw, _⟩ := h.writer i hti
  refine (Go.Proofs.Ytomnhfcckalkiaa.lsb_bytes B og l w hw hl).mono ?_
  rintro e w' ⟨v, og', rfl, o, g, x⟩
  exact ⟨v, rfl, h.new x (by rw [length_u8s]; exact o) g, x⟩
theorem St.lsb_len {w0 w : World} {Ts : List Thing} (h : St w0 w Ts) {B : Nat} {l : List Bool} (i : Nat) (hti : Ts[i]? = some (lW B l)) :
    Calls Try.prog 18 #[.pointer (some ⟨B, 0, none⟩)] w fun e w' => e = .returned (.int .i64 l.length) ∧ w = w' := by
  obtain ⟨og, hw, _⟩ := h.writer i hti
  exact Go.Proofs.Ytomnhfcckalkiaa.lsb_len B og l w hw
theorem St.lsb_at {w0 w : World} {Ts : List Thing} (h : St w0 w Ts) {B : Nat} {bs : List Nat} {p : Nat} (i : Nat) (hti : Ts[i]? = some (lR B bs p)) :
    Calls Try.prog 24 #[.pointer (some ⟨B, 0, none⟩)] w fun e w' => e = .returned (.int .i64 p) ∧ w = w' := by
  obtain ⟨og, hr, _⟩ := h.reader i hti
  exact Go.Proofs.Ytomnhfcckalkiaa.lsb_at B og bs p w hr
theorem St.lsb_put {w0 w : World} {Ts : List Thing} (h : St w0 w Ts) {B T : Nat} {l : List Bool} {L : List Nat} (i j : Nat) (hti : Ts[i]? = some (lW B l)) (htj : Ts[j]? = some (tT T L)) (hij : j ≠ i) (hg : Good L) (s : Int) (hl : l.length + 100 < 2 ^ 40) :
    Calls Try.prog 12 #[.pointer (some ⟨T, 0, none⟩), .pointer (some ⟨B, 0, none⟩), .int .i64 s] w fun e w' => e = .returned (.int .i64 (putErr L s)) ∧ St w0 w' (Ts.set i (lW B (l ++ rowZ L s))) := by
  obtain ⟨S, ⟨ow, h1, h2⟩, _, h4, _⟩ := h.at i _ hti
  obtain ⟨S', ⟨og, og2, m, k1, k2⟩, k3⟩ := h4 j _ hij htj
  obtain ⟨ow', hw, _, _, hup⟩ := h.writer i hti
  have e : ow' = ow := by
    obtain ⟨v, a1, a2, _⟩ := h1
    obtain ⟨u, b1, b2, _⟩ := hw
    rw [a1] at b1
    have e : v = u := by injection b1 with b1; injection b1 with b1; simpa using b1
    rw [← a2.2, ← b2.2, e]
  subst e
  refine (pre_lsb_put T og og2 m L s B ow' l w k1 hg hw (fun k hk hf => k3 k ((k2 k).2 hk) ((h2 k).2 hf)) hl).mono ?_
  rintro e w' ⟨rfl, p⟩
  exact ⟨rfl, hup _ _ p⟩
theorem St.lsb_get {w0 w : World} {Ts : List Thing} (h : St w0 w Ts) {B T : Nat} {bs L : List Nat} {p : Nat} (i j : Nat) (hti : Ts[i]? = some (lR B bs p)) (htj : Ts[j]? = some (tT T L)) (hij : j ≠ i) (hg : Good L) (hl : bs.length ≤ 2 ^ 40) (hb : ∀ b ∈ bs, b < 256) (hp : p ≤ 8 * bs.length) :
    Calls Try.prog 22 #[.pointer (some ⟨T, 0, none⟩), .pointer (some ⟨B, 0, none⟩)] w fun e w' =>
      ∃ (s q : Nat) (er : Int), e = .returned (.tuple #[.int .i64 s, .int .i64 er]) ∧ IsDec (rowsL L) (ofBits false bs) p s q er ∧ St w0 w' (Ts.set i (lR B bs q)) := by
  obtain ⟨S, ⟨ow, h1, h2⟩, _, h4, _⟩ := h.at i _ hti
  obtain ⟨S', ⟨og, og2, m, k1, k2⟩, k3⟩ := h4 j _ hij htj
  obtain ⟨ow', hw, _, _, hup⟩ := h.reader i hti
  have e : ow' = ow := by
    obtain ⟨v, a1, a2, _⟩ := h1
    obtain ⟨u, b1, b2, _⟩ := hw
    rw [a1] at b1
    have e : v = u := by injection b1 with b1; injection b1 with b1; simpa using b1
    rw [← a2.2, ← b2.2, e]
  subst e
  refine (pre_lsb_get T og og2 m L B ow' bs p w k1 hg hw (fun k hk hf => k3 k ((k2 k).2 hk) ((h2 k).2 hf)) hl hb hp).mono ?_
  rintro e w' ⟨s, q, er, rfl, d, r⟩
  exact ⟨s, q, er, rfl, d, hup _ _ r⟩
end Go.Proofs.Ytomnhfcckalkiaa

/-! The calls of the Prefix laws, upon things apart. -/
namespace Go.Proofs.Ytomnhfcckalkiaa
open Go.RowKit
set_option linter.unusedVariables false

abbrev mW (B : Nat) (l : List Bool) : Thing := tW 35 true B l
abbrev mR (B : Nat) (bs : List Nat) (p : Nat) : Thing := tR 79 B bs p

theorem msb_zero (w : World) : IsW 35 true (w.alloc (.cells #[.slice none 0 0, .int .i64 0] 35)) w.heap.size none [] :=
  ⟨_, heap_alloc_new w _, Owns.nil _ _ _, by simp⟩
theorem St.msb_neww {w0 w : World} {Ts : List Thing} (h : St w0 w Ts) : St w0 (w.alloc (.cells #[.slice none 0 0, .int .i64 0] 35)) (Ts ++ [mW w.heap.size []]) :=
  h.add ((Ext.refl w).alloc _) _ (FP w.heap.size none) ⟨none, msb_zero w, fun _ => Iff.rfl⟩ (fun k hk => by rcases hk with rfl | hk; exact Nat.le_refl _; cases hk)
theorem St.msb_newr {w0 w : World} {Ts : List Thing} (h : St w0 w Ts) (v : Value) (bs : List Nat) (hv : View w v bs) (hl : bs.length ≤ 2 ^ 46) :
    Calls Try.prog 21 #[v] w fun e w' => ∃ B, e = .returned (.pointer (some ⟨B, 0, none⟩)) ∧ St w0 w' (Ts ++ [mR B bs 0]) := by
  refine (msb_new v bs w hv hl).mono ?_
  rintro e w' ⟨B, og, rfl, r, hB, hg, x⟩
  exact ⟨B, rfl, h.add x _ (FP B og) ⟨og, r, fun _ => Iff.rfl⟩ (fun k hk => by rcases hk with rfl | hk; exact hB; exact hg k hk)⟩
theorem St.msb_bytes {w0 w : World} {Ts : List Thing} (h : St w0 w Ts) {B : Nat} {l : List Bool} (i : Nat) (hti : Ts[i]? = some (mW B l)) (hl : l.length < 2 ^ 40) :
    Calls Try.prog 17 #[.pointer (some ⟨B, 0, none⟩)] w fun e w' => ∃ v, e = .returned v ∧ St w0 w' (Ts ++ [oB v (packs true l)]) ∧ Ext w w' := by
  obtain ⟨og, hw, _⟩ := h.writer i hti
  refine (Go.Proofs.Ytomnhfcckalkiaa.msb_bytes B og l w hw hl).mono ?_
  rintro e w' ⟨v, og', rfl, o, g, x⟩
  exact ⟨v, rfl, h.new x (by rw [length_u8s]; exact o) g, x⟩
theorem St.msb_len {w0 w : World} {Ts : List Thing} (h : St w0 w Ts) {B : Nat} {l : List Bool} (i : Nat) (hti : Ts[i]? = some (mW B l)) :
    Calls Try.prog 19 #[.pointer (some ⟨B, 0, none⟩)] w fun e w' => e = .returned (.int .i64 l.length) ∧ w = w' := by
  obtain ⟨og, hw, _⟩ := h.writer i hti
  exact Go.Proofs.Ytomnhfcckalkiaa.msb_len B og l w hw
theorem St.msb_at {w0 w : World} {Ts : List Thing} (h : St w0 w Ts) {B : Nat} {bs : List Nat} {p : Nat} (i : Nat) (hti : Ts[i]? = some (mR B bs p)) :
    Calls Try.prog 26 #[.pointer (some ⟨B, 0, none⟩)] w fun e w' => e = .returned (.int .i64 p) ∧ w = w' := by
  obtain ⟨og, hr, _⟩ := h.reader i hti
  exact Go.Proofs.Ytomnhfcckalkiaa.msb_at B og bs p w hr
theorem St.msb_put {w0 w : World} {Ts : List Thing} (h : St w0 w Ts) {B T : Nat} {l : List Bool} {L : List Nat} (i j : Nat) (hti : Ts[i]? = some (mW B l)) (htj : Ts[j]? = some (tT T L)) (hij : j ≠ i) (hg : Good L) (s : Int) (hl : l.length + 100 < 2 ^ 40) :
    Calls Try.prog 13 #[.pointer (some ⟨T, 0, none⟩), .pointer (some ⟨B, 0, none⟩), .int .i64 s] w fun e w' => e = .returned (.int .i64 (putErr L s)) ∧ St w0 w' (Ts.set i (mW B (l ++ rowZ L s))) := by
  obtain ⟨S, ⟨ow, h1, h2⟩, _, h4, _⟩ := h.at i _ hti
  obtain ⟨S', ⟨og, og2, m, k1, k2⟩, k3⟩ := h4 j _ hij htj
  obtain ⟨ow', hw, _, _, hup⟩ := h.writer i hti
  have e : ow' = ow := by
    obtain ⟨v, a1, a2, _⟩ := h1
    obtain ⟨u, b1, b2, _⟩ := hw
    rw [a1] at b1
    have e : v = u := by injection b1 with b1; injection b1 with b1; simpa using b1
    rw [← a2.2, ← b2.2, e]
  subst e
  refine (pre_msb_put T og og2 m L s B ow' l w k1 hg hw (fun k hk hf => k3 k ((k2 k).2 hk) ((h2 k).2 hf)) hl).mono ?_
  rintro e w' ⟨rfl, p⟩
  exact ⟨rfl, hup _ _ p⟩
theorem St.msb_get {w0 w : World} {Ts : List Thing} (h : St w0 w Ts) {B T : Nat} {bs L : List Nat} {p : Nat} (i j : Nat) (hti : Ts[i]? = some (mR B bs p)) (htj : Ts[j]? = some (tT T L)) (hij : j ≠ i) (hg : Good L) (hl : bs.length ≤ 2 ^ 40) (hb : ∀ b ∈ bs, b < 256) (hp : p ≤ 8 * bs.length) :
    Calls Try.prog 25 #[.pointer (some ⟨T, 0, none⟩), .pointer (some ⟨B, 0, none⟩)] w fun e w' =>
      ∃ (s q : Nat) (er : Int), e = .returned (.tuple #[.int .i64 s, .int .i64 er]) ∧ IsDec (rowsL L) (ofBits true bs) p s q er ∧ St w0 w' (Ts.set i (mR B bs q)) := by
  obtain ⟨S, ⟨ow, h1, h2⟩, _, h4, _⟩ := h.at i _ hti
  obtain ⟨S', ⟨og, og2, m, k1, k2⟩, k3⟩ := h4 j _ hij htj
  obtain ⟨ow', hw, _, _, hup⟩ := h.reader i hti
  have e : ow' = ow := by
    obtain ⟨v, a1, a2, _⟩ := h1
    obtain ⟨u, b1, b2, _⟩ := hw
    rw [a1] at b1
    have e : v = u := by injection b1 with b1; injection b1 with b1; simpa using b1
    rw [← a2.2, ← b2.2, e]
  subst e
  refine (pre_msb_get T og og2 m L B ow' bs p w k1 hg hw (fun k hk hf => k3 k ((k2 k).2 hk) ((h2 k).2 hf)) hl hb hp).mono ?_
  rintro e w' ⟨s, q, er, rfl, d, r⟩
  exact ⟨s, q, er, rfl, d, hup _ _ r⟩
end Go.Proofs.Ytomnhfcckalkiaa
