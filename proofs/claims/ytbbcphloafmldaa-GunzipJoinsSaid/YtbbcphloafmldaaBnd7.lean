/- A table of words in memory: what it holds. slices.Max of bytes: its walk. kraft: may, weight, Classify; the reference's May, Weight: their walks. -/
import Derived.Test.YtbbcphloafmldaaBnd5
import Derived.Test.YtbbcphloafmldaaBnd6
import Derived.Test.YtbbcphloafmldaaPreLaw
import Derived.Lib.SliceRun
import Derived.Lib.SlicesS
import Derived.BigQuiet
/-! A table of words in memory: what it holds. -/
namespace Go.Proofs.Ytbbcphloafmldaa
open Go.RowKit
set_option linter.unusedVariables false

theorem bitsOf_numOf : ∀ x : List Bool, bitsOf true (numOf true x) x.length = x := by
  refine snoc_ind ?_ ?_
  · rfl
  · intro l b ih
    rw [List.length_append, List.length_singleton, bitsOf_high_succ, numOf_high]
    have e1 : (2 * numOf true l + b.toNat) / 2 = numOf true l := by cases b <;> simp <;> omega
    have e2 : (2 * numOf true l + b.toNat).testBit 0 = b := by cases b <;> simp [Nat.testBit_zero] <;> omega
    rw [e1, e2, ih]
theorem numOf_inj {x y : List Bool} (h : numOf true x = numOf true y) (hl : x.length = y.length) : x = y := by
  rw [← bitsOf_numOf x, ← bitsOf_numOf y, h, hl]
/-- what the map holds of rows: at a row its symbol; at what begins one, -1. -/
def RX (rows : List (List Bool)) (x : List Bool) (a : Int) : Prop :=
  (x ≠ [] ∧ ∃ i : Nat, rows[i]? = some x ∧ a = (i : Int)) ∨ (a = -1 ∧ ∃ (i : Nat) (r : List Bool), rows[i]? = some r ∧ x <+: r ∧ x.length < r.length)
def RT (rows : List (List Bool)) (v k : Nat) (a : Int) : Prop := ∃ x : List Bool, v = numOf true x ∧ k = x.length ∧ RX rows x a
theorem rt_iff (rows : List (List Bool)) (x : List Bool) (a : Int) : RT rows (numOf true x) x.length a ↔ RX rows x a := by
  constructor
  · rintro ⟨y, h1, h2, h3⟩
    rwa [numOf_inj h1 h2]
  · exact fun h => ⟨x, rfl, rfl, h⟩
theorem rt_nil (v k : Nat) (a : Int) : ¬ RT [] v k a := by
  rintro ⟨x, _, _, (⟨_, i, h, _⟩ | ⟨_, i, r, h, _⟩)⟩ <;> simp at h
/-- the map in the midst of symbol s: its row is there, and what it begins with, of fewer than j bits. -/
def RN (rows : List (List Bool)) (s j : Nat) (v k : Nat) (a : Int) : Prop :=
  RT (rows.take s) v k a ∨ ∃ r, rows[s]? = some r ∧ ((v = numOf true r ∧ k = r.length ∧ a = (s : Int)) ∨ (k < j ∧ v = numOf true (r.take k) ∧ a = -1))
theorem take_get {α : Type} {l : List α} {s i : Nat} {x : α} (h : (l.take s)[i]? = some x) : i < s ∧ l[i]? = some x := by
  rw [List.getElem?_take] at h
  split at h
  · exact ⟨by assumption, h⟩
  · cases h
theorem rx_take {rows : List (List Bool)} {s : Nat} {x : List Bool} {a : Int} (h : RX (rows.take s) x a) : (x ≠ [] ∧ ∃ i : Nat, i < s ∧ rows[i]? = some x ∧ a = (i : Int)) ∨ (a = -1 ∧ ∃ (i : Nat) (r : List Bool), i < s ∧ rows[i]? = some r ∧ x <+: r ∧ x.length < r.length) := by
  rcases h with ⟨h0, i, h1, h2⟩ | ⟨h0, i, r, h1, h2⟩
  · obtain ⟨h3, h4⟩ := take_get h1
    exact Or.inl ⟨h0, i, h3, h4, h2⟩
  · obtain ⟨h3, h4⟩ := take_get h1
    exact Or.inr ⟨h0, i, r, h3, h4, h2⟩
theorem rx_of {rows : List (List Bool)} {s : Nat} {x : List Bool} {a : Int} (h : (x ≠ [] ∧ ∃ i : Nat, i < s ∧ rows[i]? = some x ∧ a = (i : Int)) ∨ (a = -1 ∧ ∃ (i : Nat) (r : List Bool), i < s ∧ rows[i]? = some r ∧ x <+: r ∧ x.length < r.length)) : RX (rows.take s) x a := by
  rcases h with ⟨h0, i, h1, h2, h3⟩ | ⟨h0, i, r, h1, h2, h3⟩
  · exact Or.inl ⟨h0, i, by rw [List.getElem?_take, if_pos h1]; exact h2, h3⟩
  · exact Or.inr ⟨h0, i, r, by rw [List.getElem?_take, if_pos h1]; exact h2, h3⟩
/-- nothing stands yet where a symbol's row goes. -/
theorem rt_free {rows : List (List Bool)} (hf : PFree rows) {s : Nat} {r : List Bool} (hs : rows[s]? = some r) (h0 : r ≠ []) (a : Int) : ¬ RT (rows.take s) (numOf true r) r.length a := by
  intro h
  rcases rx_take ((rt_iff _ _ _).1 h) with ⟨_, i, h1, h2, _⟩ | ⟨_, i, q, h1, h2, h3, h4⟩
  · have := hf i s r r h2 hs h0 (List.prefix_refl _); omega
  · have := hf s i r q hs h2 h0 h3; omega
/-- what stands where a row's beginning goes is -1. -/
theorem rn_same {rows : List (List Bool)} (hf : PFree rows) {s j : Nat} {r : List Bool} (hs : rows[s]? = some r) (hj : j < r.length) (a : Int) (h : RN rows s j (numOf true (r.take j)) j a) : a = -1 := by
  have hl : (r.take j).length = j := by rw [List.length_take]; omega
  rcases h with h | ⟨q, hq, h⟩
  · have h' : RT (rows.take s) (numOf true (r.take j)) (r.take j).length a := by rw [hl]; exact h
    rcases rx_take ((rt_iff _ _ _).1 h') with ⟨h0, i, h1, h2, _⟩ | ⟨h0, _⟩
    · have := hf i s _ r h2 hs h0 (List.take_prefix _ _); omega
    · exact h0
  · rw [hs] at hq; cases hq
    rcases h with ⟨_, h, _⟩ | ⟨h, _⟩ <;> omega
theorem rn_zero (rows : List (List Bool)) (s : Nat) (r : List Bool) (hs : rows[s]? = some r) (v k : Nat) (a : Int) : (RT (rows.take s) v k a ∨ (v = numOf true r ∧ k = r.length ∧ a = (s : Int))) ↔ RN rows s 0 v k a := by
  unfold RN
  constructor
  · rintro (h | h)
    · exact Or.inl h
    · exact Or.inr ⟨r, hs, Or.inl h⟩
  · rintro (h | ⟨q, hq, h⟩)
    · exact Or.inl h
    · rw [hs] at hq; cases hq
      rcases h with h | ⟨h, _⟩
      · exact Or.inr h
      · omega
theorem rn_succ (rows : List (List Bool)) (s j : Nat) (r : List Bool) (hs : rows[s]? = some r) (v k : Nat) (a : Int) : (RN rows s j v k a ∨ (v = numOf true (r.take j) ∧ k = j ∧ a = -1)) ↔ RN rows s (j + 1) v k a := by
  unfold RN
  constructor
  · rintro ((h | ⟨q, hq, h⟩) | ⟨h1, h2, h3⟩)
    · exact Or.inl h
    · refine Or.inr ⟨q, hq, ?_⟩
      rcases h with h | ⟨h, h'⟩
      · exact Or.inl h
      · exact Or.inr ⟨by omega, h'⟩
    · exact Or.inr ⟨r, hs, Or.inr ⟨by omega, by rw [h2]; exact h1, h3⟩⟩
  · rintro (h | ⟨q, hq, h⟩)
    · exact Or.inl (Or.inl h)
    · rw [hs] at hq; cases hq
      rcases h with h | ⟨h, h1, h2⟩
      · exact Or.inl (Or.inr ⟨_, hs, Or.inl h⟩)
      · by_cases hk : k = j
        · exact Or.inr ⟨by rw [← hk]; exact h1, hk, h2⟩
        · exact Or.inl (Or.inr ⟨_, hs, Or.inr ⟨by omega, h1, h2⟩⟩)
theorem rn_end (rows : List (List Bool)) (s : Nat) (r : List Bool) (hs : rows[s]? = some r) (h0 : r ≠ []) (v k : Nat) (a : Int) : RN rows s r.length v k a ↔ RT (rows.take (s + 1)) v k a := by
  constructor
  · rintro (⟨x, h1, h2, h3⟩ | ⟨q, hq, h⟩)
    · refine ⟨x, h1, h2, rx_of ?_⟩
      rcases rx_take h3 with ⟨g0, i, g1, g2⟩ | ⟨g0, i, q, g1, g2⟩
      · exact Or.inl ⟨g0, i, by omega, g2⟩
      · exact Or.inr ⟨g0, i, q, by omega, g2⟩
    · rw [hs] at hq; cases hq
      rcases h with ⟨h1, h2, h3⟩ | ⟨h1, h2, h3⟩
      · exact ⟨r, h1, h2, rx_of (Or.inl ⟨h0, s, by omega, hs, h3⟩)⟩
      · have hl : (r.take k).length = k := by rw [List.length_take]; omega
        exact ⟨r.take k, h2, hl.symm, rx_of (Or.inr ⟨h3, s, r, by omega, hs, List.take_prefix _ _, by omega⟩)⟩
  · rintro ⟨x, h1, h2, h3⟩
    rcases rx_take h3 with ⟨g0, i, g1, g2, g3⟩ | ⟨g0, i, q, g1, g2, g3, g4⟩
    · by_cases hi : i < s
      · exact Or.inl ⟨x, h1, h2, rx_of (Or.inl ⟨g0, i, hi, g2, g3⟩)⟩
      · obtain rfl : i = s := by omega
        exact Or.inr ⟨x, g2, Or.inl ⟨h1, h2, g3⟩⟩
    · by_cases hi : i < s
      · exact Or.inl ⟨x, h1, h2, rx_of (Or.inr ⟨g0, i, q, hi, g2, g3, g4⟩)⟩
      · obtain rfl : i = s := by omega
        rw [hs] at g2; cases g2
        refine Or.inr ⟨_, hs, Or.inr ⟨by omega, ?_, g0⟩⟩
        obtain ⟨t, ht⟩ := g3
        rw [h1, h2, ← ht, List.take_left]
theorem rt_skip (rows : List (List Bool)) (s : Nat) (hs : rows[s]? = some []) (v k : Nat) (a : Int) : RT (rows.take s) v k a ↔ RT (rows.take (s + 1)) v k a := by
  constructor
  · rintro ⟨x, h1, h2, h3⟩
    refine ⟨x, h1, h2, rx_of ?_⟩
    rcases rx_take h3 with ⟨g0, i, g1, g2⟩ | ⟨g0, i, q, g1, g2⟩
    · exact Or.inl ⟨g0, i, by omega, g2⟩
    · exact Or.inr ⟨g0, i, q, by omega, g2⟩
  · rintro ⟨x, h1, h2, h3⟩
    rcases rx_take h3 with ⟨g0, i, g1, g2, g3⟩ | ⟨g0, i, q, g1, g2, g3, g4⟩
    · by_cases hi : i < s
      · exact ⟨x, h1, h2, rx_of (Or.inl ⟨g0, i, hi, g2, g3⟩)⟩
      · obtain rfl : i = s := by omega
        rw [hs] at g2; cases g2; exact (g0 rfl).elim
    · by_cases hi : i < s
      · exact ⟨x, h1, h2, rx_of (Or.inr ⟨g0, i, q, hi, g2, g3, g4⟩)⟩
      · obtain rfl : i = s := by omega
        rw [hs] at g2; cases g2; simp at g4

/-- block B is a table of the lengths L: its own lengths (block og), its words (block g2), its map (block m). -/
structure IsT (w : World) (B : Nat) (og : Option Nat) (og2 : Option Nat) (m : Nat) (L : List Nat) : Prop where
  is : ∃ lv wv, w.heap[B]? = some (.cells #[lv, wv, .map (some m)] 114 (0, 0)) ∧ Owns w 5 1 lv og L.length (u8s L) ∧ Owns w 38 1 wv og2 L.length (u32s (wordsL L)) ∧ MapIs w m (RT (rowsL L))
def TB (B : Nat) (og og2 : Option Nat) (m : Nat) : Nat → Prop := fun k => k = B ∨ og = some k ∨ og2 = some k ∨ k = m
theorem IsT.keep {w w' : World} {B : Nat} {og og2 : Option Nat} {m : Nat} {L : List Nat} {S : Nat → Prop} (h : IsT w B og og2 m L) (t : Touch S w w') (hn : ∀ k, TB B og og2 m k → ¬ S k) : IsT w' B og og2 m L := by
  obtain ⟨lv, wv, h1, h2, h3, h4⟩ := h
  exact ⟨lv, wv, t.keep h1 (hn _ (Or.inl rfl)), h2.keep t (fun g e => hn _ (Or.inr (Or.inl e))), h3.keep t (fun g e => hn _ (Or.inr (Or.inr (Or.inl e)))), h4.keep t (hn _ (Or.inr (Or.inr (Or.inr rfl))))⟩
theorem IsT.lt {w : World} {B : Nat} {og og2 : Option Nat} {m : Nat} {L : List Nat} (h : IsT w B og og2 m L) : ∀ k, TB B og og2 m k → k < w.heap.size := by
  obtain ⟨lv, wv, h1, h2, h3, h4⟩ := h
  rintro k (rfl | e | e | rfl)
  · exact block_lt h1
  · exact h2.lt k e
  · exact h3.lt k e
  · exact h4.lt
end Go.Proofs.Ytbbcphloafmldaa

/-! slices.Max of bytes: its walk. -/
namespace Go.Proofs.Ytbbcphloafmldaa
open Go.RowKit
set_option linter.unusedVariables false

set_option maxHeartbeats 1000000 in
theorem pre_max (v : Value) (bs : List Nat) (w : World) (hv : ViewL w v (u8s bs)) (h0 : 0 < bs.length) (hl : bs.length ≤ 2 ^ 40) :
    Calls Try.prog 87 #[v] w fun e w' => ∃ m : Nat, e = .returned (.int .u8 m) ∧ m ∈ bs ∧ (∀ b ∈ bs, b ≤ m) ∧ w = w' := by
  obtain ⟨ao, cap, rfl⟩ := hv.shape
  rw [length_u8s] at *
  have HV := Lib.hid hv
  obtain ⟨b, o, rfl, _, hc⟩ := viewL_cells hv (by rw [length_u8s]; omega)
  obtain ⟨x, hx⟩ : ∃ x, bs[0]? = some x := ⟨_, List.getElem?_eq_getElem h0⟩
  have c0 := hc 0 (.int .u8 x) (by simp [u8s, hx])
  have h1 : ¬ (bs.length : Int) < 1 := by omega
  have h2 : (0 : Int) < (bs.length : Int) := by omega
  have HC := Lib.hid hc
  have HX := Lib.hid hx
  rw [Nat.add_zero] at c0
  clear hv hc hx
  go_enter Try.func87, Try.ntmps87
  go_wp2_with fail
  clear c0
  go_loopw [3, 4] (fun mv iv wr => ∃ k m : Nat, iv = .int .i64 k ∧ mv = .int .u8 m ∧ 1 ≤ k ∧ k ≤ bs.length ∧ m ∈ bs ∧ (∀ i b, i < k → bs[i]? = some b → b ≤ m) ∧ wr = w) (fun _ iv _ => bs.length - (intOf iv).toNat)
  case atStart => exact ⟨1, x, rfl, rfl, Nat.le_refl _, by omega, List.mem_of_getElem? HX.out, fun i b hi hb => by rw [show i = 0 by omega, HX.out] at hb; cases hb; exact Nat.le_refl _, rfl⟩
  case round =>
    obtain ⟨k, m, rfl, rfl, hk1, hk, hmem, hall, hwr⟩ := hrel
    obtain rfl : w = wr := hwr.symm
    have HALL := Lib.hid hall
    have HMEM := Lib.hid hmem
    clear hall hmem
    by_cases hlt : k < bs.length
    · have hlti : (k : Int) < (bs.length : Int) := by omega
      obtain ⟨y, hy⟩ : ∃ y, bs[k]? = some y := ⟨_, List.getElem?_eq_getElem hlt⟩
      have c1 := HC.out k (.int .u8 y) (by simp [u8s, hy])
      have HY := Lib.hid hy
      clear hy
      by_cases hmy : m < y
      · have hmyi : (m : Int) < (y : Int) := by omega
        go_wp2_with fail
        go_roundw
        case rel => exact ⟨k + 1, y, by go_num, rfl, by omega, by omega, List.mem_of_getElem? HY.out, fun i b hi hb => by
          by_cases h : i < k
          · have := HALL.out i b h hb; omega
          · rw [show i = k by omega, HY.out] at hb; cases hb; omega, trivial⟩
        case measure => simp [intOf]; omega
      · have hmyi : ¬ (m : Int) < (y : Int) := by omega
        go_wp2_with fail
        go_roundw
        case rel => exact ⟨k + 1, m, by go_num, rfl, by omega, by omega, HMEM.out, fun i b hi hb => by
          by_cases h : i < k
          · have := HALL.out i b h hb; omega
          · rw [show i = k by omega, HY.out] at hb; cases hb; omega, trivial⟩
        case measure => simp [intOf]; omega
    · obtain rfl : k = bs.length := by omega
      go_wp2_with fail
      go_ret
      exact ⟨m, rfl, HMEM.out, fun b hb => by
        obtain ⟨i, hi, e⟩ := List.getElem_of_mem hb
        exact HALL.out i b hi (by rw [List.getElem?_eq_getElem hi, e]), rfl⟩
end Go.Proofs.Ytbbcphloafmldaa

/-! kraft: may, weight, Classify; the reference's May, Weight: their walks. -/
namespace Go.Proofs.Ytbbcphloafmldaa
open Go.RowKit
set_option linter.unusedVariables false

/-- may lengths be? -/
def MayK (L : List Nat) : Prop := L.length ≤ 512 ∧ ∀ b ∈ L, b ≤ 20
instance (L : List Nat) : Decidable (MayK L) := by unfold MayK; exact inferInstance
def errW (L : List Nat) : Int := if ¬ MayK L then 5 else if 2 ^ 20 < weightL L then 2 else 0
theorem good_iff (L : List Nat) : Good L ↔ errW L = 0 := by
  unfold errW Good MayK
  split <;> rename_i h
  · constructor
    · intro ⟨h1, h2, _⟩; exact (h ⟨h2, h1⟩).elim
    · intro h; cases h
  · have h := Classical.not_not.1 h
    split <;> rename_i h3
    · constructor
      · intro ⟨_, _, h4⟩; omega
      · intro h; cases h
    · exact ⟨fun _ => rfl, fun _ => ⟨h.2, h.1, by omega⟩⟩
set_option maxHeartbeats 1000000 in
theorem kraft_may (v : Value) (bs : List Nat) (w : World) (hv : ViewL w v (u8s bs)) (hl : bs.length ≤ 2 ^ 40) :
    Calls Try.prog 77 #[v] w fun e w' => e = .returned (.bool (decide (MayK bs))) ∧ w = w' := by
  obtain ⟨ao, cap, rfl⟩ := hv.shape
  rw [length_u8s] at *
  have HV := Lib.hid hv
  clear hv
  by_cases h5 : bs.length ≤ 512
  · have h5i : (bs.length : Int) ≤ 512 := by omega
    by_cases h0 : bs.length = 0
    · have h0i : (bs.length : Int) = 0 := by omega
      have hd : decide (MayK bs) = true := by
        obtain rfl := List.eq_nil_of_length_eq_zero h0
        simp [MayK]
      go_enter Try.func77, Try.ntmps77
      go_wp2_with fail
      go_ret
      exact ⟨by rw [hd]; rfl, rfl⟩
    · have h0i : ¬ (bs.length : Int) = 0 := by omega
      have h0b : ((bs.length : Int) == 0) = false := by simpa using h0i
      go_enter Try.func77, Try.ntmps77
      go_wp2_with fail
      refine (pre_max _ bs _ HV.out (by omega) hl).mono ?_
      rintro e w' ⟨m, rfl, hm, hall, rfl⟩
      have HM := Lib.hid (And.intro hm hall)
      clear hm hall
      go_wp2_with fail
      go_ret
      refine ⟨?_, rfl⟩
      show Ending.returned (.bool (decide ((m : Int) ≤ 20))) = _
      congr 2
      apply decide_eq_decide.2
      obtain ⟨hm, hall⟩ := HM.out
      constructor
      · intro h
        exact ⟨h5, fun b hb => by have := hall b hb; omega⟩
      · rintro ⟨_, h⟩
        have := h m hm; omega
  · have h5i : ¬ (bs.length : Int) ≤ 512 := by omega
    have hd : decide (MayK bs) = false := by
      rw [decide_eq_false_iff_not]; exact fun h => h5 h.1
    go_enter Try.func77, Try.ntmps77
    go_wp2_with fail
    go_ret
    exact ⟨rfl, rfl⟩
theorem pow_part (n : Nat) (hn : n ≤ 20) : 2 ^ (20 - n) ≤ 2 ^ 20 := Nat.pow_le_pow_right (by decide) (by omega)
theorem cast_pow (k : Nat) : (2 : Int) ^ k = ((2 ^ k : Nat) : Int) := by simp
theorem sum_part (W W' k : Nat) (hk : k ≤ 20) (hw : W ≤ 512 * 2 ^ 20) (h : W' = W + 2 ^ k) : wrap64 ((W : Int) + wrap64 (2 ^ k)) = (W' : Int) := by
  have hp : 2 ^ k ≤ 2 ^ 20 := Nat.pow_le_pow_right (by decide) hk
  rw [cast_pow]
  generalize 2 ^ k = P at *
  rw [IntWalk.wrap64_in (P : Int) (by omega), IntWalk.wrap64_in _ (by omega), h]
  omega
set_option maxHeartbeats 1000000 in
theorem kraft_weight (v : Value) (bs : List Nat) (w : World) (hv : ViewL w v (u8s bs)) (hm : MayK bs) :
    Calls Try.prog 78 #[v] w fun e w' => e = .returned (.int .i64 (weightL bs)) ∧ w = w' := by
  obtain ⟨ao, cap, rfl⟩ := hv.shape
  rw [length_u8s] at *
  have hl := hm.1
  have HV := Lib.hid hv
  have HM := Lib.hid hm
  clear hv hm
  go_enter Try.func78, Try.ntmps78
  go_wp2_with fail
  go_loopw [3, 5, 8] (fun nv bv iv wr => ∃ k : Nat, iv = .int .i64 k ∧ nv = .int .i64 (weightL (bs.take k)) ∧ k ≤ bs.length ∧ wr = w) (fun _ _ iv _ => bs.length - (intOf iv).toNat)
  case atStart => exact ⟨0, rfl, by simp [weightL], Nat.zero_le _, rfl⟩
  case round =>
    obtain ⟨k, rfl, rfl, hk, hwr⟩ := hrel
    obtain rfl : w = wr := hwr.symm
    have hwl := weightL_le (bs.take k)
    rw [List.length_take] at hwl
    have hw : weightL (bs.take k) ≤ 512 * 2 ^ 20 := Nat.le_trans hwl (Nat.mul_le_mul_right _ (by omega))
    clear hwl
    by_cases hlt : k < bs.length
    · have hlti : (k : Int) < (bs.length : Int) := by omega
      obtain ⟨b, o, rfl, _, hc⟩ := viewL_cells HV.out (by rw [length_u8s]; omega)
      obtain ⟨y, hy⟩ : ∃ y, bs.getD k 0 = y := ⟨_, rfl⟩
      have c1 := hc k (.int .u8 y) (by rw [getElem?_u8s _ _ hlt, hy])
      have hy20 : y ≤ 20 := by
        rw [← hy, List.getD, List.getElem?_eq_getElem hlt]; exact HM.out.2 _ (List.getElem_mem _)
      have HT := Lib.hid (weightL_take bs k hlt)
      rw [hy] at HT
      obtain ⟨W', hW'⟩ : ∃ W', weightL (bs.take (k + 1)) = W' := ⟨_, rfl⟩
      rw [hW'] at HT
      have HW' := Lib.hid hW'
      clear hW'
      generalize weightL (bs.take k) = W at *
      clear hc hy
      by_cases hy0 : y = 0
      · subst hy0
        go_wp2_with fail
        go_roundw
        case rel => exact ⟨k + 1, by go_num, by rw [HW'.out]; have := HT.out; simp at this; rw [this], by omega, trivial⟩
        case measure => simp [intOf]; omega
      · have hy0i : (0 : Int) < (y : Int) := by omega
        have hp := pow_part y hy20
        go_wp2_with fail
        go_roundw
        case rel => exact ⟨k + 1, by go_num, by rw [HW'.out]; have := HT.out; rw [if_neg hy0] at this; exact congrArg (Value.int .i64) (sum_part W W' (20 - y) (by omega) hw this), by omega, trivial⟩
        case measure => simp [intOf]; omega
    · obtain rfl : k = bs.length := by omega
      go_wp2_with fail
      go_ret
      exact ⟨rfl, rfl⟩
/-- what a code is. -/
def classL (L : List Nat) : Nat := if weightL L = 0 then 0 else if weightL L < 1048576 then 1 else if weightL L = 1048576 then 2 else 3
set_option maxRecDepth 100000 in
set_option maxHeartbeats 1000000 in
theorem kraft_classify (v : Value) (bs : List Nat) (w : World) (hv : ViewL w v (u8s bs)) (hl : bs.length ≤ 2 ^ 40) :
    Calls Try.prog 63 #[v] w fun e w' => ((MayK bs ∧ e = .returned (.tuple #[.int .u8 (classL bs), .int .i64 0])) ∨ (¬ MayK bs ∧ e = .returned (.tuple #[.int .u8 0, .int .i64 5]))) ∧ w = w' := by
  have HV := Lib.hid hv
  clear hv
  go_enter Try.func63, Try.ntmps63
  go_wp2_with fail
  refine (kraft_may v bs _ HV.out hl).mono ?_
  rintro e w' ⟨rfl, rfl⟩
  by_cases hm : MayK bs
  · have hd : decide (MayK bs) = true := by simpa using hm
    rw [hd]
    go_wp2_with fail
    refine (kraft_weight v bs _ HV.out hm).mono ?_
    rintro e w' ⟨rfl, rfl⟩
    obtain ⟨W, hW⟩ : ∃ W, weightL bs = W := ⟨_, rfl⟩
    have hc : classL bs = if W = 0 then 0 else if W < 1048576 then 1 else if W = 1048576 then 2 else 3 := by rw [← hW]; rfl
    have HC := Lib.hid hc
    rw [hW]
    clear hc hW
    by_cases h0 : W = 0
    · subst h0
      go_wp2_with fail
      go_ret2
      exact ⟨Or.inl ⟨hm, by rw [HC.out]; rfl⟩, rfl⟩
    · have h0i : ¬ (W : Int) = 0 := by omega
      have h0b : ((W : Int) == 0) = false := by simpa using h0i
      by_cases h1 : W < 1048576
      · have h1i : (W : Int) < 1048576 := by omega
        go_wp2_with fail
        go_ret2
        exact ⟨Or.inl ⟨hm, by rw [HC.out, if_neg h0, if_pos h1]; rfl⟩, rfl⟩
      · have h1i : ¬ (W : Int) < 1048576 := by omega
        by_cases h2 : W = 1048576
        · have h2i : (W : Int) = 1048576 := by omega
          have h2b : ((W : Int) == 1048576) = true := by simpa using h2i
          go_wp2_with fail
          go_ret2
          exact ⟨Or.inl ⟨hm, by rw [HC.out, if_neg h0, if_neg h1, if_pos h2]; rfl⟩, rfl⟩
        · have h2b : ((W : Int) == 1048576) = false := beq_eq_false_iff_ne.2 (by omega)
          have HC2 := Lib.hid (show classL bs = 3 by rw [HC.out, if_neg h0, if_neg h1, if_neg h2])
          clear h2 h1 h0
          generalize (W : Int) = V at *
          go_wp2_with fail
          go_ret2
          exact ⟨Or.inl ⟨hm, by rw [HC2.out]; rfl⟩, rfl⟩
  · have hd : decide (MayK bs) = false := by simpa using hm
    rw [hd]
    go_wp2_with fail
    go_ret2
    exact ⟨Or.inr ⟨hm, rfl⟩, rfl⟩
theorem pow_half (k : Nat) (h : k < 20) : 2 ^ (20 - k) / 2 = 2 ^ (20 - (k + 1)) := by
  rw [show 20 - k = (20 - (k + 1)) + 1 by omega, Nat.pow_succ]
  omega
end Go.Proofs.Ytbbcphloafmldaa
-- pruned by prune.py for gunzip
