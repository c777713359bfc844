/- A table of words in memory: what it holds. slices.Max of bytes: its walk. -/
import Derived.Test.YtbbcphloafmldaaGreatBnd2
import Derived.Test.YtbbcphloafmldaaGreatBnd3
import Derived.Test.YtbbcphloafmldaaGreatPreLaw
import Derived.Lib.SliceRun
import Derived.Lib.SlicesS
/-! A table of words in memory: what it holds. -/
namespace Go.Proofs.YtbbcphloafmldaaGreat
open Go.RowKit
set_option linter.unusedVariables false

theorem bitsOf_numOf : ∀ x : List Bool, bitsOf true (numOf true x) x.length = x := by
  refine snoc_ind ?_ ?_
  · rfl
  · intro l b ih
    rw [List.length_append, List.length_singleton, bitsOf_high_succ, numOf_high]
    have e1 : (2 * numOf true l + b.toNat) / 2 = numOf true l := by cases b <;> simp <;> omega
    have e2 : (2 * numOf true l + b.toNat).testBit 0 = b := by cases b <;> simp [Nat.testBit_zero] <;> omega
    rw [e1, e2, ih]
theorem numOf_inj {x y : List Bool} (h : numOf true x = numOf true y) (hl : x.length = y.length) : x = y := by
  rw [← bitsOf_numOf x, ← bitsOf_numOf y, h, hl]
/-- what the map holds of rows: at a row its symbol; at what begins one, -1. -/
def RX (rows : List (List Bool)) (x : List Bool) (a : Int) : Prop :=
  (x ≠ [] ∧ ∃ i : Nat, rows[i]? = some x ∧ a = (i : Int)) ∨ (a = -1 ∧ ∃ (i : Nat) (r : List Bool), rows[i]? = some r ∧ x <+: r ∧ x.length < r.length)
def RT (rows : List (List Bool)) (v k : Nat) (a : Int) : Prop := ∃ x : List Bool, v = numOf true x ∧ k = x.length ∧ RX rows x a
theorem rt_iff (rows : List (List Bool)) (x : List Bool) (a : Int) : RT rows (numOf true x) x.length a ↔ RX rows x a := by
  constructor
  · rintro ⟨y, h1, h2, h3⟩
    rwa [numOf_inj h1 h2]
  · exact fun h => ⟨x, rfl, rfl, h⟩
theorem rt_nil (v k : Nat) (a : Int) : ¬ RT [] v k a := by
  rintro ⟨x, _, _, (⟨_, i, h, _⟩ | ⟨_, i, r, h, _⟩)⟩ <;> simp at h
/-- the map in the midst of symbol s: its row is there, and what it begins with, of fewer than j bits. -/
def RN (rows : List (List Bool)) (s j : Nat) (v k : Nat) (a : Int) : Prop :=
  RT (rows.take s) v k a ∨ ∃ r, rows[s]? = some r ∧ ((v = numOf true r ∧ k = r.length ∧ a = (s : Int)) ∨ (k < j ∧ v = numOf true (r.take k) ∧ a = -1))
theorem take_get {α : Type} {l : List α} {s i : Nat} {x : α} (h : (l.take s)[i]? = some x) : i < s ∧ l[i]? = some x := by
  rw [List.getElem?_take] at h
  split at h
  · exact ⟨by assumption, h⟩
  · cases h
theorem rx_take {rows : List (List Bool)} {s : Nat} {x : List Bool} {a : Int} (h : RX (rows.take s) x a) : (x ≠ [] ∧ ∃ i : Nat, i < s ∧ rows[i]? = some x ∧ a = (i : Int)) ∨ (a = -1 ∧ ∃ (i : Nat) (r : List Bool), i < s ∧ rows[i]? = some r ∧ x <+: r ∧ x.length < r.length) := by
  rcases h with ⟨h0, i, h1, h2⟩ | ⟨h0, i, r, h1, h2⟩
  · obtain ⟨h3, h4⟩ := take_get h1
    exact Or.inl ⟨h0, i, h3, h4, h2⟩
  · obtain ⟨h3, h4⟩ := take_get h1
    exact Or.inr ⟨h0, i, r, h3, h4, h2⟩
theorem rx_of {rows : List (List Bool)} {s : Nat} {x : List Bool} {a : Int} (h : (x ≠ [] ∧ ∃ i : Nat, i < s ∧ rows[i]? = some x ∧ a = (i : Int)) ∨ (a = -1 ∧ ∃ (i : Nat) (r : List Bool), i < s ∧ rows[i]? = some r ∧ x <+: r ∧ x.length < r.length)) : RX (rows.take s) x a := by
  rcases h with ⟨h0, i, h1, h2, h3⟩ | ⟨h0, i, r, h1, h2, h3⟩
  · exact Or.inl ⟨h0, i, by rw [List.getElem?_take, if_pos h1]; exact h2, h3⟩
  · exact Or.inr ⟨h0, i, r, by rw [List.getElem?_take, if_pos h1]; exact h2, h3⟩
/-- nothing stands yet where a symbol's row goes. -/
theorem rt_free {rows : List (List Bool)} (hf : PFree rows) {s : Nat} {r : List Bool} (hs : rows[s]? = some r) (h0 : r ≠ []) (a : Int) : ¬ RT (rows.take s) (numOf true r) r.length a := by
  intro h
  rcases rx_take ((rt_iff _ _ _).1 h) with ⟨_, i, h1, h2, _⟩ | ⟨_, i, q, h1, h2, h3, h4⟩
  · have := hf i s r r h2 hs h0 (List.prefix_refl _); omega
  · have := hf s i r q hs h2 h0 h3; omega
/-- what stands where a row's beginning goes is -1. -/
theorem rn_same {rows : List (List Bool)} (hf : PFree rows) {s j : Nat} {r : List Bool} (hs : rows[s]? = some r) (hj : j < r.length) (a : Int) (h : RN rows s j (numOf true (r.take j)) j a) : a = -1 := by
  have hl : (r.take j).length = j := by rw [List.length_take]; omega
  rcases h with h | ⟨q, hq, h⟩
  · have h' : RT (rows.take s) (numOf true (r.take j)) (r.take j).length a := by rw [hl]; exact h
    rcases rx_take ((rt_iff _ _ _).1 h') with ⟨h0, i, h1, h2, _⟩ | ⟨h0, _⟩
    · have := hf i s _ r h2 hs h0 (List.take_prefix _ _); omega
    · exact h0
  · rw [hs] at hq; cases hq
    rcases h with ⟨_, h, _⟩ | ⟨h, _⟩ <;> omega
theorem rn_zero (rows : List (List Bool)) (s : Nat) (r : List Bool) (hs : rows[s]? = some r) (v k : Nat) (a : Int) : (RT (rows.take s) v k a ∨ (v = numOf true r ∧ k = r.length ∧ a = (s : Int))) ↔ RN rows s 0 v k a := by
  unfold RN
  constructor
  · rintro (h | h)
    · exact Or.inl h
    · exact Or.inr ⟨r, hs, Or.inl h⟩
  · rintro (h | ⟨q, hq, h⟩)
    · exact Or.inl h
    · rw [hs] at hq; cases hq
      rcases h with h | ⟨h, _⟩
      · exact Or.inr h
      · omega
theorem rn_succ (rows : List (List Bool)) (s j : Nat) (r : List Bool) (hs : rows[s]? = some r) (v k : Nat) (a : Int) : (RN rows s j v k a ∨ (v = numOf true (r.take j) ∧ k = j ∧ a = -1)) ↔ RN rows s (j + 1) v k a := by
  unfold RN
  constructor
  · rintro ((h | ⟨q, hq, h⟩) | ⟨h1, h2, h3⟩)
    · exact Or.inl h
    · refine Or.inr ⟨q, hq, ?_⟩
      rcases h with h | ⟨h, h'⟩
      · exact Or.inl h
      · exact Or.inr ⟨by omega, h'⟩
    · exact Or.inr ⟨r, hs, Or.inr ⟨by omega, by rw [h2]; exact h1, h3⟩⟩
  · rintro (h | ⟨q, hq, h⟩)
    · exact Or.inl (Or.inl h)
    · rw [hs] at hq; cases hq
      rcases h with h | ⟨h, h1, h2⟩
      · exact Or.inl (Or.inr ⟨_, hs, Or.inl h⟩)
      · by_cases hk : k = j
        · exact Or.inr ⟨by rw [← hk]; exact h1, hk, h2⟩
        · exact Or.inl (Or.inr ⟨_, hs, Or.inr ⟨by omega, h1, h2⟩⟩)
theorem rn_end (rows : List (List Bool)) (s : Nat) (r : List Bool) (hs : rows[s]? = some r) (h0 : r ≠ []) (v k : Nat) (a : Int) : RN rows s r.length v k a ↔ RT (rows.take (s + 1)) v k a := by
  constructor
  · rintro (⟨x, h1, h2, h3⟩ | ⟨q, hq, h⟩)
    · refine ⟨x, h1, h2, rx_of ?_⟩
      rcases rx_take h3 with ⟨g0, i, g1, g2⟩ | ⟨g0, i, q, g1, g2⟩
      · exact Or.inl ⟨g0, i, by omega, g2⟩
      · exact Or.inr ⟨g0, i, q, by omega, g2⟩
    · rw [hs] at hq; cases hq
      rcases h with ⟨h1, h2, h3⟩ | ⟨h1, h2, h3⟩
      · exact ⟨r, h1, h2, rx_of (Or.inl ⟨h0, s, by omega, hs, h3⟩)⟩
      · have hl : (r.take k).length = k := by rw [List.length_take]; omega
        exact ⟨r.take k, h2, hl.symm, rx_of (Or.inr ⟨h3, s, r, by omega, hs, List.take_prefix _ _, by omega⟩)⟩
  · rintro ⟨x, h1, h2, h3⟩
    rcases rx_take h3 with ⟨g0, i, g1, g2, g3⟩ | ⟨g0, i, q, g1, g2, g3, g4⟩
    · by_cases hi : i < s
      · exact Or.inl ⟨x, h1, h2, rx_of (Or.inl ⟨g0, i, hi, g2, g3⟩)⟩
      · obtain rfl : i = s := by omega
        exact Or.inr ⟨x, g2, Or.inl ⟨h1, h2, g3⟩⟩
    · by_cases hi : i < s
      · exact Or.inl ⟨x, h1, h2, rx_of (Or.inr ⟨g0, i, q, hi, g2, g3, g4⟩)⟩
      · obtain rfl : i = s := by omega
        rw [hs] at g2; cases g2
        refine Or.inr ⟨_, hs, Or.inr ⟨by omega, ?_, g0⟩⟩
        obtain ⟨t, ht⟩ := g3
        rw [h1, h2, ← ht, List.take_left]
theorem rt_skip (rows : List (List Bool)) (s : Nat) (hs : rows[s]? = some []) (v k : Nat) (a : Int) : RT (rows.take s) v k a ↔ RT (rows.take (s + 1)) v k a := by
  constructor
  · rintro ⟨x, h1, h2, h3⟩
    refine ⟨x, h1, h2, rx_of ?_⟩
    rcases rx_take h3 with ⟨g0, i, g1, g2⟩ | ⟨g0, i, q, g1, g2⟩
    · exact Or.inl ⟨g0, i, by omega, g2⟩
    · exact Or.inr ⟨g0, i, q, by omega, g2⟩
  · rintro ⟨x, h1, h2, h3⟩
    rcases rx_take h3 with ⟨g0, i, g1, g2, g3⟩ | ⟨g0, i, q, g1, g2, g3, g4⟩
    · by_cases hi : i < s
      · exact ⟨x, h1, h2, rx_of (Or.inl ⟨g0, i, hi, g2, g3⟩)⟩
      · obtain rfl : i = s := by omega
        rw [hs] at g2; cases g2; exact (g0 rfl).elim
    · by_cases hi : i < s
      · exact ⟨x, h1, h2, rx_of (Or.inr ⟨g0, i, q, hi, g2, g3, g4⟩)⟩
      · obtain rfl : i = s := by omega
        rw [hs] at g2; cases g2; simp at g4

/-- block B is a table of the lengths L: its own lengths (block og), its words (block g2), its map (block m). -/
structure IsT (w : World) (B : Nat) (og : Option Nat) (og2 : Option Nat) (m : Nat) (L : List Nat) : Prop where
  is : ∃ lv wv, w.heap[B]? = some (.cells #[lv, wv, .map (some m)] 154 (0, 0)) ∧ Owns w 5 1 lv og L.length (u8s L) ∧ Owns w 32 1 wv og2 L.length (u32s (wordsL L)) ∧ MapIs w m (RT (rowsL L))
def TB (B : Nat) (og og2 : Option Nat) (m : Nat) : Nat → Prop := fun k => k = B ∨ og = some k ∨ og2 = some k ∨ k = m
theorem IsT.keep {w w' : World} {B : Nat} {og og2 : Option Nat} {m : Nat} {L : List Nat} {S : Nat → Prop} (h : IsT w B og og2 m L) (t : Touch S w w') (hn : ∀ k, TB B og og2 m k → ¬ S k) : IsT w' B og og2 m L := by
  obtain ⟨lv, wv, h1, h2, h3, h4⟩ := h
  exact ⟨lv, wv, t.keep h1 (hn _ (Or.inl rfl)), h2.keep t (fun g e => hn _ (Or.inr (Or.inl e))), h3.keep t (fun g e => hn _ (Or.inr (Or.inr (Or.inl e)))), h4.keep t (hn _ (Or.inr (Or.inr (Or.inr rfl))))⟩
theorem IsT.lt {w : World} {B : Nat} {og og2 : Option Nat} {m : Nat} {L : List Nat} (h : IsT w B og og2 m L) : ∀ k, TB B og og2 m k → k < w.heap.size := by
  obtain ⟨lv, wv, h1, h2, h3, h4⟩ := h
  rintro k (rfl | e | e | rfl)
  · exact block_lt h1
  · exact h2.lt k e
  · exact h3.lt k e
  · exact h4.lt
end Go.Proofs.YtbbcphloafmldaaGreat

/-! slices.Max of bytes: its walk. -/
namespace Go.Proofs.YtbbcphloafmldaaGreat
open Go.RowKit
set_option linter.unusedVariables false

set_option maxHeartbeats 1000000 in
theorem pre_max (v : Value) (bs : List Nat) (w : World) (hv : ViewL w v (u8s bs)) (h0 : 0 < bs.length) (hl : bs.length ≤ 2 ^ 40) :
    Calls Tryz.prog 140 #[v] w fun e w' => ∃ m : Nat, e = .returned (.int .u8 m) ∧ m ∈ bs ∧ (∀ b ∈ bs, b ≤ m) ∧ w = w' := by
  obtain ⟨ao, cap, rfl⟩ := hv.shape
  rw [length_u8s] at *
  have HV := Lib.hid hv
  obtain ⟨b, o, rfl, _, hc⟩ := viewL_cells hv (by rw [length_u8s]; omega)
  obtain ⟨x, hx⟩ : ∃ x, bs[0]? = some x := ⟨_, List.getElem?_eq_getElem h0⟩
  have c0 := hc 0 (.int .u8 x) (by simp [u8s, hx])
  have h1 : ¬ (bs.length : Int) < 1 := by omega
  have h2 : (0 : Int) < (bs.length : Int) := by omega
  have HC := Lib.hid hc
  have HX := Lib.hid hx
  rw [Nat.add_zero] at c0
  clear hv hc hx
  go_enter Tryz.func140, Tryz.ntmps140
  go_wp2_with fail
  clear c0
  go_loopw [3, 4] (fun mv iv wr => ∃ k m : Nat, iv = .int .i64 k ∧ mv = .int .u8 m ∧ 1 ≤ k ∧ k ≤ bs.length ∧ m ∈ bs ∧ (∀ i b, i < k → bs[i]? = some b → b ≤ m) ∧ wr = w) (fun _ iv _ => bs.length - (intOf iv).toNat)
  case atStart => exact ⟨1, x, rfl, rfl, Nat.le_refl _, by omega, List.mem_of_getElem? HX.out, fun i b hi hb => by rw [show i = 0 by omega, HX.out] at hb; cases hb; exact Nat.le_refl _, rfl⟩
  case round =>
    obtain ⟨k, m, rfl, rfl, hk1, hk, hmem, hall, hwr⟩ := hrel
    obtain rfl : w = wr := hwr.symm
    have HALL := Lib.hid hall
    have HMEM := Lib.hid hmem
    clear hall hmem
    by_cases hlt : k < bs.length
    · have hlti : (k : Int) < (bs.length : Int) := by omega
      obtain ⟨y, hy⟩ : ∃ y, bs[k]? = some y := ⟨_, List.getElem?_eq_getElem hlt⟩
      have c1 := HC.out k (.int .u8 y) (by simp [u8s, hy])
      have HY := Lib.hid hy
      clear hy
      by_cases hmy : m < y
      · have hmyi : (m : Int) < (y : Int) := by omega
        go_wp2_with fail
        go_roundw
        case rel => exact ⟨k + 1, y, by go_num, rfl, by omega, by omega, List.mem_of_getElem? HY.out, fun i b hi hb => by
          by_cases h : i < k
          · have := HALL.out i b h hb; omega
          · rw [show i = k by omega, HY.out] at hb; cases hb; omega, trivial⟩
        case measure => simp [intOf]; omega
      · have hmyi : ¬ (m : Int) < (y : Int) := by omega
        go_wp2_with fail
        go_roundw
        case rel => exact ⟨k + 1, m, by go_num, rfl, by omega, by omega, HMEM.out, fun i b hi hb => by
          by_cases h : i < k
          · have := HALL.out i b h hb; omega
          · rw [show i = k by omega, HY.out] at hb; cases hb; omega, trivial⟩
        case measure => simp [intOf]; omega
    · obtain rfl : k = bs.length := by omega
      go_wp2_with fail
      go_ret
      exact ⟨m, rfl, HMEM.out, fun b hb => by
        obtain ⟨i, hi, e⟩ := List.getElem_of_mem hb
        exact HALL.out i b hi (by rw [List.getElem?_eq_getElem hi, e]), rfl⟩
end Go.Proofs.YtbbcphloafmldaaGreat
