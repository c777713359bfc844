/- slices.Min, Max, Index of ints; pressworkref22.Same, pressworkref24.MaySelect: their walks. -/
import Derived.BigQuiet
import Derived.Test.YteabjmebnbaonaaTabMin
import Derived.Test.YteabjmebnbaonaaTabMover
namespace Go.Proofs.Yteabjmebnbaonaa
open Go.RowKit
set_option linter.unusedVariables false

def ints (l : List Int) : List Value := l.map (Value.int .i64)
theorem length_ints (l : List Int) : (ints l).length = l.length := by simp [ints]
theorem i64s_ints (l : List Nat) : i64s l = ints (l.map fun (b : Nat) => (b : Int)) := by simp [i64s, ints]
set_option maxHeartbeats 1000000 in
theorem tab_imin (v : Value) (bs : List Int) (w : World) (hv : ViewL w v (ints bs)) (h0 : 0 < bs.length) (hl : bs.length ≤ 2 ^ 40) :
    Calls Try.prog 53 #[v] w fun e w' => ∃ m : Int, e = .returned (.int .i64 m) ∧ m ∈ bs ∧ (∀ b ∈ bs, m ≤ b) ∧ w = w' := by
  obtain ⟨ao, cap, rfl⟩ := hv.shape
  rw [length_ints] at *
  have HV := Lib.hid hv
  obtain ⟨b, o, rfl, _, hc⟩ := viewL_cells hv (by rw [length_ints]; omega)
  obtain ⟨x, hx⟩ : ∃ x, bs[0]? = some x := ⟨_, List.getElem?_eq_getElem h0⟩
  have c0 := hc 0 (.int .i64 x) (by simp [ints, hx])
  have h1 : ¬ (bs.length : Int) < 1 := by omega
  have h2 : (0 : Int) < (bs.length : Int) := by omega
  have HC := Lib.hid hc
  have HX := Lib.hid hx
  rw [Nat.add_zero] at c0
  clear hv hc hx
  go_enter Try.func53, Try.ntmps53
  go_wp2_with fail
  clear c0
  go_loopw [3, 4] (fun mv iv wr => ∃ (k : Nat) (m : Int), iv = .int .i64 k ∧ mv = .int .i64 m ∧ 1 ≤ k ∧ k ≤ bs.length ∧ m ∈ bs ∧ (∀ i b, i < k → bs[i]? = some b → m ≤ b) ∧ wr = w) (fun _ iv _ => bs.length - (intOf iv).toNat)
  case atStart => exact ⟨1, x, rfl, rfl, Nat.le_refl _, by omega, List.mem_of_getElem? HX.out, fun i b hi hb => by rw [show i = 0 by omega, HX.out] at hb; cases hb; exact Int.le_refl _, rfl⟩
  case round =>
    obtain ⟨k, m, rfl, rfl, hk1, hk, hmem, hall, hwr⟩ := hrel
    obtain rfl : w = wr := hwr.symm
    have HALL := Lib.hid hall
    have HMEM := Lib.hid hmem
    clear hall hmem
    by_cases hlt : k < bs.length
    · have hlti : (k : Int) < (bs.length : Int) := by omega
      obtain ⟨y, hy⟩ : ∃ y, bs[k]? = some y := ⟨_, List.getElem?_eq_getElem hlt⟩
      have c1 := HC.out k (.int .i64 y) (by simp [ints, hy])
      have HY := Lib.hid hy
      clear hy
      by_cases hmy : m ≤ y
      · have hmyi : m ≤ y := by omega
        go_wp2_with fail
        go_roundw
        case rel => exact ⟨k + 1, m, by go_num, rfl, by omega, by omega, HMEM.out, fun i b hi hb => by
          by_cases h : i < k
          · have := HALL.out i b h hb; omega
          · rw [show i = k by omega, HY.out] at hb; cases hb; omega, trivial⟩
        case measure => simp [intOf]; omega
      · have hmyi : y < m := by omega
        go_wp2_with fail
        go_roundw
        case rel => exact ⟨k + 1, y, by go_num, rfl, by omega, by omega, List.mem_of_getElem? HY.out, fun i b hi hb => by
          by_cases h : i < k
          · have := HALL.out i b h hb; omega
          · rw [show i = k by omega, HY.out] at hb; cases hb; omega, trivial⟩
        case measure => simp [intOf]; omega
    · obtain rfl : k = bs.length := by omega
      go_wp2_with fail
      go_ret
      exact ⟨m, rfl, HMEM.out, fun b hb => by
        obtain ⟨i, hi, e⟩ := List.getElem_of_mem hb
        exact HALL.out i b hi (by rw [List.getElem?_eq_getElem hi, e]), rfl⟩
set_option maxHeartbeats 1000000 in
theorem tab_imax (v : Value) (bs : List Int) (w : World) (hv : ViewL w v (ints bs)) (h0 : 0 < bs.length) (hl : bs.length ≤ 2 ^ 40) :
    Calls Try.prog 54 #[v] w fun e w' => ∃ m : Int, e = .returned (.int .i64 m) ∧ m ∈ bs ∧ (∀ b ∈ bs, b ≤ m) ∧ w = w' := by
  obtain ⟨ao, cap, rfl⟩ := hv.shape
  rw [length_ints] at *
  have HV := Lib.hid hv
  obtain ⟨b, o, rfl, _, hc⟩ := viewL_cells hv (by rw [length_ints]; omega)
  obtain ⟨x, hx⟩ : ∃ x, bs[0]? = some x := ⟨_, List.getElem?_eq_getElem h0⟩
  have c0 := hc 0 (.int .i64 x) (by simp [ints, hx])
  have h1 : ¬ (bs.length : Int) < 1 := by omega
  have h2 : (0 : Int) < (bs.length : Int) := by omega
  have HC := Lib.hid hc
  have HX := Lib.hid hx
  rw [Nat.add_zero] at c0
  clear hv hc hx
  go_enter Try.func54, Try.ntmps54
  go_wp2_with fail
  clear c0
  go_loopw [3, 4] (fun mv iv wr => ∃ (k : Nat) (m : Int), iv = .int .i64 k ∧ mv = .int .i64 m ∧ 1 ≤ k ∧ k ≤ bs.length ∧ m ∈ bs ∧ (∀ i b, i < k → bs[i]? = some b → b ≤ m) ∧ wr = w) (fun _ iv _ => bs.length - (intOf iv).toNat)
  case atStart => exact ⟨1, x, rfl, rfl, Nat.le_refl _, by omega, List.mem_of_getElem? HX.out, fun i b hi hb => by rw [show i = 0 by omega, HX.out] at hb; cases hb; exact Int.le_refl _, rfl⟩
  case round =>
    obtain ⟨k, m, rfl, rfl, hk1, hk, hmem, hall, hwr⟩ := hrel
    obtain rfl : w = wr := hwr.symm
    have HALL := Lib.hid hall
    have HMEM := Lib.hid hmem
    clear hall hmem
    by_cases hlt : k < bs.length
    · have hlti : (k : Int) < (bs.length : Int) := by omega
      obtain ⟨y, hy⟩ : ∃ y, bs[k]? = some y := ⟨_, List.getElem?_eq_getElem hlt⟩
      have c1 := HC.out k (.int .i64 y) (by simp [ints, hy])
      have HY := Lib.hid hy
      clear hy
      by_cases hmy : m < y
      · have hmyi : m < y := by omega
        go_wp2_with fail
        go_roundw
        case rel => exact ⟨k + 1, y, by go_num, rfl, by omega, by omega, List.mem_of_getElem? HY.out, fun i b hi hb => by
          by_cases h : i < k
          · have := HALL.out i b h hb; omega
          · rw [show i = k by omega, HY.out] at hb; cases hb; omega, trivial⟩
        case measure => simp [intOf]; omega
      · have hmyi : ¬ m < y := by omega
        go_wp2_with fail
        go_roundw
        case rel => exact ⟨k + 1, m, by go_num, rfl, by omega, by omega, HMEM.out, fun i b hi hb => by
          by_cases h : i < k
          · have := HALL.out i b h hb; omega
          · rw [show i = k by omega, HY.out] at hb; cases hb; omega, trivial⟩
        case measure => simp [intOf]; omega
    · obtain rfl : k = bs.length := by omega
      go_wp2_with fail
      go_ret
      exact ⟨m, rfl, HMEM.out, fun b hb => by
        obtain ⟨i, hi, e⟩ := List.getElem_of_mem hb
        exact HALL.out i b hi (by rw [List.getElem?_eq_getElem hi, e]), rfl⟩
set_option maxHeartbeats 1000000 in
theorem tab_index (v : Value) (l : List Nat) (x : Nat) (w : World) (hv : ViewL w v (i64s l)) (hx : x ∈ l) (hl : l.length ≤ 2 ^ 40) :
    Calls Try.prog 56 #[v, .int .i64 x] w fun e w' => e = .returned (.int .i64 (idx l x : Nat)) ∧ w = w' := by
  obtain ⟨ao, cap, rfl⟩ := hv.shape
  rw [length_i64s] at *
  obtain ⟨b, o, rfl, _, hc⟩ := viewL_cells hv (by rw [length_i64s]; exact List.length_pos_of_mem hx)
  have hi := idx_get l x hx
  have hlt := idx_lt l x hx
  have hbef := idx_before l x
  generalize idx l x = K at *
  have HC := Lib.hid hc
  have HI := Lib.hid hi
  have HBF := Lib.hid hbef
  clear hv hc hi hx hbef
  go_enter Try.func56, Try.ntmps56
  go_wp2_with fail
  go_loopw [8] (fun iv wr => ∃ k : Nat, iv = .int .i64 k ∧ k ≤ K ∧ wr = w) (fun iv _ => l.length - (intOf iv).toNat)
  case atStart => exact ⟨0, rfl, Nat.zero_le _, rfl⟩
  case round =>
    obtain ⟨k, rfl, hk, hwr⟩ := hrel
    obtain rfl : w = wr := hwr.symm
    have hlti : (k : Int) < (l.length : Int) := by omega
    obtain ⟨y, hy⟩ : ∃ y, l[k]? = some y := ⟨_, List.getElem?_eq_getElem (by omega)⟩
    have c1 := HC.out k (.int .i64 y) (by simp [i64s, hy])
    by_cases hkK : k = K
    · subst hkK
      rw [HI.out] at hy
      cases hy
      have hb : ((x : Int) == (x : Int)) = true := by simp
      go_wp2_with fail
      go_ret
      exact ⟨rfl, rfl⟩
    · have hne : x ≠ y := fun e => HBF.out k (by omega) (by rw [e]; exact hy)
      have hb : ((x : Int) == (y : Int)) = false := by rw [beq_eq_false_iff_ne]; omega
      have hb2 : ¬ (x : Int) = (y : Int) := by omega
      clear hy
      go_wp2_with fail
      go_roundw
      case rel => exact ⟨k + 1, by go_num, by omega, trivial⟩
      case measure => simp [intOf]; omega
set_option maxHeartbeats 2000000 in
theorem ref_same_eq (ao bo : Option Addr) (acap bcap N : Nat) (a b : List Int) (w : World) (ha : ViewL w (.slice ao N acap) (ints a)) (hb : ViewL w (.slice bo N bcap) (ints b)) (hA : a.length = N) (hB : b.length = N) (hl : N ≤ 2 ^ 40) :
    Calls Try.prog 31 #[.slice ao N acap, .slice bo N bcap] w fun e w' => e = .returned (.bool (decide (a = b))) ∧ Ext w w' := by
  have HA := Lib.hid ha
  have HB := Lib.hid hb
  have HLA := Lib.hid hA
  have HLB := Lib.hid hB
  clear ha hb hA hB
  have hbl : ((N : Int) != (N : Int)) = false := by simp
  go_enter Try.func31, Try.ntmps31
  go_wp2_with fail
  go_loopw [5] (fun iv wr => ∃ k : Nat, iv = .int .i64 k ∧ k ≤ N ∧ Hid (a.take k = b.take k) ∧ Ext w wr) (fun iv _ => N - (intOf iv).toNat)
  case atStart => exact ⟨0, rfl, Nat.zero_le _, Lib.hid rfl, Ext.refl w⟩
  case round =>
    obtain ⟨k, rfl, hk, HT, hx⟩ := hrel
    by_cases hlt : k < N
    · have hlti : (k : Int) < (N : Int) := by omega
      obtain ⟨b1, o1, rfl, _, hc1⟩ := viewL_cells HA.out (by rw [length_ints, HLA.out]; omega)
      obtain ⟨b2, o2, rfl, _, hc2⟩ := viewL_cells HB.out (by rw [length_ints, HLB.out]; omega)
      obtain ⟨x, hxk⟩ : ∃ x, a[k]? = some x := ⟨_, List.getElem?_eq_getElem (by rw [HLA.out]; exact hlt)⟩
      obtain ⟨y, hyk⟩ : ∃ y, b[k]? = some y := ⟨_, List.getElem?_eq_getElem (by rw [HLB.out]; exact hlt)⟩
      have c1 := cell_touch hx (hc1 k (.int .i64 x) (by simp [ints, hxk])) (fun f => f)
      have c2 := cell_touch hx (hc2 k (.int .i64 y) (by simp [ints, hyk])) (fun f => f)
      have HX := Lib.hid hx
      have HXK := Lib.hid hxk
      have HYK := Lib.hid hyk
      clear hc1 hc2 hx hxk hyk
      by_cases hxy : x = y
      · have hne : (x != y) = false := by rw [hxy]; simp
        have HXY := Lib.hid hxy
        clear hxy
        go_wp2_with fail
        go_quiet (fail)
        go_wp2_with fail
        go_roundw
        case rel => exact ⟨k + 1, by go_num, by omega, Lib.hid (by rw [List.take_add_one, List.take_add_one, HT.out, HXK.out, HYK.out, HXY.out]), HX.out.drewN _⟩
        case measure => simp [intOf]; omega
      · have hne : (x != y) = true := by rw [bne_iff_ne]; exact hxy
        have HXY := Lib.hid (show a ≠ b from fun e => hxy (by have := HXK.out; rw [e, HYK.out] at this; cases this; rfl))
        go_wp2_with fail
        go_quiet (fail)
        go_wp2_with fail
        go_ret
        exact ⟨by rw [decide_eq_false HXY.out]; rfl, HX.out.drewN _⟩
    · obtain rfl : k = N := by omega
      have HX := Lib.hid hx
      have HE := Lib.hid (show a = b by have := HT.out; rwa [← HLA.out, List.take_length, HLA.out, ← HLB.out, List.take_length] at this)
      clear hx
      go_wp2_with fail
      go_ret
      exact ⟨by rw [decide_eq_true HE.out]; rfl, HX.out⟩
set_option maxHeartbeats 2000000 in
theorem ref_same (av bv : Value) (a b : List Int) (w : World) (ha : ViewL w av (ints a)) (hb : ViewL w bv (ints b)) (hl : a.length ≤ 2 ^ 40) (hl2 : b.length ≤ 2 ^ 40) :
    Calls Try.prog 31 #[av, bv] w fun e w' => e = .returned (.bool (decide (a = b))) ∧ Ext w w' := by
  obtain ⟨ao, acap, rfl⟩ := ha.shape
  obtain ⟨bo, bcap, rfl⟩ := hb.shape
  simp only [length_ints] at *
  by_cases hlen : a.length = b.length
  · rw [← hlen] at hb ⊢
    exact ref_same_eq ao bo acap bcap a.length a b w ha hb rfl hlen.symm hl
  · have hbl : ((a.length : Int) != (b.length : Int)) = true := by rw [bne_iff_ne]; omega
    have HL := Lib.hid (show a ≠ b from fun e => hlen (by rw [e]))
    clear hlen ha hb
    go_enter Try.func31, Try.ntmps31
    go_wp2_with fail
    go_ret
    exact ⟨by rw [decide_eq_false HL.out]; rfl, Ext.refl w⟩
/-- may selectors be? -/
def MayI (xs : List Int) (n : Int) : Prop := 2 ≤ n ∧ n ≤ 6 ∧ 0 < xs.length ∧ xs.length ≤ 32767 ∧ ∀ x ∈ xs, 0 ≤ x ∧ x < n
set_option maxHeartbeats 2000000 in
theorem tab_ref_mays (v : Value) (xs : List Int) (n : Int) (w : World) (hv : ViewL w v (ints xs)) (hl : xs.length ≤ 2 ^ 40) :
    Calls Try.prog 34 #[v, .int .i64 n] w fun e w' => (e = .returned (.bool true) ∧ MayI xs n ∨ e = .returned (.bool false) ∧ ¬ MayI xs n) ∧ w = w' := by
  obtain ⟨ao, cap, rfl⟩ := hv.shape
  rw [length_ints] at *
  have HV := Lib.hid hv
  clear hv
  go_enter Try.func34, Try.ntmps34
  go_wp2_with fail
  go_loopw [5] (fun iv wr => ∃ k : Nat, iv = .int .i64 k ∧ k ≤ xs.length ∧ Hid (∀ i x, i < k → xs[i]? = some x → 0 ≤ x ∧ x < n) ∧ wr = w) (fun iv _ => xs.length - (intOf iv).toNat)
  case atStart => exact ⟨0, rfl, Nat.zero_le _, Lib.hid (fun i x h => absurd h (Nat.not_lt_zero _)), rfl⟩
  case round =>
    obtain ⟨k, rfl, hk, HALL, hwr⟩ := hrel
    obtain rfl : w = wr := hwr.symm
    by_cases hlt : k < xs.length
    · have hlti : (k : Int) < (xs.length : Int) := by omega
      obtain ⟨b, o, rfl, _, hc⟩ := viewL_cells HV.out (by rw [length_ints]; omega)
      obtain ⟨x, hx⟩ : ∃ x, xs[k]? = some x := ⟨_, List.getElem?_eq_getElem hlt⟩
      have c1 := hc k (.int .i64 x) (by simp [ints, hx])
      have HX := Lib.hid hx
      clear hc hx
      by_cases hx1 : x < 0
      · go_wp2_with fail
        go_ret
        exact ⟨Or.inr ⟨rfl, fun h => by have := (h.2.2.2.2 x (List.mem_of_getElem? HX.out)).1; omega⟩, rfl⟩
      · have hxi : decide (x < 0) = false := decide_eq_false (by omega)
        by_cases hx2 : n ≤ x
        · go_wp2_with fail
          go_ret
          exact ⟨Or.inr ⟨rfl, fun h => by have := (h.2.2.2.2 x (List.mem_of_getElem? HX.out)).2; omega⟩, rfl⟩
        · have HF := Lib.hid (show ∀ i y, i < k + 1 → xs[i]? = some y → 0 ≤ y ∧ y < n from fun i y hi hy => by
            by_cases h : i < k
            · exact HALL.out i y h hy
            · rw [show i = k by omega, HX.out] at hy
              cases hy; omega)
          go_wp2_with fail
          go_roundw
          case rel => exact ⟨k + 1, by go_num, by omega, HF, trivial⟩
          case measure => simp [intOf]; omega
    · obtain rfl : k = xs.length := by omega
      have HBB := Lib.hid (show ∀ x ∈ xs, 0 ≤ x ∧ x < n from fun x hx => by
        obtain ⟨i, hi, e⟩ := List.getElem_of_mem hx
        exact HALL.out i x hi (by rw [List.getElem?_eq_getElem hi, e]))
      by_cases h2 : 2 ≤ n
      · by_cases h6 : n ≤ 6
        · by_cases h0 : 1 ≤ xs.length
          · have h0i : (1 : Int) ≤ (xs.length : Int) := by omega
            by_cases h3 : xs.length ≤ 32767
            · have h3i : (xs.length : Int) ≤ 32767 := by omega
              go_wp2_with fail
              go_ret
              exact ⟨Or.inl ⟨rfl, h2, h6, h0, h3, HBB.out⟩, rfl⟩
            · have h3i : decide ((xs.length : Int) ≤ 32767) = false := decide_eq_false (by omega)
              have h3j : ¬ (xs.length : Int) ≤ 32767 := by omega
              go_wp2_with fail
              go_ret
              exact ⟨Or.inr ⟨rfl, fun h => h3 h.2.2.2.1⟩, rfl⟩
          · have h0i : decide ((1 : Int) ≤ (xs.length : Int)) = false := decide_eq_false (by omega)
            have h0j : ¬ (1 : Int) ≤ (xs.length : Int) := by omega
            go_wp2_with fail
            go_ret
            exact ⟨Or.inr ⟨rfl, fun h => h0 h.2.2.1⟩, rfl⟩
        · have h6i : decide (n ≤ 6) = false := decide_eq_false h6
          go_wp2_with fail
          go_ret
          exact ⟨Or.inr ⟨rfl, fun h => absurd h.2.1 (by omega)⟩, rfl⟩
      · have h2i : decide (2 ≤ n) = false := decide_eq_false h2
        go_wp2_with fail
        go_ret
        exact ⟨Or.inr ⟨rfl, fun h => absurd h.1 (by omega)⟩, rfl⟩
end Go.Proofs.Yteabjmebnbaonaa
