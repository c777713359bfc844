/- slices.IndexFunc, ContainsFunc at refine's closures: their walks. -/
import Derived.RangeFuncBox
import Derived.Test.YtaabmlnbadpfgaaRefGoodZ
import Derived.Test.YtaabmlnbadpfgaaBnd2
namespace Go.Proofs.Ytaabmlnbadpfgaa
open Go.RowKit
set_option linter.unusedVariables false

/-- is a symbol none of n? -/
def outB (n : Nat) (x : Int) : Bool := decide (x < 0) || decide ((n : Int) ≤ x)
def IxP {α : Type} (p : α → Bool) (l : List α) (N : Nat) (w : World) (vi : Value) (wr : World) : Prop := ∃ i : Nat, vi = .int .i64 i ∧ i ≤ N ∧ wr = w ∧ (l.take i).any p = false
theorem any_take {α : Type} {p : α → Bool} {l : List α} {i : Nat} {x : α} (h : l[i]? = some x) : (l.take (i + 1)).any p = ((l.take i).any p || p x) := by
  rw [List.take_add_one, h, List.any_append]; simp
theorem any_of_take {α : Type} {p : α → Bool} {l : List α} {i : Nat} (h : (l.take i).any p = true) : l.any p = true := by
  rw [List.any_eq_true] at h ⊢
  obtain ⟨y, hy, hy2⟩ := h
  exact ⟨y, List.mem_of_mem_take hy, hy2⟩
theorem costs_one (x : Int) (Bn n : Nat) (w : World) (hb : Boxed w Bn 3 (.int .i64 n)) : Calls Try.prog 19 #[.int .i64 x, .pointer (some ⟨Bn, 0, none⟩)] w fun e w' => e = .returned (.bool (outB n x)) ∧ w' = w := by
  have hc := hb.cell
  by_cases h : x < 0
  · rw [outB, decide_eq_true h, Bool.true_or]
    go_enter Try.func19, Try.ntmps19
    go_wp2_with fail
    go_ret
    exact ⟨rfl, rfl⟩
  · by_cases h2 : (n : Int) ≤ x
    · rw [outB, decide_eq_false h, decide_eq_true h2, Bool.false_or]
      go_enter Try.func19, Try.ntmps19
      go_wp2_with fail
      go_ret
      exact ⟨rfl, rfl⟩
    · rw [outB, decide_eq_false h, decide_eq_false h2, Bool.false_or]
      go_enter Try.func19, Try.ntmps19
      go_wp2_with fail
      go_ret
      exact ⟨rfl, rfl⟩
set_option maxHeartbeats 1000000 in
theorem costs_index (v : Value) (fs : List Int) (Bn n : Nat) (w : World) (hb : Boxed w Bn 3 (.int .i64 n)) (hv : ViewL w v (ints fs)) (hl : fs.length ≤ 2 ^ 40) :
    Calls Try.prog 39 #[v, .func (.func 19) #[] #[.pointer (some ⟨Bn, 0, none⟩)]] w fun e w' => (∃ j : Int, e = .returned (.int .i64 j) ∧ (0 ≤ j ↔ fs.any (outB n) = true)) ∧ w' = w := by
  obtain ⟨ao, cap, rfl⟩ := hv.shape
  rw [length_ints] at *
  obtain ⟨N, hN⟩ : ∃ N, N = fs.length := ⟨_, rfl⟩
  rw [← hN] at hv hl ⊢
  have HN := Lib.hid hN
  have HBX := Lib.hid hb
  have HC := Lib.hid (show ∀ j, j < N → ∃ b o x, ao = some ⟨b, o, none⟩ ∧ w.cell? ⟨b, o + j, none⟩ = some (.int .i64 x) ∧ fs[j]? = some x from fun j hj => by
    obtain ⟨b, o, rfl, _, hc⟩ := viewL_cells hv (by rw [length_ints]; omega)
    have hjl : j < fs.length := by omega
    exact ⟨b, o, fs[j], rfl, hc j _ (getElem?_ints fs j hjl), List.getElem?_eq_getElem hjl⟩)
  have hNz : (N : Int) < 4611686018427387904 := by omega
  clear hN hv hb
  go_enter Try.func39, Try.ntmps39
  go_wp2_with fail
  go_loopw [8] (fun vi wr => IxP (outB n) fs N w vi wr) (fun vi _ => N - (match vi with | .int _ q => q.toNat | _ => 0))
  case atStart => exact ⟨0, by go_num, Nat.zero_le _, rfl, rfl⟩
  case round =>
    obtain ⟨i, rfl, hi, hwr, hno⟩ := hrel
    obtain rfl := hwr.symm
    have HNO := Lib.hid (show (fs.take i).any (outB n) = false ∧ i ≤ N from ⟨hno, hi⟩)
    clear hno
    by_cases hlt : i < N
    · have hltz : (i : Int) < (N : Int) := by omega
      obtain ⟨b, o, x, rfl, hc, hx⟩ := HC.out i hlt
      have HTK := Lib.hid (any_take (p := outB n) hx)
      have HLT := Lib.hid hlt
      clear hx
      go_wp2_with fail
      refine Calls.mono (costs_one x Bn n _ HBX.out) ?_
      rintro e w' ⟨rfl, rfl⟩
      obtain ⟨bb, hbb⟩ : ∃ bb, bb = (outB n) x := ⟨_, rfl⟩
      have HBB := Lib.hid hbb
      rw [← hbb]
      clear hbb
      cases bb with
      | true =>
        go_wp2_with fail
        go_ret
        exact ⟨⟨(i : Int), rfl, ⟨fun _ => any_of_take (i := i + 1) (by rw [HTK.out, ← HBB.out, Bool.or_true]), fun _ => by omega⟩⟩, rfl⟩
      | false =>
        go_wp2_with fail
        exact ⟨⟨i + 1, by go_num, by have := HLT.out; omega, rfl, by rw [HTK.out, ← HBB.out, HNO.out.1]; rfl⟩, by simp; have := HLT.out; omega⟩
    · have hltz : ¬ (i : Int) < (N : Int) := by omega
      have HE := Lib.hid (show fs.any (outB n) = false from by
        have := HNO.out.1
        rw [List.take_of_length_le (by have := HN.out; omega)] at this
        exact this)
      clear hlt
      go_wp2_with fail
      go_ret
      exact ⟨⟨-1, rfl, ⟨fun h => by omega, fun h => by first | (rw [HE.out] at h; cases h) | (have h2 := HE.out; rw [← Bool.not_eq_true, List.any_eq_true] at h2; exact (h2 h).elim) | exact absurd (show fs.any (outB n) = true by simpa using h) (by rw [HE.out]; decide)⟩⟩, rfl⟩
theorem costs_contains (v : Value) (fs : List Int) (Bn n : Nat) (w : World) (hb : Boxed w Bn 3 (.int .i64 n)) (hv : ViewL w v (ints fs)) (hl : fs.length ≤ 2 ^ 40) :
    Calls Try.prog 18 #[v, .func (.func 19) #[] #[.pointer (some ⟨Bn, 0, none⟩)]] w fun e w' => e = .returned (.bool (fs.any (outB n))) ∧ w' = w := by
  have h := costs_index v fs Bn n w hb hv hl 
  clear hv hb
  obtain ⟨b, hb⟩ : ∃ b, b = fs.any (outB n) := ⟨_, rfl⟩
  rw [← hb] at h ⊢
  clear hb hl
  go_enter Try.func18, Try.ntmps18
  go_wp2_with fail
  refine h.mono ?_
  rintro e w' ⟨⟨j, rfl, hj⟩, rfl⟩
  clear h
  cases b with
  | true =>
    have h0 : 0 ≤ j := hj.2 rfl
    clear hj
    go_wp2_with fail
    go_ret
    exact ⟨rfl, rfl⟩
  | false =>
    have h0 : j < 0 := by
      rcases Int.lt_or_le j 0 with h | h
      · exact h
      · have := hj.1 h; cases this
    have hd : decide (0 ≤ j) = false := decide_eq_false (by omega)
    clear hj
    go_wp2_with fail
    go_ret
    exact ⟨by first | rfl | rw [hd], rfl⟩
theorem choose_one (x : Int) (Bn n : Nat) (w : World) (hb : Boxed w Bn 3 (.int .i64 n)) : Calls Try.prog 29 #[.int .i64 x, .pointer (some ⟨Bn, 0, none⟩)] w fun e w' => e = .returned (.bool (outB n x)) ∧ w' = w := by
  have hc := hb.cell
  by_cases h : x < 0
  · rw [outB, decide_eq_true h, Bool.true_or]
    go_enter Try.func29, Try.ntmps29
    go_wp2_with fail
    go_ret
    exact ⟨rfl, rfl⟩
  · by_cases h2 : (n : Int) ≤ x
    · rw [outB, decide_eq_false h, decide_eq_true h2, Bool.false_or]
      go_enter Try.func29, Try.ntmps29
      go_wp2_with fail
      go_ret
      exact ⟨rfl, rfl⟩
    · rw [outB, decide_eq_false h, decide_eq_false h2, Bool.false_or]
      go_enter Try.func29, Try.ntmps29
      go_wp2_with fail
      go_ret
      exact ⟨rfl, rfl⟩
set_option maxHeartbeats 1000000 in
theorem choose_index (v : Value) (fs : List Int) (Bn n : Nat) (w : World) (hb : Boxed w Bn 3 (.int .i64 n)) (hv : ViewL w v (ints fs)) (hl : fs.length ≤ 2 ^ 40) :
    Calls Try.prog 39 #[v, .func (.func 29) #[] #[.pointer (some ⟨Bn, 0, none⟩)]] w fun e w' => (∃ j : Int, e = .returned (.int .i64 j) ∧ (0 ≤ j ↔ fs.any (outB n) = true)) ∧ w' = w := by
  obtain ⟨ao, cap, rfl⟩ := hv.shape
  rw [length_ints] at *
  obtain ⟨N, hN⟩ : ∃ N, N = fs.length := ⟨_, rfl⟩
  rw [← hN] at hv hl ⊢
  have HN := Lib.hid hN
  have HBX := Lib.hid hb
  have HC := Lib.hid (show ∀ j, j < N → ∃ b o x, ao = some ⟨b, o, none⟩ ∧ w.cell? ⟨b, o + j, none⟩ = some (.int .i64 x) ∧ fs[j]? = some x from fun j hj => by
    obtain ⟨b, o, rfl, _, hc⟩ := viewL_cells hv (by rw [length_ints]; omega)
    have hjl : j < fs.length := by omega
    exact ⟨b, o, fs[j], rfl, hc j _ (getElem?_ints fs j hjl), List.getElem?_eq_getElem hjl⟩)
  have hNz : (N : Int) < 4611686018427387904 := by omega
  clear hN hv hb
  go_enter Try.func39, Try.ntmps39
  go_wp2_with fail
  go_loopw [8] (fun vi wr => IxP (outB n) fs N w vi wr) (fun vi _ => N - (match vi with | .int _ q => q.toNat | _ => 0))
  case atStart => exact ⟨0, by go_num, Nat.zero_le _, rfl, rfl⟩
  case round =>
    obtain ⟨i, rfl, hi, hwr, hno⟩ := hrel
    obtain rfl := hwr.symm
    have HNO := Lib.hid (show (fs.take i).any (outB n) = false ∧ i ≤ N from ⟨hno, hi⟩)
    clear hno
    by_cases hlt : i < N
    · have hltz : (i : Int) < (N : Int) := by omega
      obtain ⟨b, o, x, rfl, hc, hx⟩ := HC.out i hlt
      have HTK := Lib.hid (any_take (p := outB n) hx)
      have HLT := Lib.hid hlt
      clear hx
      go_wp2_with fail
      refine Calls.mono (choose_one x Bn n _ HBX.out) ?_
      rintro e w' ⟨rfl, rfl⟩
      obtain ⟨bb, hbb⟩ : ∃ bb, bb = (outB n) x := ⟨_, rfl⟩
      have HBB := Lib.hid hbb
      rw [← hbb]
      clear hbb
      cases bb with
      | true =>
        go_wp2_with fail
        go_ret
        exact ⟨⟨(i : Int), rfl, ⟨fun _ => any_of_take (i := i + 1) (by rw [HTK.out, ← HBB.out, Bool.or_true]), fun _ => by omega⟩⟩, rfl⟩
      | false =>
        go_wp2_with fail
        exact ⟨⟨i + 1, by go_num, by have := HLT.out; omega, rfl, by rw [HTK.out, ← HBB.out, HNO.out.1]; rfl⟩, by simp; have := HLT.out; omega⟩
    · have hltz : ¬ (i : Int) < (N : Int) := by omega
      have HE := Lib.hid (show fs.any (outB n) = false from by
        have := HNO.out.1
        rw [List.take_of_length_le (by have := HN.out; omega)] at this
        exact this)
      clear hlt
      go_wp2_with fail
      go_ret
      exact ⟨⟨-1, rfl, ⟨fun h => by omega, fun h => by first | (rw [HE.out] at h; cases h) | (have h2 := HE.out; rw [← Bool.not_eq_true, List.any_eq_true] at h2; exact (h2 h).elim) | exact absurd (show fs.any (outB n) = true by simpa using h) (by rw [HE.out]; decide)⟩⟩, rfl⟩
theorem choose_contains (v : Value) (fs : List Int) (Bn n : Nat) (w : World) (hb : Boxed w Bn 3 (.int .i64 n)) (hv : ViewL w v (ints fs)) (hl : fs.length ≤ 2 ^ 40) :
    Calls Try.prog 18 #[v, .func (.func 29) #[] #[.pointer (some ⟨Bn, 0, none⟩)]] w fun e w' => e = .returned (.bool (fs.any (outB n))) ∧ w' = w := by
  have h := choose_index v fs Bn n w hb hv hl 
  clear hv hb
  obtain ⟨b, hb⟩ : ∃ b, b = fs.any (outB n) := ⟨_, rfl⟩
  rw [← hb] at h ⊢
  clear hb hl
  go_enter Try.func18, Try.ntmps18
  go_wp2_with fail
  refine h.mono ?_
  rintro e w' ⟨⟨j, rfl, hj⟩, rfl⟩
  clear h
  cases b with
  | true =>
    have h0 : 0 ≤ j := hj.2 rfl
    clear hj
    go_wp2_with fail
    go_ret
    exact ⟨rfl, rfl⟩
  | false =>
    have h0 : j < 0 := by
      rcases Int.lt_or_le j 0 with h | h
      · exact h
      · have := hj.1 h; cases this
    have hd : decide (0 ≤ j) = false := decide_eq_false (by omega)
    clear hj
    go_wp2_with fail
    go_ret
    exact ⟨by first | rfl | rw [hd], rfl⟩
set_option maxHeartbeats 1000000 in
theorem goods_one (v : Value) (L : List Nat) (Bn n : Nat) (w : World) (hb : Boxed w Bn 3 (.int .i64 n)) (hv : ViewL w v (u8s L)) (hl : L.length ≤ 2 ^ 40) (h3 : 3 ≤ n) (h258 : n ≤ 258) : Calls Try.prog 16 #[v, .pointer (some ⟨Bn, 0, none⟩)] w fun e w' => e = .returned (.bool (!decide (GoodC L n))) ∧ w' = w := by
  have hg := ref_good v L n w hv hl h3 h258
  obtain ⟨ao, cap, rfl⟩ := hv.shape
  have hc := hb.cell
  rw [length_u8s] at hg ⊢
  obtain ⟨D, hD⟩ : ∃ D, D = decide (GoodC L n) := ⟨_, rfl⟩
  rw [← hD] at hg ⊢
  have HG := Lib.hid hg
  clear hv hb hg hD
  go_enter Try.func16, Try.ntmps16
  go_wp2_with fail
  refine Calls.mono HG.out ?_
  rintro e w' ⟨rfl, rfl⟩
  go_wp2_with fail
  go_ret
  exact ⟨rfl, rfl⟩
set_option maxHeartbeats 1000000 in
theorem goods_index (v : Value) (fs : List (List Nat)) (Bn n : Nat) (w : World) (hb : Boxed w Bn 3 (.int .i64 n)) (hv : RowsV w v fs) (hl : fs.length ≤ 2 ^ 40) (h3 : 3 ≤ n) (h258 : n ≤ 258) (hLl : ∀ L ∈ fs, L.length ≤ 2 ^ 40) :
    Calls Try.prog 36 #[v, .func (.func 16) #[] #[.pointer (some ⟨Bn, 0, none⟩)]] w fun e w' => (∃ j : Int, e = .returned (.int .i64 j) ∧ (0 ≤ j ↔ fs.any (fun L : List Nat => !decide (GoodC L n)) = true)) ∧ w' = w := by
  obtain ⟨ao, cap, rfl⟩ := hv.shape
  obtain ⟨N, hN⟩ : ∃ N, N = fs.length := ⟨_, rfl⟩
  rw [← hN] at hv hl ⊢
  have HN := Lib.hid hN
  have HBX := Lib.hid hb
  have HC := Lib.hid (show ∀ j, j < N → ∃ b o x uo uc, ao = some ⟨b, o, none⟩ ∧ w.cell? ⟨b, o + j, none⟩ = some (.slice uo x.length uc) ∧ ViewL w (.slice uo x.length uc) (u8s x) ∧ fs[j]? = some x from fun j hj => by
    have hjl : fs[j]? = some fs[j] := List.getElem?_eq_getElem (by omega)
    obtain ⟨b, o, uo, uc, e, h1, h2⟩ := hv.at hjl rfl
    exact ⟨b, o, _, uo, uc, e, h1, h2, hjl⟩)
  have HX0 := Lib.hid (show 3 ≤ n ∧ n ≤ 258 ∧ (∀ L ∈ fs, L.length ≤ 2 ^ 40) from ⟨h3, h258, hLl⟩)
  have hNz : (N : Int) < 4611686018427387904 := by omega
  clear hN hv hb h3 h258 hLl
  go_enter Try.func36, Try.ntmps36
  go_wp2_with fail
  go_loopw [8] (fun vi wr => IxP (fun L : List Nat => !decide (GoodC L n)) fs N w vi wr) (fun vi _ => N - (match vi with | .int _ q => q.toNat | _ => 0))
  case atStart => exact ⟨0, by go_num, Nat.zero_le _, rfl, rfl⟩
  case round =>
    obtain ⟨i, rfl, hi, hwr, hno⟩ := hrel
    obtain rfl := hwr.symm
    have HNO := Lib.hid (show (fs.take i).any (fun L : List Nat => !decide (GoodC L n)) = false ∧ i ≤ N from ⟨hno, hi⟩)
    clear hno
    by_cases hlt : i < N
    · have hltz : (i : Int) < (N : Int) := by omega
      obtain ⟨b, o, x, uo, uc, rfl, hc, hvx, hx⟩ := HC.out i hlt
      have HVX := Lib.hid hvx
      have HLX := Lib.hid (HX0.out.2.2 x (List.mem_of_getElem? hx))
      obtain ⟨xl, hxl⟩ : ∃ xl, xl = x.length := ⟨_, rfl⟩
      rw [← hxl] at hc HVX
      clear hvx hxl
      have HTK := Lib.hid (any_take (p := fun L : List Nat => !decide (GoodC L n)) hx)
      have HLT := Lib.hid hlt
      clear hx
      go_wp2_with fail
      refine Calls.mono (goods_one (.slice uo xl uc) x Bn n _ HBX.out HVX.out HLX.out HX0.out.1 HX0.out.2.1) ?_
      rintro e w' ⟨rfl, rfl⟩
      obtain ⟨bb, hbb⟩ : ∃ bb, bb = (fun L : List Nat => !decide (GoodC L n)) x := ⟨_, rfl⟩
      have HBB := Lib.hid hbb
      rw [show (!decide (GoodC x n)) = bb from hbb.symm]
      clear hbb
      cases bb with
      | true =>
        go_wp2_with fail
        go_ret
        exact ⟨⟨(i : Int), rfl, ⟨fun _ => any_of_take (i := i + 1) (by rw [HTK.out, ← HBB.out, Bool.or_true]), fun _ => by omega⟩⟩, rfl⟩
      | false =>
        go_wp2_with fail
        exact ⟨⟨i + 1, by go_num, by have := HLT.out; omega, rfl, by rw [HTK.out, ← HBB.out, HNO.out.1]; rfl⟩, by simp; have := HLT.out; omega⟩
    · have hltz : ¬ (i : Int) < (N : Int) := by omega
      have HE := Lib.hid (show fs.any (fun L : List Nat => !decide (GoodC L n)) = false from by
        have := HNO.out.1
        rw [List.take_of_length_le (by have := HN.out; omega)] at this
        exact this)
      clear hlt
      go_wp2_with fail
      go_ret
      exact ⟨⟨-1, rfl, ⟨fun h => by omega, fun h => by first | (rw [HE.out] at h; cases h) | (have h2 := HE.out; rw [← Bool.not_eq_true, List.any_eq_true] at h2; exact (h2 h).elim) | exact absurd (show fs.any (fun L : List Nat => !decide (GoodC L n)) = true by simpa using h) (by rw [HE.out]; decide)⟩⟩, rfl⟩
theorem goods_contains (v : Value) (fs : List (List Nat)) (Bn n : Nat) (w : World) (hb : Boxed w Bn 3 (.int .i64 n)) (hv : RowsV w v fs) (hl : fs.length ≤ 2 ^ 40) (h3 : 3 ≤ n) (h258 : n ≤ 258) (hLl : ∀ L ∈ fs, L.length ≤ 2 ^ 40) :
    Calls Try.prog 15 #[v, .func (.func 16) #[] #[.pointer (some ⟨Bn, 0, none⟩)]] w fun e w' => e = .returned (.bool (fs.any (fun L : List Nat => !decide (GoodC L n)))) ∧ w' = w := by
  have h := goods_index v fs Bn n w hb hv hl h3 h258 hLl
  clear hv hb
  obtain ⟨b, hb⟩ : ∃ b, b = fs.any (fun L : List Nat => !decide (GoodC L n)) := ⟨_, rfl⟩
  rw [← hb] at h ⊢
  clear hb hl
  go_enter Try.func15, Try.ntmps15
  go_wp2_with fail
  refine h.mono ?_
  rintro e w' ⟨⟨j, rfl, hj⟩, rfl⟩
  clear h
  cases b with
  | true =>
    have h0 : 0 ≤ j := hj.2 rfl
    clear hj
    go_wp2_with fail
    go_ret
    exact ⟨rfl, rfl⟩
  | false =>
    have h0 : j < 0 := by
      rcases Int.lt_or_le j 0 with h | h
      · exact h
      · have := hj.1 h; cases this
    have hd : decide (0 ≤ j) = false := decide_eq_false (by omega)
    clear hj
    go_wp2_with fail
    go_ret
    exact ⟨by first | rfl | rw [hd], rfl⟩
end Go.Proofs.Ytaabmlnbadpfgaa
