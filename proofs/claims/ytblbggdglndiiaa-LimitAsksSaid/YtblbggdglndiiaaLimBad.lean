/- limit.Lengths: is there a frequency that may not be? -/
import Derived.Test.YtblbggdglndiiaaLimRare
import Derived.Test.YtblbggdglndiiaaInts
namespace Go.Proofs.Ytblbggdglndiiaa
open Go.RowKit
set_option linter.unusedVariables false

/-- may a frequency not be? -/
def badF (x : Int) : Bool := decide (x < 0) || decide (1099511627776 < x)
theorem lim_bad (x : Int) (w : World) : Calls Try.prog 15 #[.int .i64 x] w fun e w' => e = .returned (.bool (badF x)) ∧ w' = w := by
  by_cases h : x < 0
  · rw [badF, decide_eq_true h, Bool.true_or]
    go_enter Try.func15, Try.ntmps15
    go_wp2_with fail
    go_ret
    exact ⟨rfl, rfl⟩
  · by_cases h2 : 1099511627776 < x
    · rw [badF, decide_eq_false h, decide_eq_true h2, Bool.false_or]
      go_enter Try.func15, Try.ntmps15
      go_wp2_with fail
      go_ret
      exact ⟨rfl, rfl⟩
    · rw [badF, decide_eq_false h, decide_eq_false h2, Bool.false_or]
      go_enter Try.func15, Try.ntmps15
      go_wp2_with fail
      go_ret
      exact ⟨rfl, rfl⟩
def IxI (fs : List Int) (N : Nat) (w : World) (vi : Value) (wr : World) : Prop := ∃ i : Nat, vi = .int .i64 i ∧ i ≤ N ∧ wr = w ∧ (fs.take i).any badF = false
set_option maxHeartbeats 1000000 in
theorem lim_index (v : Value) (fs : List Int) (w : World) (hv : ViewL w v (ints fs)) (hl : fs.length ≤ 2 ^ 40) :
    Calls Try.prog 23 #[v, .func (.func 15) #[] #[]] w fun e w' => (∃ j : Int, e = .returned (.int .i64 j) ∧ (0 ≤ j ↔ fs.any badF = true)) ∧ w' = w := by
  obtain ⟨ao, cap, rfl⟩ := hv.shape
  rw [length_ints] at *
  obtain ⟨N, hN⟩ : ∃ N, N = fs.length := ⟨_, rfl⟩
  rw [← hN] at hv hl ⊢
  have HN : Hid (N = fs.length) := hN
  have HC : Hid (∀ j, j < N → ∃ b o, ao = some ⟨b, o, none⟩ ∧ w.cell? ⟨b, o + j, none⟩ = some (.int .i64 (fs.getD j 0))) := fun j hj => by
    obtain ⟨b, o, rfl, _, hc⟩ := viewL_cells hv (by rw [length_ints]; omega)
    exact ⟨b, o, rfl, hc j _ (by rw [hN] at hj; rw [getElem?_ints fs j hj]; simp [List.getD, hj])⟩
  clear hN hv
  go_enter Try.func23, Try.ntmps23
  go_wp2_with fail
  go_loopw [8] (fun vi wr => IxI fs N w vi wr) (fun vi _ => N - (match vi with | .int _ q => q.toNat | _ => 0))
  case atStart => exact ⟨0, by go_num, Nat.zero_le _, rfl, rfl⟩
  case round =>
    obtain ⟨i, rfl, hi, rfl, hno⟩ := hrel
    have HNO : Hid ((fs.take i).any badF = false ∧ i ≤ N) := ⟨hno, hi⟩
    clear hno
    by_cases hlt : i < N
    · have hltz : (i : Int) < (N : Int) := by omega
      obtain ⟨b, o, rfl, hc⟩ := HC.out i hlt
      obtain ⟨x, hx⟩ : ∃ x, x = fs.getD i 0 := ⟨_, rfl⟩
      rw [← hx] at hc
      have HX : Hid (x = fs.getD i 0 ∧ i < N) := ⟨hx, hlt⟩
      clear hx
      go_wp2_with fail
      refine (lim_bad x wr).mono ?_
      rintro e w' ⟨rfl, rfl⟩
      have htk : (fs.take (i + 1)).any badF = ((fs.take i).any badF || badF x) := by
        have hi' : i < fs.length := by rw [← HN.out]; exact HX.out.2
        rw [List.take_succ_eq_append_getElem hi', List.any_append, HX.out.1]
        simp [List.getD, hi']
      have HTK : Hid ((fs.take (i + 1)).any badF = ((fs.take i).any badF || badF x)) := htk
      clear htk
      cases hb : badF x with
      | true =>
        have HB : Hid (badF x = true) := hb
        clear hb
        go_wp2_with fail
        go_ret
        refine ⟨⟨(i : Int), rfl, ⟨fun _ => ?_, fun _ => by omega⟩⟩, rfl⟩
        have : (fs.take (i + 1)).any badF = true := by rw [HTK.out, HB.out, Bool.or_true]
        rw [List.any_eq_true] at this ⊢
        obtain ⟨y, hy, hy2⟩ := this
        exact ⟨y, List.mem_of_mem_take hy, hy2⟩
      | false =>
        have HB : Hid (badF x = false) := hb
        clear hb
        go_wp2_with fail
        refine ⟨⟨i + 1, by go_num, by have := HX.out.2; omega, rfl, by rw [HTK.out, HB.out, HNO.out.1]; rfl⟩, by simp; have := HX.out.2; omega⟩
    · have hltz : ¬ (i : Int) < (N : Int) := by omega
      go_wp2_with fail
      go_ret
      refine ⟨⟨-1, rfl, ⟨fun h => by omega, fun h => (?_ : (0 : Int) ≤ -1)⟩⟩, rfl⟩
      have h : fs.any badF = true := by first | exact h | (rw [List.any_eq_true]; exact h)
      have := HNO.out.1
      rw [List.take_of_length_le (by have := HN.out; omega), h] at this
      cases this
theorem lim_contains (v : Value) (fs : List Int) (w : World) (hv : ViewL w v (ints fs)) (hl : fs.length ≤ 2 ^ 40) :
    Calls Try.prog 16 #[v, .func (.func 15) #[] #[]] w fun e w' => e = .returned (.bool (fs.any badF)) ∧ w' = w := by
  have h := lim_index v fs w hv hl
  clear hv
  obtain ⟨b, hb⟩ : ∃ b, b = fs.any badF := ⟨_, rfl⟩
  rw [← hb] at h ⊢
  clear hb hl
  go_enter Try.func16, Try.ntmps16
  go_wp2_with fail
  refine h.mono ?_
  rintro e w' ⟨⟨j, rfl, hj⟩, rfl⟩
  clear h
  cases b with
  | true =>
    have h0 : 0 ≤ j := hj.2 rfl
    clear hj
    go_wp2_with fail
    go_ret
    exact ⟨rfl, rfl⟩
  | false =>
    have h0 : j < 0 := by
      rcases Int.lt_or_le j 0 with h | h
      · exact h
      · have := hj.1 h; cases this
    have hd : decide (0 ≤ j) = false := decide_eq_false (by omega)
    clear hj
    go_wp2_with fail
    go_ret
    exact ⟨by first | rfl | rw [hd], rfl⟩
end Go.Proofs.Ytblbggdglndiiaa
