/- limit.Lengths: is there a frequency that may not be? limit.row.put: its walk. limit.next: its walk. Rows just made: bytes, and rows of the work. limit.Lengths where it must fail: its walks. limit.Lengths where it answers: its walk. The program's lengths, plain: an order, how long, how much of all there is they take. -/
import Derived.Test.YtaabmlnbadpfgaaBnd1
import Derived.Test.YtaabmlnbadpfgaaInts
import Derived.StillTailTactics
import Derived.Deep.RegionWith
import Derived.Test.YtaabmlnbadpfgaaLimCmps
import Derived.Test.YtaabmlnbadpfgaaStepLaw
import Derived.Test.YtaabmlnbadpfgaaLimPlain
import Derived.Test.YtaabmlnbadpfgaaBO
import Derived.Test.YtaabmlnbadpfgaaPreLaw
/-! limit.Lengths: is there a frequency that may not be? -/
namespace Go.Proofs.Ytaabmlnbadpfgaa
open Go.RowKit
set_option linter.unusedVariables false

/-- may a frequency not be? -/
def badF (x : Int) : Bool := decide (x < 0) || decide (1099511627776 < x)
theorem lim_bad (x : Int) (w : World) : Calls Try.prog 58 #[.int .i64 x] w fun e w' => e = .returned (.bool (badF x)) ∧ w' = w := by
  by_cases h : x < 0
  · rw [badF, decide_eq_true h, Bool.true_or]
    go_enter Try.func58, Try.ntmps58
    go_wp2_with fail
    go_ret
    exact ⟨rfl, rfl⟩
  · by_cases h2 : 1099511627776 < x
    · rw [badF, decide_eq_false h, decide_eq_true h2, Bool.false_or]
      go_enter Try.func58, Try.ntmps58
      go_wp2_with fail
      go_ret
      exact ⟨rfl, rfl⟩
    · rw [badF, decide_eq_false h, decide_eq_false h2, Bool.false_or]
      go_enter Try.func58, Try.ntmps58
      go_wp2_with fail
      go_ret
      exact ⟨rfl, rfl⟩
def IxI (fs : List Int) (N : Nat) (w : World) (vi : Value) (wr : World) : Prop := ∃ i : Nat, vi = .int .i64 i ∧ i ≤ N ∧ wr = w ∧ (fs.take i).any badF = false
set_option maxHeartbeats 1000000 in
theorem lim_index (v : Value) (fs : List Int) (w : World) (hv : ViewL w v (ints fs)) (hl : fs.length ≤ 2 ^ 40) :
    Calls Try.prog 39 #[v, .func (.func 58) #[] #[]] w fun e w' => (∃ j : Int, e = .returned (.int .i64 j) ∧ (0 ≤ j ↔ fs.any badF = true)) ∧ w' = w := by
  obtain ⟨ao, cap, rfl⟩ := hv.shape
  rw [length_ints] at *
  obtain ⟨N, hN⟩ : ∃ N, N = fs.length := ⟨_, rfl⟩
  rw [← hN] at hv hl ⊢
  have HN : Hid (N = fs.length) := hN
  have HC : Hid (∀ j, j < N → ∃ b o, ao = some ⟨b, o, none⟩ ∧ w.cell? ⟨b, o + j, none⟩ = some (.int .i64 (fs.getD j 0))) := fun j hj => by
    obtain ⟨b, o, rfl, _, hc⟩ := viewL_cells hv (by rw [length_ints]; omega)
    exact ⟨b, o, rfl, hc j _ (by rw [hN] at hj; rw [getElem?_ints fs j hj]; simp [List.getD, hj])⟩
  clear hN hv
  go_enter Try.func39, Try.ntmps39
  go_wp2_with fail
  go_loopw [8] (fun vi wr => IxI fs N w vi wr) (fun vi _ => N - (match vi with | .int _ q => q.toNat | _ => 0))
  case atStart => exact ⟨0, by go_num, Nat.zero_le _, rfl, rfl⟩
  case round =>
    obtain ⟨i, rfl, hi, rfl, hno⟩ := hrel
    have HNO : Hid ((fs.take i).any badF = false ∧ i ≤ N) := ⟨hno, hi⟩
    clear hno
    by_cases hlt : i < N
    · have hltz : (i : Int) < (N : Int) := by omega
      obtain ⟨b, o, rfl, hc⟩ := HC.out i hlt
      obtain ⟨x, hx⟩ : ∃ x, x = fs.getD i 0 := ⟨_, rfl⟩
      rw [← hx] at hc
      have HX : Hid (x = fs.getD i 0 ∧ i < N) := ⟨hx, hlt⟩
      clear hx
      go_wp2_with fail
      refine (lim_bad x wr).mono ?_
      rintro e w' ⟨rfl, rfl⟩
      have htk : (fs.take (i + 1)).any badF = ((fs.take i).any badF || badF x) := by
        have hi' : i < fs.length := by rw [← HN.out]; exact HX.out.2
        rw [List.take_succ_eq_append_getElem hi', List.any_append, HX.out.1]
        simp [List.getD, hi']
      have HTK : Hid ((fs.take (i + 1)).any badF = ((fs.take i).any badF || badF x)) := htk
      clear htk
      cases hb : badF x with
      | true =>
        have HB : Hid (badF x = true) := hb
        clear hb
        go_wp2_with fail
        go_ret
        refine ⟨⟨(i : Int), rfl, ⟨fun _ => ?_, fun _ => by omega⟩⟩, rfl⟩
        have : (fs.take (i + 1)).any badF = true := by rw [HTK.out, HB.out, Bool.or_true]
        rw [List.any_eq_true] at this ⊢
        obtain ⟨y, hy, hy2⟩ := this
        exact ⟨y, List.mem_of_mem_take hy, hy2⟩
      | false =>
        have HB : Hid (badF x = false) := hb
        clear hb
        go_wp2_with fail
        refine ⟨⟨i + 1, by go_num, by have := HX.out.2; omega, rfl, by rw [HTK.out, HB.out, HNO.out.1]; rfl⟩, by simp; have := HX.out.2; omega⟩
    · have hltz : ¬ (i : Int) < (N : Int) := by omega
      go_wp2_with fail
      go_ret
      refine ⟨⟨-1, rfl, ⟨fun h => by omega, fun h => (?_ : (0 : Int) ≤ -1)⟩⟩, rfl⟩
      have h : fs.any badF = true := by first | exact h | (rw [List.any_eq_true]; exact h)
      have := HNO.out.1
      rw [List.take_of_length_le (by have := HN.out; omega), h] at this
      cases this
theorem lim_contains (v : Value) (fs : List Int) (w : World) (hv : ViewL w v (ints fs)) (hl : fs.length ≤ 2 ^ 40) :
    Calls Try.prog 18 #[v, .func (.func 58) #[] #[]] w fun e w' => e = .returned (.bool (fs.any badF)) ∧ w' = w := by
  have h := lim_index v fs w hv hl
  clear hv
  obtain ⟨b, hb⟩ : ∃ b, b = fs.any badF := ⟨_, rfl⟩
  rw [← hb] at h ⊢
  clear hb hl
  go_enter Try.func18, Try.ntmps18
  go_wp2_with fail
  refine h.mono ?_
  rintro e w' ⟨⟨j, rfl, hj⟩, rfl⟩
  clear h
  cases b with
  | true =>
    have h0 : 0 ≤ j := hj.2 rfl
    clear hj
    go_wp2_with fail
    go_ret
    exact ⟨rfl, rfl⟩
  | false =>
    have h0 : j < 0 := by
      rcases Int.lt_or_le j 0 with h | h
      · exact h
      · have := hj.1 h; cases this
    have hd : decide (0 ≤ j) = false := decide_eq_false (by omega)
    clear hj
    go_wp2_with fail
    go_ret
    exact ⟨by first | rfl | rw [hd], rfl⟩
end Go.Proofs.Ytaabmlnbadpfgaa

/-! limit.row.put: its walk. -/
namespace Go.Proofs.Ytaabmlnbadpfgaa
open Go.RowKit Go.Sort
set_option linter.unusedVariables false

/-- block B is a row: weights W, and how many of the first of them are symbols. -/
structure IsRow (w : World) (B : Nat) (oW oS : Option Nat) (W S : List Nat) (wv sv : Value) : Prop where
  box : w.heap[B]? = some (.cells #[wv, sv] 94 (0, 0))
  wts : Owns w 3 1 wv oW W.length (intsL W)
  sym : Owns w 3 1 sv oS S.length (intsL S)
  apart : ∀ g, oW = some g → g ≠ B ∧ oS ≠ some g
  apartS : ∀ g, oS = some g → g ≠ B
theorem IsRow.keep {w w' : World} {B : Nat} {oW oS : Option Nat} {W S : List Nat} {wv sv : Value} {T : Nat → Prop} (h : IsRow w B oW oS W S wv sv) (ht : Touch T w w') (hB : ¬ T B) (hW : ∀ g, oW = some g → ¬ T g) (hS : ∀ g, oS = some g → ¬ T g) : IsRow w' B oW oS W S wv sv :=
  ⟨ht.keep h.box hB, h.wts.keep ht hW, h.sym.keep ht hS, h.apart, h.apartS⟩
/-- the blocks of a row. -/
def RP (B : Nat) (oW oS : Option Nat) : Nat → Prop := fun k => k = B ∨ oW = some k ∨ oS = some k
/-- one of the two slices is stored anew. -/
theorem IsRow.wput {w w1 : World} {B : Nat} {oW oS : Option Nat} {W S W' : List Nat} {wv sv v' : Value} (h : IsRow w B oW oS W S wv sv) (hg : w.grownBy w1 oW) (ho : w1.ownsRow 0 3 1 v' W'.length (intsL W')) (hn : Near oW v'.ownBlock w) :
    IsRow (w1.setCell ⟨B, 0, none⟩ v') B v'.ownBlock oS W' S v' sv ∧ Touch (RP B oW oS) w (w1.setCell ⟨B, 0, none⟩ v') := by
  have hBl := block_lt h.box
  have ht1 : Touch (fun k => oW = some k) w w1 := (Touch.refl _ w).grown hg (fun k e => Or.inl e)
  have hB1 : w1.heap[B]? = some (.cells #[wv, sv] 94 (0, 0)) := ht1.keep h.box (fun e => (h.apart B e).1 rfl)
  have hS1 : Owns w1 3 1 sv oS S.length (intsL S) := h.sym.keep ht1 (fun g e e2 => (h.apart g e2).2 e)
  have hslt := h.sym.lt
  have hap : ∀ g, v'.ownBlock = some g → g ≠ B ∧ oS ≠ some g := fun g e => by
    rcases hn with e2 | ⟨g2, e2, hg2⟩
    · exact h.apart g (by rw [← e2]; exact e)
    · rw [e] at e2
      cases e2
      exact ⟨by omega, fun e3 => by have := hslt g e3; omega⟩
  have ht2 : Touch (fun k => k = B) w1 (w1.setCell ⟨B, 0, none⟩ v') := Touch.setCell (S := fun k => k = B) (Touch.refl _ w1) (Or.inl rfl) v'
  refine ⟨⟨?_, Owns.keep (S := fun k => k = B) ⟨ho, rfl⟩ ht2 (fun g e => (hap g e).1), hS1.keep ht2 (fun g e => h.apartS g e), hap, h.apartS⟩, ?_⟩
  · have := heap_setCell_at (a := ⟨B, 0, none⟩) (u := v') hB1 rfl
    simpa using this
  · exact (ht1.mono (fun k _ e => Or.inr (Or.inl e))).trans (ht2.mono (fun k _ e => Or.inl e)) (fun k _ e => e)
theorem IsRow.sput {w w1 : World} {B : Nat} {oW oS : Option Nat} {W S S' : List Nat} {wv sv v' : Value} (h : IsRow w B oW oS W S wv sv) (hg : w.grownBy w1 oS) (ho : w1.ownsRow 0 3 1 v' S'.length (intsL S')) (hn : Near oS v'.ownBlock w) :
    IsRow (w1.setCell ⟨B, 1, none⟩ v') B oW v'.ownBlock W S' wv v' ∧ Touch (RP B oW oS) w (w1.setCell ⟨B, 1, none⟩ v') := by
  have hBl := block_lt h.box
  have ht1 : Touch (fun k => oS = some k) w w1 := (Touch.refl _ w).grown hg (fun k e => Or.inl e)
  have hB1 : w1.heap[B]? = some (.cells #[wv, sv] 94 (0, 0)) := ht1.keep h.box (fun e => h.apartS B e rfl)
  have hW1 : Owns w1 3 1 wv oW W.length (intsL W) := h.wts.keep ht1 (fun g e e2 => (h.apart g e).2 e2)
  have hwlt := h.wts.lt
  have hap : ∀ g, v'.ownBlock = some g → g ≠ B ∧ oW ≠ some g := fun g e => by
    rcases hn with e2 | ⟨g2, e2, hg2⟩
    · have e3 : oS = some g := by rw [← e2]; exact e
      exact ⟨h.apartS g e3, fun e4 => (h.apart g e4).2 e3⟩
    · rw [e] at e2
      cases e2
      exact ⟨by omega, fun e3 => by have := hwlt g e3; omega⟩
  have ht2 : Touch (fun k => k = B) w1 (w1.setCell ⟨B, 1, none⟩ v') := Touch.setCell (S := fun k => k = B) (Touch.refl _ w1) (Or.inl rfl) v'
  refine ⟨⟨?_, hW1.keep ht2 (fun g e => (h.apart g e).1), Owns.keep (S := fun k => k = B) ⟨ho, rfl⟩ ht2 (fun g e => (hap g e).1), fun g e => ⟨(h.apart g e).1, fun e2 => (hap g e2).2 e⟩, fun g e => (hap g e).1⟩, ?_⟩
  · have := heap_setCell_at (a := ⟨B, 1, none⟩) (u := v') hB1 rfl
    simpa using this
  · exact (ht1.mono (fun k _ e => Or.inr (Or.inr e))).trans (ht2.mono (fun k _ e => Or.inl e)) (fun k _ e => e)
theorem grown_alloc {w w1 : World} {o : Obj} {g : Option Nat} (h : (w.alloc o).grownBy w1 g) : w.grownBy w1 g :=
  ⟨h.os, h.tape, h.output, Nat.le_trans (by simp) h.size, fun k hk hn => (h.block k (by simp; omega) hn).trans (Below.heap_alloc _ _ _ hk)⟩
theorem row_free {w2 w3 : World} {B : Nat} {oW oS : Option Nat} {W S : List Nat} {wv : Value} {o : Obj} {sa : Option Addr} {n sc : Nat} (h : IsRow w2 B oW oS W S wv (.slice sa n sc)) (hg : (w2.drew.alloc o).grownBy w3 (Value.slice sa n sc).ownBlock) : w3.frozen? ⟨B, 1, none⟩ = false ∧ w3.cell? ⟨B, 1, none⟩ = some (.slice sa n sc) := by
  have hB := block_lt h.box
  have hB1 : w3.heap[B]? = w2.heap[B]? := (hg.block B (by simp; omega) (fun e => by rw [h.sym.2] at e; exact h.apartS B e.symm rfl)).trans (Below.heap_alloc _ _ _ hB)
  simp [World.frozen?, World.cell?, hB1, h.box]
theorem row_spost {w2 w3 : World} {B : Nat} {oW oS : Option Nat} {W S : List Nat} {wv v2 : Value} {o : Obj} {sa : Option Addr} {sc s : Nat} (h : IsRow w2 B oW oS W S wv (.slice sa S.length sc)) (hown : w3.ownsRow 0 3 1 v2 (S.length + 1) (intsL S ++ [.int .i64 s]))
    (hg : (w2.drew.alloc o).grownBy w3 (Value.slice sa S.length sc).ownBlock) (hat : v2.ownBlock = (Value.slice sa S.length sc).ownBlock ∨ v2.ownBlock = some (w2.drew.alloc o).heap.size) :
    IsRow (w3.setCell ⟨B, 1, none⟩ v2) B oW v2.ownBlock W (S ++ [s]) wv v2 ∧ Touch (RP B oW oS) w2 (w3.setCell ⟨B, 1, none⟩ v2) ∧ Near oS v2.ownBlock w2 := by
  have hn : Near oS v2.ownBlock w2 := by
    rcases hat with e | e
    · exact Or.inl (e.trans h.sym.2)
    · exact Or.inr ⟨_, e, by simp⟩
  have hg2 : w2.grownBy w3 oS := by
    have := grown_alloc hg
    rw [h.sym.2] at this
    exact ⟨this.os, this.tape, this.output, this.size, this.block⟩
  obtain ⟨h1, h2⟩ := h.sput (S' := S ++ [s]) hg2 (by rw [intsL_append, List.length_append]; exact hown) hn
  exact ⟨h1, h2, hn⟩
theorem Near.rp {oW oW' : Option Nat} {w : World} {B : Nat} {oS : Option Nat} (h : Near oW oW' w) (k : Nat) (hk : k < w.heap.size) : RP B oW' oS k → RP B oW oS k := by
  rintro (rfl | e | e)
  · exact Or.inl rfl
  · rcases h with h | ⟨g, h, hg⟩
    · exact Or.inr (Or.inl (h ▸ e))
    · rw [h] at e; cases e; omega
  · exact Or.inr (Or.inr e)
set_option maxHeartbeats 2000000 in
set_option maxRecDepth 100000 in
theorem lim_put (B : Nat) (oW oS : Option Nat) (W S : List Nat) (wv sv : Value) (w : World) (x b s : Nat) (h : IsRow w B oW oS W S wv sv) (hs : s = (if S.length = 0 then 0 else S.getD (S.length - 1) 0) + b) (hW : W.length ≤ 2 ^ 20) (hS : S.length ≤ 2 ^ 20) (hsb : s ≤ 2 ^ 40) (hxb : x ≤ 2 ^ 62) :
    Calls Try.prog 67 #[.pointer (some ⟨B, 0, none⟩), .int .i64 x, .int .i64 b] w fun e w' => e = .returned (.tuple #[]) ∧
      ∃ oW' oS' wv' sv', IsRow w' B oW' oS' (W ++ [x]) (S ++ [s]) wv' sv' ∧ Near oW oW' w ∧ Near oS oS' w ∧ Touch (RP B oW oS) w w' := by
  obtain ⟨i0, hi, hz0, hz1, hz2⟩ := info_parts info_int
  have H : Hid (IsRow w B oW oS W S wv sv) := h
  have hBlt := block_lt h.box
  have hc0 : w.cell? ⟨B, 0, none⟩ = some wv := by simp [World.cell?, h.box]
  have hc1 : w.cell? ⟨B, 1, none⟩ = some sv := by simp [World.cell?, h.box]
  have hf0 : w.frozen? ⟨B, 0, none⟩ = false := by simp [World.frozen?, h.box]
  have how := h.wts
  clear h
  go_enter Try.func67, Try.ntmps67
  go_wp2_with (at_builtin; refine wpList_append_own_at _ rfl (.tmp 10) (.tmp 12) 23 rfl 0 3 i0 (.int .i64 0) 1 8 Try.underlying23 hi hz0 hz1 hz2 rfl (by decide) wv W.length (intsL W) rfl (how.1.alloc _) ⟨w.heap.size, 0, none⟩ 1 1 [.int .i64 x] rfl rfl (news _ _ _ _) (by simp [Value.oneCell']) (by unfold maxLen; omega) (by omega) (by omega) ?_)
  intro v' w1 hown' hgrow _ hat
  have hsv0 : w1.cell? ⟨B, 0, none⟩ = some wv ∧ w1.cell? ⟨B, 1, none⟩ = some sv ∧ w1.frozen? ⟨B, 0, none⟩ = false ∧ w1.frozen? ⟨B, 1, none⟩ = false := by
    have hg := grown_alloc hgrow
    have hB1 : w1.heap[B]? = w.heap[B]? := hg.block B hBlt (fun e => by rw [how.2] at e; exact (H.out.apart B e.symm).1 rfl)
    refine ⟨?_, ?_, ?_, ?_⟩ <;> simp [World.cell?, World.frozen?, hB1, H.out.box]
  obtain ⟨d0, d1, d2, d3⟩ := hsv0
  have hput := H.out.wput (W' := W ++ [x]) (v' := v') (w1 := w1) (how.2 ▸ grown_alloc hgrow) (by rw [intsL_append, List.length_append]; exact hown') (by
    rcases hat with e | e
    · exact Or.inl (e.trans how.2)
    · exact Or.inr ⟨_, e, by simp⟩)
  have HP : Hid (IsRow (w1.setCell ⟨B, 0, none⟩ v') B v'.ownBlock oS (W ++ [x]) S v' sv ∧ Touch (RP B oW oS) w (w1.setCell ⟨B, 0, none⟩ v') ∧ Near oW v'.ownBlock w) := ⟨hput.1, hput.2, by
    rcases hat with e | e
    · exact Or.inl (e.trans how.2)
    · exact Or.inr ⟨_, e, by simp⟩⟩
  obtain ⟨g', cap', rfl⟩ := ownsRow_form hown' (by omega)
  clear hput hown' hgrow hat how hc0 hc1 hf0 hBlt
  go_wp2_with fail
  generalize w1.setCell ⟨B, 0, none⟩ (.slice (some ⟨g', 0, none⟩) (W.length + 1) cap') = w2 at HP ⊢
  have c1 : w2.cell? ⟨B, 1, none⟩ = some sv := by simp [World.cell?, HP.out.1.box]
  have f1 : w2.frozen? ⟨B, 1, none⟩ = false := by simp [World.frozen?, HP.out.1.box]
  obtain ⟨sa, sc, rfl⟩ := HP.out.1.sym.shape
  have hfirst := lim_first S B 0 S.length (.slice sa S.length sc) w2.drew c1 (HP.out.1.sym.viewL.keep ((Touch.refl (fun _ => False) w2).drew) (fun _ _ _ _ _ f => f)) (Nat.le_refl _) (by omega)
  clear d0 d1 d2 d3
  obtain ⟨f0, hf0⟩ : ∃ f0 : Nat, (if S.length = 0 then (0 : Int) else ((S.getD (S.length - 1) 0 : Nat) : Int)) = (f0 : Int) := by
    by_cases hz : S.length = 0
    · exact ⟨0, by rw [if_pos hz]; rfl⟩
    · exact ⟨_, by rw [if_neg hz]⟩
  have hsf : s = f0 + b := by
    by_cases hz : S.length = 0
    · rw [if_pos hz] at hs hf0; omega
    · rw [if_neg hz] at hs hf0; omega
  rw [hf0] at hfirst
  have HS : Hid (s = f0 + b) := hsf
  have hws : IntKind.i64.wrap ((f0 : Int) + (b : Int)) = (s : Int) := by rw [show (f0 : Int) + (b : Int) = ((s : Nat) : Int) by omega]; exact IntWalk.i64_in _ (by omega)
  have HFI : Hid (∀ w3 : World, w3.cell? ⟨B, 1, none⟩ = some (.slice sa S.length sc) → ViewL w3 (.slice sa S.length sc) (intsL S) → Calls Try.prog 61 #[.pointer (some ⟨B, 0, none⟩), .int .i64 S.length] w3 fun e w' => e = .returned (.int .i64 f0) ∧ w' = w3) := fun w3 h1 h2 => by
    have := lim_first S B 0 S.length (.slice sa S.length sc) w3 h1 h2 (Nat.le_refl _) (by omega)
    rw [hf0] at this
    exact this
  have hfn : ∀ (w3 : World) args, (callFunc 61 args).run Try.prog w3 = .ok (.enter 61 args) w3 := fun w3 args => by go_simp
  have hBl2 := block_lt HP.out.1.box
  have c1a : ∀ o : Obj, (w2.alloc o).cell? ⟨B, 1, none⟩ = some (.slice sa S.length sc) := fun o => by
    rw [← c1]; exact World.cell?_of_block (w := w2) (Below.heap_alloc w2 o B hBl2)
  have HV2 : Hid (ViewL w2 (.slice sa S.length sc) (intsL S)) := HP.out.1.sym.viewL
  have hN20 : (S.length : Int) < 4611686018427387904 := by omega
  have HO2 : Hid (Owns w2 3 1 (.slice sa S.length sc) oS S.length (intsL S) ∧ S.length ≤ 2 ^ 20) := ⟨HP.out.1.sym, hS⟩
  clear hf0 hsf hs hfirst hBl2
  go_region_law (first
    | (refine step_call_still rfl 61 (.tmp 21) (.tmp 26) 103 3 rfl (hfn _) (.pointer (some ⟨B, 0, none⟩)) (.int .i64 S.length) (.int .i64 f0) (by simp [Act.eval, Act.put]) (by simp [Act.eval, Act.put]) ?_ ?_; exact HFI.out _ (by assumption) (HV2.out.keep ((Touch.refl (fun _ => False) w2).drew) (fun _ _ _ _ _ f => f)))
    | (refine step_append_own rfl (.tmp 20) (.tmp 30) 23 rfl 0 3 i0 (.int .i64 0) 1 8 Try.underlying23 hi hz0 hz1 hz2 rfl (by decide) (.slice sa S.length sc) S.length (intsL S) (by simp [Act.eval]) (HO2.out.1.ext' (((Ext.refl w2).drew).alloc _)).1 ⟨w2.heap.size, 0, none⟩ 1 1 [.int .i64 s] (by simp [Act.eval]) rfl (news _ _ _ _) (by simp [Value.oneCell']) (by unfold maxLen; have := HO2.out.2; omega) (by have := HO2.out.2; omega) (Nat.zero_le _) ?_; intro v2 w3 hown2 hgrow2 hat2; obtain ⟨g2, cap2, rfl⟩ := ownsRow_form hown2 (by omega); obtain ⟨f3, f4⟩ := row_free HP.out.1 hgrow2; have HQ := Lib.hid (row_spost HP.out.1 hown2 hgrow2 hat2); clear hown2 hgrow2 hat2))
  all_goals
    go_end0
    obtain ⟨q1, q2, q3⟩ := HQ.out
    obtain ⟨p1, p2, p3⟩ := HP.out
    refine ⟨rfl, _, _, _, _, q1, p3, ?_, p2.trans q2 (fun k hk => p3.rp k hk)⟩
    rcases q3 with e | ⟨g, e, hg⟩
    · exact Or.inl e
    · exact Or.inr ⟨g, e, Nat.le_trans p2.size hg⟩
end Go.Proofs.Ytaabmlnbadpfgaa

/-! limit.next: its walk. -/
namespace Go.Proofs.Ytaabmlnbadpfgaa
open Go.RowKit Go.Sort
set_option linter.unusedVariables false

/-- where the row stands: all that was there is as it was, but for the row's own box. -/
def NxI (Wt LW : List Nat) (wb : World) (B : Nat) (vi vk : Value) (wr : World) : Prop :=
  ∃ (i k : Nat) (D : List (Nat × Bool)) (oW oS : Option Nat) (wv sv : Value), vi = .int .i64 i ∧ vk = .int .i64 k ∧ i ≤ Wt.length ∧ k ≤ LW.length + 1 ∧ D ++ restM Wt LW i k = mix Wt (pairs LW) ∧ IsRow wr B oW oS (wts D) (cnts D) wv sv ∧
    (∀ g, oW = some g → wb.heap.size ≤ g) ∧ (∀ g, oS = some g → wb.heap.size ≤ g) ∧ Touch (fun k => k = B) wb wr
set_option maxHeartbeats 4000000 in
set_option maxRecDepth 100000 in
theorem lim_next (v : Value) (Wt LW : List Nat) (lw ls : Value) (w : World) (hv : ViewL w v (intsL Wt)) (hlv : ViewL w lw (intsL LW)) (hn : Wt.length ≤ 2 ^ 18) (hl : LW.length ≤ 2 ^ 18) (hWx : ∀ x ∈ Wt, x ≤ 2 ^ 60) (hLx : ∀ x ∈ LW, x ≤ 2 ^ 60) :
    Calls Try.prog 60 #[v, .agg #[lw, ls]] w fun e w' => ∃ wv sv, e = .returned (.agg #[wv, sv]) ∧ IOn w (wts (mix Wt (pairs LW))) wv w' ∧ IOn w (cnts (mix Wt (pairs LW))) sv w' := by
  obtain ⟨ao, cap, rfl⟩ := hv.shape
  obtain ⟨lo, lc, rfl⟩ := hlv.shape
  rw [length_intsL] at hv hlv ⊢
  rw [length_intsL]
  obtain ⟨n, hnn⟩ : ∃ n, n = Wt.length := ⟨_, rfl⟩
  obtain ⟨nl, hnl⟩ : ∃ nl, nl = LW.length := ⟨_, rfl⟩
  rw [← hnn] at hv ⊢
  rw [← hnl] at hlv ⊢
  obtain ⟨wb, hwb⟩ : ∃ wb, wb = (((w.alloc (.cells #[.slice lo nl lc, ls] 94)).alloc (.cells #[.slice none 0 0, .slice none 0 0] 94)).alloc (.cells #[.slice none 0 0, .slice none 0 0] 94)) := ⟨_, rfl⟩
  have hx0 : Ext w wb := by rw [hwb]; exact (((Ext.refl w).alloc _).alloc _).alloc _
  have hsz : wb.heap.size = w.heap.size + 1 + 1 + 1 := by rw [hwb]; simp
  have hb0 : wb.heap[w.heap.size]? = some (.cells #[.slice lo nl lc, ls] 94 (0, 0)) := by
    rw [hwb, Below.heap_alloc _ _ _ (by simp; omega), Below.heap_alloc _ _ _ (by simp)]; exact heap_alloc_new w _
  have hb1 : wb.heap[w.heap.size + 1]? = some (.cells #[.slice none 0 0, .slice none 0 0] 94 (0, 0)) := by
    rw [hwb, Below.heap_alloc _ _ _ (by simp)]; simpa using heap_alloc_new (w.alloc (.cells #[.slice lo nl lc, ls] 94)) _
  have hb2 : wb.heap[w.heap.size + 1 + 1]? = some (.cells #[.slice none 0 0, .slice none 0 0] 94 (0, 0)) := by
    rw [hwb]; simpa using heap_alloc_new ((w.alloc (.cells #[.slice lo nl lc, ls] 94)).alloc (.cells #[.slice none 0 0, .slice none 0 0] 94)) _
  obtain ⟨B, hB⟩ : ∃ B, B = w.heap.size + 1 + 1 := ⟨_, rfl⟩
  rw [← hB] at hb2
  have HWB : Hid (wb = (((w.alloc (.cells #[.slice lo nl lc, ls] 94)).alloc (.cells #[.slice none 0 0, .slice none 0 0] 94)).alloc (.cells #[.slice none 0 0, .slice none 0 0] 94))) := hwb
  have HB : Hid (B = w.heap.size + 1 + 1 ∧ wb.heap.size = B + 1) := ⟨hB, by omega⟩
  have HX0 : Hid (Ext w wb) := hx0
  have HR0 : Hid (IsRow wb B none none [] [] (.slice none 0 0) (.slice none 0 0)) := ⟨hb2, Owns.nil _ _ _, Owns.nil _ _ _, fun g e => (by cases e), fun g e => (by cases e)⟩
  have HK : Hid (∀ wr, Touch (fun k => k = B) wb wr → wr.heap[w.heap.size]? = some (.cells #[.slice lo nl lc, ls] 94 (0, 0)) ∧ wr.heap[w.heap.size + 1]? = some (.cells #[.slice none 0 0, .slice none 0 0] 94 (0, 0))) := fun wr ht => ⟨ht.keep hb0 (by omega), ht.keep hb1 (by omega)⟩
  have HV : Hid (∀ wr, Touch (fun k => k = B) wb wr → ∀ j, j < n → ∃ b o, ao = some ⟨b, o, none⟩ ∧ wr.cell? ⟨b, o + j, none⟩ = some (.int .i64 (Wt.getD j 0 : Nat))) := fun wr ht j hj => by
    obtain ⟨b, o, rfl, _, hc⟩ := viewL_cells hv (by rw [length_intsL]; omega)
    have hc' := hc j (.int .i64 (Wt.getD j 0 : Nat)) (by rw [hnn] at hj; simp [intsL, hj, List.getD])
    have hlt := World.block_lt_of_cell? _ _ hc'
    exact ⟨b, o, rfl, cell_touch ht (cell_touch hx0 hc' (fun f => f)) (by simp at hlt ⊢; omega)⟩
  have HL : Hid (∀ wr, Touch (fun k => k = B) wb wr → ∀ j, j < nl → ∃ b o, lo = some ⟨b, o, none⟩ ∧ wr.cell? ⟨b, o + j, none⟩ = some (.int .i64 (LW.getD j 0 : Nat))) := fun wr ht j hj => by
    obtain ⟨b, o, rfl, _, hc⟩ := viewL_cells hlv (by rw [length_intsL]; omega)
    have hc' := hc j (.int .i64 (LW.getD j 0 : Nat)) (by rw [hnl] at hj; simp [intsL, hj, List.getD])
    have hlt := World.block_lt_of_cell? _ _ hc'
    exact ⟨b, o, rfl, cell_touch ht (cell_touch hx0 hc' (fun f => f)) (by simp at hlt ⊢; omega)⟩
  have HN : Hid (n = Wt.length ∧ nl = LW.length ∧ n ≤ 2 ^ 18 ∧ nl ≤ 2 ^ 18) := ⟨hnn, hnl, by omega, by omega⟩
  have HM : Hid ((∀ x ∈ Wt, x ≤ 2 ^ 60) ∧ (∀ x ∈ LW, x ≤ 2 ^ 60)) := ⟨hWx, hLx⟩
  have HML : Hid ((mix Wt (pairs LW)).length ≤ 2 ^ 19) := by
    show _ ≤ _
    rw [mix_len _ Wt (pairs LW) rfl, pairs_len]; omega
  clear hv hlv hn hl hWx hLx hnn hnl hwb hx0 hsz hb0 hb1 hb2
  go_enter Try.func60, Try.ntmps60
  go_wp2_with fail
  rw [← HWB.out, ← hB]
  clear hB
  go_loopw [6, 7] (fun vi vk wr => NxI Wt LW wb B vi vk wr) (fun vi vk _ => (n - (intOf vi).toNat) + (nl + 1 - (intOf vk).toNat))
  case atStart => exact ⟨0, 0, [], none, none, _, _, by go_num, by go_num, Nat.zero_le _, Nat.zero_le _, by simp [restM], HR0.out, fun g e => (by cases e), fun g e => (by cases e), Touch.refl _ _⟩
  case round =>
    obtain ⟨i, k, D, oW, oS, wv, sv, rfl, rfl, hin, hkl, hD, hrow, hW, hS, ht⟩ := hrel
    have HI : Hid (i ≤ n ∧ k ≤ nl + 1 ∧ D ++ restM Wt LW i k = mix Wt (pairs LW) ∧ IsRow wr B oW oS (wts D) (cnts D) wv sv ∧ (∀ g, oW = some g → wb.heap.size ≤ g) ∧ (∀ g, oS = some g → wb.heap.size ≤ g) ∧ Touch (fun k => k = B) wb wr) := ⟨by rw [HN.out.1]; exact hin, by rw [HN.out.2.1]; exact hkl, hD, hrow, hW, hS, ht⟩
    obtain ⟨hk0, hk1⟩ := HK.out wr ht
    have c0 : wr.cell? ⟨w.heap.size, 0, none⟩ = some (.slice lo nl lc) := by simp [World.cell?, hk0]
    -- a put, whatever is put
    have HPUT : Hid (∀ (x b : Nat), b ≤ 1 → x ≤ 2 ^ 61 → D.length < 2 ^ 19 → ∀ (wr2 : World), (∃ q, wr2 = wr.drewN q) → Calls Try.prog 67 #[.pointer (some ⟨B, 0, none⟩), .int .i64 x, .int .i64 b] wr2 fun e w' => e = .returned (.tuple #[]) ∧
        ∃ oW' oS' wv' sv', IsRow w' B oW' oS' (wts (D ++ [(x, decide (b = 1))])) (cnts (D ++ [(x, decide (b = 1))])) wv' sv' ∧ (∀ g, oW' = some g → wb.heap.size ≤ g) ∧ (∀ g, oS' = some g → wb.heap.size ≤ g) ∧ Touch (fun k => k = B) wb w') := by
      intro x b hb hx hlen wr2 hwr2
      obtain ⟨_, _, _, r, rW, rS, rt⟩ := HI.out
      have hr2 : IsRow wr2 B oW oS (wts D) (cnts D) wv sv ∧ Touch (fun k => k = B) wb wr2 ∧ wr2.heap.size = wr.heap.size := by
        obtain ⟨q, rfl⟩ := hwr2
        exact ⟨r.keep ((Touch.refl (fun _ => False) wr).drewN q) (fun f => f) (fun _ _ f => f) (fun _ _ f => f), rt.drewN q, rfl⟩
      have hsl := syms_le D D.length
      refine (lim_put B oW oS (wts D) (cnts D) wv sv wr2 x b (syms D D.length + b) hr2.1 ?_ (by rw [wts_len]; omega) (by rw [cnts_len]; omega) (by omega) (by omega)).mono ?_
      · have := cnts_get D D.length (Nat.le_refl _)
        rw [cnts_len, ← this]
      · rintro e w' ⟨rfl, oW', oS', wv', sv', q1, q2, q3, q4⟩
        have hsz := rt.size
        refine ⟨rfl, oW', oS', wv', sv', ?_, fun g e => ?_, fun g e => ?_, hr2.2.1.trans q4 (fun j hj hr => ?_)⟩
        · rw [wts_snoc, cnts_snoc]
          have : (if decide (b = 1) then 1 else 0) = b := by
            rcases Nat.lt_or_ge b 1 with h | h
            · obtain rfl : b = 0 := by omega
              rfl
            · obtain rfl : b = 1 := by omega
              rfl
          rw [this]
          exact q1
        · rcases q2 with e2 | ⟨g2, e2, hg2⟩
          · exact rW g (by rw [← e2]; exact e)
          · rw [e] at e2; cases e2; have := hr2.2.2; omega
        · rcases q3 with e2 | ⟨g2, e2, hg2⟩
          · exact rS g (by rw [← e2]; exact e)
          · rw [e] at e2; cases e2; have := hr2.2.2; omega
        · rcases hr with rfl | e | e
          · rfl
          · have := rW j e; omega
          · have := rS j e; omega
    have hk62 : (k : Int) + 1 < 4611686018427387904 := by have := HI.out.2.1; have := HN.out; omega
    have hk63 : (k : Int) + 2 < 4611686018427387904 := by have := HI.out.2.1; have := HN.out; omega
    have hi62 : (i : Int) + 1 < 4611686018427387904 := by have := HI.out.1; have := HN.out; omega
    have hDl : D.length + (restM Wt LW i k).length = (mix Wt (pairs LW)).length := by rw [← hD]; simp
    have HDL : Hid (D.length + (restM Wt LW i k).length ≤ 2 ^ 19) := by rw [hDl]; exact HML.out
    clear hin hkl hD hrow hW hS ht hk0 hk1 hDl
    by_cases htwo : k + 1 < nl
    · have htz : (k : Int) + 1 < (nl : Int) := by omega
      go_wp2_with fail
      have htz2 : (k : Int) < (nl : Int) := by omega
      obtain ⟨lb, lof, rfl, d1⟩ := HL.out wr HI.out.2.2.2.2.2.2 k (by omega)
      obtain ⟨lb2, lof2, e2, d2⟩ := HL.out wr HI.out.2.2.2.2.2.2 (k + 1) htwo
      cases e2
      obtain ⟨y1, hy1⟩ : ∃ y1, y1 = LW.getD k 0 := ⟨_, rfl⟩
      obtain ⟨y2, hy2⟩ : ∃ y2, y2 = LW.getD (k + 1) 0 := ⟨_, rfl⟩
      obtain ⟨z, hz⟩ : ∃ z, z = y1 + y2 := ⟨_, rfl⟩
      rw [← hy1] at d1
      rw [← hy2] at d2
      have hy1b : y1 ≤ 2 ^ 60 := by rw [hy1]; exact HM.out.2 _ (getD_mem (by have := HN.out.2.1; omega))
      have hy2b : y2 ≤ 2 ^ 60 := by rw [hy2]; exact HM.out.2 _ (getD_mem (by have := HN.out.2.1; omega))
      have hzw : IntKind.i64.wrap ((y1 : Int) + (y2 : Int)) = (z : Int) := by rw [show (y1 : Int) + (y2 : Int) = ((z : Nat) : Int) by omega]; exact IntWalk.i64_in _ (by omega)
      have HYB : Hid (z ≤ 2 ^ 61 ∧ z = y1 + y2 ∧ y1 = LW.getD k 0 ∧ y2 = LW.getD (k + 1) 0) := ⟨by omega, hz, hy1, hy2⟩
      have hDD : restM Wt LW i k ≠ [] → D.length < 2 ^ 19 := fun h => by have := HDL.out; have := List.length_pos_iff.2 h; omega
      have HDD : Hid (restM Wt LW i k ≠ [] → D.length < 2 ^ 19) := hDD
      clear hz hy1 hy2 hy1b hy2b hDD
      have e1 : ((k : Int) + 1).toNat = k + 1 := by omega
      have p0 : (0 : Int) ≤ (k : Int) + 1 := by omega
      by_cases hi : i < n
      · have hiz : (i : Int) < (n : Int) := by omega
        obtain ⟨b, o, rfl, hc⟩ := HV.out wr HI.out.2.2.2.2.2.2 i hi
        obtain ⟨x, hx⟩ : ∃ x, x = Wt.getD i 0 := ⟨_, rfl⟩
        rw [← hx] at hc
        have hxb : x ≤ 2 ^ 60 := by rw [hx]; exact HM.out.1 _ (getD_mem (by have := HN.out.1; omega))
        by_cases hle : x ≤ z
        · have hlez : (x : Int) ≤ (z : Int) := by omega
          have hfa : k + 1 < LW.length → Wt.getD i 0 ≤ LW.getD k 0 + LW.getD (k + 1) 0 := fun _ => by rw [← hx, ← HYB.out.2.2.1, ← HYB.out.2.2.2, ← HYB.out.2.1]; exact hle
          have HFA : Hid (k + 1 < LW.length → Wt.getD i 0 ≤ LW.getD k 0 + LW.getD (k + 1) 0) := hfa
          have HXX : Hid (x = Wt.getD i 0 ∧ x ≤ 2 ^ 60 ∧ i < n ∧ D.length < 2 ^ 19) := ⟨hx, hxb, hi, HDD.out (by rw [rest_sym Wt LW i k (by have := HN.out.1; omega) hfa]; simp)⟩
          clear hx hxb hi hfa hle
          go_quiet (fail)
          go_wp2_with fail
          refine (HPUT.out x 1 (Nat.le_refl _) (by have := HXX.out.2.1; omega) HXX.out.2.2.2 _ ⟨nq, rfl⟩).mono ?_
          rintro e w' ⟨rfl, oW', oS', wv', sv', q1, q2, q3, q4⟩
          have HQ : Hid (IsRow w' B oW' oS' (wts (D ++ [(x, true)])) (cnts (D ++ [(x, true)])) wv' sv' ∧ (∀ g, oW' = some g → wb.heap.size ≤ g) ∧ (∀ g, oS' = some g → wb.heap.size ≤ g) ∧ Touch (fun k => k = B) wb w') := ⟨q1, q2, q3, q4⟩
          clear q1 q2 q3 q4 hc d1 d2 hiz htz htz2 hlez hzw e1 c0 hk62
          go_wp2_with fail
          obtain ⟨q1, q2, q3, q4⟩ := HQ.out
          obtain ⟨i1, i2, i3, i4⟩ := HI.out
          have hre : restM Wt LW i k = (x, true) :: restM Wt LW (i + 1) k := by rw [HXX.out.1]; exact rest_sym Wt LW i k (by rw [← HN.out.1]; exact HXX.out.2.2.1) HFA.out
          refine ⟨⟨i + 1, k, D ++ [(x, true)], oW', oS', wv', sv', by go_num, rfl, by have := HXX.out.2.2.1; have := HN.out.1; omega, by have := HN.out.2.1; omega, by rw [← i3, hre]; simp, q1, q2, q3, q4⟩, by simp [intOf]; have := HXX.out.2.2.1; omega⟩
        · have hlez : ¬ (x : Int) ≤ (z : Int) := by omega
          have hfa : i < Wt.length → ¬ Wt.getD i 0 ≤ LW.getD k 0 + LW.getD (k + 1) 0 := fun _ => by rw [← hx, ← HYB.out.2.2.1, ← HYB.out.2.2.2, ← HYB.out.2.1]; exact hle
          have HFA : Hid (i < Wt.length → ¬ Wt.getD i 0 ≤ LW.getD k 0 + LW.getD (k + 1) 0) := hfa
          have HYY : Hid (z = y1 + y2 ∧ y1 = LW.getD k 0 ∧ y2 = LW.getD (k + 1) 0 ∧ D.length < 2 ^ 19 ∧ k + 1 < nl) := ⟨HYB.out.2.1, HYB.out.2.2.1, HYB.out.2.2.2, HDD.out (by rw [rest_pack Wt LW i k (by have := HN.out.2.1; omega) hfa]; simp), htwo⟩
          clear hx hxb hi hfa hle htwo
          go_quiet (fail)
          go_wp2_with fail
          have d1' : (wr.drewN nq).cell? ⟨lb, lof + k, none⟩ = some (.int .i64 y1) := d1
          have d2' : (wr.drewN nq).cell? ⟨lb, lof + (k + 1), none⟩ = some (.int .i64 y2) := d2
          have c0' : (wr.drewN nq).cell? ⟨w.heap.size, 0, none⟩ = some (.slice (some ⟨lb, lof, none⟩) nl lc) := c0
          obtain ⟨w2, hw2⟩ : ∃ w2, w2 = wr.drewN nq := ⟨_, rfl⟩
          rw [← hw2] at d1' d2' c0' ⊢
          have HW2 : Hid (w2 = wr.drewN nq) := hw2
          clear hw2 d1 d2 c0
          have hwk : IntKind.i64.wrap ((k : Int) + 1) = (k : Int) + 1 := by rw [IntKind.wrap_i64]; omega
          go_still_tail 12, (by kernel_rfl)
          clear hwk p0 hk62
          clear hc d1' d2' c0' hiz htz htz2 hlez hzw e1
          go_wp2_with fail
          refine (HPUT.out z 0 (by omega) (by have := HYB.out.1; omega) HYY.out.2.2.2.1 w2.drew ⟨nq + 1, by rw [HW2.out]; rfl⟩).mono ?_
          rintro e w' ⟨rfl, oW', oS', wv', sv', q1, q2, q3, q4⟩
          have HQ : Hid (IsRow w' B oW' oS' (wts (D ++ [(z, false)])) (cnts (D ++ [(z, false)])) wv' sv' ∧ (∀ g, oW' = some g → wb.heap.size ≤ g) ∧ (∀ g, oS' = some g → wb.heap.size ≤ g) ∧ Touch (fun k => k = B) wb w') := ⟨q1, q2, q3, q4⟩
          clear q1 q2 q3 q4
          go_wp2_with fail
          obtain ⟨q1, q2, q3, q4⟩ := HQ.out
          obtain ⟨i1, i2, i3, i4⟩ := HI.out
          obtain ⟨z1, z2, z3, z4, z5⟩ := HYY.out
          have hre : restM Wt LW i k = (z, false) :: restM Wt LW i (k + 2) := by rw [z1, z2, z3]; exact rest_pack Wt LW i k (by rw [← HN.out.2.1]; exact z5) HFA.out
          refine ⟨⟨i, k + 2, D ++ [(z, false)], oW', oS', wv', sv', rfl, by go_num, by have := HN.out.1; omega, by have := HN.out.2.1; omega, by rw [← i3, hre]; simp, q1, q2, q3, q4⟩, by simp [intOf]; omega⟩
      · have hiz : ¬ (i : Int) < (n : Int) := by omega
        have hfa : i < Wt.length → ¬ Wt.getD i 0 ≤ LW.getD k 0 + LW.getD (k + 1) 0 := fun h => by have := HN.out.1; omega
        have HFA : Hid (i < Wt.length → ¬ Wt.getD i 0 ≤ LW.getD k 0 + LW.getD (k + 1) 0) := hfa
        have HYY : Hid (z = y1 + y2 ∧ y1 = LW.getD k 0 ∧ y2 = LW.getD (k + 1) 0 ∧ D.length < 2 ^ 19 ∧ k + 1 < nl) := ⟨HYB.out.2.1, HYB.out.2.2.1, HYB.out.2.2.2, HDD.out (by rw [rest_pack Wt LW i k (by have := HN.out.2.1; omega) hfa]; simp), htwo⟩
        clear hfa htwo
        go_quiet (fail)
        go_wp2_with fail
        have d1' : (wr.drewN nq).cell? ⟨lb, lof + k, none⟩ = some (.int .i64 y1) := d1
        have d2' : (wr.drewN nq).cell? ⟨lb, lof + (k + 1), none⟩ = some (.int .i64 y2) := d2
        have c0' : (wr.drewN nq).cell? ⟨w.heap.size, 0, none⟩ = some (.slice (some ⟨lb, lof, none⟩) nl lc) := c0
        obtain ⟨w2, hw2⟩ : ∃ w2, w2 = wr.drewN nq := ⟨_, rfl⟩
        rw [← hw2] at d1' d2' c0' ⊢
        have HW2 : Hid (w2 = wr.drewN nq) := hw2
        clear hw2 d1 d2 c0
        have hwk : IntKind.i64.wrap ((k : Int) + 1) = (k : Int) + 1 := by rw [IntKind.wrap_i64]; omega
        go_still_tail 12, (by kernel_rfl)
        clear hwk p0 hk62
        clear d1' d2' c0' hiz htz htz2 hzw e1
        go_wp2_with fail
        refine (HPUT.out z 0 (by omega) (by have := HYB.out.1; omega) HYY.out.2.2.2.1 w2.drew ⟨nq + 1, by rw [HW2.out]; rfl⟩).mono ?_
        rintro e w' ⟨rfl, oW', oS', wv', sv', q1, q2, q3, q4⟩
        have HQ : Hid (IsRow w' B oW' oS' (wts (D ++ [(z, false)])) (cnts (D ++ [(z, false)])) wv' sv' ∧ (∀ g, oW' = some g → wb.heap.size ≤ g) ∧ (∀ g, oS' = some g → wb.heap.size ≤ g) ∧ Touch (fun k => k = B) wb w') := ⟨q1, q2, q3, q4⟩
        clear q1 q2 q3 q4
        go_wp2_with fail
        obtain ⟨q1, q2, q3, q4⟩ := HQ.out
        obtain ⟨i1, i2, i3, i4⟩ := HI.out
        obtain ⟨z1, z2, z3, z4, z5⟩ := HYY.out
        have hre : restM Wt LW i k = (z, false) :: restM Wt LW i (k + 2) := by rw [z1, z2, z3]; exact rest_pack Wt LW i k (by rw [← HN.out.2.1]; exact z5) HFA.out
        refine ⟨⟨i, k + 2, D ++ [(z, false)], oW', oS', wv', sv', rfl, by go_num, by have := HN.out.1; omega, by have := HN.out.2.1; omega, by rw [← i3, hre]; simp, q1, q2, q3, q4⟩, by simp [intOf]; omega⟩
    · have htz : ¬ (k : Int) + 1 < (nl : Int) := by omega
      go_wp2_with fail
      by_cases hi : i < n
      · have hiz : (i : Int) < (n : Int) := by omega
        obtain ⟨b, o, rfl, hc⟩ := HV.out wr HI.out.2.2.2.2.2.2 i hi
        obtain ⟨x, hx⟩ : ∃ x, x = Wt.getD i 0 := ⟨_, rfl⟩
        rw [← hx] at hc
        have hxb : x ≤ 2 ^ 60 := by rw [hx]; exact HM.out.1 _ (getD_mem (by have := HN.out.1; omega))
        have hfa : k + 1 < LW.length → Wt.getD i 0 ≤ LW.getD k 0 + LW.getD (k + 1) 0 := fun h => by have := HN.out.2.1; omega
        have HFA : Hid (k + 1 < LW.length → Wt.getD i 0 ≤ LW.getD k 0 + LW.getD (k + 1) 0) := hfa
        have HXX : Hid (x = Wt.getD i 0 ∧ x ≤ 2 ^ 60 ∧ i < n ∧ D.length < 2 ^ 19) := ⟨hx, hxb, hi, by have := HDL.out; rw [rest_sym Wt LW i k (by have := HN.out.1; omega) hfa] at this; simp at this; omega⟩
        clear hx hxb hi hfa htwo
        go_quiet (fail)
        go_wp2_with fail
        refine (HPUT.out x 1 (Nat.le_refl _) (by have := HXX.out.2.1; omega) HXX.out.2.2.2 _ ⟨nq, rfl⟩).mono ?_
        rintro e w' ⟨rfl, oW', oS', wv', sv', q1, q2, q3, q4⟩
        have HQ : Hid (IsRow w' B oW' oS' (wts (D ++ [(x, true)])) (cnts (D ++ [(x, true)])) wv' sv' ∧ (∀ g, oW' = some g → wb.heap.size ≤ g) ∧ (∀ g, oS' = some g → wb.heap.size ≤ g) ∧ Touch (fun k => k = B) wb w') := ⟨q1, q2, q3, q4⟩
        clear q1 q2 q3 q4 hc hiz htz c0 hk62
        go_wp2_with fail
        obtain ⟨q1, q2, q3, q4⟩ := HQ.out
        obtain ⟨i1, i2, i3, i4⟩ := HI.out
        have hre : restM Wt LW i k = (x, true) :: restM Wt LW (i + 1) k := by rw [HXX.out.1]; exact rest_sym Wt LW i k (by rw [← HN.out.1]; exact HXX.out.2.2.1) HFA.out
        refine ⟨⟨i + 1, k, D ++ [(x, true)], oW', oS', wv', sv', by go_num, rfl, by have := HXX.out.2.2.1; have := HN.out.1; omega, by have := HN.out.2.1; omega, by rw [← i3, hre]; simp, q1, q2, q3, q4⟩, by simp [intOf]; have := HXX.out.2.2.1; omega⟩
      · have hiz : ¬ (i : Int) < (n : Int) := by omega
        have HEND : Hid (restM Wt LW i k = []) := rest_end Wt LW i k (by have := HN.out.1; omega) (by have := HN.out.2.1; omega)
        obtain ⟨wa, wc, hwv⟩ := HI.out.2.2.2.1.wts.shape
        obtain ⟨sa, sc, hsv⟩ := HI.out.2.2.2.1.sym.shape
        obtain ⟨nd, hnd⟩ : ∃ nd, nd = (wts D).length := ⟨_, rfl⟩
        obtain ⟨ns, hns⟩ : ∃ ns, ns = (cnts D).length := ⟨_, rfl⟩
        rw [← hnd] at hwv
        rw [← hns] at hsv
        subst hwv hsv
        clear hnd hns
        obtain ⟨_, _, _, hr, _, _, htt⟩ := HI.out
        have g0 : wr.cell? ⟨B, 0, none⟩ = some (.slice wa nd wc) := by simp [World.cell?, hr.box]
        have g1 : wr.cell? ⟨B, 1, none⟩ = some (.slice sa ns sc) := by simp [World.cell?, hr.box]
        obtain ⟨_, hk1⟩ := HK.out wr htt
        have g2 : wr.cell? ⟨w.heap.size + 1, 0, none⟩ = some (.slice none 0 0) := by simp [World.cell?, hk1]
        have g3 : wr.cell? ⟨w.heap.size + 1, 1, none⟩ = some (.slice none 0 0) := by simp [World.cell?, hk1]
        have g4 : wr.frozen? ⟨w.heap.size + 1, 0, none⟩ = false := by simp [World.frozen?, hk1]
        have g5 : wr.frozen? ⟨w.heap.size + 1, 1, none⟩ = false := by simp [World.frozen?, hk1]
        clear hr htt hk1 htwo
        go_quiet (fail)
        go_wp2_with fail
        obtain ⟨i1, i2, i3, hr, hrW, hrS, htt⟩ := HI.out
        have hD : D = mix Wt (pairs LW) := by rw [← i3, HEND.out, List.append_nil]
        refine bodyPost_ret ?_ rfl ⟨.slice wa nd wc, .slice sa ns sc, rfl, ?_⟩
        · obtain ⟨w5, hw5⟩ : ∃ w5, w5 = ((wr.drewN nq).setCell ⟨w.heap.size + 1, 0, none⟩ (.slice wa nd wc)).setCell ⟨w.heap.size + 1, 1, none⟩ (.slice sa ns sc) := ⟨_, rfl⟩
          have hh := heap_setCell_at (w := wr.drewN nq) (a := ⟨w.heap.size + 1, 0, none⟩) (u := .slice wa nd wc) (HK.out wr htt).2 rfl
          have hh2 := heap_setCell_at (a := ⟨w.heap.size + 1, 1, none⟩) (u := .slice sa ns sc) hh rfl
          have c50 : w5.cell? ⟨w.heap.size + 1, 0, none⟩ = some (.slice wa nd wc) := by rw [hw5, World.cell?]; simp only [hh2]; rfl
          have c51 : w5.cell? ⟨w.heap.size + 1, 1, none⟩ = some (.slice sa ns sc) := by rw [hw5, World.cell?]; simp only [hh2]; rfl
          rw [← hw5]
          clear hw5 hh hh2
          simp only [results, show Try.f60.results = #[.cell 4 94] from by kernel_rfl]
          go_simp
        · have hre : Ext w (((wr.drewN nq).setCell ⟨w.heap.size + 1, 0, none⟩ (.slice wa nd wc)).setCell ⟨w.heap.size + 1, 1, none⟩ (.slice sa ns sc)) := by
            have h1 : Touch (fun k => k = B) wb (wr.drewN nq) := htt.drewN nq
            have h2 : Touch (fun k => k = B) w (wr.drewN nq) := HX0.out.trans' h1
            have h3 : Touch (fun k => k = B ∨ k = w.heap.size + 1) w (((wr.drewN nq).setCell ⟨w.heap.size + 1, 0, none⟩ (.slice wa nd wc)).setCell ⟨w.heap.size + 1, 1, none⟩ (.slice sa ns sc)) :=
              Touch.setCell (S := fun k => k = B ∨ k = w.heap.size + 1) (a := ⟨w.heap.size + 1, 1, none⟩) (Touch.setCell (S := fun k => k = B ∨ k = w.heap.size + 1) (a := ⟨w.heap.size + 1, 0, none⟩) (h2.mono (fun _ _ e => Or.inl e)) (Or.inl (Or.inr rfl)) _) (Or.inl (Or.inr rfl)) _
            exact h3.mono (fun k hk e => by have := HB.out; omega)
          have htt2 : Touch (fun k => k = w.heap.size + 1) wr (((wr.drewN nq).setCell ⟨w.heap.size + 1, 0, none⟩ (.slice wa nd wc)).setCell ⟨w.heap.size + 1, 1, none⟩ (.slice sa ns sc)) :=
            Touch.setCell (S := fun k => k = w.heap.size + 1) (a := ⟨w.heap.size + 1, 1, none⟩) (Touch.setCell (S := fun k => k = w.heap.size + 1) (a := ⟨w.heap.size + 1, 0, none⟩) ((Touch.refl _ wr).drewN nq) (Or.inl rfl) _) (Or.inl rfl) _
          have hb := HB.out
          have hx0 := HX0.out.size
          refine ⟨⟨oW, ?_, fun g e => by have := hrW g e; omega, hre⟩, ⟨oS, ?_, fun g e => by have := hrS g e; omega, hre⟩⟩
          · rw [← hD]
            exact hr.wts.keep htt2 (fun g e he => by have := hrW g e; omega)
          · rw [← hD]
            exact hr.sym.keep htt2 (fun g e he => by have := hrS g e; omega)
end Go.Proofs.Ytaabmlnbadpfgaa

/-! Rows just made: bytes, and rows of the work. -/
namespace Go.Proofs.Ytaabmlnbadpfgaa
open Go.RowKit
set_option linter.unusedVariables false

theorem make_ownsL (w : World) (t e : TypeId) (i : TypeInfo) (z : Value) (n : Nat) (h1 : Try.prog.underlying t = some (.slice e)) (h2 : Try.prog.info? e = some i) (h3 : i.zero = some z) (h4 : i.size = 1) (h5 : i.bytes ≤ 8) (hz : z.cells = #[z]) (hn : n ≤ 2 ^ 40) :
    ∃ w', (Instr.makeSlice t (.int .i64 (n : Int)) (.int .i64 (n : Int))).run Try.prog w = .ok (.slice (some ⟨w.heap.size, 0, none⟩) n n) w' ∧ Owns w' e 1 (.slice (some ⟨w.heap.size, 0, none⟩) n n) (some w.heap.size) n (List.replicate n z) ∧ Ext w w' := by
  obtain ⟨w', hrun, r1, r2⟩ := run_make_full (P := Try.prog) w 0 t e i z 1 h1 h2 h3 h4 .i64 .i64 n (by
    have : i.bytes * n ≤ 8 * 2 ^ 40 := Nat.mul_le_mul h5 hn
    omega) (by unfold maxLen; omega) (Nat.zero_le _)
  refine ⟨w', hrun, ⟨?_, rfl⟩, (Touch.refl _ w).grown r2 (fun k e => by cases e)⟩
  rw [hz, Nat.mul_one, made_one] at r1
  exact r1
/-- bytes, all 0, just made. -/
theorem make_u8 (w : World) (n : Nat) (hn : n ≤ 2 ^ 40) :
    ∃ w', (Instr.makeSlice 24 (.int .i64 (n : Int)) (.int .i64 (n : Int))).run Try.prog w = .ok (.slice (some ⟨w.heap.size, 0, none⟩) n n) w' ∧ BO w (List.replicate n 0) (.slice (some ⟨w.heap.size, 0, none⟩) n n) w' := by
  obtain ⟨i0, hi, hz0, hz1, hz2⟩ := info_parts info_u8
  obtain ⟨w', h1, h2, h3⟩ := make_ownsL w 24 5 i0 (.int .u8 0) n Try.underlying24 hi hz0 hz1 (by omega) rfl hn
  refine ⟨w', h1, some w.heap.size, ?_, fun g e => (by cases e; exact Nat.le_refl _), h3⟩
  have e : u8s (List.replicate n 0) = List.replicate n (.int .u8 0) := by simp [u8s]
  rw [List.length_replicate, e]; exact h2
theorem info_lrow : (Try.prog.info? 94).map (fun i => (i.size, i.bytes)) = some (2, 48) := by kernel_rfl
theorem zero_row : ((Try.prog.info? 94).bind (·.zero)).isSome = true := by kernel_rfl
/-- rows of the work, just made. -/
theorem make_rows (w : World) (n : Nat) (hn : n ≤ 2 ^ 20) :
    ∃ w' cur, (Instr.makeSlice 92 (.int .i64 (n : Int)) (.int .i64 (n : Int))).run Try.prog w = .ok (.slice (some ⟨w.heap.size, 0, none⟩) n n) w' ∧ w'.heap[w.heap.size]? = some (.cells cur 94 (0, 0)) ∧ cur.size = 2 * n ∧ Ext w w' := by
  have hi := info_lrow
  have hz := zero_row
  cases h : Try.prog.info? 94 with
  | none => rw [h] at hi; cases hi
  | some i =>
    rw [h] at hi hz
    simp only [Option.map_some, Option.some.injEq, Prod.mk.injEq] at hi
    cases hzz : i.zero with
    | none => simp [hzz] at hz
    | some z =>
      obtain ⟨w', hrun, r1, r2⟩ := run_make_full (P := Try.prog) w 0 92 94 i z 2 Try.underlying92 h hzz hi.1 .i64 .i64 n (by rw [hi.2]; omega) (by unfold maxLen; omega) (Nat.zero_le _)
      rcases r1.2 with ⟨h1, _⟩ | ⟨g, cap, cur, h1, _, hh, _, _, hs, _⟩
      · cases h1
      · cases h1
        exact ⟨w', cur, hrun, hh, by omega, (Touch.refl _ w).grown r2 (fun k e => by cases e)⟩
end Go.Proofs.Ytaabmlnbadpfgaa

/-! limit.Lengths where it must fail: its walks. -/
namespace Go.Proofs.Ytaabmlnbadpfgaa
open Go.RowKit
set_option linter.unusedVariables false

set_option maxHeartbeats 2000000 in
set_option maxRecDepth 100000 in
theorem lim_len_arg (v : Value) (fs : List Int) (lim : Int) (w : World) (hv : ViewL w v (ints fs)) (hl : fs.length ≤ 2 ^ 50) (hb : lim < 1 ∨ 17 < lim ∨ 512 < fs.length ∨ fs.any badF = true) :
    Calls Try.prog 53 #[v, .int .i64 lim] w fun e w' => e = .returned (.tuple #[.slice none 0 0, .int .i64 5]) ∧ w' = w := by
  have hc := fun h => lim_contains v fs w hv h
  obtain ⟨ao, cap, rfl⟩ := hv.shape
  rw [length_ints] at hc ⊢
  obtain ⟨N, hN⟩ : ∃ N, N = fs.length := ⟨_, rfl⟩
  rw [← hN] at hc hb hl ⊢
  have hNz : (N : Int) < 4611686018427387904 := by omega
  clear hv hN
  by_cases h1 : lim < 1
  · clear hb
    go_enter Try.func53, Try.ntmps53
    go_wp2_with fail
    go_ret2
    exact ⟨rfl, rfl⟩
  · by_cases h2 : 17 < lim
    · clear hb
      go_enter Try.func53, Try.ntmps53
      go_wp2_with fail
      go_ret2
      exact ⟨rfl, rfl⟩
    · by_cases h3 : 512 < N
      · have h3z : (512 : Int) < (N : Int) := by omega
        clear hb
        go_enter Try.func53, Try.ntmps53
        go_wp2_with fail
        go_ret2
        exact ⟨rfl, rfl⟩
      · have h3z : ¬ (512 : Int) < (N : Int) := by omega
        have h4 : fs.any badF = true := by
          rcases hb with h | h | h | h
          · exact (h1 h).elim
          · exact (h2 h).elim
          · exact (h3 h).elim
          · exact h
        have hc := hc (by omega)
        rw [h4] at hc
        clear hb h4 h3
        have h1z : 1 ≤ lim := by omega
        have h2z : lim ≤ 17 := by omega
        clear h1 h2
        go_enter Try.func53, Try.ntmps53
        go_wp2_with fail
        refine hc.mono ?_
        rintro e w' ⟨rfl, rfl⟩
        clear hc
        go_wp2_with fail
        go_ret2
        exact ⟨rfl, rfl⟩
theorem ints_nat {fs : List Int} {F : List Nat} (h : fs = F.map fun (x : Nat) => (x : Int)) : ints fs = intsL F := by rw [h]; simp [ints, intsL]
set_option maxHeartbeats 2000000 in
set_option maxRecDepth 100000 in
theorem lim_len_form (v : Value) (F P : List Nat) (L : Nat) (w : World) (hv : ViewL w v (intsL F)) (h1 : 1 ≤ L) (h17 : L ≤ 17) (hl : F.length ≤ 512) (hF : ∀ x ∈ F, x ≤ 2 ^ 40) (hP : IsOrd F P) (hn : 2 ^ L < P.length) :
    Calls Try.prog 53 #[v, .int .i64 L] w fun e w' => e = .returned (.tuple #[.slice none 0 0, .int .i64 2]) ∧ Ext w w' := by
  obtain ⟨fs, hfs⟩ : ∃ fs : List Int, fs = F.map fun (x : Nat) => (x : Int) := ⟨_, rfl⟩
  have hvi : ViewL w v (ints fs) := by rw [ints_nat hfs]; exact hv
  have hany : fs.any badF = false := by
    rw [List.any_eq_false]
    intro x hx
    rw [hfs, List.mem_map] at hx
    obtain ⟨y, hy, rfl⟩ := hx
    have := hF y hy
    simp [badF]
    omega
  have hc := lim_contains v fs w hvi (by rw [hfs, List.length_map]; omega)
  rw [hany] at hc
  have hr := lim_rarest v F w hv (by omega)
  obtain ⟨ao, cap, rfl⟩ := hv.shape
  rw [length_intsL] at *
  obtain ⟨N, hN⟩ : ∃ N, N = F.length := ⟨_, rfl⟩
  rw [← hN] at hv hl hc hr ⊢
  have HF : Hid (IsOrd F P ∧ 2 ^ L < P.length) := ⟨hP, hn⟩
  have h1z : ¬ (L : Int) < 1 := by omega
  have h2z : ¬ (17 : Int) < (L : Int) := by omega
  have h3z : ¬ (512 : Int) < (N : Int) := by omega
  have HR : Hid _ := hr
  clear hv hN hl hF hP hn hfs hvi hany h1 h17 hr
  go_enter Try.func53, Try.ntmps53
  go_wp2_with fail
  refine hc.mono ?_
  rintro e w' ⟨rfl, rfl⟩
  clear hc
  go_wp2_with fail
  refine Calls.mono HR.out ?_
  rintro e w1 ⟨Q, ov, rfl, hQ, hio⟩
  obtain rfl : Q = P := ord_same hQ HF.out.1
  obtain ⟨pa, pc, rfl⟩ := hio.shape
  have HIO := Lib.hid hio
  obtain ⟨n, hn⟩ : ∃ n, n = Q.length := ⟨_, rfl⟩
  rw [← hn] at HIO ⊢
  obtain ⟨w2, hmk, hbo⟩ := make_u8 w1 N (by omega)
  have HBO := Lib.hid hbo
  have HN := Lib.hid (show n = Q.length ∧ 2 ^ L < n from ⟨hn, by rw [hn]; exact HF.out.2⟩)
  clear hio hQ hn hbo
  obtain ⟨m, hm⟩ : ∃ m, m = 2 ^ L := ⟨_, rfl⟩
  have hmz : (2 : Int) ^ L = (m : Int) := by rw [hm]; push_cast; rfl
  have hmb : m ≤ 2 ^ 17 := by rw [hm]; exact Nat.pow_le_pow_right (by decide) (by omega)
  have hmw : IntKind.i64.wrap ((2 : Int) ^ L) = (m : Int) := by rw [hmz]; exact IntWalk.i64_in _ (by omega)
  have hmn : (m : Int) < (n : Int) := by have := HN.out.2; omega
  clear hm hmb hmz
  go_wp2_with fail
  go_ret2
  exact ⟨rfl, HIO.out.toExt.trans HBO.out.toExt⟩
end Go.Proofs.Ytaabmlnbadpfgaa

/-! limit.Lengths where it answers: its walk. -/
namespace Go.Proofs.Ytaabmlnbadpfgaa
open Go.RowKit
set_option linter.unusedVariables false

/-- what is set ahead of the work. -/
def lenInit (P : List Nat) (s : Nat) : Nat := if P.length = 1 ∧ s ∈ P then 1 else 0
/-- a symbol's length, as the program reckons it. -/
def lenP (F P : List Nat) (i s : Nat) : Nat := lenInit P s + lenOf F P i s
def lensP (F P : List Nat) (i : Nat) : List Nat := (List.range F.length).map (lenP F P i)
/-- a row in memory that is not the box's. -/
def RowV (w5 wr : World) (v : Value) (l : List Nat) : Prop := ∃ og, Owns wr 3 1 v og l.length (intsL l) ∧ ∀ g, og = some g → w5.heap.size ≤ g
theorem RowV.keep {w5 wr w' : World} {v : Value} {l : List Nat} {S : Nat → Prop} (h : RowV w5 wr v l) (ht : Touch S wr w') (hS : ∀ k, S k → k < w5.heap.size) : RowV w5 w' v l := by
  obtain ⟨og, h1, h2⟩ := h
  exact ⟨og, h1.keep ht (fun g e hs => by have := h2 g e; have := hS g hs; omega), h2⟩
/-- the rows, as far as they are made. -/
def RowsI (W : List Nat) (w5 : World) (Bq L : Nat) (vi : Value) (wr : World) : Prop :=
  ∃ (i : Nat) (cur : Array Value) (rs : List (Value × Value)), vi = .int .i64 i ∧ i ≤ L ∧ rs.length = i ∧ wr.heap[Bq]? = some (.cells cur 94 (0, 0)) ∧ cur.size = 2 * L ∧
    (∀ j a b, rs[j]? = some (a, b) → cur[2 * j]? = some a ∧ cur[2 * j + 1]? = some b ∧ RowV w5 wr a (wts (rowL W j)) ∧ RowV w5 wr b (cnts (rowL W j))) ∧ Touch (fun k => k = Bq) w5 wr
def WtI (F P : List Nat) (w3 : World) (vo vi : Value) (wr : World) : Prop :=
  ∃ (j nn cc : Nat) (oa : Option Addr), vi = .int .i64 j ∧ vo = .slice oa nn cc ∧ j ≤ P.length ∧ nn = j ∧ IOn w3 (wtsOf F (P.take j)) (.slice oa nn cc) wr
theorem getD_at {l : List Nat} {j : Nat} (h : j < l.length) : l.getD j 0 = l[j] := by simp [List.getD, h]
theorem IOn.rowV {w w5 wr : World} {l : List Nat} {v : Value} (h : IOn w l v wr) (hs : w5.heap.size ≤ w.heap.size) : RowV w5 wr v l := by
  obtain ⟨og, h1, h2, _⟩ := h
  exact ⟨og, h1, fun g e => Nat.le_trans hs (h2 g e)⟩
theorem RowV.viewL {w5 wr : World} {l : List Nat} {v : Value} (h : RowV w5 wr v l) : ViewL wr v (intsL l) := h.choose_spec.1.viewL
theorem set2_ne {cur : Array Value} {a b k : Nat} (u v : Value) (h1 : k ≠ a) (h2 : k ≠ b) : ((cur.setIfInBounds a u).setIfInBounds b v)[k]? = cur[k]? := by
  rw [Array.getElem?_setIfInBounds_ne (Ne.symm h2), Array.getElem?_setIfInBounds_ne (Ne.symm h1)]
theorem set2_fst {cur : Array Value} {a b : Nat} (u v : Value) (h : a ≠ b) (ha : a < cur.size) : ((cur.setIfInBounds a u).setIfInBounds b v)[a]? = some u := by
  rw [Array.getElem?_setIfInBounds_ne (Ne.symm h), Array.getElem?_setIfInBounds_self_of_lt ha]
theorem set2_snd {cur : Array Value} {a b : Nat} (u v : Value) (hb : b < cur.size) : ((cur.setIfInBounds a u).setIfInBounds b v)[b]? = some v := by
  rw [Array.getElem?_setIfInBounds_self_of_lt (by simpa using hb)]
/-- one row more. -/
theorem rows_put {W : List Nat} {w5 wr w' : World} {Bq L i : Nat} {cur : Array Value} {rs : List (Value × Value)} {wv sv : Value} (hi : i < L) (hrs : rs.length = i) (hb : wr.heap[Bq]? = some (.cells cur 94 (0, 0))) (hc : cur.size = 2 * L)
    (hr : ∀ j a b, rs[j]? = some (a, b) → cur[2 * j]? = some a ∧ cur[2 * j + 1]? = some b ∧ RowV w5 wr a (wts (rowL W j)) ∧ RowV w5 wr b (cnts (rowL W j))) (ht : Touch (fun k => k = Bq) w5 wr) (hB : Bq < w5.heap.size)
    (h1 : IOn wr (wts (rowL W i)) wv w') (h2 : IOn wr (cnts (rowL W i)) sv w') : RowsI W w5 Bq L (.int .i64 ((i + 1 : Nat) : Int)) ((w'.setCell ⟨Bq, 2 * i, none⟩ wv).setCell ⟨Bq, 2 * i + 1, none⟩ sv) := by
  have hx := h1.toExt
  have hb' : w'.heap[Bq]? = some (.cells cur 94 (0, 0)) := hx.keep hb (fun f => f)
  have e1 := heap_setCell_at (a := ⟨Bq, 2 * i, none⟩) (u := wv) hb' rfl
  have e2 := heap_setCell_at (a := ⟨Bq, 2 * i + 1, none⟩) (u := sv) e1 rfl
  have ht2 : Touch (fun k => k = Bq) w' ((w'.setCell ⟨Bq, 2 * i, none⟩ wv).setCell ⟨Bq, 2 * i + 1, none⟩ sv) :=
    Touch.setCell (S := fun k => k = Bq) (a := ⟨Bq, 2 * i + 1, none⟩) (Touch.setCell (S := fun k => k = Bq) (a := ⟨Bq, 2 * i, none⟩) (Touch.refl _ w') (Or.inl rfl) _) (Or.inl rfl) _
  refine ⟨i + 1, _, rs ++ [(wv, sv)], rfl, hi, by simp [hrs], e2, by simp [hc], fun j a b hj => ?_, ?_⟩
  · by_cases hji : j < i
    · rw [List.getElem?_append_left (by omega)] at hj
      obtain ⟨q1, q2, q3, q4⟩ := hr j a b hj
      refine ⟨?_, ?_, (q3.keep hx (fun k f => f.elim)).keep ht2 (fun k e => by have e : k = Bq := e; omega), (q4.keep hx (fun k f => f.elim)).keep ht2 (fun k e => by have e : k = Bq := e; omega)⟩
      · exact (set2_ne (a := 2 * i) (b := 2 * i + 1) wv sv (by omega) (by omega)).trans q1
      · exact (set2_ne (a := 2 * i) (b := 2 * i + 1) wv sv (by omega) (by omega)).trans q2
    · rw [List.getElem?_append_right (by omega)] at hj
      have hj0 : j - rs.length = 0 := by
        rcases Nat.eq_zero_or_pos (j - rs.length) with h | h
        · exact h
        · rw [List.getElem?_eq_none (by simp; omega)] at hj; cases hj
      rw [hj0] at hj
      simp at hj
      obtain ⟨rfl, rfl⟩ := hj
      obtain rfl : j = i := by omega
      refine ⟨?_, ?_, (h1.rowV ht.size).keep ht2 (fun k e => by have e : k = Bq := e; omega), (h2.rowV ht.size).keep ht2 (fun k e => by have e : k = Bq := e; omega)⟩
      · exact set2_fst (a := 2 * j) (b := 2 * j + 1) wv sv (by omega) (by omega)
      · exact set2_snd (a := 2 * j) (b := 2 * j + 1) wv sv (by omega)
  · exact (ht.trans (hx.mono fun _ _ f => f.elim) (fun k _ e => e)).trans ht2 (fun k _ e => e)
/-- the lengths in memory. -/
def OutB (g0 N : Nat) (f : Nat → Nat) (wr : World) : Prop := Owns wr 5 1 (.slice (some ⟨g0, 0, none⟩) N N) (some g0) N (u8s ((List.range N).map f))
def OutI (Q W : List Nat) (L t0 N g0 : Nat) (w6 : World) (vt vi : Value) (wr : World) : Prop :=
  ∃ (i t : Nat) (ks : List Nat), vt = .int .i64 t ∧ vi = .int .i64 i ∧ i ≤ L ∧ ks.length = i ∧ (i < L → takes W (L - 1) t0 = ks ++ takes W (L - 1 - i) t ∧ t ≤ (rowL W (L - 1 - i)).length) ∧ (i = L → takes W (L - 1) t0 = ks) ∧
    OutB g0 N (fun s => lenInit Q s + outAt Q ks s) wr ∧ Touch (fun k => k = g0) w6 wr
def OutJ (Q ks : List Nat) (k N g0 : Nat) (w6 : World) (vj : Value) (wr : World) : Prop :=
  ∃ (j : Nat), vj = .int .i64 j ∧ j ≤ k ∧ OutB g0 N (fun s => lenInit Q s + outAt Q ks s + if s ∈ Q.take j then 1 else 0) wr ∧ Touch (fun k => k = g0) w6 wr
theorem OutB.get {g0 N : Nat} {f : Nat → Nat} {wr : World} (h : OutB g0 N f wr) (s : Nat) (hs : s < N) : wr.cell? ⟨g0, s, none⟩ = some (.int .u8 (f s : Nat)) ∧ wr.frozen? ⟨g0, s, none⟩ = false :=
  ⟨h.cell s _ (by simp [u8s, hs]), h.free s⟩
theorem OutB.put {g0 N : Nat} {f f' : Nat → Nat} {wr : World} (h : OutB g0 N f wr) (s : Nat) (hs : s < N) (h1 : ∀ k, k ≠ s → f' k = f k) : OutB g0 N f' (wr.setCell ⟨g0, s, none⟩ (.int .u8 (f' s : Nat))) := by
  have := h.set s (.int .u8 (f' s : Nat)) hs
  have e : (u8s ((List.range N).map f)).set s (.int .u8 (f' s : Nat)) = u8s ((List.range N).map f') := by
    apply List.ext_getElem
    · simp [u8s]
    · intro j hj1 hj2
      rw [List.getElem_set]
      by_cases hj : s = j
      · subst hj; simp [u8s]
      · rw [if_neg hj]; simp [u8s, h1 j (fun e => hj e.symm)]
  rw [e] at this
  exact this
theorem outAt_le (P ks : List Nat) (s : Nat) : outAt P ks s ≤ ks.length := List.length_filter_le _ _
theorem lenInit_le (P : List Nat) (s : Nat) : lenInit P s ≤ 1 := by unfold lenInit; split <;> omega
set_option maxHeartbeats 8000000 in
set_option maxRecDepth 100000 in
theorem lim_len (v : Value) (F P : List Nat) (L : Nat) (w : World) (hv : ViewL w v (intsL F)) (h1 : 1 ≤ L) (h17 : L ≤ 17) (hl : F.length ≤ 512) (hF : ∀ x ∈ F, x ≤ 2 ^ 40) (hP : IsOrd F P) (hn : P.length ≤ 2 ^ L) :
    Calls Try.prog 53 #[v, .int .i64 L] w fun e w' => ∃ ov, e = .returned (.tuple #[ov, .int .i64 0]) ∧ BO w (lensP F P (L - 1)) ov w' := by
  obtain ⟨fs, hfs⟩ : ∃ fs : List Int, fs = F.map fun (x : Nat) => (x : Int) := ⟨_, rfl⟩
  have hvi : ViewL w v (ints fs) := by rw [ints_nat hfs]; exact hv
  have hany : fs.any badF = false := by
    rw [List.any_eq_false]
    intro x hx
    rw [hfs, List.mem_map] at hx
    obtain ⟨y, hy, rfl⟩ := hx
    have := hF y hy
    simp [badF]
    omega
  have hc := lim_contains v fs w hvi (by rw [hfs, List.length_map]; omega)
  rw [hany] at hc
  have hr := lim_rarest v F w hv (by omega)
  obtain ⟨ao, cap, rfl⟩ := hv.shape
  rw [length_intsL] at *
  obtain ⟨N, hN⟩ : ∃ N, N = F.length := ⟨_, rfl⟩
  rw [← hN] at hv hl hc hr ⊢
  have HP := Lib.hid (show IsOrd F P ∧ P.length ≤ 2 ^ L ∧ (∀ x ∈ F, x ≤ 2 ^ 40) ∧ N = F.length ∧ N ≤ 512 ∧ 1 ≤ L ∧ L ≤ 17 from ⟨hP, hn, hF, hN, hl, h1, h17⟩)
  have HV := Lib.hid hv
  have h1z : ¬ (L : Int) < 1 := by omega
  have h2z : ¬ (17 : Int) < (L : Int) := by omega
  have h3z : ¬ (512 : Int) < (N : Int) := by omega
  have HR : Hid _ := hr
  clear hv hN hl hF hP hn hfs hvi hany h1 h17 hr
  go_enter Try.func53, Try.ntmps53
  go_wp2_with fail
  refine hc.mono ?_
  rintro e w' ⟨rfl, rfl⟩
  clear hc h1z h2z h3z
  go_wp2_with fail
  refine Calls.mono HR.out ?_
  rintro e w1 ⟨Q, ov, rfl, hQ, hio⟩
  obtain rfl : Q = P := ord_same hQ HP.out.1
  obtain ⟨pa, pc, rfl⟩ := hio.shape
  have HIO := Lib.hid hio
  obtain ⟨n, hn⟩ : ∃ n, n = Q.length := ⟨_, rfl⟩
  rw [← hn] at HIO ⊢
  obtain ⟨w2, hmk, hbo⟩ := make_u8 w1 N (by have := HP.out; omega)
  have HBO := Lib.hid hbo
  have hnN : n ≤ N := by rw [hn, HP.out.2.2.2.1, ord_len HP.out.1]; exact List.length_filter_le _ _
  have HN := Lib.hid (show n = Q.length ∧ n ≤ N from ⟨hn, hnN⟩)
  obtain ⟨m, hm⟩ : ∃ m, m = 2 ^ L := ⟨_, rfl⟩
  have hmz : (2 : Int) ^ L = (m : Int) := by rw [hm]; push_cast; rfl
  have hmb : m ≤ 2 ^ 17 := by rw [hm]; exact Nat.pow_le_pow_right (by decide) HP.out.2.2.2.2.2.2
  have hmw : IntKind.i64.wrap ((2 : Int) ^ (min L 64)) = (m : Int) := by rw [show min L 64 = L by have := HP.out; omega, hmz]; exact IntWalk.i64_in _ (by omega)
  have hmn : ¬ (m : Int) < (n : Int) := by have := HP.out.2.1; omega
  have hmn2 : ¬ m < n := by omega
  have hmd : decide ((m : Int) < (n : Int)) = false := decide_eq_false hmn
  clear hm hmb hmz hio hQ hn hbo hnN
  by_cases h0 : n = 0
  · have h0z : (n : Int) < 2 := by omega
    have h0e : ((n : Int) == 1) = false := by rw [beq_eq_false_iff_ne]; omega
    have H0 := Lib.hid h0
    clear h0
    go_wp2_with fail
    go_ret2
    refine ⟨_, rfl, ?_⟩
    obtain ⟨og, b1, b2, b3⟩ := HBO.out
    have hz : lensP F Q (L - 1) = List.replicate N 0 := by
      have hQ0 : Q = [] := List.eq_nil_of_length_eq_zero (by rw [← HN.out.1]; exact H0.out)
      rw [lensP, ← HP.out.2.2.2.1, hQ0]
      refine List.eq_replicate_iff.2 ⟨by simp, fun b hb => ?_⟩
      obtain ⟨s, _, rfl⟩ := List.mem_map.1 hb
      simp [lenP, lenInit, lenOf, outAt]
    rw [hz]
    exact ⟨og, b1, fun g e => Nat.le_trans HIO.out.toExt.size (b2 g e), HIO.out.toExt.trans b3⟩
  · by_cases hone : n = 1
    · have HONE := Lib.hid hone
      have H0 := Lib.hid h0
      have h1z : ((n : Int) == 1) = true := by rw [beq_iff_eq]; omega
      have h1y : (n : Int) < 2 := by omega
      have h0p : (0 : Int) < (n : Int) := by omega
      have h0q : 0 < n := by omega
      obtain ⟨b, o, hpa, _, hc⟩ := viewL_cells (HIO.out.viewL.ext HBO.out.toExt) (by rw [length_intsL, ← HN.out.1, hone]; decide)
      obtain ⟨s, hs⟩ : ∃ s, s = Q.getD 0 0 := ⟨_, rfl⟩
      have c1 : w2.cell? ⟨b, o, none⟩ = some (.int .i64 s) := by
        have := hc 0 (.int .i64 (Q.getD 0 0 : Nat)) (by
          have h : 0 < Q.length := by rw [← HN.out.1, hone]; decide
          simp [intsL, List.getD, h])
        rw [hs]; exact this
      have hsN : s < N := by
        rw [hs, HP.out.2.2.2.1]
        exact ((HP.out.1.mem _).1 (getD_mem (by rw [← HN.out.1, hone]; decide))).1
      have hsz : (s : Int) < (N : Int) := by omega
      have HZ := Lib.hid (show OutB w1.heap.size N (fun _ => 0) w2 from by
        obtain ⟨og, b1, b2, b3⟩ := HBO.out
        rw [List.length_replicate] at b1
        rcases b1.form with ⟨_, h, _⟩ | ⟨g, cap', cur', h1, h2, h3, _⟩
        · cases h
        · cases h2
          subst h1
          have e : (List.range N).map (fun _ => 0) = List.replicate N 0 := by
            refine List.eq_replicate_iff.2 ⟨by simp, fun b hb => ?_⟩
            obtain ⟨s, _, rfl⟩ := List.mem_map.1 hb
            rfl
          show Owns _ _ _ _ _ _ (u8s ((List.range N).map (fun _ => 0)))
          rw [e]; exact b1)
      obtain ⟨g1, g2⟩ := HZ.out.get s hsN
      obtain ⟨w3, hw3⟩ : ∃ w3, w3 = w2.setCell ⟨w1.heap.size, s, none⟩ (.int .u8 1) := ⟨_, rfl⟩
      have HB3 := Lib.hid (show BO w1 ((List.range F.length).map (lenInit Q)) (.slice (some ⟨w1.heap.size, 0, none⟩) N N) w3 from by
        have hQ : Q = [s] := by
          obtain ⟨y, hy⟩ := List.length_eq_one_iff.1 (show Q.length = 1 by rw [← HN.out.1]; exact hone)
          rw [hs, hy]; rfl
        have hput := HZ.out.put (f' := lenInit Q) s hsN (fun k hk => by rw [lenInit, if_neg (fun h => hk (by have := h.2; rw [hQ] at this; simpa using this))])
        have hv : lenInit Q s = 1 := by rw [lenInit, if_pos ⟨by rw [hQ]; rfl, by rw [hQ]; simp⟩]
        rw [hv] at hput
        refine ⟨some w1.heap.size, ?_, fun g e => by cases e; exact Nat.le_refl _, ?_⟩
        · rw [hw3, ← HP.out.2.2.2.1, show ((List.range N).map (lenInit Q)).length = N by simp]; exact hput
        · rw [hw3]; exact Touch.setCell (S := fun _ => False) HBO.out.toExt (Or.inr (Nat.le_refl _)) _)
      have HW3 := Lib.hid hw3
      clear h0 hone hw3 HBO HZ hc hs hsN
      have HPC := Lib.hid (show ∀ wr, Touch (fun k => k = w1.heap.size) w3 wr → ∀ j, j < n → ∃ b o, pa = some ⟨b, o, none⟩ ∧ wr.cell? ⟨b, o + j, none⟩ = some (.int .i64 (Q.getD j 0 : Nat)) from fun wr ht j hj => by
        obtain ⟨b, o, rfl, _, hc⟩ := viewL_cells HIO.out.viewL (by rw [length_intsL]; have := HN.out.1; omega)
        have hc' := hc j (.int .i64 (Q.getD j 0 : Nat)) (by rw [HN.out.1] at hj; simp [intsL, hj, List.getD])
        have hlt := World.block_lt_of_cell? _ _ hc'
        exact ⟨b, o, rfl, cell_touch ht (cell_touch HB3.out.toExt hc' (fun f => f)) (by simp at hlt ⊢; omega)⟩)
      have HFC := Lib.hid (show ∀ wr, Touch (fun k => k = w1.heap.size) w3 wr → ∀ j, j < N → ∃ b o, ao = some ⟨b, o, none⟩ ∧ wr.cell? ⟨b, o + j, none⟩ = some (.int .i64 (F.getD j 0 : Nat)) from fun wr ht j hj => by
        obtain ⟨b, o, rfl, _, hc⟩ := viewL_cells HV.out (by rw [length_intsL]; have := HP.out.2.2.2.1; omega)
        have hc' := hc j (.int .i64 (F.getD j 0 : Nat)) (by rw [HP.out.2.2.2.1] at hj; simp [intsL, hj, List.getD])
        have hlt := World.block_lt_of_cell? _ _ hc'
        exact ⟨b, o, rfl, cell_touch ht (cell_touch HB3.out.toExt (cell_touch HIO.out.toExt hc' (fun f => f)) (fun f => f)) (by have := HIO.out.toExt.size; simp at hlt ⊢; omega)⟩)
      have HQF := Lib.hid (show ∀ j, j < n → Q.getD j 0 < N from fun j hj => by
        rw [HP.out.2.2.2.1]
        exact ((HP.out.1.mem _).1 (getD_mem (by rw [← HN.out.1]; exact hj))).1)
      obtain ⟨i0, hi, hz0, hz1, hz2⟩ := info_parts info_int
      subst hpa
      go_wp2_with fail
      rw [show w2.setCell ⟨w1.heap.size, s, none⟩ (.int .u8 1) = w3 from HW3.out.symm]
      clear hmk hmw hmn hmn2 hmd h1z h1y h0p h0q hsz c1 g1 g2
      go_loopw [10, 62] (fun vo vi wr => WtI F Q w3 vo vi wr) (fun _ vi _ => n - (intOf vi).toNat)
      case atStart => exact ⟨0, 0, 0, none, by go_num, rfl, Nat.zero_le _, rfl, IOn.nil w3⟩
      case round =>
        obtain ⟨j, nn, cc, oa, rfl, rfl, hjn, hnn, hio⟩ := hrel
        have HI := Lib.hid (show j ≤ n ∧ nn = j ∧ IOn w3 (wtsOf F (Q.take j)) (.slice oa nn cc) wr from ⟨by rw [HN.out.1]; exact hjn, hnn, hio⟩)
        clear hjn hnn hio
        by_cases hlt : j < n
        · have hltz : (j : Int) < (n : Int) := by omega
          have ht3 : Touch (fun k => k = w1.heap.size) w3 wr := HI.out.2.2.toExt.mono (fun _ _ f => f.elim)
          obtain ⟨b, o, e1, c1⟩ := HPC.out wr ht3 j hlt
          cases e1
          have hsN := HQF.out j hlt
          obtain ⟨s, hs⟩ : ∃ s, s = Q.getD j 0 := ⟨_, rfl⟩
          rw [← hs] at c1 hsN
          obtain ⟨b2, o2, rfl, c2⟩ := HFC.out wr ht3 s hsN
          have hsz : (s : Int) < (N : Int) := by omega
          obtain ⟨x, hx⟩ : ∃ x, x = F.getD s 0 := ⟨_, rfl⟩
          rw [← hx] at c2
          have HS := Lib.hid (show s = Q.getD j 0 ∧ x = F.getD s 0 ∧ j < n from ⟨hs, hx, hlt⟩)
          have hj62 : (j : Int) + 1 < 4611686018427387904 := by have := HP.out; have := HN.out; omega
          have hlen : nn + 1 ≤ 1024 := by have := HI.out; have := HP.out; have := HN.out; omega
          have HW1 := Lib.hid (show wtsOf F (Q.take (j + 1)) = wtsOf F (Q.take j) ++ [x] from by
            have hj : j < Q.length := by rw [← HN.out.1]; exact HS.out.2.2
            rw [List.take_succ_eq_append_getElem hj, wtsOf, List.map_append]
            congr 1
            rw [HS.out.2.1, HS.out.1, getD_at hj]
            rfl)
          have HLW := Lib.hid (show (wtsOf F (Q.take j)).length = nn from by
            rw [wtsOf, List.length_map, List.length_take]; have := HI.out; have := HN.out.1; have := HS.out.2.2; omega)
          clear hs hx ht3 hlt hsN
          go_wp2_with (at_builtin; go_must (refine wpList_append_own_at _ rfl (.tmp 66) (.tmp 71) 23 rfl 0 3 i0 (.int .i64 0) 1 8 Try.underlying23 hi hz0 hz1 hz2 rfl (by decide) _ nn (intsL (wtsOf F (Q.take j))) rfl (by have := HI.out.2.2.choose_spec.1.1.alloc (.cells #[.int .i64 x] 3); rw [HLW.out] at this; exact this) ⟨wr.heap.size, 0, none⟩ 1 1 [.int .i64 x] rfl rfl (news _ _ _ _) (by simp [Value.oneCell']) (by unfold maxLen; omega) (by omega) (Nat.zero_le _) ?_))
          intro v' w5 hown' hgrow _ hat
          have HIO5 := Lib.hid (show IOn w3 (wtsOf F (Q.take (j + 1))) v' w5 from by
            rw [HW1.out]
            exact io_snoc HI.out.2.2 (by rw [HLW.out]; exact hown') hgrow hat)
          obtain ⟨a5, c5, rfl⟩ : ∃ a5 c5, v' = .slice a5 (nn + 1) c5 := by
            obtain ⟨a5, c5, e5⟩ := HIO5.out.shape
            exact ⟨a5, c5, by rw [e5, HW1.out, List.length_append, HLW.out]; rfl⟩
          clear hown' hgrow hat c1 c2 hlen
          go_wp2_with fail
          exact ⟨⟨j + 1, nn + 1, c5, a5, by go_num, rfl, by have := HS.out.2.2; have := HN.out.1; omega, by have := HI.out.2.1; omega, HIO5.out⟩, by simp [intOf]; have := HS.out.2.2; omega⟩
        · have hltz : ¬ (j : Int) < (n : Int) := by omega
          obtain ⟨W, hW⟩ : ∃ W, W = wtsOf F Q := ⟨_, rfl⟩
          have HIW := Lib.hid (show IOn w3 W (.slice oa nn cc) wr ∧ nn = n from by
            have h9 := HI.out.2.2
            have hjn : j = n := by have := HI.out.1; omega
            rw [List.take_of_length_le (by rw [hjn]; exact Nat.le_of_eq HN.out.1.symm), ← hW] at h9
            exact ⟨h9, by rw [HI.out.2.1, hjn]⟩)
          have HW := Lib.hid (show W = wtsOf F Q ∧ W.length = n ∧ (∀ x ∈ W, x ≤ 2 ^ 40) ∧ Rises W from ⟨hW, by rw [hW, wtsOf, List.length_map]; exact HN.out.1.symm, fun x hx => by
            rw [hW, wtsOf, List.mem_map] at hx
            obtain ⟨s, hs, rfl⟩ := hx
            have hsl := ((HP.out.1.mem s).1 hs).1
            exact HP.out.2.2.1 _ (getD_mem hsl), by rw [hW]; exact ord_rises HP.out.1⟩)
          clear hW hlt
          obtain ⟨w5, cur5, hmk5, hb5, hs5, hx5⟩ := make_rows wr L (by have := HP.out; omega)
          obtain ⟨Bq, hBq⟩ : ∃ Bq, Bq = wr.heap.size := ⟨_, rfl⟩
          obtain ⟨w4, hw4⟩ : ∃ w4, w4 = wr := ⟨_, rfl⟩
          rw [← hBq] at hmk5 hb5
          have H5 := Lib.hid (show w5.heap[Bq]? = some (.cells cur5 94 (0, 0)) ∧ cur5.size = 2 * L ∧ Ext w4 w5 ∧ Bq = w4.heap.size ∧ IOn w3 W (.slice oa nn cc) w4 from ⟨hb5, hs5, by rw [hw4]; exact hx5, by rw [hw4]; exact hBq, by rw [hw4]; exact HIW.out.1⟩)
          clear hb5 hs5 hx5 hBq hw4
          have HB5 := Lib.hid (show Bq < w5.heap.size from block_lt H5.out.1)
          have HWV := Lib.hid (show ∀ wr, Touch (fun k => k = Bq) w5 wr → ViewL wr (.slice oa nn cc) (intsL W) from fun wr ht => by
            obtain ⟨og, o1, o2, o3⟩ := H5.out.2.2.2.2
            exact ((o1.keep H5.out.2.2.1 (fun _ _ f => f)).keep ht (fun g e hg => by have := o1.lt g e; have := H5.out.2.2.2.1; omega)).viewL)
          have hLz : (L : Int) < 100 := by have := HP.out; omega
          go_wp2_with fail
          clear hmk5 hltz hLz
          go_loopw [77] (fun vi wr => RowsI W w5 Bq L vi wr) (fun vi _ => L - (intOf vi).toNat)
          case atStart => exact ⟨0, cur5, [], by go_num, Nat.zero_le _, rfl, H5.out.1, H5.out.2.1, fun j a b h => by simp at h, Touch.refl _ _⟩
          case round =>
            obtain ⟨i, cur, rs, rfl, hiL, hrs, hb, hcs, hr, ht⟩ := hrel
            have HI2 := Lib.hid (show i ≤ L ∧ rs.length = i ∧ wr.heap[Bq]? = some (.cells cur 94 (0, 0)) ∧ cur.size = 2 * L ∧ (∀ j a b, rs[j]? = some (a, b) → cur[2 * j]? = some a ∧ cur[2 * j + 1]? = some b ∧ RowV w5 wr a (wts (rowL W j)) ∧ RowV w5 wr b (cnts (rowL W j))) ∧ Touch (fun k => k = Bq) w5 wr from ⟨hiL, hrs, hb, hcs, hr, ht⟩)
            clear hiL hrs hb hcs hr ht
            by_cases hlt : i < L
            · have hltz : (i : Int) < (L : Int) := by omega
              obtain ⟨i1, hi1⟩ : ∃ i1, i1 = i + 1 := ⟨_, rfl⟩
              have wi1 : IntKind.i64.wrap ((i : Int) + 1) = (i1 : Int) := by rw [show (i : Int) + 1 = ((i1 : Nat) : Int) by omega]; exact IntWalk.i64_in _ (by have := HP.out; omega)
              have HI1 := Lib.hid hi1
              have HLT := Lib.hid hlt
              by_cases hi0 : i = 0
              · have hi0z : ¬ (0 : Int) < (i : Int) := by omega
                have hi0n : ¬ 0 < i := by omega
                have HI0 := Lib.hid hi0
                have hnx := lim_next (.slice oa nn cc) W [] (.slice none 0 0) (.slice none 0 0) wr (HWV.out wr HI2.out.2.2.2.2.2) ⟨none, 0, rfl, Nat.le_refl _, fun _ => rfl, fun h => by simp [intsL] at h⟩ (by have := HW.out; have := HP.out; have := HN.out; omega) (by simp) (fun x hx => by have := HW.out.2.2.1 x hx; omega) (fun x hx => by cases hx)
                have HNX := Lib.hid (show Calls Try.prog 60 #[.slice oa nn cc, .agg #[.slice none 0 0, .slice none 0 0]] wr fun e w' => ∃ wv sv, e = .returned (.agg #[wv, sv]) ∧ IOn wr (wts (rowL W i)) wv w' ∧ IOn wr (cnts (rowL W i)) sv w' from by rw [HI0.out]; exact hnx)
                clear hi0 hnx hlt hi1
                go_wp2_with fail
                refine Calls.mono HNX.out ?_
                rintro e w6 ⟨wv, sv, rfl, q1, q2⟩
                obtain ⟨wa, wc, hwv⟩ := q1.shape
                obtain ⟨sa, sc, hsv⟩ := q2.shape
                obtain ⟨nw, hnw⟩ : ∃ nw, nw = (wts (rowL W i)).length := ⟨_, rfl⟩
                obtain ⟨ns, hns⟩ : ∃ ns, ns = (cnts (rowL W i)).length := ⟨_, rfl⟩
                rw [← hnw] at hwv
                rw [← hns] at hsv
                subst hwv hsv
                have HQ := Lib.hid (And.intro q1 q2)
                have b6 : w6.heap[Bq]? = some (.cells cur 94 (0, 0)) := q1.toExt.keep HI2.out.2.2.1 (fun f => f)
                obtain ⟨x0, hx0⟩ : ∃ x0, cur[i * 2]? = some x0 := ⟨_, Array.getElem?_eq_getElem (by have := HI2.out.2.2.2.1; have := HLT.out; omega)⟩
                obtain ⟨x1, hx1⟩ : ∃ x1, cur[i * 2 + 1]? = some x1 := ⟨_, Array.getElem?_eq_getElem (by have := HI2.out.2.2.2.1; have := HLT.out; omega)⟩
                have d0 : w6.cell? ⟨Bq, i * 2, none⟩ = some x0 := by simp [World.cell?, b6, hx0]
                have d1 : w6.cell? ⟨Bq, i * 2 + 1, none⟩ = some x1 := by simp [World.cell?, b6, hx1]
                have d2 : w6.frozen? ⟨Bq, i * 2, none⟩ = false := by simp [World.frozen?, b6]
                have d3 : w6.frozen? ⟨Bq, i * 2 + 1, none⟩ = false := by simp [World.frozen?, b6]
                clear q1 q2 hnw hns b6 hx0 hx1 hi0z hi0n hltz
                go_wp2_with fail
                obtain ⟨a1, a2, a3, a4, a5, a6⟩ := HI2.out
                have hput := rows_put HLT.out a2 a3 a4 a5 a6 HB5.out HQ.out.1 HQ.out.2
                rw [Nat.mul_comm 2 i, ← HI1.out] at hput
                exact ⟨hput, by simp [intOf]; have := HLT.out; have := HI1.out; omega⟩
              · have hi0z : (0 : Int) < (i : Int) := by omega
                have hi0n : 0 < i := by omega
                obtain ⟨ip, hip⟩ : ∃ ip, i = ip + 1 := ⟨i - 1, by omega⟩
                have HIP := Lib.hid hip
                have wip : IntKind.i64.wrap ((i : Int) - 1) = (ip : Int) := by rw [show (i : Int) - 1 = ((ip : Nat) : Int) by omega]; exact IntWalk.i64_in _ (by have := HP.out; omega)
                have ipz : (ip : Int) < (L : Int) := by omega
                obtain ⟨⟨ra, rb⟩, hrr⟩ : ∃ ab, rs[ip]? = some ab := ⟨_, List.getElem?_eq_getElem (by have := HI2.out.2.1; omega)⟩
                obtain ⟨r1, r2, r3, r4⟩ := HI2.out.2.2.2.2.1 ip ra rb hrr
                have hnx := lim_next (.slice oa nn cc) W (wts (rowL W ip)) ra rb wr (HWV.out wr HI2.out.2.2.2.2.2) r3.viewL (by have := HW.out; have := HP.out; have := HN.out; omega) (by rw [wts_len]; have := row_short W ip; have := HW.out; have := HP.out; have := HN.out; omega) (fun x hx => by have := HW.out.2.2.1 x hx; omega) (fun x hx => by
                  have h8 := row_bound HW.out.2.2.1 ip x hx
                  have h9 : 2 ^ ip ≤ 2 ^ 16 := Nat.pow_le_pow_right (by decide) (by have := HLT.out; have := HP.out; omega)
                  have h10 : 2 ^ 40 * 2 ^ ip ≤ 2 ^ 40 * 2 ^ 16 := Nat.mul_le_mul_left _ h9
                  omega)
                have HNX := Lib.hid (show Calls Try.prog 60 #[.slice oa nn cc, .agg #[ra, rb]] wr fun e w' => ∃ wv sv, e = .returned (.agg #[wv, sv]) ∧ IOn wr (wts (rowL W i)) wv w' ∧ IOn wr (cnts (rowL W i)) sv w' from by rw [HIP.out]; exact hnx)
                have g0 : wr.cell? ⟨Bq, ip * 2, none⟩ = some ra := by rw [Nat.mul_comm]; simp [World.cell?, HI2.out.2.2.1, r1]
                have g1 : wr.cell? ⟨Bq, ip * 2 + 1, none⟩ = some rb := by rw [Nat.mul_comm]; simp [World.cell?, HI2.out.2.2.1, r2]
                clear hnx hlt r1 r2 r3 r4 hrr hi0 hip hi1
                go_wp2_with fail
                clear g0 g1 wip ipz
                refine Calls.mono HNX.out ?_
                rintro e w6 ⟨wv, sv, rfl, q1, q2⟩
                obtain ⟨wa, wc, hwv⟩ := q1.shape
                obtain ⟨sa, sc, hsv⟩ := q2.shape
                obtain ⟨nw, hnw⟩ : ∃ nw, nw = (wts (rowL W i)).length := ⟨_, rfl⟩
                obtain ⟨ns, hns⟩ : ∃ ns, ns = (cnts (rowL W i)).length := ⟨_, rfl⟩
                rw [← hnw] at hwv
                rw [← hns] at hsv
                subst hwv hsv
                have HQ := Lib.hid (And.intro q1 q2)
                have b6 : w6.heap[Bq]? = some (.cells cur 94 (0, 0)) := q1.toExt.keep HI2.out.2.2.1 (fun f => f)
                obtain ⟨x0, hx0⟩ : ∃ x0, cur[i * 2]? = some x0 := ⟨_, Array.getElem?_eq_getElem (by have := HI2.out.2.2.2.1; have := HLT.out; omega)⟩
                obtain ⟨x1, hx1⟩ : ∃ x1, cur[i * 2 + 1]? = some x1 := ⟨_, Array.getElem?_eq_getElem (by have := HI2.out.2.2.2.1; have := HLT.out; omega)⟩
                have d0 : w6.cell? ⟨Bq, i * 2, none⟩ = some x0 := by simp [World.cell?, b6, hx0]
                have d1 : w6.cell? ⟨Bq, i * 2 + 1, none⟩ = some x1 := by simp [World.cell?, b6, hx1]
                have d2 : w6.frozen? ⟨Bq, i * 2, none⟩ = false := by simp [World.frozen?, b6]
                have d3 : w6.frozen? ⟨Bq, i * 2 + 1, none⟩ = false := by simp [World.frozen?, b6]
                clear q1 q2 hnw hns b6 hx0 hx1 hi0z hi0n hltz
                go_wp2_with fail
                obtain ⟨a1, a2, a3, a4, a5, a6⟩ := HI2.out
                have hput := rows_put HLT.out a2 a3 a4 a5 a6 HB5.out HQ.out.1 HQ.out.2
                rw [Nat.mul_comm 2 i, ← HI1.out] at hput
                exact ⟨hput, by simp [intOf]; have := HLT.out; have := HI1.out; omega⟩
            · have hltz : ¬ (i : Int) < (L : Int) := by omega
              have HIL := Lib.hid (show i = L from by have := HI2.out.1; omega)
              obtain ⟨w6, hw6⟩ : ∃ w6, w6 = wr := ⟨_, rfl⟩
              have hg0 : w1.heap.size < w3.heap.size := by
                obtain ⟨og, b1, b2, b3⟩ := HB3.out
                rcases b1.form with ⟨_, h, _⟩ | ⟨g, cap', cur', h1, h2, h3, _⟩
                · cases h
                · cases h2; exact block_lt h3
              have hgB : w1.heap.size < Bq := by have := H5.out.2.2.2.1; have := H5.out.2.2.2.2.toExt.size; omega
              have HGB := Lib.hid (show w1.heap.size < Bq ∧ w1.heap.size < w5.heap.size from ⟨hgB, by have := HB5.out; omega⟩)
              have HALL := Lib.hid (show ∀ wr', Touch (fun k => k = w1.heap.size) w6 wr' → ∀ j, j < L → ∃ sv, wr'.cell? ⟨Bq, j * 2 + 1, none⟩ = some sv ∧ ViewL wr' sv (intsL (cnts (rowL W j))) from fun wr' ht j hj => by
                rw [hw6] at ht
                obtain ⟨a1, a2, a3, a4, a5, a6⟩ := HI2.out
                obtain ⟨⟨ra, rb⟩, hrr⟩ : ∃ ab, rs[j]? = some ab := ⟨_, List.getElem?_eq_getElem (by rw [a2, HIL.out]; exact hj)⟩
                obtain ⟨r1, r2, r3, r4⟩ := a5 j ra rb hrr
                have hb' := ht.keep a3 (by have := HGB.out.1; omega)
                refine ⟨rb, by rw [Nat.mul_comm]; simp [World.cell?, hb', r2], (r4.keep ht (fun k e => by have e : k = w1.heap.size := e; have := HGB.out.2; omega)).viewL⟩)
              have HOUT := Lib.hid (show OutB w1.heap.size N (lenInit Q) w6 from by
                rw [hw6]
                obtain ⟨og, b1, b2, b3⟩ := HB3.out
                rw [← HP.out.2.2.2.1, show ((List.range N).map (lenInit Q)).length = N by simp] at b1
                rcases b1.form with ⟨_, h, _⟩ | ⟨g, cap', cur', h1, h2, h3, _⟩
                · cases h
                · cases h2
                  subst h1
                  have c1 := (b1.keep H5.out.2.2.2.2.toExt (fun _ _ f => f)).keep H5.out.2.2.1 (fun _ _ f => f)
                  have c2 := c1.keep HI2.out.2.2.2.2.2 (fun g e h => by cases e; have h : w1.heap.size = Bq := h; have := HGB.out.1; omega)
                  exact c2)
              have HE6 := Lib.hid (show Touch (fun k => k = Bq) w5 w6 from by rw [hw6]; exact HI2.out.2.2.2.2.2)
              have HT3 := Lib.hid (show Ext w3 w5 from H5.out.2.2.2.2.toExt.trans H5.out.2.2.1)
              obtain ⟨t0, ht0⟩ : ∃ t0, t0 = 2 * n - 2 := ⟨_, rfl⟩
              obtain ⟨n2, hn2⟩ : ∃ n2, n2 = 2 * n := ⟨_, rfl⟩
              have wn2 : IntKind.i64.wrap (2 * (n : Int)) = (n2 : Int) := by rw [show 2 * (n : Int) = ((n2 : Nat) : Int) by omega]; exact IntWalk.i64_in _ (by have := HP.out; have := HN.out; omega)
              have wt0 : IntKind.i64.wrap ((n2 : Int) - 2) = (t0 : Int) := by rw [show (n2 : Int) - 2 = ((t0 : Nat) : Int) by have := H0.out; omega]; exact IntWalk.i64_in _ (by have := HP.out; have := HN.out; omega)
              have HT0 := Lib.hid (show t0 = 2 * n - 2 from ht0)
              have HLEN := Lib.hid (show t0 ≤ (rowL W (L - 1)).length from by
                have := row_enough W (L - 1) (by rw [HW.out.2.1, HN.out.1]; have h := HP.out.2.1; rw [show L - 1 + 1 = L by have := HP.out; omega]; exact h) (by rw [HW.out.2.1]; have := H0.out; omega)
                rw [HW.out.2.1] at this
                rw [ht0]; exact this)
              clear hgB ht0 hn2 hlt hg0
              go_wp2_with fail
              rw [← hw6]
              clear hw6 wn2 wt0 hltz
              go_loopw [15, 104] (fun vt vi wr => OutI Q W L t0 N w1.heap.size w6 vt vi wr) (fun _ vi _ => L - (intOf vi).toNat)
              case atStart => exact ⟨0, t0, [], by go_num, by go_num, Nat.zero_le _, rfl, fun _ => ⟨by simp, HLEN.out⟩, fun h => by have := HP.out; omega, by
                have e : (fun s => lenInit Q s + outAt Q [] s) = lenInit Q := funext fun s => by simp [outAt]
                rw [e]; exact HOUT.out, Touch.refl _ _⟩
              case round =>
                obtain ⟨i2, t, ks, rfl, rfl, hiL, hks, htk, htl, hob, ht⟩ := hrel
                have HI3 := Lib.hid (show i2 ≤ L ∧ ks.length = i2 ∧ (i2 < L → takes W (L - 1) t0 = ks ++ takes W (L - 1 - i2) t ∧ t ≤ (rowL W (L - 1 - i2)).length) ∧ (i2 = L → takes W (L - 1) t0 = ks) ∧ OutB w1.heap.size N (fun s => lenInit Q s + outAt Q ks s) wr ∧ Touch (fun k => k = w1.heap.size) w6 wr from ⟨hiL, hks, htk, htl, hob, ht⟩)
                clear hiL hks htk htl hob ht
                by_cases hlt : i2 < L
                · have hltz : (i2 : Int) < (L : Int) := by omega
                  obtain ⟨d, hd⟩ : ∃ d, d = L - 1 - i2 := ⟨_, rfl⟩
                  obtain ⟨Lp, hLp⟩ : ∃ Lp, Lp = L - 1 := ⟨_, rfl⟩
                  have wL : IntKind.i64.wrap ((L : Int) - 1) = (Lp : Int) := by rw [show (L : Int) - 1 = ((Lp : Nat) : Int) by omega]; exact IntWalk.i64_in _ (by have := HP.out; omega)
                  have wd : IntKind.i64.wrap ((Lp : Int) - (i2 : Int)) = (d : Int) := by rw [show (Lp : Int) - (i2 : Int) = ((d : Nat) : Int) by omega]; exact IntWalk.i64_in _ (by have := HP.out; omega)
                  have hdL : d < L := by omega
                  have hdz : (d : Int) < (L : Int) := by omega
                  obtain ⟨i3, hi3⟩ : ∃ i3, i3 = i2 + 1 := ⟨_, rfl⟩
                  have wi3 : IntKind.i64.wrap ((i2 : Int) + 1) = (i3 : Int) := by rw [show (i2 : Int) + 1 = ((i3 : Nat) : Int) by omega]; exact IntWalk.i64_in _ (by have := HP.out; omega)
                  have HD := Lib.hid (show d = L - 1 - i2 ∧ i2 < L ∧ i3 = i2 + 1 from ⟨hd, hlt, hi3⟩)
                  obtain ⟨sv, s1, s2⟩ := HALL.out wr HI3.out.2.2.2.2.2 d hdL
                  have htd : t ≤ (rowL W d).length := by rw [hd]; exact (HI3.out.2.2.1 hlt).2
                  have hrs := row_short W d
                  have htb : t ≤ 1024 := by have := HW.out.2.1; have := HP.out; have := HN.out; omega
                  have hfr := lim_first (cnts (rowL W d)) Bq (d * 2) t sv wr s1 s2 (by rw [cnts_len]; exact htd) (by rw [cnts_len]; have := HW.out.2.1; have := HP.out; have := HN.out; omega)
                  obtain ⟨k, hk⟩ : ∃ k, k = syms (rowL W d) t := ⟨_, rfl⟩
                  have hkn : (if t = 0 then (0 : Int) else (((cnts (rowL W d)).getD (t - 1) 0 : Nat) : Int)) = (k : Int) := by
                    rw [hk, ← cnts_get (rowL W d) t htd]
                    by_cases h : t = 0
                    · rw [if_pos h, if_pos h]; rfl
                    · rw [if_neg h, if_neg h]
                  rw [hkn] at hfr
                  have hkle : k ≤ n := by
                    rw [hk]
                    have hh : syms (rowL W d) t ≤ W.length := by
                      cases d with
                      | zero => exact (takes_end W t htd).2
                      | succ d' => exact (takes_step W d' t htd).2.2
                    rw [HW.out.2.1] at hh; exact hh
                  have hkt : k ≤ t := by rw [hk]; exact syms_le _ _
                  have hpc : n ≤ pc := by
                    obtain ⟨_, cap', e, hh, _⟩ := HIO.out.viewL
                    rw [length_intsL] at hh
                    cases e
                    have := HN.out.1; omega
                  obtain ⟨pb, pof, e1, _⟩ := HPC.out w3 (Touch.refl _ _) 0 (by have := H0.out; omega)
                  cases e1
                  have HK := Lib.hid (show k = syms (rowL W d) t ∧ k ≤ n ∧ k ≤ t ∧ t ≤ 1024 ∧ t ≤ (rowL W d).length from ⟨hk, hkle, hkt, htb, htd⟩)
                  have hkz : (k : Int) ≤ (pc : Int) := by omega
                  have hkc : ¬ (pc : Int) < (k : Int) := by omega
                  obtain ⟨tk, htk⟩ : ∃ tk, tk = t - k := ⟨_, rfl⟩
                  obtain ⟨tn, htn⟩ : ∃ tn, tn = 2 * (t - k) := ⟨_, rfl⟩
                  have wtk : IntKind.i64.wrap ((t : Int) - (k : Int)) = (tk : Int) := by rw [show (t : Int) - (k : Int) = ((tk : Nat) : Int) by omega]; exact IntWalk.i64_in _ (by omega)
                  have wtn : IntKind.i64.wrap (2 * (tk : Int)) = (tn : Int) := by rw [show 2 * (tk : Int) = ((tn : Nat) : Int) by omega]; exact IntWalk.i64_in _ (by omega)
                  have HTN := Lib.hid (show tn = 2 * (t - k) from htn)
                  have HFR := Lib.hid hfr
                  clear hd hLp hlt hi3 s1 s2 htd hrs htb hfr hk hkn hkle hkt hpc htk htn hdL
                  go_wp2_with fail
                  refine Calls.mono HFR.out ?_
                  rintro e wf ⟨rfl, rfl⟩
                  clear HFR
                  go_wp2_with fail
                  clear hkz hkc hdz wL wd
                  go_loopw [119] (fun vj wr => OutJ Q ks k N w1.heap.size w6 vj wr) (fun vj _ => k - (intOf vj).toNat)
                  case atStart => exact ⟨0, by go_num, Nat.zero_le _, by
                    have e : (fun s => lenInit Q s + outAt Q ks s + if s ∈ Q.take 0 then 1 else 0) = fun s => lenInit Q s + outAt Q ks s := funext fun s => by simp
                    rw [e]; exact HI3.out.2.2.2.2.1, HI3.out.2.2.2.2.2⟩
                  case round =>
                    obtain ⟨j, rfl, hjk, hob, ht⟩ := hrel
                    have HJ := Lib.hid (show j ≤ k ∧ OutB w1.heap.size N (fun s => lenInit Q s + outAt Q ks s + if s ∈ Q.take j then 1 else 0) wr ∧ Touch (fun k => k = w1.heap.size) w6 wr from ⟨hjk, hob, ht⟩)
                    clear hjk hob ht
                    by_cases hlt : j < k
                    · have hltz : (j : Int) < (k : Int) := by omega
                      have hjn : j < n := by have := HK.out.2.1; omega
                      have HTW := Lib.hid (show Touch (fun k => k = w1.heap.size) w3 wr from by
                        have h1 : Touch (fun k => k = w1.heap.size) w3 w6 := ((HT3.out.mono (fun _ _ f => f.elim)).trans HE6.out (fun k hk e => by have e : k = Bq := e; have := HT3.out.size; have := H5.out.2.2.2.1; have := H5.out.2.2.2.2.toExt.size; omega))
                        exact h1.trans HJ.out.2.2 (fun _ _ e => e))
                      obtain ⟨pb', po', e1, c1⟩ := HPC.out wr HTW.out j hjn
                      cases e1
                      have hsN := HQF.out j hjn
                      obtain ⟨s, hs⟩ : ∃ s, s = Q.getD j 0 := ⟨_, rfl⟩
                      rw [← hs] at c1 hsN
                      have hsz : (s : Int) < (N : Int) := by omega
                      obtain ⟨g1, g2⟩ := HJ.out.2.1.get s hsN
                      obtain ⟨x, hx⟩ : ∃ x, x = lenInit Q s + outAt Q ks s + (if s ∈ Q.take j then 1 else 0) := ⟨_, rfl⟩
                      rw [← hx] at g1
                      have hxb : x ≤ 100 := by
                        have h1 := lenInit_le Q s
                        have h2 := outAt_le Q ks s
                        have h3 := HI3.out.2.1
                        have h4 := HP.out
                        have h5 : (if s ∈ Q.take j then 1 else 0) ≤ 1 := by split <;> omega
                        omega
                      obtain ⟨x1, hx1⟩ : ∃ x1, x1 = x + 1 := ⟨_, rfl⟩
                      have wx : IntKind.u8.wrap ((x : Int) + 1) = (x1 : Int) := by rw [show (x : Int) + 1 = ((x1 : Nat) : Int) by omega]; exact IntWalk.u8_in _ (by omega)
                      obtain ⟨j1, hj1⟩ : ∃ j1, j1 = j + 1 := ⟨_, rfl⟩
                      have wj1 : IntKind.i64.wrap ((j : Int) + 1) = (j1 : Int) := by rw [show (j : Int) + 1 = ((j1 : Nat) : Int) by omega]; exact IntWalk.i64_in _ (by have := HK.out; omega)
                      have HS := Lib.hid (show s = Q.getD j 0 ∧ j < n ∧ s < N ∧ x = lenInit Q s + outAt Q ks s + (if s ∈ Q.take j then 1 else 0) ∧ x1 = x + 1 ∧ j1 = j + 1 ∧ j < k from ⟨hs, hjn, hsN, hx, hx1, hj1, hlt⟩)
                      clear hs hjn hsN hx hx1 hj1 hlt hxb
                      go_wp2_with fail
                      obtain ⟨q1, q2, q3, q4, q5, q6, q7⟩ := HS.out
                      have hjl : j < Q.length := by rw [← HN.out.1]; exact q2
                      have hnd := before_nodup HP.out.1.up
                      have hsj : s = Q[j] := by rw [q1, getD_at hjl]
                      have htake : Q.take j1 = Q.take j ++ [s] := by rw [q6, List.take_succ_eq_append_getElem hjl, hsj]
                      have hnot : s ∉ Q.take j := by
                        rw [hsj, mem_take_nodup hnd j j hjl]; omega
                      have hput := HJ.out.2.1.put (f' := fun s => lenInit Q s + outAt Q ks s + if s ∈ Q.take j1 then 1 else 0) s q3 (fun k hk => by
                        show _ + _ + _ = _ + _ + _
                        congr 1
                        rw [htake]
                        simp [hk])
                      have hval : lenInit Q s + outAt Q ks s + (if s ∈ Q.take j1 then 1 else 0) = x1 := by
                        rw [q5, q4, if_neg hnot, if_pos (by rw [htake]; simp)]
                      simp only [hval] at hput
                      exact ⟨⟨j1, rfl, by omega, hput, Touch.setCell (S := fun k => k = w1.heap.size) HJ.out.2.2 (Or.inl rfl) _⟩, by simp [intOf]; omega⟩
                    · have hltz : ¬ (j : Int) < (k : Int) := by omega
                      have HJK := Lib.hid (show j = k from by have := HJ.out.1; omega)
                      clear hlt
                      go_wp2_with fail
                      obtain ⟨a1, a2, a3, a4, a5, a6⟩ := HI3.out
                      obtain ⟨b1, b2, b3⟩ := HJ.out
                      obtain ⟨d1, d2, d3⟩ := HD.out
                      obtain ⟨k1, k2, k3, k4, k5⟩ := HK.out
                      obtain ⟨a3a, a3b⟩ := a3 d2
                      rw [← d1] at a3a a3b
                      refine ⟨⟨i3, tn, ks ++ [k], rfl, rfl, by omega, by rw [List.length_append, a2, d3]; rfl, fun h => ?_, fun h => ?_, ?_, b3⟩, by simp [intOf]; omega⟩
                      · obtain ⟨d', hd'⟩ : ∃ d', d = d' + 1 := ⟨d - 1, by omega⟩
                        rw [hd'] at a3a a3b k1
                        obtain ⟨z1, z2, z3⟩ := takes_step W d' t a3b
                        rw [show L - 1 - i3 = d' by omega, HTN.out, k1]
                        exact ⟨by rw [a3a, z1]; simp, z2⟩
                      · have hd0 : d = 0 := by omega
                        rw [hd0] at a3a a3b k1
                        rw [a3a, (takes_end W t a3b).1, k1]
                      · have e : (fun s => lenInit Q s + outAt Q (ks ++ [k]) s) = fun s => lenInit Q s + outAt Q ks s + if s ∈ Q.take j then 1 else 0 := funext fun s => by
                          rw [outAt_cons, HJK.out, Nat.add_assoc]
                        rw [e]; exact b2
                · have hltz : ¬ (i2 : Int) < (L : Int) := by omega
                  have HI2L := Lib.hid (show i2 = L from by have := HI3.out.1; omega)
                  clear hlt
                  go_wp2_with fail
                  go_ret2
                  obtain ⟨a1, a2, a3, a4, a5, a6⟩ := HI3.out
                  have hks := a4 HI2L.out
                  refine ⟨_, rfl, some w1.heap.size, ?_, fun g e => by cases e; exact HIO.out.toExt.size, ?_⟩
                  · have e : (List.range N).map (fun s => lenInit Q s + outAt Q ks s) = lensP F Q (L - 1) := by
                      rw [lensP, ← HP.out.2.2.2.1]
                      refine List.map_congr_left fun s _ => ?_
                      rw [lenP, lenOf, ← HW.out.1, ← HN.out.1, ← HT0.out, hks]
                    have el : (lensP F Q (L - 1)).length = N := by rw [← e]; simp
                    rw [el, ← e]
                    exact a5
                  · have h1 : Touch (fun k => k = w1.heap.size) w3 w6 := ((HT3.out.mono (fun _ _ f => f.elim)).trans HE6.out (fun k hk e => by have e : k = Bq := e; have := HT3.out.size; have := H5.out.2.2.2.1; have := H5.out.2.2.2.2.toExt.size; omega))
                    have h2 := h1.trans a6 (fun _ _ e => e)
                    exact (HIO.out.toExt.trans HB3.out.toExt).touch h2 (fun k hk e => by have e : k = w1.heap.size := e; have := HIO.out.toExt.size; omega)
    · have h0z : ¬ (n : Int) < 2 := by omega
      have h0e : ((n : Int) == 1) = false := by rw [beq_eq_false_iff_ne]; omega
      have H0 := Lib.hid h0
      have H1 := Lib.hid hone
      obtain ⟨w3, hw3⟩ : ∃ w3, w3 = w2 := ⟨_, rfl⟩
      have HB3 := Lib.hid (show BO w1 ((List.range F.length).map (lenInit Q)) (.slice (some ⟨w1.heap.size, 0, none⟩) N N) w3 from by
        have e : (List.range F.length).map (lenInit Q) = List.replicate N 0 := by
          refine List.eq_replicate_iff.2 ⟨by simp [HP.out.2.2.2.1], fun b hb => ?_⟩
          obtain ⟨s, _, rfl⟩ := List.mem_map.1 hb
          rw [lenInit, if_neg (fun h => H1.out (by rw [HN.out.1]; exact h.1))]
        rw [e, hw3]; exact HBO.out)
      rw [← hw3] at hmk
      clear h0 hone hw3 HBO
      have HPC := Lib.hid (show ∀ wr, Touch (fun k => k = w1.heap.size) w3 wr → ∀ j, j < n → ∃ b o, pa = some ⟨b, o, none⟩ ∧ wr.cell? ⟨b, o + j, none⟩ = some (.int .i64 (Q.getD j 0 : Nat)) from fun wr ht j hj => by
        obtain ⟨b, o, rfl, _, hc⟩ := viewL_cells HIO.out.viewL (by rw [length_intsL]; have := HN.out.1; omega)
        have hc' := hc j (.int .i64 (Q.getD j 0 : Nat)) (by rw [HN.out.1] at hj; simp [intsL, hj, List.getD])
        have hlt := World.block_lt_of_cell? _ _ hc'
        exact ⟨b, o, rfl, cell_touch ht (cell_touch HB3.out.toExt hc' (fun f => f)) (by simp at hlt ⊢; omega)⟩)
      have HFC := Lib.hid (show ∀ wr, Touch (fun k => k = w1.heap.size) w3 wr → ∀ j, j < N → ∃ b o, ao = some ⟨b, o, none⟩ ∧ wr.cell? ⟨b, o + j, none⟩ = some (.int .i64 (F.getD j 0 : Nat)) from fun wr ht j hj => by
        obtain ⟨b, o, rfl, _, hc⟩ := viewL_cells HV.out (by rw [length_intsL]; have := HP.out.2.2.2.1; omega)
        have hc' := hc j (.int .i64 (F.getD j 0 : Nat)) (by rw [HP.out.2.2.2.1] at hj; simp [intsL, hj, List.getD])
        have hlt := World.block_lt_of_cell? _ _ hc'
        exact ⟨b, o, rfl, cell_touch ht (cell_touch HB3.out.toExt (cell_touch HIO.out.toExt hc' (fun f => f)) (fun f => f)) (by have := HIO.out.toExt.size; simp at hlt ⊢; omega)⟩)
      have HQF := Lib.hid (show ∀ j, j < n → Q.getD j 0 < N from fun j hj => by
        rw [HP.out.2.2.2.1]
        exact ((HP.out.1.mem _).1 (getD_mem (by rw [← HN.out.1]; exact hj))).1)
      obtain ⟨i0, hi, hz0, hz1, hz2⟩ := info_parts info_int
      go_wp2_with fail
      clear hmk hmw hmn hmn2 hmd h0z h0e
      go_loopw [10, 62] (fun vo vi wr => WtI F Q w3 vo vi wr) (fun _ vi _ => n - (intOf vi).toNat)
      case atStart => exact ⟨0, 0, 0, none, by go_num, rfl, Nat.zero_le _, rfl, IOn.nil w3⟩
      case round =>
        obtain ⟨j, nn, cc, oa, rfl, rfl, hjn, hnn, hio⟩ := hrel
        have HI := Lib.hid (show j ≤ n ∧ nn = j ∧ IOn w3 (wtsOf F (Q.take j)) (.slice oa nn cc) wr from ⟨by rw [HN.out.1]; exact hjn, hnn, hio⟩)
        clear hjn hnn hio
        by_cases hlt : j < n
        · have hltz : (j : Int) < (n : Int) := by omega
          have ht3 : Touch (fun k => k = w1.heap.size) w3 wr := HI.out.2.2.toExt.mono (fun _ _ f => f.elim)
          obtain ⟨b, o, e1, c1⟩ := HPC.out wr ht3 j hlt
          cases e1
          have hsN := HQF.out j hlt
          obtain ⟨s, hs⟩ : ∃ s, s = Q.getD j 0 := ⟨_, rfl⟩
          rw [← hs] at c1 hsN
          obtain ⟨b2, o2, rfl, c2⟩ := HFC.out wr ht3 s hsN
          have hsz : (s : Int) < (N : Int) := by omega
          obtain ⟨x, hx⟩ : ∃ x, x = F.getD s 0 := ⟨_, rfl⟩
          rw [← hx] at c2
          have HS := Lib.hid (show s = Q.getD j 0 ∧ x = F.getD s 0 ∧ j < n from ⟨hs, hx, hlt⟩)
          have hj62 : (j : Int) + 1 < 4611686018427387904 := by have := HP.out; have := HN.out; omega
          have hlen : nn + 1 ≤ 1024 := by have := HI.out; have := HP.out; have := HN.out; omega
          have HW1 := Lib.hid (show wtsOf F (Q.take (j + 1)) = wtsOf F (Q.take j) ++ [x] from by
            have hj : j < Q.length := by rw [← HN.out.1]; exact HS.out.2.2
            rw [List.take_succ_eq_append_getElem hj, wtsOf, List.map_append]
            congr 1
            rw [HS.out.2.1, HS.out.1, getD_at hj]
            rfl)
          have HLW := Lib.hid (show (wtsOf F (Q.take j)).length = nn from by
            rw [wtsOf, List.length_map, List.length_take]; have := HI.out; have := HN.out.1; have := HS.out.2.2; omega)
          clear hs hx ht3 hlt hsN
          go_wp2_with (at_builtin; go_must (refine wpList_append_own_at _ rfl (.tmp 66) (.tmp 71) 23 rfl 0 3 i0 (.int .i64 0) 1 8 Try.underlying23 hi hz0 hz1 hz2 rfl (by decide) _ nn (intsL (wtsOf F (Q.take j))) rfl (by have := HI.out.2.2.choose_spec.1.1.alloc (.cells #[.int .i64 x] 3); rw [HLW.out] at this; exact this) ⟨wr.heap.size, 0, none⟩ 1 1 [.int .i64 x] rfl rfl (news _ _ _ _) (by simp [Value.oneCell']) (by unfold maxLen; omega) (by omega) (Nat.zero_le _) ?_))
          intro v' w5 hown' hgrow _ hat
          have HIO5 := Lib.hid (show IOn w3 (wtsOf F (Q.take (j + 1))) v' w5 from by
            rw [HW1.out]
            exact io_snoc HI.out.2.2 (by rw [HLW.out]; exact hown') hgrow hat)
          obtain ⟨a5, c5, rfl⟩ : ∃ a5 c5, v' = .slice a5 (nn + 1) c5 := by
            obtain ⟨a5, c5, e5⟩ := HIO5.out.shape
            exact ⟨a5, c5, by rw [e5, HW1.out, List.length_append, HLW.out]; rfl⟩
          clear hown' hgrow hat c1 c2 hlen
          go_wp2_with fail
          exact ⟨⟨j + 1, nn + 1, c5, a5, by go_num, rfl, by have := HS.out.2.2; have := HN.out.1; omega, by have := HI.out.2.1; omega, HIO5.out⟩, by simp [intOf]; have := HS.out.2.2; omega⟩
        · have hltz : ¬ (j : Int) < (n : Int) := by omega
          obtain ⟨W, hW⟩ : ∃ W, W = wtsOf F Q := ⟨_, rfl⟩
          have HIW := Lib.hid (show IOn w3 W (.slice oa nn cc) wr ∧ nn = n from by
            have h9 := HI.out.2.2
            have hjn : j = n := by have := HI.out.1; omega
            rw [List.take_of_length_le (by rw [hjn]; exact Nat.le_of_eq HN.out.1.symm), ← hW] at h9
            exact ⟨h9, by rw [HI.out.2.1, hjn]⟩)
          have HW := Lib.hid (show W = wtsOf F Q ∧ W.length = n ∧ (∀ x ∈ W, x ≤ 2 ^ 40) ∧ Rises W from ⟨hW, by rw [hW, wtsOf, List.length_map]; exact HN.out.1.symm, fun x hx => by
            rw [hW, wtsOf, List.mem_map] at hx
            obtain ⟨s, hs, rfl⟩ := hx
            have hsl := ((HP.out.1.mem s).1 hs).1
            exact HP.out.2.2.1 _ (getD_mem hsl), by rw [hW]; exact ord_rises HP.out.1⟩)
          clear hW hlt
          obtain ⟨w5, cur5, hmk5, hb5, hs5, hx5⟩ := make_rows wr L (by have := HP.out; omega)
          obtain ⟨Bq, hBq⟩ : ∃ Bq, Bq = wr.heap.size := ⟨_, rfl⟩
          obtain ⟨w4, hw4⟩ : ∃ w4, w4 = wr := ⟨_, rfl⟩
          rw [← hBq] at hmk5 hb5
          have H5 := Lib.hid (show w5.heap[Bq]? = some (.cells cur5 94 (0, 0)) ∧ cur5.size = 2 * L ∧ Ext w4 w5 ∧ Bq = w4.heap.size ∧ IOn w3 W (.slice oa nn cc) w4 from ⟨hb5, hs5, by rw [hw4]; exact hx5, by rw [hw4]; exact hBq, by rw [hw4]; exact HIW.out.1⟩)
          clear hb5 hs5 hx5 hBq hw4
          have HB5 := Lib.hid (show Bq < w5.heap.size from block_lt H5.out.1)
          have HWV := Lib.hid (show ∀ wr, Touch (fun k => k = Bq) w5 wr → ViewL wr (.slice oa nn cc) (intsL W) from fun wr ht => by
            obtain ⟨og, o1, o2, o3⟩ := H5.out.2.2.2.2
            exact ((o1.keep H5.out.2.2.1 (fun _ _ f => f)).keep ht (fun g e hg => by have := o1.lt g e; have := H5.out.2.2.2.1; omega)).viewL)
          have hLz : (L : Int) < 100 := by have := HP.out; omega
          go_wp2_with fail
          clear hmk5 hltz hLz
          go_loopw [77] (fun vi wr => RowsI W w5 Bq L vi wr) (fun vi _ => L - (intOf vi).toNat)
          case atStart => exact ⟨0, cur5, [], by go_num, Nat.zero_le _, rfl, H5.out.1, H5.out.2.1, fun j a b h => by simp at h, Touch.refl _ _⟩
          case round =>
            obtain ⟨i, cur, rs, rfl, hiL, hrs, hb, hcs, hr, ht⟩ := hrel
            have HI2 := Lib.hid (show i ≤ L ∧ rs.length = i ∧ wr.heap[Bq]? = some (.cells cur 94 (0, 0)) ∧ cur.size = 2 * L ∧ (∀ j a b, rs[j]? = some (a, b) → cur[2 * j]? = some a ∧ cur[2 * j + 1]? = some b ∧ RowV w5 wr a (wts (rowL W j)) ∧ RowV w5 wr b (cnts (rowL W j))) ∧ Touch (fun k => k = Bq) w5 wr from ⟨hiL, hrs, hb, hcs, hr, ht⟩)
            clear hiL hrs hb hcs hr ht
            by_cases hlt : i < L
            · have hltz : (i : Int) < (L : Int) := by omega
              obtain ⟨i1, hi1⟩ : ∃ i1, i1 = i + 1 := ⟨_, rfl⟩
              have wi1 : IntKind.i64.wrap ((i : Int) + 1) = (i1 : Int) := by rw [show (i : Int) + 1 = ((i1 : Nat) : Int) by omega]; exact IntWalk.i64_in _ (by have := HP.out; omega)
              have HI1 := Lib.hid hi1
              have HLT := Lib.hid hlt
              by_cases hi0 : i = 0
              · have hi0z : ¬ (0 : Int) < (i : Int) := by omega
                have hi0n : ¬ 0 < i := by omega
                have HI0 := Lib.hid hi0
                have hnx := lim_next (.slice oa nn cc) W [] (.slice none 0 0) (.slice none 0 0) wr (HWV.out wr HI2.out.2.2.2.2.2) ⟨none, 0, rfl, Nat.le_refl _, fun _ => rfl, fun h => by simp [intsL] at h⟩ (by have := HW.out; have := HP.out; have := HN.out; omega) (by simp) (fun x hx => by have := HW.out.2.2.1 x hx; omega) (fun x hx => by cases hx)
                have HNX := Lib.hid (show Calls Try.prog 60 #[.slice oa nn cc, .agg #[.slice none 0 0, .slice none 0 0]] wr fun e w' => ∃ wv sv, e = .returned (.agg #[wv, sv]) ∧ IOn wr (wts (rowL W i)) wv w' ∧ IOn wr (cnts (rowL W i)) sv w' from by rw [HI0.out]; exact hnx)
                clear hi0 hnx hlt hi1
                go_wp2_with fail
                refine Calls.mono HNX.out ?_
                rintro e w6 ⟨wv, sv, rfl, q1, q2⟩
                obtain ⟨wa, wc, hwv⟩ := q1.shape
                obtain ⟨sa, sc, hsv⟩ := q2.shape
                obtain ⟨nw, hnw⟩ : ∃ nw, nw = (wts (rowL W i)).length := ⟨_, rfl⟩
                obtain ⟨ns, hns⟩ : ∃ ns, ns = (cnts (rowL W i)).length := ⟨_, rfl⟩
                rw [← hnw] at hwv
                rw [← hns] at hsv
                subst hwv hsv
                have HQ := Lib.hid (And.intro q1 q2)
                have b6 : w6.heap[Bq]? = some (.cells cur 94 (0, 0)) := q1.toExt.keep HI2.out.2.2.1 (fun f => f)
                obtain ⟨x0, hx0⟩ : ∃ x0, cur[i * 2]? = some x0 := ⟨_, Array.getElem?_eq_getElem (by have := HI2.out.2.2.2.1; have := HLT.out; omega)⟩
                obtain ⟨x1, hx1⟩ : ∃ x1, cur[i * 2 + 1]? = some x1 := ⟨_, Array.getElem?_eq_getElem (by have := HI2.out.2.2.2.1; have := HLT.out; omega)⟩
                have d0 : w6.cell? ⟨Bq, i * 2, none⟩ = some x0 := by simp [World.cell?, b6, hx0]
                have d1 : w6.cell? ⟨Bq, i * 2 + 1, none⟩ = some x1 := by simp [World.cell?, b6, hx1]
                have d2 : w6.frozen? ⟨Bq, i * 2, none⟩ = false := by simp [World.frozen?, b6]
                have d3 : w6.frozen? ⟨Bq, i * 2 + 1, none⟩ = false := by simp [World.frozen?, b6]
                clear q1 q2 hnw hns b6 hx0 hx1 hi0z hi0n hltz
                go_wp2_with fail
                obtain ⟨a1, a2, a3, a4, a5, a6⟩ := HI2.out
                have hput := rows_put HLT.out a2 a3 a4 a5 a6 HB5.out HQ.out.1 HQ.out.2
                rw [Nat.mul_comm 2 i, ← HI1.out] at hput
                exact ⟨hput, by simp [intOf]; have := HLT.out; have := HI1.out; omega⟩
              · have hi0z : (0 : Int) < (i : Int) := by omega
                have hi0n : 0 < i := by omega
                obtain ⟨ip, hip⟩ : ∃ ip, i = ip + 1 := ⟨i - 1, by omega⟩
                have HIP := Lib.hid hip
                have wip : IntKind.i64.wrap ((i : Int) - 1) = (ip : Int) := by rw [show (i : Int) - 1 = ((ip : Nat) : Int) by omega]; exact IntWalk.i64_in _ (by have := HP.out; omega)
                have ipz : (ip : Int) < (L : Int) := by omega
                obtain ⟨⟨ra, rb⟩, hrr⟩ : ∃ ab, rs[ip]? = some ab := ⟨_, List.getElem?_eq_getElem (by have := HI2.out.2.1; omega)⟩
                obtain ⟨r1, r2, r3, r4⟩ := HI2.out.2.2.2.2.1 ip ra rb hrr
                have hnx := lim_next (.slice oa nn cc) W (wts (rowL W ip)) ra rb wr (HWV.out wr HI2.out.2.2.2.2.2) r3.viewL (by have := HW.out; have := HP.out; have := HN.out; omega) (by rw [wts_len]; have := row_short W ip; have := HW.out; have := HP.out; have := HN.out; omega) (fun x hx => by have := HW.out.2.2.1 x hx; omega) (fun x hx => by
                  have h8 := row_bound HW.out.2.2.1 ip x hx
                  have h9 : 2 ^ ip ≤ 2 ^ 16 := Nat.pow_le_pow_right (by decide) (by have := HLT.out; have := HP.out; omega)
                  have h10 : 2 ^ 40 * 2 ^ ip ≤ 2 ^ 40 * 2 ^ 16 := Nat.mul_le_mul_left _ h9
                  omega)
                have HNX := Lib.hid (show Calls Try.prog 60 #[.slice oa nn cc, .agg #[ra, rb]] wr fun e w' => ∃ wv sv, e = .returned (.agg #[wv, sv]) ∧ IOn wr (wts (rowL W i)) wv w' ∧ IOn wr (cnts (rowL W i)) sv w' from by rw [HIP.out]; exact hnx)
                have g0 : wr.cell? ⟨Bq, ip * 2, none⟩ = some ra := by rw [Nat.mul_comm]; simp [World.cell?, HI2.out.2.2.1, r1]
                have g1 : wr.cell? ⟨Bq, ip * 2 + 1, none⟩ = some rb := by rw [Nat.mul_comm]; simp [World.cell?, HI2.out.2.2.1, r2]
                clear hnx hlt r1 r2 r3 r4 hrr hi0 hip hi1
                go_wp2_with fail
                clear g0 g1 wip ipz
                refine Calls.mono HNX.out ?_
                rintro e w6 ⟨wv, sv, rfl, q1, q2⟩
                obtain ⟨wa, wc, hwv⟩ := q1.shape
                obtain ⟨sa, sc, hsv⟩ := q2.shape
                obtain ⟨nw, hnw⟩ : ∃ nw, nw = (wts (rowL W i)).length := ⟨_, rfl⟩
                obtain ⟨ns, hns⟩ : ∃ ns, ns = (cnts (rowL W i)).length := ⟨_, rfl⟩
                rw [← hnw] at hwv
                rw [← hns] at hsv
                subst hwv hsv
                have HQ := Lib.hid (And.intro q1 q2)
                have b6 : w6.heap[Bq]? = some (.cells cur 94 (0, 0)) := q1.toExt.keep HI2.out.2.2.1 (fun f => f)
                obtain ⟨x0, hx0⟩ : ∃ x0, cur[i * 2]? = some x0 := ⟨_, Array.getElem?_eq_getElem (by have := HI2.out.2.2.2.1; have := HLT.out; omega)⟩
                obtain ⟨x1, hx1⟩ : ∃ x1, cur[i * 2 + 1]? = some x1 := ⟨_, Array.getElem?_eq_getElem (by have := HI2.out.2.2.2.1; have := HLT.out; omega)⟩
                have d0 : w6.cell? ⟨Bq, i * 2, none⟩ = some x0 := by simp [World.cell?, b6, hx0]
                have d1 : w6.cell? ⟨Bq, i * 2 + 1, none⟩ = some x1 := by simp [World.cell?, b6, hx1]
                have d2 : w6.frozen? ⟨Bq, i * 2, none⟩ = false := by simp [World.frozen?, b6]
                have d3 : w6.frozen? ⟨Bq, i * 2 + 1, none⟩ = false := by simp [World.frozen?, b6]
                clear q1 q2 hnw hns b6 hx0 hx1 hi0z hi0n hltz
                go_wp2_with fail
                obtain ⟨a1, a2, a3, a4, a5, a6⟩ := HI2.out
                have hput := rows_put HLT.out a2 a3 a4 a5 a6 HB5.out HQ.out.1 HQ.out.2
                rw [Nat.mul_comm 2 i, ← HI1.out] at hput
                exact ⟨hput, by simp [intOf]; have := HLT.out; have := HI1.out; omega⟩
            · have hltz : ¬ (i : Int) < (L : Int) := by omega
              have HIL := Lib.hid (show i = L from by have := HI2.out.1; omega)
              obtain ⟨w6, hw6⟩ : ∃ w6, w6 = wr := ⟨_, rfl⟩
              have hg0 : w1.heap.size < w3.heap.size := by
                obtain ⟨og, b1, b2, b3⟩ := HB3.out
                rcases b1.form with ⟨_, h, _⟩ | ⟨g, cap', cur', h1, h2, h3, _⟩
                · cases h
                · cases h2; exact block_lt h3
              have hgB : w1.heap.size < Bq := by have := H5.out.2.2.2.1; have := H5.out.2.2.2.2.toExt.size; omega
              have HGB := Lib.hid (show w1.heap.size < Bq ∧ w1.heap.size < w5.heap.size from ⟨hgB, by have := HB5.out; omega⟩)
              have HALL := Lib.hid (show ∀ wr', Touch (fun k => k = w1.heap.size) w6 wr' → ∀ j, j < L → ∃ sv, wr'.cell? ⟨Bq, j * 2 + 1, none⟩ = some sv ∧ ViewL wr' sv (intsL (cnts (rowL W j))) from fun wr' ht j hj => by
                rw [hw6] at ht
                obtain ⟨a1, a2, a3, a4, a5, a6⟩ := HI2.out
                obtain ⟨⟨ra, rb⟩, hrr⟩ : ∃ ab, rs[j]? = some ab := ⟨_, List.getElem?_eq_getElem (by rw [a2, HIL.out]; exact hj)⟩
                obtain ⟨r1, r2, r3, r4⟩ := a5 j ra rb hrr
                have hb' := ht.keep a3 (by have := HGB.out.1; omega)
                refine ⟨rb, by rw [Nat.mul_comm]; simp [World.cell?, hb', r2], (r4.keep ht (fun k e => by have e : k = w1.heap.size := e; have := HGB.out.2; omega)).viewL⟩)
              have HOUT := Lib.hid (show OutB w1.heap.size N (lenInit Q) w6 from by
                rw [hw6]
                obtain ⟨og, b1, b2, b3⟩ := HB3.out
                rw [← HP.out.2.2.2.1, show ((List.range N).map (lenInit Q)).length = N by simp] at b1
                rcases b1.form with ⟨_, h, _⟩ | ⟨g, cap', cur', h1, h2, h3, _⟩
                · cases h
                · cases h2
                  subst h1
                  have c1 := (b1.keep H5.out.2.2.2.2.toExt (fun _ _ f => f)).keep H5.out.2.2.1 (fun _ _ f => f)
                  have c2 := c1.keep HI2.out.2.2.2.2.2 (fun g e h => by cases e; have h : w1.heap.size = Bq := h; have := HGB.out.1; omega)
                  exact c2)
              have HE6 := Lib.hid (show Touch (fun k => k = Bq) w5 w6 from by rw [hw6]; exact HI2.out.2.2.2.2.2)
              have HT3 := Lib.hid (show Ext w3 w5 from H5.out.2.2.2.2.toExt.trans H5.out.2.2.1)
              obtain ⟨t0, ht0⟩ : ∃ t0, t0 = 2 * n - 2 := ⟨_, rfl⟩
              obtain ⟨n2, hn2⟩ : ∃ n2, n2 = 2 * n := ⟨_, rfl⟩
              have wn2 : IntKind.i64.wrap (2 * (n : Int)) = (n2 : Int) := by rw [show 2 * (n : Int) = ((n2 : Nat) : Int) by omega]; exact IntWalk.i64_in _ (by have := HP.out; have := HN.out; omega)
              have wt0 : IntKind.i64.wrap ((n2 : Int) - 2) = (t0 : Int) := by rw [show (n2 : Int) - 2 = ((t0 : Nat) : Int) by have := H0.out; omega]; exact IntWalk.i64_in _ (by have := HP.out; have := HN.out; omega)
              have HT0 := Lib.hid (show t0 = 2 * n - 2 from ht0)
              have HLEN := Lib.hid (show t0 ≤ (rowL W (L - 1)).length from by
                have := row_enough W (L - 1) (by rw [HW.out.2.1, HN.out.1]; have h := HP.out.2.1; rw [show L - 1 + 1 = L by have := HP.out; omega]; exact h) (by rw [HW.out.2.1]; have := H0.out; omega)
                rw [HW.out.2.1] at this
                rw [ht0]; exact this)
              clear hgB ht0 hn2 hlt hg0
              go_wp2_with fail
              rw [← hw6]
              clear hw6 wn2 wt0 hltz
              go_loopw [15, 104] (fun vt vi wr => OutI Q W L t0 N w1.heap.size w6 vt vi wr) (fun _ vi _ => L - (intOf vi).toNat)
              case atStart => exact ⟨0, t0, [], by go_num, by go_num, Nat.zero_le _, rfl, fun _ => ⟨by simp, HLEN.out⟩, fun h => by have := HP.out; omega, by
                have e : (fun s => lenInit Q s + outAt Q [] s) = lenInit Q := funext fun s => by simp [outAt]
                rw [e]; exact HOUT.out, Touch.refl _ _⟩
              case round =>
                obtain ⟨i2, t, ks, rfl, rfl, hiL, hks, htk, htl, hob, ht⟩ := hrel
                have HI3 := Lib.hid (show i2 ≤ L ∧ ks.length = i2 ∧ (i2 < L → takes W (L - 1) t0 = ks ++ takes W (L - 1 - i2) t ∧ t ≤ (rowL W (L - 1 - i2)).length) ∧ (i2 = L → takes W (L - 1) t0 = ks) ∧ OutB w1.heap.size N (fun s => lenInit Q s + outAt Q ks s) wr ∧ Touch (fun k => k = w1.heap.size) w6 wr from ⟨hiL, hks, htk, htl, hob, ht⟩)
                clear hiL hks htk htl hob ht
                by_cases hlt : i2 < L
                · have hltz : (i2 : Int) < (L : Int) := by omega
                  obtain ⟨d, hd⟩ : ∃ d, d = L - 1 - i2 := ⟨_, rfl⟩
                  obtain ⟨Lp, hLp⟩ : ∃ Lp, Lp = L - 1 := ⟨_, rfl⟩
                  have wL : IntKind.i64.wrap ((L : Int) - 1) = (Lp : Int) := by rw [show (L : Int) - 1 = ((Lp : Nat) : Int) by omega]; exact IntWalk.i64_in _ (by have := HP.out; omega)
                  have wd : IntKind.i64.wrap ((Lp : Int) - (i2 : Int)) = (d : Int) := by rw [show (Lp : Int) - (i2 : Int) = ((d : Nat) : Int) by omega]; exact IntWalk.i64_in _ (by have := HP.out; omega)
                  have hdL : d < L := by omega
                  have hdz : (d : Int) < (L : Int) := by omega
                  obtain ⟨i3, hi3⟩ : ∃ i3, i3 = i2 + 1 := ⟨_, rfl⟩
                  have wi3 : IntKind.i64.wrap ((i2 : Int) + 1) = (i3 : Int) := by rw [show (i2 : Int) + 1 = ((i3 : Nat) : Int) by omega]; exact IntWalk.i64_in _ (by have := HP.out; omega)
                  have HD := Lib.hid (show d = L - 1 - i2 ∧ i2 < L ∧ i3 = i2 + 1 from ⟨hd, hlt, hi3⟩)
                  obtain ⟨sv, s1, s2⟩ := HALL.out wr HI3.out.2.2.2.2.2 d hdL
                  have htd : t ≤ (rowL W d).length := by rw [hd]; exact (HI3.out.2.2.1 hlt).2
                  have hrs := row_short W d
                  have htb : t ≤ 1024 := by have := HW.out.2.1; have := HP.out; have := HN.out; omega
                  have hfr := lim_first (cnts (rowL W d)) Bq (d * 2) t sv wr s1 s2 (by rw [cnts_len]; exact htd) (by rw [cnts_len]; have := HW.out.2.1; have := HP.out; have := HN.out; omega)
                  obtain ⟨k, hk⟩ : ∃ k, k = syms (rowL W d) t := ⟨_, rfl⟩
                  have hkn : (if t = 0 then (0 : Int) else (((cnts (rowL W d)).getD (t - 1) 0 : Nat) : Int)) = (k : Int) := by
                    rw [hk, ← cnts_get (rowL W d) t htd]
                    by_cases h : t = 0
                    · rw [if_pos h, if_pos h]; rfl
                    · rw [if_neg h, if_neg h]
                  rw [hkn] at hfr
                  have hkle : k ≤ n := by
                    rw [hk]
                    have hh : syms (rowL W d) t ≤ W.length := by
                      cases d with
                      | zero => exact (takes_end W t htd).2
                      | succ d' => exact (takes_step W d' t htd).2.2
                    rw [HW.out.2.1] at hh; exact hh
                  have hkt : k ≤ t := by rw [hk]; exact syms_le _ _
                  have hpc : n ≤ pc := by
                    obtain ⟨_, cap', e, hh, _⟩ := HIO.out.viewL
                    rw [length_intsL] at hh
                    cases e
                    have := HN.out.1; omega
                  obtain ⟨pb, pof, e1, _⟩ := HPC.out w3 (Touch.refl _ _) 0 (by have := H0.out; omega)
                  cases e1
                  have HK := Lib.hid (show k = syms (rowL W d) t ∧ k ≤ n ∧ k ≤ t ∧ t ≤ 1024 ∧ t ≤ (rowL W d).length from ⟨hk, hkle, hkt, htb, htd⟩)
                  have hkz : (k : Int) ≤ (pc : Int) := by omega
                  have hkc : ¬ (pc : Int) < (k : Int) := by omega
                  obtain ⟨tk, htk⟩ : ∃ tk, tk = t - k := ⟨_, rfl⟩
                  obtain ⟨tn, htn⟩ : ∃ tn, tn = 2 * (t - k) := ⟨_, rfl⟩
                  have wtk : IntKind.i64.wrap ((t : Int) - (k : Int)) = (tk : Int) := by rw [show (t : Int) - (k : Int) = ((tk : Nat) : Int) by omega]; exact IntWalk.i64_in _ (by omega)
                  have wtn : IntKind.i64.wrap (2 * (tk : Int)) = (tn : Int) := by rw [show 2 * (tk : Int) = ((tn : Nat) : Int) by omega]; exact IntWalk.i64_in _ (by omega)
                  have HTN := Lib.hid (show tn = 2 * (t - k) from htn)
                  have HFR := Lib.hid hfr
                  clear hd hLp hlt hi3 s1 s2 htd hrs htb hfr hk hkn hkle hkt hpc htk htn hdL
                  go_wp2_with fail
                  refine Calls.mono HFR.out ?_
                  rintro e wf ⟨rfl, rfl⟩
                  clear HFR
                  go_wp2_with fail
                  clear hkz hkc hdz wL wd
                  go_loopw [119] (fun vj wr => OutJ Q ks k N w1.heap.size w6 vj wr) (fun vj _ => k - (intOf vj).toNat)
                  case atStart => exact ⟨0, by go_num, Nat.zero_le _, by
                    have e : (fun s => lenInit Q s + outAt Q ks s + if s ∈ Q.take 0 then 1 else 0) = fun s => lenInit Q s + outAt Q ks s := funext fun s => by simp
                    rw [e]; exact HI3.out.2.2.2.2.1, HI3.out.2.2.2.2.2⟩
                  case round =>
                    obtain ⟨j, rfl, hjk, hob, ht⟩ := hrel
                    have HJ := Lib.hid (show j ≤ k ∧ OutB w1.heap.size N (fun s => lenInit Q s + outAt Q ks s + if s ∈ Q.take j then 1 else 0) wr ∧ Touch (fun k => k = w1.heap.size) w6 wr from ⟨hjk, hob, ht⟩)
                    clear hjk hob ht
                    by_cases hlt : j < k
                    · have hltz : (j : Int) < (k : Int) := by omega
                      have hjn : j < n := by have := HK.out.2.1; omega
                      have HTW := Lib.hid (show Touch (fun k => k = w1.heap.size) w3 wr from by
                        have h1 : Touch (fun k => k = w1.heap.size) w3 w6 := ((HT3.out.mono (fun _ _ f => f.elim)).trans HE6.out (fun k hk e => by have e : k = Bq := e; have := HT3.out.size; have := H5.out.2.2.2.1; have := H5.out.2.2.2.2.toExt.size; omega))
                        exact h1.trans HJ.out.2.2 (fun _ _ e => e))
                      obtain ⟨pb', po', e1, c1⟩ := HPC.out wr HTW.out j hjn
                      cases e1
                      have hsN := HQF.out j hjn
                      obtain ⟨s, hs⟩ : ∃ s, s = Q.getD j 0 := ⟨_, rfl⟩
                      rw [← hs] at c1 hsN
                      have hsz : (s : Int) < (N : Int) := by omega
                      obtain ⟨g1, g2⟩ := HJ.out.2.1.get s hsN
                      obtain ⟨x, hx⟩ : ∃ x, x = lenInit Q s + outAt Q ks s + (if s ∈ Q.take j then 1 else 0) := ⟨_, rfl⟩
                      rw [← hx] at g1
                      have hxb : x ≤ 100 := by
                        have h1 := lenInit_le Q s
                        have h2 := outAt_le Q ks s
                        have h3 := HI3.out.2.1
                        have h4 := HP.out
                        have h5 : (if s ∈ Q.take j then 1 else 0) ≤ 1 := by split <;> omega
                        omega
                      obtain ⟨x1, hx1⟩ : ∃ x1, x1 = x + 1 := ⟨_, rfl⟩
                      have wx : IntKind.u8.wrap ((x : Int) + 1) = (x1 : Int) := by rw [show (x : Int) + 1 = ((x1 : Nat) : Int) by omega]; exact IntWalk.u8_in _ (by omega)
                      obtain ⟨j1, hj1⟩ : ∃ j1, j1 = j + 1 := ⟨_, rfl⟩
                      have wj1 : IntKind.i64.wrap ((j : Int) + 1) = (j1 : Int) := by rw [show (j : Int) + 1 = ((j1 : Nat) : Int) by omega]; exact IntWalk.i64_in _ (by have := HK.out; omega)
                      have HS := Lib.hid (show s = Q.getD j 0 ∧ j < n ∧ s < N ∧ x = lenInit Q s + outAt Q ks s + (if s ∈ Q.take j then 1 else 0) ∧ x1 = x + 1 ∧ j1 = j + 1 ∧ j < k from ⟨hs, hjn, hsN, hx, hx1, hj1, hlt⟩)
                      clear hs hjn hsN hx hx1 hj1 hlt hxb
                      go_wp2_with fail
                      obtain ⟨q1, q2, q3, q4, q5, q6, q7⟩ := HS.out
                      have hjl : j < Q.length := by rw [← HN.out.1]; exact q2
                      have hnd := before_nodup HP.out.1.up
                      have hsj : s = Q[j] := by rw [q1, getD_at hjl]
                      have htake : Q.take j1 = Q.take j ++ [s] := by rw [q6, List.take_succ_eq_append_getElem hjl, hsj]
                      have hnot : s ∉ Q.take j := by
                        rw [hsj, mem_take_nodup hnd j j hjl]; omega
                      have hput := HJ.out.2.1.put (f' := fun s => lenInit Q s + outAt Q ks s + if s ∈ Q.take j1 then 1 else 0) s q3 (fun k hk => by
                        show _ + _ + _ = _ + _ + _
                        congr 1
                        rw [htake]
                        simp [hk])
                      have hval : lenInit Q s + outAt Q ks s + (if s ∈ Q.take j1 then 1 else 0) = x1 := by
                        rw [q5, q4, if_neg hnot, if_pos (by rw [htake]; simp)]
                      simp only [hval] at hput
                      exact ⟨⟨j1, rfl, by omega, hput, Touch.setCell (S := fun k => k = w1.heap.size) HJ.out.2.2 (Or.inl rfl) _⟩, by simp [intOf]; omega⟩
                    · have hltz : ¬ (j : Int) < (k : Int) := by omega
                      have HJK := Lib.hid (show j = k from by have := HJ.out.1; omega)
                      clear hlt
                      go_wp2_with fail
                      obtain ⟨a1, a2, a3, a4, a5, a6⟩ := HI3.out
                      obtain ⟨b1, b2, b3⟩ := HJ.out
                      obtain ⟨d1, d2, d3⟩ := HD.out
                      obtain ⟨k1, k2, k3, k4, k5⟩ := HK.out
                      obtain ⟨a3a, a3b⟩ := a3 d2
                      rw [← d1] at a3a a3b
                      refine ⟨⟨i3, tn, ks ++ [k], rfl, rfl, by omega, by rw [List.length_append, a2, d3]; rfl, fun h => ?_, fun h => ?_, ?_, b3⟩, by simp [intOf]; omega⟩
                      · obtain ⟨d', hd'⟩ : ∃ d', d = d' + 1 := ⟨d - 1, by omega⟩
                        rw [hd'] at a3a a3b k1
                        obtain ⟨z1, z2, z3⟩ := takes_step W d' t a3b
                        rw [show L - 1 - i3 = d' by omega, HTN.out, k1]
                        exact ⟨by rw [a3a, z1]; simp, z2⟩
                      · have hd0 : d = 0 := by omega
                        rw [hd0] at a3a a3b k1
                        rw [a3a, (takes_end W t a3b).1, k1]
                      · have e : (fun s => lenInit Q s + outAt Q (ks ++ [k]) s) = fun s => lenInit Q s + outAt Q ks s + if s ∈ Q.take j then 1 else 0 := funext fun s => by
                          rw [outAt_cons, HJK.out, Nat.add_assoc]
                        rw [e]; exact b2
                · have hltz : ¬ (i2 : Int) < (L : Int) := by omega
                  have HI2L := Lib.hid (show i2 = L from by have := HI3.out.1; omega)
                  clear hlt
                  go_wp2_with fail
                  go_ret2
                  obtain ⟨a1, a2, a3, a4, a5, a6⟩ := HI3.out
                  have hks := a4 HI2L.out
                  refine ⟨_, rfl, some w1.heap.size, ?_, fun g e => by cases e; exact HIO.out.toExt.size, ?_⟩
                  · have e : (List.range N).map (fun s => lenInit Q s + outAt Q ks s) = lensP F Q (L - 1) := by
                      rw [lensP, ← HP.out.2.2.2.1]
                      refine List.map_congr_left fun s _ => ?_
                      rw [lenP, lenOf, ← HW.out.1, ← HN.out.1, ← HT0.out, hks]
                    have el : (lensP F Q (L - 1)).length = N := by rw [← e]; simp
                    rw [el, ← e]
                    exact a5
                  · have h1 : Touch (fun k => k = w1.heap.size) w3 w6 := ((HT3.out.mono (fun _ _ f => f.elim)).trans HE6.out (fun k hk e => by have e : k = Bq := e; have := HT3.out.size; have := H5.out.2.2.2.1; have := H5.out.2.2.2.2.toExt.size; omega))
                    have h2 := h1.trans a6 (fun _ _ e => e)
                    exact (HIO.out.toExt.trans HB3.out.toExt).touch h2 (fun k hk e => by have e : k = w1.heap.size := e; have := HIO.out.toExt.size; omega)
end Go.Proofs.Ytaabmlnbadpfgaa

/-! The program's lengths, plain: an order, how long, how much of all there is they take. -/
namespace Go.Proofs.Ytaabmlnbadpfgaa
set_option linter.unusedVariables false

theorem ord_exists (F : List Nat) : ∃ P, IsOrd F P := by
  have dec : ∀ a b : Nat, Decidable (a = b ∨ Before F a b) := fun a b => by unfold Before; infer_instance
  let le : Nat → Nat → Bool := fun a b => @decide (a = b ∨ Before F a b) (dec a b)
  have htr : ∀ a b c : Nat, le a b = true → le b c = true → le a c = true := fun a b c h1 h2 => by
    simp only [le, decide_eq_true_iff] at *
    rcases h1 with rfl | h1
    · exact h2
    · rcases h2 with rfl | h2
      · exact Or.inr h1
      · exact Or.inr (h1.trans h2)
  have hto : ∀ a b : Nat, (le a b || le b a) = true := fun a b => by
    simp only [le, Bool.or_eq_true, decide_eq_true_iff]
    by_cases h : a = b
    · exact Or.inl (Or.inl h)
    · rcases Before.total (F := F) h with h | h
      · exact Or.inl (Or.inr h)
      · exact Or.inr (Or.inr h)
  have hs := List.pairwise_mergeSort htr hto (symsUp F F.length)
  have hp := List.mergeSort_perm (symsUp F F.length) le
  refine ⟨_, symsUp_ord hp ?_⟩
  have hnd : ((symsUp F F.length).mergeSort le).Nodup := hp.nodup_iff.2 (List.Pairwise.imp (fun h => by omega) (symsUp_rise F F.length))
  refine (hs.and hnd).imp fun {a b} h => ?_
  have h1 := h.1
  simp only [le, decide_eq_true_iff] at h1
  rcases h1 with h1 | h1
  · exact (h.2 h1).elim
  · exact h1
theorem lensP_get {F P : List Nat} {i s : Nat} (hs : s < F.length) : (lensP F P i).getD s 0 = lenP F P i s := by
  simp [lensP, List.getD, hs]
theorem lensP_len (F P : List Nat) (i : Nat) : (lensP F P i).length = F.length := by simp [lensP]
theorem lenP_nought {F P : List Nat} (h : IsOrd F P) (i : Nat) {s : Nat} (e : F.getD s 0 = 0) : lenP F P i s = 0 := by
  have hn : s ∉ P := fun hs => by have := ((h.mem s).1 hs).2; omega
  rw [lenP, lenInit, if_neg (fun h => hn h.2), lenOf, outAt_nought h _ e]
theorem lenP_le (F P : List Nat) (i s : Nat) : lenP F P i s ≤ i + 2 := by
  have h1 := lenInit_le P s
  have h2 := outAt_le P (takes (wtsOf F P) i (2 * P.length - 2)) s
  rw [takes_len] at h2
  rw [lenP, lenOf]
  omega
theorem lensP_le (F P : List Nat) (i : Nat) : ∀ x ∈ lensP F P i, x ≤ i + 2 := fun x hx => by
  obtain ⟨s, _, rfl⟩ := List.mem_map.1 hx
  exact lenP_le F P i s
theorem ord_symsUp {F P : List Nat} (h : IsOrd F P) : P.Perm (symsUp F F.length) := by
  refine (List.perm_ext_iff_of_nodup ?_ ?_).2 fun s => by rw [h.mem, symsUp_mem]
  · exact before_nodup h.up
  · exact (symsUp_rise F F.length).imp fun {a b} hab e => by omega
/-- the weight of lengths that are nought where the frequencies are. -/
theorem weightL_ord {F P : List Nat} (h : IsOrd F P) (f : Nat → Nat) (hz : ∀ s, s < F.length → (0 < f s ↔ 0 < F.getD s 0)) : weightL ((List.range F.length).map f) = (P.map fun s => 2 ^ (20 - f s)).sum := by
  rw [((ord_symsUp h).map _).sum_nat, weightL, List.map_map]
  rw [← sum_filter_zero ((fun n => if n = 0 then 0 else 2 ^ (20 - n)) ∘ f) (fun s => decide (0 < F.getD s 0)) (List.range F.length) (fun s hs hn => by
    have h1 : ¬ 0 < F.getD s 0 := by simpa using hn
    have h2 := hz s (List.mem_range.1 hs)
    show (if f s = 0 then 0 else _) = 0
    rw [if_pos (by omega)])]
  congr 1
  refine List.map_congr_left fun s hs => ?_
  have h3 := symsUp_mem.1 (show s ∈ symsUp F F.length from hs)
  have h2 := hz s h3.1
  show (if f s = 0 then 0 else _) = _
  rw [if_neg (by omega)]
theorem kraft_weight_map (L : Nat) (hL : L ≤ 20) (f : Nat → Nat) : ∀ P : List Nat, (∀ s ∈ P, f s ≤ L) → (P.map fun s => 2 ^ (20 - f s)).sum = 2 ^ (20 - L) * kraftL L (P.map f)
  | [], _ => by simp [kraftL]
  | p :: P, h => by
    have h1 := h p (List.mem_cons_self ..)
    rw [List.map_cons, List.sum_cons, List.map_cons, kraftL_cons, Nat.mul_add, ← Nat.pow_add, kraft_weight_map L hL f P (fun s hs => h s (List.mem_cons_of_mem _ hs))]
    congr 2
    omega
theorem weight_full {L k : Nat} (hL : L ≤ 20) : 2 ^ (20 - L) * k = 1048576 ↔ k = 2 ^ L := by
  have e : 1048576 = 2 ^ (20 - L) * 2 ^ L := by rw [← Nat.pow_add, show 20 - L + L = 20 by omega]
  rw [e]
  exact Nat.mul_left_cancel_iff (Nat.two_pow_pos _)
theorem map_getD (Ls : List Nat) : (List.range Ls.length).map (fun s => Ls.getD s 0) = Ls := by
  refine List.ext_getElem (by simp) fun i h1 h2 => ?_
  simp [List.getD, h2]
theorem kraftL_len (L : Nat) : ∀ ls : List Nat, ls.length ≤ kraftL L ls
  | [] => Nat.zero_le _
  | l :: ls => by
    rw [kraftL_cons, List.length_cons]
    have := kraftL_len L ls
    have := Nat.two_pow_pos (L - l)
    omega
theorem kraftL_nought (L : Nat) : ∀ ls : List Nat, 0 ∈ ls → 2 ^ L + ls.length ≤ kraftL L ls + 1
  | [], h => by cases h
  | l :: ls, h => by
    rw [kraftL_cons, List.length_cons]
    rcases List.mem_cons.1 h with e | h
    · have := kraftL_len L ls
      rw [← e, Nat.sub_zero]
      omega
    · have := kraftL_nought L ls h
      have := Nat.two_pow_pos (L - l)
      omega
/-- of at least two none is nought. -/
theorem full_pos {L : Nat} {ls : List Nat} (h : Full L ls) (h2 : 2 ≤ ls.length) : ∀ l ∈ ls, 0 < l := fun l hl => by
  apply Nat.pos_of_ne_zero
  rintro rfl
  have := kraftL_nought L ls hl
  rw [h.2] at this
  omega
/-- for two at least: the program's lengths are the work's. -/
theorem lenP_two {F P : List Nat} (h2 : 2 ≤ P.length) (i s : Nat) : lenP F P i s = lenOf F P i s := by
  rw [lenP, lenInit, if_neg (by omega), Nat.zero_add]
theorem lenOf_few {F P : List Nat} (h2 : P.length < 2) (i s : Nat) : lenOf F P i s = 0 := by
  rw [lenOf, show 2 * P.length - 2 = 0 by omega, takes_nought, outAt_noughts]
theorem lenInit_one (P : List Nat) (s : Nat) : lenInit P s ≤ 1 := by
  rw [lenInit]; split <;> omega
/-- lengths of symbols that have room: who occurs has a word; and they are not over. -/
theorem lensP_good {F P : List Nat} (h : IsOrd F P) {i : Nat} (hi : i + 1 ≤ 17) (hr : P.length ≤ 2 ^ (i + 1)) (hl : F.length ≤ 512) : (∀ s, s < F.length → (0 < (lensP F P i).getD s 0 ↔ 0 < F.getD s 0)) ∧ weightL (lensP F P i) ≤ 2 ^ 20 := by
  by_cases h2 : 2 ≤ P.length
  · have hf : Full (i + 1) (P.map (lenOf F P i)) := out_full h i hr (by omega)
    have hp := full_pos hf (by rw [List.length_map]; exact h2)
    have each : ∀ s, s < F.length → (0 < lenP F P i s ↔ 0 < F.getD s 0) ∧ lenP F P i s ≤ i + 1 := fun s hs => by
      by_cases h0 : 0 < F.getD s 0
      · have hm : lenOf F P i s ∈ P.map (lenOf F P i) := List.mem_map.2 ⟨s, (h.mem s).2 ⟨hs, h0⟩, rfl⟩
        rw [lenP_two h2]
        exact ⟨⟨fun _ => h0, fun _ => hp _ hm⟩, hf.1 _ hm⟩
      · rw [lenP_nought h i (by omega)]
        exact ⟨⟨fun h => by omega, fun h => absurd h h0⟩, Nat.zero_le _⟩
    refine ⟨fun s hs => by rw [lensP_get hs]; exact (each s hs).1, Nat.le_of_eq ?_⟩
    rw [lensP, weightL_ord h (lenP F P i) (fun s hs => (each s hs).1), kraft_weight_map (i + 1) (by omega) (lenP F P i) P (fun s hs => (each s ((h.mem s).1 hs).1).2)]
    rw [List.map_congr_left (fun s _ => lenP_two h2 i s)]
    exact (weight_full (by omega)).2 hf.2
  · have e : ∀ s, lenP F P i s = lenInit P s := fun s => by rw [lenP, lenOf_few (by omega), Nat.add_zero]
    have each : ∀ s, s < F.length → (0 < lenP F P i s ↔ 0 < F.getD s 0) := fun s hs => by
      rw [e]
      by_cases h0 : 0 < F.getD s 0
      · have hm := (h.mem s).2 ⟨hs, h0⟩
        have : P.length = 1 := by have := List.length_pos_of_mem hm; omega
        rw [lenInit, if_pos ⟨this, hm⟩]; omega
      · rw [lenInit, if_neg (fun h3 => h0 ((h.mem s).1 h3.2).2)]; omega
    refine ⟨fun s hs => by rw [lensP_get hs]; exact each s hs, ?_⟩
    rw [lensP, weightL_ord h (lenP F P i) each, kraft_weight_map 1 (by omega) (lenP F P i) P (fun s hs => by rw [e]; exact lenInit_one P s)]
    rcases P with _ | ⟨p, _ | ⟨q, P⟩⟩
    · simp [kraftL]
    · have h1 : 2 ^ (1 - lenP F [p] i p) ≤ 2 ^ 1 := Nat.pow_le_pow_right (by decide) (by omega)
      have h3 : kraftL 1 ([p].map (lenP F [p] i)) = 2 ^ (1 - lenP F [p] i p) := by simp [kraftL]
      rw [h3]
      exact Nat.le_trans (Nat.mul_le_mul_left _ h1) (by decide)
    · simp at h2
end Go.Proofs.Ytaabmlnbadpfgaa
