/- limit.row.put: its walk. -/
import Derived.StillTailTactics
import Derived.Deep.RegionWith
import Derived.Test.YtblbggdglndiiaaLimRare
import Derived.Test.YtblbggdglndiiaaLimCmps
import Derived.Test.YtblbggdglndiiaaStepLaw
namespace Go.Proofs.Ytblbggdglndiiaa
open Go.RowKit Go.Sort
set_option linter.unusedVariables false

/-- block B is a row: weights W, and how many of the first of them are symbols. -/
structure IsRow (w : World) (B : Nat) (oW oS : Option Nat) (W S : List Nat) (wv sv : Value) : Prop where
  box : w.heap[B]? = some (.cells #[wv, sv] 45 (0, 0))
  wts : Owns w 3 1 wv oW W.length (intsL W)
  sym : Owns w 3 1 sv oS S.length (intsL S)
  apart : ∀ g, oW = some g → g ≠ B ∧ oS ≠ some g
  apartS : ∀ g, oS = some g → g ≠ B
theorem IsRow.keep {w w' : World} {B : Nat} {oW oS : Option Nat} {W S : List Nat} {wv sv : Value} {T : Nat → Prop} (h : IsRow w B oW oS W S wv sv) (ht : Touch T w w') (hB : ¬ T B) (hW : ∀ g, oW = some g → ¬ T g) (hS : ∀ g, oS = some g → ¬ T g) : IsRow w' B oW oS W S wv sv :=
  ⟨ht.keep h.box hB, h.wts.keep ht hW, h.sym.keep ht hS, h.apart, h.apartS⟩
/-- the blocks of a row. -/
def RP (B : Nat) (oW oS : Option Nat) : Nat → Prop := fun k => k = B ∨ oW = some k ∨ oS = some k
/-- one of the two slices is stored anew. -/
theorem IsRow.wput {w w1 : World} {B : Nat} {oW oS : Option Nat} {W S W' : List Nat} {wv sv v' : Value} (h : IsRow w B oW oS W S wv sv) (hg : w.grownBy w1 oW) (ho : w1.ownsRow 0 3 1 v' W'.length (intsL W')) (hn : Near oW v'.ownBlock w) :
    IsRow (w1.setCell ⟨B, 0, none⟩ v') B v'.ownBlock oS W' S v' sv ∧ Touch (RP B oW oS) w (w1.setCell ⟨B, 0, none⟩ v') := by
  have hBl := block_lt h.box
  have ht1 : Touch (fun k => oW = some k) w w1 := (Touch.refl _ w).grown hg (fun k e => Or.inl e)
  have hB1 : w1.heap[B]? = some (.cells #[wv, sv] 45 (0, 0)) := ht1.keep h.box (fun e => (h.apart B e).1 rfl)
  have hS1 : Owns w1 3 1 sv oS S.length (intsL S) := h.sym.keep ht1 (fun g e e2 => (h.apart g e2).2 e)
  have hslt := h.sym.lt
  have hap : ∀ g, v'.ownBlock = some g → g ≠ B ∧ oS ≠ some g := fun g e => by
    rcases hn with e2 | ⟨g2, e2, hg2⟩
    · exact h.apart g (by rw [← e2]; exact e)
    · rw [e] at e2
      cases e2
      exact ⟨by omega, fun e3 => by have := hslt g e3; omega⟩
  have ht2 : Touch (fun k => k = B) w1 (w1.setCell ⟨B, 0, none⟩ v') := Touch.setCell (S := fun k => k = B) (Touch.refl _ w1) (Or.inl rfl) v'
  refine ⟨⟨?_, Owns.keep (S := fun k => k = B) ⟨ho, rfl⟩ ht2 (fun g e => (hap g e).1), hS1.keep ht2 (fun g e => h.apartS g e), hap, h.apartS⟩, ?_⟩
  · have := heap_setCell_at (a := ⟨B, 0, none⟩) (u := v') hB1 rfl
    simpa using this
  · exact (ht1.mono (fun k _ e => Or.inr (Or.inl e))).trans (ht2.mono (fun k _ e => Or.inl e)) (fun k _ e => e)
theorem IsRow.sput {w w1 : World} {B : Nat} {oW oS : Option Nat} {W S S' : List Nat} {wv sv v' : Value} (h : IsRow w B oW oS W S wv sv) (hg : w.grownBy w1 oS) (ho : w1.ownsRow 0 3 1 v' S'.length (intsL S')) (hn : Near oS v'.ownBlock w) :
    IsRow (w1.setCell ⟨B, 1, none⟩ v') B oW v'.ownBlock W S' wv v' ∧ Touch (RP B oW oS) w (w1.setCell ⟨B, 1, none⟩ v') := by
  have hBl := block_lt h.box
  have ht1 : Touch (fun k => oS = some k) w w1 := (Touch.refl _ w).grown hg (fun k e => Or.inl e)
  have hB1 : w1.heap[B]? = some (.cells #[wv, sv] 45 (0, 0)) := ht1.keep h.box (fun e => h.apartS B e rfl)
  have hW1 : Owns w1 3 1 wv oW W.length (intsL W) := h.wts.keep ht1 (fun g e e2 => (h.apart g e).2 e2)
  have hwlt := h.wts.lt
  have hap : ∀ g, v'.ownBlock = some g → g ≠ B ∧ oW ≠ some g := fun g e => by
    rcases hn with e2 | ⟨g2, e2, hg2⟩
    · have e3 : oS = some g := by rw [← e2]; exact e
      exact ⟨h.apartS g e3, fun e4 => (h.apart g e4).2 e3⟩
    · rw [e] at e2
      cases e2
      exact ⟨by omega, fun e3 => by have := hwlt g e3; omega⟩
  have ht2 : Touch (fun k => k = B) w1 (w1.setCell ⟨B, 1, none⟩ v') := Touch.setCell (S := fun k => k = B) (Touch.refl _ w1) (Or.inl rfl) v'
  refine ⟨⟨?_, hW1.keep ht2 (fun g e => (h.apart g e).1), Owns.keep (S := fun k => k = B) ⟨ho, rfl⟩ ht2 (fun g e => (hap g e).1), fun g e => ⟨(h.apart g e).1, fun e2 => (hap g e2).2 e⟩, fun g e => (hap g e).1⟩, ?_⟩
  · have := heap_setCell_at (a := ⟨B, 1, none⟩) (u := v') hB1 rfl
    simpa using this
  · exact (ht1.mono (fun k _ e => Or.inr (Or.inr e))).trans (ht2.mono (fun k _ e => Or.inl e)) (fun k _ e => e)
theorem grown_alloc {w w1 : World} {o : Obj} {g : Option Nat} (h : (w.alloc o).grownBy w1 g) : w.grownBy w1 g :=
  ⟨h.os, h.tape, h.output, Nat.le_trans (by simp) h.size, fun k hk hn => (h.block k (by simp; omega) hn).trans (Below.heap_alloc _ _ _ hk)⟩
theorem row_free {w2 w3 : World} {B : Nat} {oW oS : Option Nat} {W S : List Nat} {wv : Value} {o : Obj} {sa : Option Addr} {n sc : Nat} (h : IsRow w2 B oW oS W S wv (.slice sa n sc)) (hg : (w2.drew.alloc o).grownBy w3 (Value.slice sa n sc).ownBlock) : w3.frozen? ⟨B, 1, none⟩ = false ∧ w3.cell? ⟨B, 1, none⟩ = some (.slice sa n sc) := by
  have hB := block_lt h.box
  have hB1 : w3.heap[B]? = w2.heap[B]? := (hg.block B (by simp; omega) (fun e => by rw [h.sym.2] at e; exact h.apartS B e.symm rfl)).trans (Below.heap_alloc _ _ _ hB)
  simp [World.frozen?, World.cell?, hB1, h.box]
theorem row_spost {w2 w3 : World} {B : Nat} {oW oS : Option Nat} {W S : List Nat} {wv v2 : Value} {o : Obj} {sa : Option Addr} {sc s : Nat} (h : IsRow w2 B oW oS W S wv (.slice sa S.length sc)) (hown : w3.ownsRow 0 3 1 v2 (S.length + 1) (intsL S ++ [.int .i64 s]))
    (hg : (w2.drew.alloc o).grownBy w3 (Value.slice sa S.length sc).ownBlock) (hat : v2.ownBlock = (Value.slice sa S.length sc).ownBlock ∨ v2.ownBlock = some (w2.drew.alloc o).heap.size) :
    IsRow (w3.setCell ⟨B, 1, none⟩ v2) B oW v2.ownBlock W (S ++ [s]) wv v2 ∧ Touch (RP B oW oS) w2 (w3.setCell ⟨B, 1, none⟩ v2) ∧ Near oS v2.ownBlock w2 := by
  have hn : Near oS v2.ownBlock w2 := by
    rcases hat with e | e
    · exact Or.inl (e.trans h.sym.2)
    · exact Or.inr ⟨_, e, by simp⟩
  have hg2 : w2.grownBy w3 oS := by
    have := grown_alloc hg
    rw [h.sym.2] at this
    exact ⟨this.os, this.tape, this.output, this.size, this.block⟩
  obtain ⟨h1, h2⟩ := h.sput (S' := S ++ [s]) hg2 (by rw [intsL_append, List.length_append]; exact hown) hn
  exact ⟨h1, h2, hn⟩
theorem Near.rp {oW oW' : Option Nat} {w : World} {B : Nat} {oS : Option Nat} (h : Near oW oW' w) (k : Nat) (hk : k < w.heap.size) : RP B oW' oS k → RP B oW oS k := by
  rintro (rfl | e | e)
  · exact Or.inl rfl
  · rcases h with h | ⟨g, h, hg⟩
    · exact Or.inr (Or.inl (h ▸ e))
    · rw [h] at e; cases e; omega
  · exact Or.inr (Or.inr e)
set_option maxHeartbeats 2000000 in
set_option maxRecDepth 100000 in
theorem lim_put (B : Nat) (oW oS : Option Nat) (W S : List Nat) (wv sv : Value) (w : World) (x b s : Nat) (h : IsRow w B oW oS W S wv sv) (hs : s = (if S.length = 0 then 0 else S.getD (S.length - 1) 0) + b) (hW : W.length ≤ 2 ^ 20) (hS : S.length ≤ 2 ^ 20) (hsb : s ≤ 2 ^ 40) (hxb : x ≤ 2 ^ 62) :
    Calls Try.prog 27 #[.pointer (some ⟨B, 0, none⟩), .int .i64 x, .int .i64 b] w fun e w' => e = .returned (.tuple #[]) ∧
      ∃ oW' oS' wv' sv', IsRow w' B oW' oS' (W ++ [x]) (S ++ [s]) wv' sv' ∧ Near oW oW' w ∧ Near oS oS' w ∧ Touch (RP B oW oS) w w' := by
  obtain ⟨i0, hi, hz0, hz1, hz2⟩ := info_parts info_int
  have H : Hid (IsRow w B oW oS W S wv sv) := h
  have hBlt := block_lt h.box
  have hc0 : w.cell? ⟨B, 0, none⟩ = some wv := by simp [World.cell?, h.box]
  have hc1 : w.cell? ⟨B, 1, none⟩ = some sv := by simp [World.cell?, h.box]
  have hf0 : w.frozen? ⟨B, 0, none⟩ = false := by simp [World.frozen?, h.box]
  have how := h.wts
  clear h
  go_enter Try.func27, Try.ntmps27
  go_wp2_with (at_builtin; refine wpList_append_own_at _ rfl (.tmp 10) (.tmp 12) 24 rfl 0 3 i0 (.int .i64 0) 1 8 Try.underlying24 hi hz0 hz1 hz2 rfl (by decide) wv W.length (intsL W) rfl (how.1.alloc _) ⟨w.heap.size, 0, none⟩ 1 1 [.int .i64 x] rfl rfl (news _ _ _ _) (by simp [Value.oneCell']) (by unfold maxLen; omega) (by omega) (by omega) ?_)
  intro v' w1 hown' hgrow _ hat
  have hsv0 : w1.cell? ⟨B, 0, none⟩ = some wv ∧ w1.cell? ⟨B, 1, none⟩ = some sv ∧ w1.frozen? ⟨B, 0, none⟩ = false ∧ w1.frozen? ⟨B, 1, none⟩ = false := by
    have hg := grown_alloc hgrow
    have hB1 : w1.heap[B]? = w.heap[B]? := hg.block B hBlt (fun e => by rw [how.2] at e; exact (H.out.apart B e.symm).1 rfl)
    refine ⟨?_, ?_, ?_, ?_⟩ <;> simp [World.cell?, World.frozen?, hB1, H.out.box]
  obtain ⟨d0, d1, d2, d3⟩ := hsv0
  have hput := H.out.wput (W' := W ++ [x]) (v' := v') (w1 := w1) (how.2 ▸ grown_alloc hgrow) (by rw [intsL_append, List.length_append]; exact hown') (by
    rcases hat with e | e
    · exact Or.inl (e.trans how.2)
    · exact Or.inr ⟨_, e, by simp⟩)
  have HP : Hid (IsRow (w1.setCell ⟨B, 0, none⟩ v') B v'.ownBlock oS (W ++ [x]) S v' sv ∧ Touch (RP B oW oS) w (w1.setCell ⟨B, 0, none⟩ v') ∧ Near oW v'.ownBlock w) := ⟨hput.1, hput.2, by
    rcases hat with e | e
    · exact Or.inl (e.trans how.2)
    · exact Or.inr ⟨_, e, by simp⟩⟩
  obtain ⟨g', cap', rfl⟩ := ownsRow_form hown' (by omega)
  clear hput hown' hgrow hat how hc0 hc1 hf0 hBlt
  go_wp2_with fail
  generalize w1.setCell ⟨B, 0, none⟩ (.slice (some ⟨g', 0, none⟩) (W.length + 1) cap') = w2 at HP ⊢
  have c1 : w2.cell? ⟨B, 1, none⟩ = some sv := by simp [World.cell?, HP.out.1.box]
  have f1 : w2.frozen? ⟨B, 1, none⟩ = false := by simp [World.frozen?, HP.out.1.box]
  obtain ⟨sa, sc, rfl⟩ := HP.out.1.sym.shape
  have hfirst := lim_first S B 0 S.length (.slice sa S.length sc) w2.drew c1 (HP.out.1.sym.viewL.keep ((Touch.refl (fun _ => False) w2).drew) (fun _ _ _ _ _ f => f)) (Nat.le_refl _) (by omega)
  clear d0 d1 d2 d3
  obtain ⟨f0, hf0⟩ : ∃ f0 : Nat, (if S.length = 0 then (0 : Int) else ((S.getD (S.length - 1) 0 : Nat) : Int)) = (f0 : Int) := by
    by_cases hz : S.length = 0
    · exact ⟨0, by rw [if_pos hz]; rfl⟩
    · exact ⟨_, by rw [if_neg hz]⟩
  have hsf : s = f0 + b := by
    by_cases hz : S.length = 0
    · rw [if_pos hz] at hs hf0; omega
    · rw [if_neg hz] at hs hf0; omega
  rw [hf0] at hfirst
  have HS : Hid (s = f0 + b) := hsf
  have hws : IntKind.i64.wrap ((f0 : Int) + (b : Int)) = (s : Int) := by rw [show (f0 : Int) + (b : Int) = ((s : Nat) : Int) by omega]; exact IntWalk.i64_in _ (by omega)
  have HFI : Hid (∀ w3 : World, w3.cell? ⟨B, 1, none⟩ = some (.slice sa S.length sc) → ViewL w3 (.slice sa S.length sc) (intsL S) → Calls Try.prog 19 #[.pointer (some ⟨B, 0, none⟩), .int .i64 S.length] w3 fun e w' => e = .returned (.int .i64 f0) ∧ w' = w3) := fun w3 h1 h2 => by
    have := lim_first S B 0 S.length (.slice sa S.length sc) w3 h1 h2 (Nat.le_refl _) (by omega)
    rw [hf0] at this
    exact this
  have hfn : ∀ (w3 : World) args, (callFunc 19 args).run Try.prog w3 = .ok (.enter 19 args) w3 := fun w3 args => by go_simp
  have hBl2 := block_lt HP.out.1.box
  have c1a : ∀ o : Obj, (w2.alloc o).cell? ⟨B, 1, none⟩ = some (.slice sa S.length sc) := fun o => by
    rw [← c1]; exact World.cell?_of_block (w := w2) (Below.heap_alloc w2 o B hBl2)
  have HV2 : Hid (ViewL w2 (.slice sa S.length sc) (intsL S)) := HP.out.1.sym.viewL
  have hN20 : (S.length : Int) < 4611686018427387904 := by omega
  have HO2 : Hid (Owns w2 3 1 (.slice sa S.length sc) oS S.length (intsL S) ∧ S.length ≤ 2 ^ 20) := ⟨HP.out.1.sym, hS⟩
  clear hf0 hsf hs hfirst hBl2
  go_region_law (first
    | (refine step_call_still rfl 19 (.tmp 21) (.tmp 26) 57 3 rfl (hfn _) (.pointer (some ⟨B, 0, none⟩)) (.int .i64 S.length) (.int .i64 f0) (by simp [Act.eval, Act.put]) (by simp [Act.eval, Act.put]) ?_ ?_; exact HFI.out _ (by assumption) (HV2.out.keep ((Touch.refl (fun _ => False) w2).drew) (fun _ _ _ _ _ f => f)))
    | (refine step_append_own rfl (.tmp 20) (.tmp 30) 24 rfl 0 3 i0 (.int .i64 0) 1 8 Try.underlying24 hi hz0 hz1 hz2 rfl (by decide) (.slice sa S.length sc) S.length (intsL S) (by simp [Act.eval]) (HO2.out.1.ext' (((Ext.refl w2).drew).alloc _)).1 ⟨w2.heap.size, 0, none⟩ 1 1 [.int .i64 s] (by simp [Act.eval]) rfl (news _ _ _ _) (by simp [Value.oneCell']) (by unfold maxLen; have := HO2.out.2; omega) (by have := HO2.out.2; omega) (Nat.zero_le _) ?_; intro v2 w3 hown2 hgrow2 hat2; obtain ⟨g2, cap2, rfl⟩ := ownsRow_form hown2 (by omega); obtain ⟨f3, f4⟩ := row_free HP.out.1 hgrow2; have HQ := Lib.hid (row_spost HP.out.1 hown2 hgrow2 hat2); clear hown2 hgrow2 hat2))
  all_goals
    go_end0
    obtain ⟨q1, q2, q3⟩ := HQ.out
    obtain ⟨p1, p2, p3⟩ := HP.out
    refine ⟨rfl, _, _, _, _, q1, p3, ?_, p2.trans q2 (fun k hk => p3.rp k hk)⟩
    rcases q3 with e | ⟨g, e, hg⟩
    · exact Or.inl e
    · exact Or.inr ⟨g, e, Nat.le_trans p2.size hg⟩
end Go.Proofs.Ytblbggdglndiiaa
