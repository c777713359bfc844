/- What LimitFree asks, plain: two rows of ints apart; the two least go to the end. -/
import Derived.Test.YtblbggdglndiiaaLimGrowsLaw
namespace Go.Proofs.Ytblbggdglndiiaa
open Go.RowKit
set_option linter.unusedVariables false

theorem Huff.perm {l l' : List Nat} {c : Nat} (h : Huff l c) (hp : l.Perm l') : Huff l' c := by
  cases h with
  | one a => have e := List.perm_singleton.1 hp.symm; rw [e]; exact Huff.one a
  | step h1 h2 h3 h4 => exact Huff.step (hp.symm.trans h1) h2 h3 h4
/-- what is still to come, and what was. -/
def HuffI (F T : List Nat) (want : Nat) : Prop := ∀ c, Huff T c → Huff F (want + c)
theorem HuffI.start (F : List Nat) : HuffI F F 0 := fun c h => by rw [Nat.zero_add]; exact h
theorem HuffI.step {F T R : List Nat} {a b want : Nat} (h : HuffI F T want) (hp : (R ++ [b, a]).Perm T) (hab : a ≤ b) (hb : ∀ x ∈ R, b ≤ x) : HuffI F (R ++ [b + a]) (want + (b + a)) := fun c hc => by
  have h1 : Huff T (a + b + c) := by
    refine Huff.step (r := R) (hp.symm.trans ?_) hab hb ?_
    · exact List.perm_append_comm.trans (List.Perm.swap a b R)
    · rw [Nat.add_comm a b]
      exact hc.perm (List.perm_append_singleton (b + a) R)
  have := h _ h1
  rw [show want + (b + a) + c = want + (a + b + c) by omega]
  exact this
theorem HuffI.done {F : List Nat} {x want : Nat} (h : HuffI F [x] want) : Huff F want := h 0 (Huff.one x)
theorem free_sum {F P : List Nat} (h : IsOrd F P) (hp : ∀ x ∈ F, 1 ≤ x) (hl : 2 ≤ F.length) (hl2 : F.length ≤ 17) {c : Nat} (hc : Huff F c) : costF F (lenP F P (17 - 1)) = c := by
  have hP : P.length = F.length := by
    rw [ord_len h, List.filter_eq_self.2]
    intro x hx
    have := hp x hx
    simp; omega
  have e : costF F (lenP F P (17 - 1)) = costF F (lenInit P) + costF F (lenOf F P (17 - 1)) := costF_add F _ _
  rw [e, init_cost h, if_neg (by omega), Nat.zero_add]
  refine free_cost h (17 - 1) c (by omega) (by omega) (hc.perm ?_)
  have hw := wts_perm h
  rw [List.filter_eq_self.2 (fun x hx => by have := hp x hx; simp; omega)] at hw
  exact hw.symm
/-- the least goes to the end: where a pass stands. -/
theorem pass_step {A : List Nat} {z i : Nat} (hi : i < A.length) (hz : ∀ j, j < i → z ≤ A.getD j 0) (hlt : A.getD i 0 < z) :
    (A.set i z ++ [A.getD i 0]).Perm (A ++ [z]) ∧ ∀ j, j < i + 1 → A.getD i 0 ≤ (A.set i z).getD j 0 := by
  constructor
  · obtain ⟨B, C, hA, hB⟩ : ∃ B C, A = B ++ A.getD i 0 :: C ∧ B.length = i := ⟨A.take i, A.drop (i + 1), by
      conv => lhs; rw [← List.take_append_drop i A, drop_getD A i hi], by rw [List.length_take]; omega⟩
    obtain ⟨x, hx⟩ : ∃ x, x = A.getD i 0 := ⟨_, rfl⟩
    rw [← hx] at hA ⊢
    rw [hA, List.set_append_right _ _ (by omega), hB, Nat.sub_self, List.set_cons_zero]
    refine (List.perm_append_singleton x _).trans (List.Perm.symm ((List.perm_append_singleton z _).trans ?_))
    refine ((List.Perm.cons z List.perm_middle).trans (List.Perm.swap x z _)).trans (List.Perm.cons x List.perm_middle.symm)
  · intro j hj
    by_cases hji : j = i
    · subst hji; simp [List.getD, hi] at hlt ⊢; omega
    · have := hz j (by omega)
      have e : (A.set i z).getD j 0 = A.getD j 0 := by
        rw [List.getD_eq_getElem?_getD, List.getElem?_set_ne (by omega), ← List.getD_eq_getElem?_getD]
      rw [e]; omega
theorem pass_end {A : List Nat} {z : Nat} (h : ∀ j, j < A.length → z ≤ A.getD j 0) : ∀ x ∈ A, z ≤ x := fun x hx => by
  obtain ⟨j, hj, rfl⟩ := List.mem_iff_getElem.1 hx
  have := h j hj
  rwa [getD_at hj] at this
/-- two rows of ints in new memory, apart. -/
def Two (w : World) (F T : List Nat) (fv lv : Value) (wr : World) : Prop :=
  ∃ og ol, Owns wr 3 1 fv og F.length (intsL F) ∧ Owns wr 3 1 lv ol T.length (intsL T) ∧ (∀ g, og = some g → w.heap.size ≤ g ∧ ol ≠ some g) ∧ (∀ g, ol = some g → w.heap.size ≤ g) ∧ Ext w wr
theorem Two.nil (w : World) : Two w [] [] (.slice none 0 0) (.slice none 0 0) w := ⟨none, none, Owns.nil _ _ _, Owns.nil _ _ _, fun g e => (by cases e), fun g e => (by cases e), Ext.refl w⟩
theorem Two.swap {w wr : World} {F T : List Nat} {fv lv : Value} (h : Two w F T fv lv wr) : Two w T F lv fv wr := by
  obtain ⟨og, ol, h1, h2, h3, h4, h5⟩ := h
  exact ⟨ol, og, h2, h1, fun g e => ⟨h4 g e, fun e2 => (h3 g e2).2 e⟩, fun g e => (h3 g e).1, h5⟩
theorem Two.toExt {w wr : World} {F T : List Nat} {fv lv : Value} (h : Two w F T fv lv wr) : Ext w wr := by
  obtain ⟨_, _, _, _, _, _, h5⟩ := h; exact h5
theorem Two.view {w wr : World} {F T : List Nat} {fv lv : Value} (h : Two w F T fv lv wr) : ViewL wr fv (intsL F) := by
  obtain ⟨_, _, h1, _⟩ := h; exact h1.viewL
theorem Two.drewN {w wr : World} {F T : List Nat} {fv lv : Value} (h : Two w F T fv lv wr) (m : Nat) : Two w F T fv lv (wr.drewN m) := by
  obtain ⟨og, ol, h1, h2, h3, h4, h5⟩ := h
  exact ⟨og, ol, h1.ext' ((Ext.refl wr).drewN m), h2.ext' ((Ext.refl wr).drewN m), h3, h4, h5.drewN m⟩
/-- the first one is stored anew, somewhere. -/
theorem Two.put {w w1 w2 : World} {F F' T : List Nat} {fv lv v' : Value} (h : Two w F T fv lv w1) (hown' : w2.ownsRow 0 3 1 v' F'.length (intsL F')) {o : Obj} (hgrow : (w1.alloc o).grownBy w2 fv.ownBlock) (hat : v'.ownBlock = fv.ownBlock ∨ v'.ownBlock = some (w1.heap.size + 1)) : Two w F' T v' lv w2 := by
  obtain ⟨og, ol, h1, h2, h3, h4, h5⟩ := h
  have ht : Touch (fun k => og = some k) w1 w2 := ((Touch.refl _ w1).alloc o).grown hgrow (fun k e => Or.inl (by rw [← h1.2]; exact e))
  have hl2 := h2.lt
  refine ⟨v'.ownBlock, ol, ⟨hown', rfl⟩, h2.keep ht (fun g e e2 => (h3 g e2).2 e), fun g e => ?_, h4, h5.touch ht (fun k hk e => by have := (h3 k e).1; omega)⟩
  rcases hat with hat | hat
  · exact h3 g (by rw [← h1.2, ← hat]; exact e)
  · rw [hat] at e; cases e
    exact ⟨by have := h5.size; omega, fun e2 => by have := hl2 _ e2; omega⟩
/-- two of the first one's cells are stored anew. -/
theorem Two.set2 {w wr : World} {F T : List Nat} {lv : Value} {g c n i j x y : Nat} (h : Two w F T (.slice (some ⟨g, 0, none⟩) n c) lv wr) (hi : i < F.length) (hj : j < F.length) : Two w ((F.set i x).set j y) T (.slice (some ⟨g, 0, none⟩) n c) lv (((wr.setCell ⟨g, i, none⟩ (.int .i64 x)).setCell ⟨g, j, none⟩ (.int .i64 y)).drew) := by
  obtain ⟨og, ol, h1, h2, h3, h4, h5⟩ := h
  rcases h1.form with ⟨_, e, _⟩ | ⟨g', cap', cur, e1, e2, _⟩
  · cases e
  · cases e2
    subst e1
    have a1 := (h1.set i (.int .i64 x) hi).set j (.int .i64 y) hj
    have e : ((intsL F).set i (.int .i64 x)).set j (.int .i64 y) = intsL ((F.set i x).set j y) := by simp [intsL, List.map_set]
    rw [e] at a1
    have ht : Touch (fun k => k = g) wr ((wr.setCell ⟨g, i, none⟩ (.int .i64 x)).setCell ⟨g, j, none⟩ (.int .i64 y)) :=
      Touch.setCell (S := fun k => k = g) (a := ⟨g, j, none⟩) (Touch.setCell (S := fun k => k = g) (a := ⟨g, i, none⟩) (Touch.refl _ wr) (Or.inl rfl) _) (Or.inl rfl) _
    have hT := h2.keep ht (fun k e hk => by have hk : k = g := hk; subst hk; exact (h3 k rfl).2 e)
    refine ⟨some g, ol, ?_, hT.ext' ((Ext.refl _).drew), fun k e => h3 k e, h4, (h5.touch ht (fun k hk e => by have e : k = g := e; have := (h3 g rfl).1; omega)).drew⟩
    rw [List.length_set, List.length_set]
    exact a1.ext' ((Ext.refl _).drew)
/-- the head of what is owned. -/
theorem owns_head {w : World} {g c n k : Nat} {T : List Nat} (h : w.ownsRow 0 3 1 (.slice (some ⟨g, 0, none⟩) n c) n (intsL T)) (hk : k ≤ n) : w.ownsRow 0 3 1 (.slice (some ⟨g, 0, none⟩) k c) k (intsL (T.take k)) := by
  obtain ⟨h1, h2⟩ := h
  rw [length_intsL] at h1
  rcases h2 with ⟨e, _⟩ | ⟨g', cap', cur, e, a1, a2, a3, a4, a5, a6⟩
  · cases e
  · cases e
    refine ⟨by rw [length_intsL, List.length_take]; omega, Or.inr ⟨g, c, cur, rfl, a1, a2, by omega, a4, a5, ?_⟩⟩
    have := congrArg (List.take k) a6
    rw [Nat.mul_one, List.take_take, Nat.min_eq_left hk] at this
    rw [Nat.mul_one, this, intsL, intsL, List.map_take]
end Go.Proofs.Ytblbggdglndiiaa
