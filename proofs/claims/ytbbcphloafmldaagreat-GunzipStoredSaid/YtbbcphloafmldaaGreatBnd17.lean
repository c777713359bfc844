/- repeat.runs: the iterator over runs of like lengths: its contract. repeat.Pack: its walk. pressworkref07.Pack: its walk; repeat.Pack whatever the lengths. -/
import Derived.RangeFuncNested
import Derived.RangeFuncBound
import Derived.RangeFuncCalls
import Derived.RangeFuncLeaves
import Derived.RangeFuncBox
import Derived.Shelf.Abstract
import Derived.Shelf.RegionOpen
import Derived.WalkKit
import Derived.OwnWalkIn
import Derived.TacticsInMore
import Derived.LoopNIn
import Derived.LoopIn
import Derived.Maps.AppendAt
import Derived.Sort.QuietIn
import Derived.Test.YtbbcphloafmldaaGreatRepLaw
import Derived.Test.YtbbcphloafmldaaGreatBnd3
import Derived.Test.YtbbcphloafmldaaGreatRows
import Derived.Test.YtbbcphloafmldaaGreatBnd11
import Derived.Maps.OwnIn
/-! repeat.runs: the iterator over runs of like lengths: its contract. -/
namespace Go.Proofs.YtbbcphloafmldaaGreat
open Go.RowKit Go.Shelf
set_option linter.unusedVariables false
attribute [local go_sem] Oper.semAt_some

/-- a run: a length, and how often. -/
abbrev Run := { r : Nat × Nat // r.1 ≤ 15 ∧ 0 < r.2 ∧ r.2 ≤ 10000 }
/-- what a round keeps: what lay below n₀, and the iterator's own box. -/
def KpB (n₀ Bn : Nat) (sv : Value) (W W' : World) : Prop := Below n₀ W W' ∧ (Boxed W Bn 22 sv → Boxed W' Bn 22 sv)
theorem kpB_t {n₀ Bn : Nat} {sv : Value} {A B C : World} (h : KpB n₀ Bn sv A B) (k : KpB n₀ Bn sv B C) : KpB n₀ Bn sv A C := ⟨h.1.trans k.1, fun x => k.2 (h.2 x)⟩
theorem kpB_b {n₀ Bn : Nat} {sv : Value} {w : World} (hn : n₀ ≤ w.heap.size) (W : World) (l : Nat) (o o' : Obj) (hl : w.heap.size ≤ l) (h : W.heap[l]? = some o) (hc : o.isCells = false) (hw : o.isWalk = false) : KpB n₀ Bn sv W (W.putObj l o') := by
  refine ⟨belowK_b hn W l o o' hl h hc hw, fun hb => ?_⟩
  refine hb.kept (grownBy_putObj' W l o') (fun e => ?_)
  cases e
  have hb' : W.heap[Bn]? = _ := hb
  rw [hb'] at h
  cases h
  simp [Obj.isCells] at hc
/-- bytes below n₀. -/
def VB (n₀ : Nat) (W : World) (sv : Value) (bs : List Nat) : Prop := ViewL W sv (u8s bs) ∧ (0 < bs.length → ∀ b o n cap, sv = .slice (some ⟨b, o, none⟩) n cap → b < n₀)
theorem VB.below {n₀ : Nat} {W W' : World} {sv : Value} {bs : List Nat} (h : VB n₀ W sv bs) (hb : Below n₀ W W') : VB n₀ W' sv bs := by
  obtain ⟨⟨ao, cap, rfl, h1, h2, h3⟩, h4⟩ := h
  refine ⟨⟨ao, cap, rfl, h1, h2, fun h0 => ?_⟩, h4⟩
  obtain ⟨b, o, rfl, hc⟩ := h3 h0
  exact ⟨b, o, rfl, fun j u hu => (hb.cell (p := ⟨b, o + j, none⟩) (h4 (by rwa [length_u8s] at h0) _ _ _ _ rfl)).trans (hc j u hu)⟩
theorem VB.cells {n₀ : Nat} {W : World} {ao : Option Addr} {n cap : Nat} {bs : List Nat} (h : VB n₀ W (.slice ao n cap) bs) (h0 : 0 < bs.length) : ∃ b o, ao = some ⟨b, o, none⟩ ∧ b < n₀ ∧ ∀ (j x : Nat), bs[j]? = some x → W.cell? ⟨b, o + j, none⟩ = some (.int .u8 x) := by
  obtain ⟨⟨ao', cap', e, _, _, h3⟩, h4⟩ := h
  obtain ⟨b, o, rfl, hc⟩ := h3 (by rw [length_u8s]; exact h0)
  cases e
  exact ⟨b, o, rfl, h4 h0 _ _ _ _ rfl, fun j x hj => hc j _ (by simp [u8s, hj])⟩
theorem VB.mono {n₀ n₁ : Nat} {W : World} {sv : Value} {bs : List Nat} (h : VB n₀ W sv bs) (hn : n₀ ≤ n₁) : VB n₁ W sv bs := ⟨h.1, fun h0 b o n cap e => Nat.lt_of_lt_of_le (h.2 h0 b o n cap e) hn⟩
theorem grownBy_drewN (W : World) (n : Nat) : W.grownBy (W.drewN n) none := ⟨rfl, rfl, rfl, Nat.le_refl _, fun _ _ _ => rfl⟩

theorem ViewL.vb {W : World} {sv : Value} {bs : List Nat} (h : ViewL W sv (u8s bs)) : VB W.heap.size W sv bs := by
  refine ⟨h, fun h0 b o n cap e => ?_⟩
  obtain ⟨ao, cap', e', _, _, h3⟩ := h
  obtain ⟨b', o', rfl, hc⟩ := h3 (by rwa [length_u8s])
  rw [e] at e'
  cases e'
  have := hc 0 _ (by rw [getElem?_u8s _ _ h0])
  apply Classical.byContradiction
  intro hn
  simp [World.cell?, Array.getElem?_eq_none (Nat.le_of_not_lt hn)] at this
end Go.Proofs.YtbbcphloafmldaaGreat
-- pruned by prune.py for gunzipz

/-! repeat.Pack: its walk. -/
namespace Go.Proofs.YtbbcphloafmldaaGreat
open Go.RowKit Go.Shelf
set_option linter.unusedVariables false
attribute [local go_sem] Oper.semAt_some

theorem rep_news (w : World) (cs : List Value) (e : TypeId) (fr : Nat × Nat) : ∀ j u, cs[j]? = some u → (w.alloc (.cells cs.toArray e fr)).cell? ((⟨w.heap.size, 0, none⟩ : Addr).add j) = some u := by
  intro j u hu
  rw [add_lit, World.cell?, heap_alloc_new]
  simpa using hu
/-- cells laid behind a block. -/
theorem rep_news2 (w : World) (o : Obj) (cs : List Value) (e : TypeId) (fr : Nat × Nat) : ∀ j u, cs[j]? = some u → ((w.alloc o).alloc (.cells cs.toArray e fr)).cell? ((⟨w.heap.size + 1, 0, none⟩ : Addr).add j) = some u := by
  have := rep_news (w.alloc o) cs e fr
  rwa [World.size_alloc] at this
def sg (l : List Run) : List (Nat × Nat) := l.flatMap fun r => signsOf r.1.1 r.1.2
theorem sg_snoc (l : List Run) (r : Run) : sg (l ++ [r]) = sg l ++ signsOf r.1.1 r.1.2 := by simp [sg]
theorem sg_len (l : List Run) : (sg l).length ≤ 10000 * l.length := by
  induction l with
  | nil => simp [sg]
  | cons r l ih =>
    have h1 := len_signs r.2.1 r.2.2.1
    have h2 := r.2.2.2
    simp only [sg, List.flatMap_cons, List.length_append, List.length_cons] at *
    omega
theorem sg_runs (xs : List Run) (bs : List Nat) (h : xs.map (·.1) = runsL bs) : sg xs = packL bs := by
  rw [packL, ← h, List.flatMap_map]; rfl
theorem runsL_len : ∀ (n : Nat) (l : List Nat), l.length ≤ n → (runsL l).length ≤ l.length := by
  intro n
  induction n with
  | zero =>
    intro l h
    obtain rfl := List.eq_nil_of_length_eq_zero (show l.length = 0 by omega)
    rw [runsL_nil]; exact Nat.le_refl _
  | succ n ih =>
    intro l h
    cases l with
    | nil => rw [runsL_nil]; exact Nat.le_refl _
    | cons k t =>
      have := ih (t.drop (lead k t)) (by simp at h ⊢; omega)
      rw [runsL_cons]
      simp at this ⊢; omega
/-- the runs of such lengths are runs. -/
theorem runs_are : ∀ (n : Nat) (l : List Nat), l.length ≤ n → l.length ≤ 10000 → okLens l = true → ∃ xs : List Run, xs.map (·.1) = runsL l := by
  intro n
  induction n with
  | zero =>
    intro l h _ _
    obtain rfl := List.eq_nil_of_length_eq_zero (show l.length = 0 by omega)
    exact ⟨[], by rw [runsL_nil]; rfl⟩
  | succ n ih =>
    intro l h h2 hok
    cases l with
    | nil => exact ⟨[], by rw [runsL_nil]; rfl⟩
    | cons k t =>
      simp only [okLens, List.all_cons, Bool.and_eq_true, decide_eq_true_eq] at hok
      have h3 : okLens (t.drop (lead k t)) = true := by
        rw [okLens, List.all_eq_true]
        intro x hx
        exact List.all_eq_true.1 hok.2 x (List.mem_of_mem_drop hx)
      have h4 := lead_le k t
      obtain ⟨xs, hxs⟩ := ih (t.drop (lead k t)) (by simp at h ⊢; omega) (by simp at h2 ⊢; omega) h3
      exact ⟨⟨(k, lead k t + 1), hok.1, by simp, by simp at h2 ⊢; omega⟩ :: xs, by rw [runsL_cons, List.map_cons, hxs]⟩
def scells (l : List (Nat × Nat)) : List Value := l.flatMap fun s => [.int .u8 s.1, .int .u8 s.2]
theorem length_scells (l : List (Nat × Nat)) : (scells l).length = l.length * 2 := by
  induction l with
  | nil => rfl
  | cons s l ih => simp only [scells, List.flatMap_cons, List.length_append, List.length_cons] at *; rw [ih]; simp; omega
theorem scells_append (a b : List (Nat × Nat)) : scells (a ++ b) = scells a ++ scells b := by simp [scells]
theorem rep_infoS : (Tryz.prog.info? 141).map (fun i => (i.zero, i.size, i.bytes)) = some (some (.agg #[.int .u8 0, .int .u8 0]), 2, 2) := by kernel_rfl

/-- what a part of a round keeps. -/
def RelB (n₀ Bn : Nat) (sv : Value) (W W' : World) : Prop := KeepsOthers W W' ∧ KpB n₀ Bn sv W W'
theorem RelB.trans {n₀ Bn : Nat} {sv : Value} {A B C : World} (h : RelB n₀ Bn sv A B) (k : RelB n₀ Bn sv B C) : RelB n₀ Bn sv A C := ⟨h.1.trans k.1, kpB_t h.2 k.2⟩
theorem RelB.refl (n₀ Bn : Nat) (sv : Value) (A : World) : RelB n₀ Bn sv A A := ⟨KeepsOthers.refl _, Below.refl _ _, fun h => h⟩
theorem Ext.grownBy {W W' : World} (h : Ext W W') : W.grownBy W' none := ⟨h.os, h.tape, h.output, h.size, fun k hk _ => h.block k hk (fun f => f)⟩
theorem RelB.ext {n₀ Bn : Nat} {sv : Value} {A B C : World} (h : RelB n₀ Bn sv A B) (k : Ext B C) (hn : n₀ ≤ B.heap.size) : RelB n₀ Bn sv A C :=
  h.trans ⟨KeepsOthers.of_grownBy k.grownBy (fun j o e => by cases e), (Below.refl n₀ B).grown k.grownBy hn (fun _ e => by cases e), fun hb => hb.kept k.grownBy (by simp)⟩
/-- the slice that is being made, in its box. -/
def Out (n₀ B0 : Nat) (l : List (Nat × Nat)) (W : World) : Prop := ∃ v, Boxed W B0 140 v ∧ W.ownsRow n₀ 141 2 v l.length (scells l)
theorem out_own (n₀ B0 : Nat) : Own (fun (pre : List Run) W => Out n₀ B0 (sg pre) W) := by
  have := holdsRow_own n₀ B0 140 141 2 (fun pre : List Run => (sg pre).length) (fun pre => scells (sg pre)) (fun _ _ => True)
  intro s A B row hs hg hr
  obtain ⟨v, h1, h2⟩ := hs
  obtain ⟨v', h1', h2', _⟩ := this s A B row ⟨v, h1, h2, trivial⟩ hg hr
  exact ⟨v', h1', h2'⟩
theorem Out.ext {n₀ B0 : Nat} {l : List (Nat × Nat)} {W W' : World} (h : Out n₀ B0 l W) (k : Ext W W') : Out n₀ B0 l W' := by
  obtain ⟨v, h1, h2⟩ := h
  exact ⟨v, h1.kept k.grownBy (by simp), h2.kept k.grownBy (by cases h : v.ownBlock with
    | none => exact .inl rfl
    | some g => exact .inr (by simp))⟩
theorem out_step {n₀ B0 Bn : Nat} {sv v v' : Value} {l : List (Nat × Nat)} {s : Nat × Nat} {W w1 : World} {tmp : Obj} (hv : Boxed W B0 140 v) (hrow : W.ownsRow n₀ 141 2 v l.length (scells l)) (hn₀ : n₀ ≤ W.heap.size) (hB : n₀ ≤ B0)
    {cs : List Value} (hown' : w1.ownsRow n₀ 141 2 v' (l.length + 1) (scells l ++ cs)) (hcs : cs = [.int .u8 s.1, .int .u8 s.2]) (hgrow : (W.alloc tmp).grownBy w1 v.ownBlock) (hne : B0 ≠ Bn) :
    Out n₀ B0 (l ++ [s]) (w1.setCell ⟨B0, 0, none⟩ v') ∧ RelB n₀ Bn sv W (w1.setCell ⟨B0, 0, none⟩ v') := by
  subst hcs
  obtain ⟨h1, h2, h3, h4, h5⟩ := hv.appended (by decide) hrow hn₀ hB hown' hgrow
  refine ⟨⟨v', h2, by rw [scells_append, List.length_append]; exact h3⟩, h4, h5, fun hb => ?_⟩
  exact ((hb.alloc tmp).kept hgrow (hb.not_row (by decide) hrow)).kept (grownBy_setCell' w1 B0 v') (by simp; omega)

theorem box_kept {n₀ B0 : Nat} {v a b : Value} {l : List (Nat × Nat)} {wr w1 : World} {o : Obj} (hv : Boxed wr B0 140 v) (hrow : wr.ownsRow n₀ 141 2 v l.length (scells l))
    (hgrow : ((wr.alloc (.cells #[a, b] 141)).alloc o).grownBy w1 v.ownBlock) (v' : Value) :
    w1.cell? ⟨B0, 0, none⟩ = some v ∧ w1.frozen? ⟨B0, 0, none⟩ = false ∧ (w1.setCell ⟨B0, 0, none⟩ v').cell? ⟨wr.heap.size, 0, none⟩ = some a ∧ (w1.setCell ⟨B0, 0, none⟩ v').cell? ⟨wr.heap.size, 1, none⟩ = some b := by
  have h1 := ((hv.alloc (.cells #[a, b] 141)).alloc o).kept hgrow (((hv.alloc (.cells #[a, b] 141)).alloc o).not_row (by decide) ((hrow.alloc (.cells #[a, b] 141)).alloc o))
  have hB := hv.lt
  have h2 : (w1.setCell ⟨B0, 0, none⟩ v').heap[wr.heap.size]? = some (.cells #[a, b] 141) := by
    rw [Below.heap_setCell _ _ _ _ (by simp; omega), hgrow.block _ (by simp; omega) (fun e => by have := (hrow.lt _ e.symm).2; omega), Below.heap_alloc _ _ _ (by simp)]
    exact World.alloc_heap_new wr _
  exact ⟨h1.cell, h1.frozen, by simp [World.cell?, h2], by simp [World.cell?, h2]⟩

end Go.Proofs.YtbbcphloafmldaaGreat
-- pruned by prune.py for gunzipz

/-! pressworkref07.Pack: its walk; repeat.Pack whatever the lengths. -/
namespace Go.Proofs.YtbbcphloafmldaaGreat
open Go.RowKit
set_option linter.unusedVariables false

/-- a slice of signs in new memory. -/
def RO (e : TypeId) (w : World) (l : List (Nat × Nat)) (ov : Value) (wr : World) : Prop :=
  ∃ og, Owns wr e 2 ov og l.length (scells l) ∧ (∀ g, og = some g → w.heap.size ≤ g) ∧ Ext w wr
theorem RO.ext {e : TypeId} {w wr w' : World} {l : List (Nat × Nat)} {ov : Value} (h : RO e w l ov wr) (hx : Ext wr w') : RO e w l ov w' := by
  obtain ⟨og, h1, h2, h3⟩ := h
  exact ⟨og, h1.ext' hx, h2, h3.trans hx⟩
theorem ro_step {e : TypeId} {w wr w1 : World} {l : List (Nat × Nat)} {s : Nat × Nat} {ov v' : Value} {o : Obj} {cs : List Value} (h : RO e w l ov wr) (hown' : w1.ownsRow 0 e 2 v' (l.length + 1) (scells l ++ cs)) (hcs : cs = [.int .u8 s.1, .int .u8 s.2])
    (hgrow : (wr.alloc o).grownBy w1 ov.ownBlock) (hat : v'.ownBlock = ov.ownBlock ∨ v'.ownBlock = some (wr.heap.size + 1)) : RO e w (l ++ [s]) v' w1 := by
  subst hcs
  obtain ⟨og, h1, h2, h3⟩ := h
  refine ⟨v'.ownBlock, ⟨by rw [scells_append, List.length_append]; exact hown', rfl⟩, fun g e => ?_, Touch.grown (h3.alloc _) hgrow (fun i e => Or.inr (h2 i (by rw [← h1.2]; exact e)))⟩
  rcases hat with hat | hat
  · rw [hat, h1.2] at e; exact h2 g e
  · rw [hat] at e; cases e; have := h3.size; omega
theorem rep_infoR : (Tryz.prog.info? 103).map (fun i => (i.zero, i.size, i.bytes)) = some (some (.agg #[.int .u8 0, .int .u8 0]), 2, 2) := by kernel_rfl

theorem rest_small {k m : Nat} (hk : k ≤ 15) (hm : m < 3) : restOf k m = List.replicate m (k, 0) := by
  have hs : ∀ j, 0 < j → j < 3 → restOf k j = (k, 0) :: restOf k (j - 1) := by
    intro j h1 h2
    have e : signAt k j = (k, 0) := by unfold signAt; rw [if_neg (by omega), if_neg (by omega), if_neg (by omega)]
    rw [restOf_step hk h1, e, show timesOf (k, 0) = 1 by simp [timesOf]; omega]
  match m, hm with
  | 0, _ => exact restOf_zero k
  | 1, _ => rw [hs 1 (by omega) (by omega), restOf_zero]; rfl
  | 2, _ => rw [hs 2 (by omega) (by omega), hs 1 (by omega) (by omega), restOf_zero]; rfl
end Go.Proofs.YtbbcphloafmldaaGreat
-- pruned by prune.py for gunzipz
