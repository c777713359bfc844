/- gunzip.Gunzip$1: a member is added. -/
import Derived.Test.YtbbcphloafmldaaGreatBnd26
import Derived.Test.YtbbcphloafmldaaGreatGunItZ
namespace Go.Proofs.YtbbcphloafmldaaGreat
open Go.RowKit
set_option linter.unusedVariables false

/-- what is left when a member has been added to what block A holds. -/
def AddE (W : World) (A : Nat) (oa : Option Nat) (l : List Nat) (S U : Nat) (wr : Bool) (e : Ending) (w' : World) : Prop :=
  e = .returned (.tuple #[]) ∧ ∃ av oa', FB w' A av S U wr ∧ Owns w' 5 1 av oa' l.length (u8s l) ∧ Near oa oa' W ∧ oa' ≠ some A ∧ Touch (fun k => k = A ∨ oa = some k) W w'
section
variable (W2 : World) (A B2 : Nat) (av ov : Value) (oa : Option Nat) (l m : List Nat) (S U N u S2 U2 : Nat) (w1 w2 wr : Bool)
structure AMm (L : Nat → Bool) (V : Nat → Value) (w : World) (v' : Value) (og' : Option Nat) : Prop where
  a : if L 22 then FB w A v' S2 U2 wr else FB w A av S U w1
  r : Owns w 5 1 v' og' (if L 4 then l ++ m else l).length (u8s (if L 4 then l ++ m else l))
  s : if L 4 then V 7 = v' else v' = av ∧ og' = oa
  n : Near oa og' W2
  d : og' ≠ some A
  f : FB w B2 ov N u w2
  v : L 4 = false → ViewL w ov (u8s m)
  t : Touch (fun k => k = A ∨ oa = some k) W2 w
  x : L 21 = true → V 24 = .agg #[v', .int .i64 S2, .int .i64 U2, .bool wr]
def aF (x21 x22 : Value) : List (Nat × Nat × Value) := [(0, 3, .pointer (some ⟨A, 0, none⟩)), (1, 4, av), (2, 5, .pointer (some ⟨B2, 0, none⟩)), (3, 6, ov), (5, 8, .pointer (some ⟨A, 1, none⟩)), (6, 9, .int .i64 S), (7, 10, .pointer (some ⟨B2, 1, none⟩)), (8, 11, .int .i64 N), (9, 12, .int .i64 S2), (10, 13, .pointer (some ⟨A, 2, none⟩)), (11, 14, .int .i64 U), (12, 15, .pointer (some ⟨B2, 2, none⟩)), (13, 16, .int .i64 u), (14, 17, .int .i64 U2), (15, 18, .pointer (some ⟨A, 3, none⟩)), (16, 19, .bool w1), (17, 20, .bool w1), (18, 21, x21), (19, 22, x22), (20, 23, .bool wr)]
def AMM (x21 x22 : Value) (L : Nat → Bool) (V : Nat → Value) (w : World) : Prop := (∃ v' og', AMm W2 A B2 av ov oa l m S U N u S2 U2 w1 w2 wr L V w v' og') ∧ (V 1 = .pointer (some ⟨A, 0, none⟩) ∧ V 2 = .pointer (some ⟨B2, 0, none⟩)) ∧ SV (aF A B2 av ov S U N u S2 U2 w1 wr x21 x22) L V
end
set_option maxRecDepth 100000 in
set_option maxHeartbeats 4000000 in
theorem gun_add (A : Nat) (av ov : Value) (oa : Option Nat) (l m : List Nat) (S U N u : Nat) (w1 w2 : Bool) (W : World) (ha : FB W A av S U w1) (hr : Owns W 5 1 av oa l.length (u8s l)) (hv : ViewL W ov (u8s m)) (hA : oa ≠ some A) (hb : S ≤ 2 ^ 45 ∧ U ≤ 2 ^ 45 ∧ N ≤ 2 ^ 45 ∧ u ≤ 2 ^ 45 ∧ l.length + m.length ≤ 2 ^ 45) :
    Calls Tryz.prog 12 #[.agg #[ov, .int .i64 N, .int .i64 u, .bool w2], .pointer (some ⟨A, 0, none⟩)] W (AddE W A oa (l ++ m) (S + N) (U + u) (w1 || w2)) := by
  obtain ⟨oaa, oac, rfl⟩ := hv.shape
  rw [length_u8s] at hv ⊢
  obtain ⟨ML, hML⟩ : ∃ ML, ML = m.length := ⟨_, rfl⟩
  rw [← hML] at hv ⊢
  obtain ⟨i0, hi0, hz0, hz1, hz2⟩ := info_parts info_u8
  obtain ⟨S2, hS2⟩ : ∃ S2, S2 = S + N := ⟨_, rfl⟩
  obtain ⟨U2, hU2⟩ : ∃ U2, U2 = U + u := ⟨_, rfl⟩
  rw [← hS2, ← hU2]
  obtain ⟨avb, avc, eav⟩ := hr.shape
  have HS := Lib.hid (show IntKind.i64.wrap ((S : Int) + (N : Int)) = (S2 : Int) ∧ IntKind.i64.wrap ((U : Int) + (u : Int)) = (U2 : Int) from ⟨by rw [show (S : Int) + (N : Int) = (S2 : Int) by omega]; exact IntWalk.i64_in _ (by omega), by rw [show (U : Int) + (u : Int) = (U2 : Int) by omega]; exact IntWalk.i64_in _ (by omega)⟩)
  obtain ⟨B2, hB2⟩ : ∃ B2, B2 = W.heap.size := ⟨_, rfl⟩
  obtain ⟨W2, hW2⟩ : ∃ W2, W2 = W.alloc (.cells #[.slice oaa ML oac, .int .i64 N, .int .i64 u, .bool w2] 24) := ⟨_, rfl⟩
  have hx2 : Ext W W2 := by rw [hW2]; exact (Ext.refl _).alloc _
  have hfb : FB W2 B2 (.slice oaa ML oac) N u w2 := by rw [hW2, hB2]; exact FB.new _ _ _ _ _
  have H0 := Lib.hid (show FB W2 A av S U w1 ∧ Owns W2 5 1 av oa l.length (u8s l) ∧ ViewL W2 (.slice oaa ML oac) (u8s m) ∧ FB W2 B2 (.slice oaa ML oac) N u w2 from ⟨ha.keep hx2 (fun f => f), hr.ext' hx2, hv.ext hx2, hfb⟩)
  have HAB := Lib.hid (show A ≠ B2 ∧ oa ≠ some A ∧ (∀ k, oa = some k → k < B2) ∧ B2 < W2.heap.size ∧ l.length + m.length ≤ 2 ^ 45 ∧ A < W2.heap.size from ⟨by have := block_lt ha; omega, hA, fun k e => by rw [hB2]; exact hr.lt k e, block_lt hfb, hb.2.2.2.2, by have := block_lt ha; have := hx2.size; omega⟩)
  have HX := Lib.hid (show Ext W W2 ∧ W2 = W.alloc (.cells #[.slice oaa ML oac, .int .i64 N, .int .i64 u, .bool w2] 24) ∧ B2 = W.heap.size from ⟨hx2, hW2, hB2⟩)
  clear ha hr hv hA hb hS2 hU2 hx2 hfb hML hW2 hB2
  go_enter Tryz.func12, Tryz.ntmps12
  go_wp2_with fail
  rw [← HX.out.2.1, ← HX.out.2.2]
  have hm0 : ∀ (wr : Bool) (V : Nat → Value), AMm W2 A B2 av (.slice oaa ML oac) oa l m S U N u S2 U2 w1 w2 wr (fun _ => false) V { W2 with drawn := W2.drawn + 1 } av oa := fun wr V =>
    ⟨H0.out.1, H0.out.2.1, ⟨rfl, rfl⟩, Or.inl rfl, HAB.out.2.1, H0.out.2.2.2, fun _ => H0.out.2.2.1, (Touch.refl _ W2).drew, fun h => by cases h⟩
  have HFIN := Lib.hid (show ∀ (wr : Bool) (V : Nat → Value) (w5 : World) (L : Nat → Bool), wr = (w1 || w2) → L 4 = true → L 22 = true → (∃ v' og', AMm W2 A B2 av (.slice oaa ML oac) oa l m S U N u S2 U2 w1 w2 wr L V w5 v' og') → AddE W A oa (l ++ m) S2 U2 (w1 || w2) (.returned (.tuple #[])) w5 from fun wr V w5 L hwr p4 p22 ⟨v', og', hm⟩ => by
    have h1 := hm.a
    have h2 := hm.r
    rw [p22] at h1
    rw [p4] at h2
    simp only [if_true] at h1 h2
    refine ⟨rfl, v', og', by rw [← hwr]; exact h1, h2, ?_, hm.d, HX.out.1.trans' hm.t⟩
    rcases hm.n with h | ⟨g, h, hg⟩
    · exact Or.inl h
    · exact Or.inr ⟨g, h, Nat.le_trans HX.out.1.size hg⟩)
  cases w1 with
  | true =>
    refine wp_region_any (by kernel_rfl) (any_region_invG 25 (AMM W2 A B2 av (.slice oaa ML oac) oa l m S U N u S2 U2 true w2 true (undef) (undef)) (by kernel_rfl) rfl ?h0 ⟨?_, ?_, ?_, ?_, ?_, ?_, ?_, ?_, ?_, ?_, ?_, ?_, ?_, ?_, ?_, ?_, ?_, ?_, ?_, ?_, ?_, ?_, ?_, trivial⟩ ?fin)
    case h0 => exact ⟨⟨av, oa, hm0 _ _⟩, ⟨rfl, rfl⟩, (fun p _ h => by cases h)⟩
    · refine StepG.of 0 rfl (fun L V wx ev hE hV hi haf hcl hM => ?_)
      obtain ⟨hc, hf, hg⟩ := hE
      obtain ⟨⟨v', og', hm⟩, hb, hs⟩ := hM
      have h0 : ev (.tmp 1) = .pointer (some ⟨A, 0, none⟩) := (hV 1).trans hb.1
      clear hV
      exact stepG_on rfl (runsTo_val (.pointer (some ⟨A, 0, none⟩)) (by go_simp) ⟨⟨v', og', ⟨hm.a, hm.r, hm.s, hm.n, hm.d, hm.f, hm.v, hm.t, hm.x⟩⟩, hb, hs.put (by intro p hp; simp only [aF, List.mem_cons, List.not_mem_nil, or_false] at hp; rcases hp with rfl | rfl | rfl | rfl | rfl | rfl | rfl | rfl | rfl | rfl | rfl | rfl | rfl | rfl | rfl | rfl | rfl | rfl | rfl | rfl <;> simp)⟩)
    · refine StepG.of 1 rfl (fun L V wx ev hE hV hi haf hcl hM => ?_)
      obtain ⟨hc, hf, hg⟩ := hE
      obtain ⟨⟨v', og', hm⟩, hb, hs⟩ := hM
      have n22 : L 22 = false := by
        cases h : L 22 with
        | false => rfl
        | true => exact absurd (hcl 22 1 (by kernel_rfl) h) (by rw [hi]; decide)
      have p0 : L 0 = true := haf 0 (by kernel_rfl)
      have h0 : ev (.tmp 3) = .pointer (some ⟨A, 0, none⟩) := (hV 3).trans (hs (0, 3, _) (by simp [aF]) p0)
      have ha1 := hm.a
      rw [n22] at ha1
      simp only [Bool.false_eq_true, if_false] at ha1
      have hc1 := ha1.cells.1.1
      clear ha1
      clear hV
      exact stepG_on rfl (runsTo_val (av) (by go_simp) ⟨⟨v', og', ⟨hm.a, hm.r, hm.s, hm.n, hm.d, hm.f, hm.v, hm.t, hm.x⟩⟩, hb, hs.put (by intro p hp; simp only [aF, List.mem_cons, List.not_mem_nil, or_false] at hp; rcases hp with rfl | rfl | rfl | rfl | rfl | rfl | rfl | rfl | rfl | rfl | rfl | rfl | rfl | rfl | rfl | rfl | rfl | rfl | rfl | rfl <;> simp)⟩)
    · refine StepG.of 2 rfl (fun L V wx ev hE hV hi haf hcl hM => ?_)
      obtain ⟨hc, hf, hg⟩ := hE
      obtain ⟨⟨v', og', hm⟩, hb, hs⟩ := hM
      have h0 : ev (.tmp 2) = .pointer (some ⟨B2, 0, none⟩) := (hV 2).trans hb.2
      clear hV
      exact stepG_on rfl (runsTo_val (.pointer (some ⟨B2, 0, none⟩)) (by go_simp) ⟨⟨v', og', ⟨hm.a, hm.r, hm.s, hm.n, hm.d, hm.f, hm.v, hm.t, hm.x⟩⟩, hb, hs.put (by intro p hp; simp only [aF, List.mem_cons, List.not_mem_nil, or_false] at hp; rcases hp with rfl | rfl | rfl | rfl | rfl | rfl | rfl | rfl | rfl | rfl | rfl | rfl | rfl | rfl | rfl | rfl | rfl | rfl | rfl | rfl <;> simp)⟩)
    · refine StepG.of 3 rfl (fun L V wx ev hE hV hi haf hcl hM => ?_)
      obtain ⟨hc, hf, hg⟩ := hE
      obtain ⟨⟨v', og', hm⟩, hb, hs⟩ := hM
      have p2 : L 2 = true := haf 2 (by kernel_rfl)
      have h0 : ev (.tmp 5) = .pointer (some ⟨B2, 0, none⟩) := (hV 5).trans (hs (2, 5, _) (by simp [aF]) p2)
      have hc1 := hm.f.cells.1.1
      clear hV
      exact stepG_on rfl (runsTo_val (.slice oaa ML oac) (by go_simp) ⟨⟨v', og', ⟨hm.a, hm.r, hm.s, hm.n, hm.d, hm.f, hm.v, hm.t, hm.x⟩⟩, hb, hs.put (by intro p hp; simp only [aF, List.mem_cons, List.not_mem_nil, or_false] at hp; rcases hp with rfl | rfl | rfl | rfl | rfl | rfl | rfl | rfl | rfl | rfl | rfl | rfl | rfl | rfl | rfl | rfl | rfl | rfl | rfl | rfl <;> simp)⟩)
    · refine StepG.of 4 rfl (fun L V wx ev hE hV hi haf hcl hM => ?_)
      obtain ⟨hc, hf, hg⟩ := hE
      obtain ⟨⟨v', og', hm⟩, hb, hs⟩ := hM
      have n21 : L 21 = false := by
        cases h : L 21 with
        | false => rfl
        | true => exact absurd (hcl 21 4 (by kernel_rfl) h) (by rw [hi]; decide)
      have n22 : L 22 = false := by
        cases h : L 22 with
        | false => rfl
        | true => exact absurd (hcl 22 4 (by kernel_rfl) h) (by rw [hi]; decide)
      have p1 : L 1 = true := haf 1 (by kernel_rfl)
      have p3 : L 3 = true := haf 3 (by kernel_rfl)
      have h0 : ev (.tmp 4) = av := (hV 4).trans (hs (1, 4, _) (by simp [aF]) p1)
      have h1 : ev (.tmp 6) = .slice oaa ML oac := (hV 6).trans (hs (3, 6, _) (by simp [aF]) p3)
      have hr := hm.r
      have hq := hm.s
      rw [hi] at hr hq
      simp only [Bool.false_eq_true, if_false] at hr hq
      obtain ⟨rfl, rfl⟩ := hq
      obtain ⟨v2, w2', r1, r2, r3, r4⟩ := run_append_view (P := Tryz.prog) wx 0 22 22 5 i0 (.int .u8 0) 1 Tryz.underlying22 hi0 hz0 hz1 hz2 rfl v' l.length (u8s l) hr.1 (.slice oaa ML oac) (u8s m) (hm.v hi) (u8s_one _) (by rw [length_u8s]; have := HAB.out.2.2.2.2.1; unfold maxLen; omega) (by rw [length_u8s]; have := HAB.out.2.2.2.2.1; omega) (Nat.zero_le _)
      have eo : v'.ownBlock = og' := hr.2
      rw [eo] at r3 r4
      have ht : Touch (fun k => og' = some k) wx w2' := (Touch.refl _ wx).grown r3 (fun k e => Or.inl e)
      have ha1 := hm.a
      rw [n22] at ha1
      simp only [Bool.false_eq_true, if_false] at ha1
      refine stepG_on rfl (runsTo_val v2 (w' := w2') (by clear hV; simp [execOp, resolve, invoke, builtin, h0, h1, r1, Result.andThen]) ⟨⟨v2, v2.ownBlock, ⟨?_, ?_, rfl, ?_, ?_, hm.f.keep ht (fun e => by have := HAB.out.2.2.1 _ e; omega), (fun h => by cases h), hm.t.grown r3 (fun k e => Or.inl (Or.inr e)), fun h => absurd (show L 21 = true from h) (by rw [n21]; decide)⟩⟩, hb, hs.put (by intro p hp; simp only [aF, List.mem_cons, List.not_mem_nil, or_false] at hp; rcases hp with rfl | rfl | rfl | rfl | rfl | rfl | rfl | rfl | rfl | rfl | rfl | rfl | rfl | rfl | rfl | rfl | rfl | rfl | rfl | rfl <;> simp)⟩)
      · have e22 : onL L 4 22 = false := n22
        rw [e22]
        simp only [Bool.false_eq_true, if_false]
        exact ha1.keep ht HAB.out.2.1
      · have e4 : onL L 4 4 = true := rfl
        rw [e4]
        simp only [if_true]
        exact ⟨by rw [u8s_append, List.length_append]; rw [length_u8s] at r2; exact r2, rfl⟩
      · rcases r4 with r4 | r4
        · exact Or.inl r4
        · exact Or.inr ⟨_, r4, hm.t.size⟩
      · intro e
        rcases r4 with r4 | r4
        · exact HAB.out.2.1 (by rw [← r4]; exact e)
        · rw [r4] at e; cases e; have := HAB.out.2.2.2.2.2; have := hm.t.size; omega
    · refine StepG.of 5 rfl (fun L V wx ev hE hV hi haf hcl hM => ?_)
      obtain ⟨hc, hf, hg⟩ := hE
      obtain ⟨⟨v', og', hm⟩, hb, hs⟩ := hM
      have h0 : ev (.tmp 1) = .pointer (some ⟨A, 0, none⟩) := (hV 1).trans hb.1
      clear hV
      exact stepG_on rfl (runsTo_val (.pointer (some ⟨A, 1, none⟩)) (by go_simp) ⟨⟨v', og', ⟨hm.a, hm.r, hm.s, hm.n, hm.d, hm.f, hm.v, hm.t, hm.x⟩⟩, hb, hs.put (by intro p hp; simp only [aF, List.mem_cons, List.not_mem_nil, or_false] at hp; rcases hp with rfl | rfl | rfl | rfl | rfl | rfl | rfl | rfl | rfl | rfl | rfl | rfl | rfl | rfl | rfl | rfl | rfl | rfl | rfl | rfl <;> simp)⟩)
    · refine StepG.of 6 rfl (fun L V wx ev hE hV hi haf hcl hM => ?_)
      obtain ⟨hc, hf, hg⟩ := hE
      obtain ⟨⟨v', og', hm⟩, hb, hs⟩ := hM
      have n22 : L 22 = false := by
        cases h : L 22 with
        | false => rfl
        | true => exact absurd (hcl 22 6 (by kernel_rfl) h) (by rw [hi]; decide)
      have p5 : L 5 = true := haf 5 (by kernel_rfl)
      have h0 : ev (.tmp 8) = .pointer (some ⟨A, 1, none⟩) := (hV 8).trans (hs (5, 8, _) (by simp [aF]) p5)
      have ha1 := hm.a
      rw [n22] at ha1
      simp only [Bool.false_eq_true, if_false] at ha1
      have hc1 := ha1.cells.1.2.1
      clear ha1
      clear hV
      exact stepG_on rfl (runsTo_val (.int .i64 S) (by go_simp) ⟨⟨v', og', ⟨hm.a, hm.r, hm.s, hm.n, hm.d, hm.f, hm.v, hm.t, hm.x⟩⟩, hb, hs.put (by intro p hp; simp only [aF, List.mem_cons, List.not_mem_nil, or_false] at hp; rcases hp with rfl | rfl | rfl | rfl | rfl | rfl | rfl | rfl | rfl | rfl | rfl | rfl | rfl | rfl | rfl | rfl | rfl | rfl | rfl | rfl <;> simp)⟩)
    · refine StepG.of 7 rfl (fun L V wx ev hE hV hi haf hcl hM => ?_)
      obtain ⟨hc, hf, hg⟩ := hE
      obtain ⟨⟨v', og', hm⟩, hb, hs⟩ := hM
      have h0 : ev (.tmp 2) = .pointer (some ⟨B2, 0, none⟩) := (hV 2).trans hb.2
      clear hV
      exact stepG_on rfl (runsTo_val (.pointer (some ⟨B2, 1, none⟩)) (by go_simp) ⟨⟨v', og', ⟨hm.a, hm.r, hm.s, hm.n, hm.d, hm.f, hm.v, hm.t, hm.x⟩⟩, hb, hs.put (by intro p hp; simp only [aF, List.mem_cons, List.not_mem_nil, or_false] at hp; rcases hp with rfl | rfl | rfl | rfl | rfl | rfl | rfl | rfl | rfl | rfl | rfl | rfl | rfl | rfl | rfl | rfl | rfl | rfl | rfl | rfl <;> simp)⟩)
    · refine StepG.of 8 rfl (fun L V wx ev hE hV hi haf hcl hM => ?_)
      obtain ⟨hc, hf, hg⟩ := hE
      obtain ⟨⟨v', og', hm⟩, hb, hs⟩ := hM
      have p7 : L 7 = true := haf 7 (by kernel_rfl)
      have h0 : ev (.tmp 10) = .pointer (some ⟨B2, 1, none⟩) := (hV 10).trans (hs (7, 10, _) (by simp [aF]) p7)
      have hc1 := hm.f.cells.1.2.1
      clear hV
      exact stepG_on rfl (runsTo_val (.int .i64 N) (by go_simp) ⟨⟨v', og', ⟨hm.a, hm.r, hm.s, hm.n, hm.d, hm.f, hm.v, hm.t, hm.x⟩⟩, hb, hs.put (by intro p hp; simp only [aF, List.mem_cons, List.not_mem_nil, or_false] at hp; rcases hp with rfl | rfl | rfl | rfl | rfl | rfl | rfl | rfl | rfl | rfl | rfl | rfl | rfl | rfl | rfl | rfl | rfl | rfl | rfl | rfl <;> simp)⟩)
    · refine StepG.of 9 rfl (fun L V wx ev hE hV hi haf hcl hM => ?_)
      obtain ⟨hc, hf, hg⟩ := hE
      obtain ⟨⟨v', og', hm⟩, hb, hs⟩ := hM
      have p6 : L 6 = true := haf 6 (by kernel_rfl)
      have p8 : L 8 = true := haf 8 (by kernel_rfl)
      have h0 : ev (.tmp 9) = .int .i64 S := (hV 9).trans (hs (6, 9, _) (by simp [aF]) p6)
      have h1 : ev (.tmp 11) = .int .i64 N := (hV 11).trans (hs (8, 11, _) (by simp [aF]) p8)
      have hw := HS.out.1
      clear hV
      exact stepG_on rfl (runsTo_val (.int .i64 S2) (by go_simp) ⟨⟨v', og', ⟨hm.a, hm.r, hm.s, hm.n, hm.d, hm.f, hm.v, hm.t, hm.x⟩⟩, hb, hs.put (by intro p hp; simp only [aF, List.mem_cons, List.not_mem_nil, or_false] at hp; rcases hp with rfl | rfl | rfl | rfl | rfl | rfl | rfl | rfl | rfl | rfl | rfl | rfl | rfl | rfl | rfl | rfl | rfl | rfl | rfl | rfl <;> simp)⟩)
    · refine StepG.of 10 rfl (fun L V wx ev hE hV hi haf hcl hM => ?_)
      obtain ⟨hc, hf, hg⟩ := hE
      obtain ⟨⟨v', og', hm⟩, hb, hs⟩ := hM
      have h0 : ev (.tmp 1) = .pointer (some ⟨A, 0, none⟩) := (hV 1).trans hb.1
      clear hV
      exact stepG_on rfl (runsTo_val (.pointer (some ⟨A, 2, none⟩)) (by go_simp) ⟨⟨v', og', ⟨hm.a, hm.r, hm.s, hm.n, hm.d, hm.f, hm.v, hm.t, hm.x⟩⟩, hb, hs.put (by intro p hp; simp only [aF, List.mem_cons, List.not_mem_nil, or_false] at hp; rcases hp with rfl | rfl | rfl | rfl | rfl | rfl | rfl | rfl | rfl | rfl | rfl | rfl | rfl | rfl | rfl | rfl | rfl | rfl | rfl | rfl <;> simp)⟩)
    · refine StepG.of 11 rfl (fun L V wx ev hE hV hi haf hcl hM => ?_)
      obtain ⟨hc, hf, hg⟩ := hE
      obtain ⟨⟨v', og', hm⟩, hb, hs⟩ := hM
      have n22 : L 22 = false := by
        cases h : L 22 with
        | false => rfl
        | true => exact absurd (hcl 22 11 (by kernel_rfl) h) (by rw [hi]; decide)
      have p10 : L 10 = true := haf 10 (by kernel_rfl)
      have h0 : ev (.tmp 13) = .pointer (some ⟨A, 2, none⟩) := (hV 13).trans (hs (10, 13, _) (by simp [aF]) p10)
      have ha1 := hm.a
      rw [n22] at ha1
      simp only [Bool.false_eq_true, if_false] at ha1
      have hc1 := ha1.cells.1.2.2.1
      clear ha1
      clear hV
      exact stepG_on rfl (runsTo_val (.int .i64 U) (by go_simp) ⟨⟨v', og', ⟨hm.a, hm.r, hm.s, hm.n, hm.d, hm.f, hm.v, hm.t, hm.x⟩⟩, hb, hs.put (by intro p hp; simp only [aF, List.mem_cons, List.not_mem_nil, or_false] at hp; rcases hp with rfl | rfl | rfl | rfl | rfl | rfl | rfl | rfl | rfl | rfl | rfl | rfl | rfl | rfl | rfl | rfl | rfl | rfl | rfl | rfl <;> simp)⟩)
    · refine StepG.of 12 rfl (fun L V wx ev hE hV hi haf hcl hM => ?_)
      obtain ⟨hc, hf, hg⟩ := hE
      obtain ⟨⟨v', og', hm⟩, hb, hs⟩ := hM
      have h0 : ev (.tmp 2) = .pointer (some ⟨B2, 0, none⟩) := (hV 2).trans hb.2
      clear hV
      exact stepG_on rfl (runsTo_val (.pointer (some ⟨B2, 2, none⟩)) (by go_simp) ⟨⟨v', og', ⟨hm.a, hm.r, hm.s, hm.n, hm.d, hm.f, hm.v, hm.t, hm.x⟩⟩, hb, hs.put (by intro p hp; simp only [aF, List.mem_cons, List.not_mem_nil, or_false] at hp; rcases hp with rfl | rfl | rfl | rfl | rfl | rfl | rfl | rfl | rfl | rfl | rfl | rfl | rfl | rfl | rfl | rfl | rfl | rfl | rfl | rfl <;> simp)⟩)
    · refine StepG.of 13 rfl (fun L V wx ev hE hV hi haf hcl hM => ?_)
      obtain ⟨hc, hf, hg⟩ := hE
      obtain ⟨⟨v', og', hm⟩, hb, hs⟩ := hM
      have p12 : L 12 = true := haf 12 (by kernel_rfl)
      have h0 : ev (.tmp 15) = .pointer (some ⟨B2, 2, none⟩) := (hV 15).trans (hs (12, 15, _) (by simp [aF]) p12)
      have hc1 := hm.f.cells.1.2.2.1
      clear hV
      exact stepG_on rfl (runsTo_val (.int .i64 u) (by go_simp) ⟨⟨v', og', ⟨hm.a, hm.r, hm.s, hm.n, hm.d, hm.f, hm.v, hm.t, hm.x⟩⟩, hb, hs.put (by intro p hp; simp only [aF, List.mem_cons, List.not_mem_nil, or_false] at hp; rcases hp with rfl | rfl | rfl | rfl | rfl | rfl | rfl | rfl | rfl | rfl | rfl | rfl | rfl | rfl | rfl | rfl | rfl | rfl | rfl | rfl <;> simp)⟩)
    · refine StepG.of 14 rfl (fun L V wx ev hE hV hi haf hcl hM => ?_)
      obtain ⟨hc, hf, hg⟩ := hE
      obtain ⟨⟨v', og', hm⟩, hb, hs⟩ := hM
      have p11 : L 11 = true := haf 11 (by kernel_rfl)
      have p13 : L 13 = true := haf 13 (by kernel_rfl)
      have h0 : ev (.tmp 14) = .int .i64 U := (hV 14).trans (hs (11, 14, _) (by simp [aF]) p11)
      have h1 : ev (.tmp 16) = .int .i64 u := (hV 16).trans (hs (13, 16, _) (by simp [aF]) p13)
      have hw := HS.out.2
      clear hV
      exact stepG_on rfl (runsTo_val (.int .i64 U2) (by go_simp) ⟨⟨v', og', ⟨hm.a, hm.r, hm.s, hm.n, hm.d, hm.f, hm.v, hm.t, hm.x⟩⟩, hb, hs.put (by intro p hp; simp only [aF, List.mem_cons, List.not_mem_nil, or_false] at hp; rcases hp with rfl | rfl | rfl | rfl | rfl | rfl | rfl | rfl | rfl | rfl | rfl | rfl | rfl | rfl | rfl | rfl | rfl | rfl | rfl | rfl <;> simp)⟩)
    · refine StepG.of 15 rfl (fun L V wx ev hE hV hi haf hcl hM => ?_)
      obtain ⟨hc, hf, hg⟩ := hE
      obtain ⟨⟨v', og', hm⟩, hb, hs⟩ := hM
      have h0 : ev (.tmp 1) = .pointer (some ⟨A, 0, none⟩) := (hV 1).trans hb.1
      clear hV
      exact stepG_on rfl (runsTo_val (.pointer (some ⟨A, 3, none⟩)) (by go_simp) ⟨⟨v', og', ⟨hm.a, hm.r, hm.s, hm.n, hm.d, hm.f, hm.v, hm.t, hm.x⟩⟩, hb, hs.put (by intro p hp; simp only [aF, List.mem_cons, List.not_mem_nil, or_false] at hp; rcases hp with rfl | rfl | rfl | rfl | rfl | rfl | rfl | rfl | rfl | rfl | rfl | rfl | rfl | rfl | rfl | rfl | rfl | rfl | rfl | rfl <;> simp)⟩)
    · refine StepG.of 16 rfl (fun L V wx ev hE hV hi haf hcl hM => ?_)
      obtain ⟨hc, hf, hg⟩ := hE
      obtain ⟨⟨v', og', hm⟩, hb, hs⟩ := hM
      have n22 : L 22 = false := by
        cases h : L 22 with
        | false => rfl
        | true => exact absurd (hcl 22 16 (by kernel_rfl) h) (by rw [hi]; decide)
      have p15 : L 15 = true := haf 15 (by kernel_rfl)
      have h0 : ev (.tmp 18) = .pointer (some ⟨A, 3, none⟩) := (hV 18).trans (hs (15, 18, _) (by simp [aF]) p15)
      have ha1 := hm.a
      rw [n22] at ha1
      simp only [Bool.false_eq_true, if_false] at ha1
      have hc1 := ha1.cells.1.2.2.2
      clear ha1
      clear hV
      exact stepG_on rfl (runsTo_val (.bool true) (by go_simp) ⟨⟨v', og', ⟨hm.a, hm.r, hm.s, hm.n, hm.d, hm.f, hm.v, hm.t, hm.x⟩⟩, hb, hs.put (by intro p hp; simp only [aF, List.mem_cons, List.not_mem_nil, or_false] at hp; rcases hp with rfl | rfl | rfl | rfl | rfl | rfl | rfl | rfl | rfl | rfl | rfl | rfl | rfl | rfl | rfl | rfl | rfl | rfl | rfl | rfl <;> simp)⟩)
    · refine StepG.of 17 rfl (fun L V wx ev hE hV hi haf hcl hM => ?_)
      obtain ⟨hc, hf, hg⟩ := hE
      obtain ⟨⟨v', og', hm⟩, hb, hs⟩ := hM
      have p16 : L 16 = true := haf 16 (by kernel_rfl)
      have h0 : ev (.tmp 19) = .bool true := (hV 19).trans (hs (16, 19, _) (by simp [aF]) p16)
      clear hV
      exact stepG_on rfl (runsTo_val (.bool true) (by go_simp) ⟨⟨v', og', ⟨hm.a, hm.r, hm.s, hm.n, hm.d, hm.f, hm.v, hm.t, hm.x⟩⟩, hb, hs.put (by intro p hp; simp only [aF, List.mem_cons, List.not_mem_nil, or_false] at hp; rcases hp with rfl | rfl | rfl | rfl | rfl | rfl | rfl | rfl | rfl | rfl | rfl | rfl | rfl | rfl | rfl | rfl | rfl | rfl | rfl | rfl <;> simp)⟩)
    · refine StepG.of 18 rfl (fun L V wx ev hE hV hi haf hcl hM => ?_)
      obtain ⟨hc, hf, hg⟩ := hE
      obtain ⟨⟨v', og', hm⟩, hb, hs⟩ := hM
      have p17 : L 17 = true := haf 17 (by kernel_rfl)
      have h0 : ev (.tmp 20) = .bool true := (hV 20).trans (hs (17, 20, _) (by simp [aF]) p17)
      clear hV
      exact stepG_off (unwanted_b (by decide) rfl rfl h0) ⟨⟨v', og', ⟨hm.a, hm.r, hm.s, hm.n, hm.d, hm.f, hm.v, hm.t, hm.x⟩⟩, hb, hs.put (by intro p hp; simp only [aF, List.mem_cons, List.not_mem_nil, or_false] at hp; rcases hp with rfl | rfl | rfl | rfl | rfl | rfl | rfl | rfl | rfl | rfl | rfl | rfl | rfl | rfl | rfl | rfl | rfl | rfl | rfl | rfl <;> simp)⟩
    · refine StepG.of 19 rfl (fun L V wx ev hE hV hi haf hcl hM => ?_)
      obtain ⟨hc, hf, hg⟩ := hE
      obtain ⟨⟨v', og', hm⟩, hb, hs⟩ := hM
      have p17 : L 17 = true := haf 17 (by kernel_rfl)
      have h0 : ev (.tmp 20) = .bool true := (hV 20).trans (hs (17, 20, _) (by simp [aF]) p17)
      clear hV
      exact stepG_off (unwanted_b (by decide) rfl rfl h0) ⟨⟨v', og', ⟨hm.a, hm.r, hm.s, hm.n, hm.d, hm.f, hm.v, hm.t, hm.x⟩⟩, hb, hs.put (by intro p hp; simp only [aF, List.mem_cons, List.not_mem_nil, or_false] at hp; rcases hp with rfl | rfl | rfl | rfl | rfl | rfl | rfl | rfl | rfl | rfl | rfl | rfl | rfl | rfl | rfl | rfl | rfl | rfl | rfl | rfl <;> simp)⟩
    · refine StepG.of 20 rfl (fun L V wx ev hE hV hi haf hcl hM => ?_)
      obtain ⟨hc, hf, hg⟩ := hE
      obtain ⟨⟨v', og', hm⟩, hb, hs⟩ := hM
      have p17 : L 17 = true := haf 17 (by kernel_rfl)
      have h0 : ev (.tmp 20) = .bool true := (hV 20).trans (hs (17, 20, _) (by simp [aF]) p17)
      clear hV
      exact stepG_on rfl (runsTo_val (.bool true) (by go_simp) ⟨⟨v', og', ⟨hm.a, hm.r, hm.s, hm.n, hm.d, hm.f, hm.v, hm.t, hm.x⟩⟩, hb, hs.put (by intro p hp; simp only [aF, List.mem_cons, List.not_mem_nil, or_false] at hp; rcases hp with rfl | rfl | rfl | rfl | rfl | rfl | rfl | rfl | rfl | rfl | rfl | rfl | rfl | rfl | rfl | rfl | rfl | rfl | rfl | rfl <;> simp)⟩)
    · refine StepG.of 21 rfl (fun L V wx ev hE hV hi haf hcl hM => ?_)
      obtain ⟨hc, hf, hg⟩ := hE
      obtain ⟨⟨v', og', hm⟩, hb, hs⟩ := hM
      have p4 : L 4 = true := haf 4 (by kernel_rfl)
      have p9 : L 9 = true := haf 9 (by kernel_rfl)
      have p14 : L 14 = true := haf 14 (by kernel_rfl)
      have p20 : L 20 = true := haf 20 (by kernel_rfl)
      have hq := hm.s
      rw [p4] at hq
      simp only [if_true] at hq
      have h0 : ev (.tmp 7) = v' := (hV 7).trans hq
      have h1 : ev (.tmp 12) = .int .i64 S2 := (hV 12).trans (hs (9, 12, _) (by simp [aF]) p9)
      have h2 : ev (.tmp 17) = .int .i64 U2 := (hV 17).trans (hs (14, 17, _) (by simp [aF]) p14)
      have h3 : ev (.tmp 23) = .bool true := (hV 23).trans (hs (20, 23, _) (by simp [aF]) p20)
      obtain ⟨vb, vc, evv⟩ := hm.r.shape
      rw [evv] at h0
      clear hV hq
      refine stepG_on rfl (runsTo_val (.agg #[v', .int .i64 S2, .int .i64 U2, .bool true]) (by rw [evv]; go_simp) ⟨⟨v', og', ⟨hm.a, hm.r, hm.s, hm.n, hm.d, hm.f, hm.v, hm.t, fun _ => rfl⟩⟩, hb, hs.put (by intro p hp; simp only [aF, List.mem_cons, List.not_mem_nil, or_false] at hp; rcases hp with rfl | rfl | rfl | rfl | rfl | rfl | rfl | rfl | rfl | rfl | rfl | rfl | rfl | rfl | rfl | rfl | rfl | rfl | rfl | rfl <;> simp)⟩)
    · refine StepG.of 22 rfl (fun L V wx ev hE hV hi haf hcl hM => ?_)
      obtain ⟨hc, hf, hg⟩ := hE
      obtain ⟨⟨v', og', hm⟩, hb, hs⟩ := hM
      have p4 : L 4 = true := haf 4 (by kernel_rfl)
      have p21 : L 21 = true := haf 21 (by kernel_rfl)
      have h0 : ev (.tmp 1) = .pointer (some ⟨A, 0, none⟩) := (hV 1).trans hb.1
      have h1 : ev (.tmp 24) = .agg #[v', .int .i64 S2, .int .i64 U2, .bool true] := (hV 24).trans (hm.x p21)
      have ha1 := hm.a
      rw [hi] at ha1
      simp only [Bool.false_eq_true, if_false] at ha1
      obtain ⟨⟨c0, c1, c2, c3⟩, fz⟩ := ha1.cells
      have z0 := fz 0
      have z1 := fz 1
      have z2 := fz 2
      have z3 := fz 3
      obtain ⟨d1, d2⟩ := ha1.set v' (S2 : Int) (U2 : Int) true
      obtain ⟨vb, vc, evv⟩ := hm.r.shape
      clear hV fz ha1
      refine stepG_on rfl (runsTo_skip (w' := (((wx.setCell ⟨A, 0, none⟩ v').setCell ⟨A, 1, none⟩ (.int .i64 S2)).setCell ⟨A, 2, none⟩ (.int .i64 U2)).setCell ⟨A, 3, none⟩ (.bool true)) (by rw [evv] at h1 ⊢; go_simp) ⟨⟨v', og', ⟨?_, hm.r.keep d2 (fun k e h => hm.d (by rw [e, h])), hm.s, hm.n, hm.d, hm.f.keep d2 (fun e => HAB.out.1 e.symm), (fun h => absurd (show L 4 = false from h) (by rw [p4]; decide)), hm.t.trans d2 (fun k _ e => Or.inl e), hm.x⟩⟩, hb, hs.on (by intro p hp; simp only [aF, List.mem_cons, List.not_mem_nil, or_false] at hp; rcases hp with rfl | rfl | rfl | rfl | rfl | rfl | rfl | rfl | rfl | rfl | rfl | rfl | rfl | rfl | rfl | rfl | rfl | rfl | rfl | rfl <;> simp)⟩)
      have e22 : onL L 22 22 = true := rfl
      rw [e22]
      simp only [if_true]
      exact d1
    case fin =>
      rintro V w5 L hL ⟨hm, _, _⟩
      have HF := Lib.hid (HFIN.out true V w5 L (by simp) (hL 4 (by decide)) (hL 22 (by decide)) hm)
      clear hm0 hL hm
      go_wp2_with fail
      go_end0
      exact HF.out
  | false =>
    refine wp_region_any (by kernel_rfl) (any_region_invG 25 (AMM W2 A B2 av (.slice oaa ML oac) oa l m S U N u S2 U2 false w2 w2 (.pointer (some ⟨B2, 3, none⟩)) (.bool w2)) (by kernel_rfl) rfl ?h0 ⟨?_, ?_, ?_, ?_, ?_, ?_, ?_, ?_, ?_, ?_, ?_, ?_, ?_, ?_, ?_, ?_, ?_, ?_, ?_, ?_, ?_, ?_, ?_, trivial⟩ ?fin)
    case h0 => exact ⟨⟨av, oa, hm0 _ _⟩, ⟨rfl, rfl⟩, (fun p _ h => by cases h)⟩
    · refine StepG.of 0 rfl (fun L V wx ev hE hV hi haf hcl hM => ?_)
      obtain ⟨hc, hf, hg⟩ := hE
      obtain ⟨⟨v', og', hm⟩, hb, hs⟩ := hM
      have h0 : ev (.tmp 1) = .pointer (some ⟨A, 0, none⟩) := (hV 1).trans hb.1
      clear hV
      exact stepG_on rfl (runsTo_val (.pointer (some ⟨A, 0, none⟩)) (by go_simp) ⟨⟨v', og', ⟨hm.a, hm.r, hm.s, hm.n, hm.d, hm.f, hm.v, hm.t, hm.x⟩⟩, hb, hs.put (by intro p hp; simp only [aF, List.mem_cons, List.not_mem_nil, or_false] at hp; rcases hp with rfl | rfl | rfl | rfl | rfl | rfl | rfl | rfl | rfl | rfl | rfl | rfl | rfl | rfl | rfl | rfl | rfl | rfl | rfl | rfl <;> simp)⟩)
    · refine StepG.of 1 rfl (fun L V wx ev hE hV hi haf hcl hM => ?_)
      obtain ⟨hc, hf, hg⟩ := hE
      obtain ⟨⟨v', og', hm⟩, hb, hs⟩ := hM
      have n22 : L 22 = false := by
        cases h : L 22 with
        | false => rfl
        | true => exact absurd (hcl 22 1 (by kernel_rfl) h) (by rw [hi]; decide)
      have p0 : L 0 = true := haf 0 (by kernel_rfl)
      have h0 : ev (.tmp 3) = .pointer (some ⟨A, 0, none⟩) := (hV 3).trans (hs (0, 3, _) (by simp [aF]) p0)
      have ha1 := hm.a
      rw [n22] at ha1
      simp only [Bool.false_eq_true, if_false] at ha1
      have hc1 := ha1.cells.1.1
      clear ha1
      clear hV
      exact stepG_on rfl (runsTo_val (av) (by go_simp) ⟨⟨v', og', ⟨hm.a, hm.r, hm.s, hm.n, hm.d, hm.f, hm.v, hm.t, hm.x⟩⟩, hb, hs.put (by intro p hp; simp only [aF, List.mem_cons, List.not_mem_nil, or_false] at hp; rcases hp with rfl | rfl | rfl | rfl | rfl | rfl | rfl | rfl | rfl | rfl | rfl | rfl | rfl | rfl | rfl | rfl | rfl | rfl | rfl | rfl <;> simp)⟩)
    · refine StepG.of 2 rfl (fun L V wx ev hE hV hi haf hcl hM => ?_)
      obtain ⟨hc, hf, hg⟩ := hE
      obtain ⟨⟨v', og', hm⟩, hb, hs⟩ := hM
      have h0 : ev (.tmp 2) = .pointer (some ⟨B2, 0, none⟩) := (hV 2).trans hb.2
      clear hV
      exact stepG_on rfl (runsTo_val (.pointer (some ⟨B2, 0, none⟩)) (by go_simp) ⟨⟨v', og', ⟨hm.a, hm.r, hm.s, hm.n, hm.d, hm.f, hm.v, hm.t, hm.x⟩⟩, hb, hs.put (by intro p hp; simp only [aF, List.mem_cons, List.not_mem_nil, or_false] at hp; rcases hp with rfl | rfl | rfl | rfl | rfl | rfl | rfl | rfl | rfl | rfl | rfl | rfl | rfl | rfl | rfl | rfl | rfl | rfl | rfl | rfl <;> simp)⟩)
    · refine StepG.of 3 rfl (fun L V wx ev hE hV hi haf hcl hM => ?_)
      obtain ⟨hc, hf, hg⟩ := hE
      obtain ⟨⟨v', og', hm⟩, hb, hs⟩ := hM
      have p2 : L 2 = true := haf 2 (by kernel_rfl)
      have h0 : ev (.tmp 5) = .pointer (some ⟨B2, 0, none⟩) := (hV 5).trans (hs (2, 5, _) (by simp [aF]) p2)
      have hc1 := hm.f.cells.1.1
      clear hV
      exact stepG_on rfl (runsTo_val (.slice oaa ML oac) (by go_simp) ⟨⟨v', og', ⟨hm.a, hm.r, hm.s, hm.n, hm.d, hm.f, hm.v, hm.t, hm.x⟩⟩, hb, hs.put (by intro p hp; simp only [aF, List.mem_cons, List.not_mem_nil, or_false] at hp; rcases hp with rfl | rfl | rfl | rfl | rfl | rfl | rfl | rfl | rfl | rfl | rfl | rfl | rfl | rfl | rfl | rfl | rfl | rfl | rfl | rfl <;> simp)⟩)
    · refine StepG.of 4 rfl (fun L V wx ev hE hV hi haf hcl hM => ?_)
      obtain ⟨hc, hf, hg⟩ := hE
      obtain ⟨⟨v', og', hm⟩, hb, hs⟩ := hM
      have n21 : L 21 = false := by
        cases h : L 21 with
        | false => rfl
        | true => exact absurd (hcl 21 4 (by kernel_rfl) h) (by rw [hi]; decide)
      have n22 : L 22 = false := by
        cases h : L 22 with
        | false => rfl
        | true => exact absurd (hcl 22 4 (by kernel_rfl) h) (by rw [hi]; decide)
      have p1 : L 1 = true := haf 1 (by kernel_rfl)
      have p3 : L 3 = true := haf 3 (by kernel_rfl)
      have h0 : ev (.tmp 4) = av := (hV 4).trans (hs (1, 4, _) (by simp [aF]) p1)
      have h1 : ev (.tmp 6) = .slice oaa ML oac := (hV 6).trans (hs (3, 6, _) (by simp [aF]) p3)
      have hr := hm.r
      have hq := hm.s
      rw [hi] at hr hq
      simp only [Bool.false_eq_true, if_false] at hr hq
      obtain ⟨rfl, rfl⟩ := hq
      obtain ⟨v2, w2', r1, r2, r3, r4⟩ := run_append_view (P := Tryz.prog) wx 0 22 22 5 i0 (.int .u8 0) 1 Tryz.underlying22 hi0 hz0 hz1 hz2 rfl v' l.length (u8s l) hr.1 (.slice oaa ML oac) (u8s m) (hm.v hi) (u8s_one _) (by rw [length_u8s]; have := HAB.out.2.2.2.2.1; unfold maxLen; omega) (by rw [length_u8s]; have := HAB.out.2.2.2.2.1; omega) (Nat.zero_le _)
      have eo : v'.ownBlock = og' := hr.2
      rw [eo] at r3 r4
      have ht : Touch (fun k => og' = some k) wx w2' := (Touch.refl _ wx).grown r3 (fun k e => Or.inl e)
      have ha1 := hm.a
      rw [n22] at ha1
      simp only [Bool.false_eq_true, if_false] at ha1
      refine stepG_on rfl (runsTo_val v2 (w' := w2') (by clear hV; simp [execOp, resolve, invoke, builtin, h0, h1, r1, Result.andThen]) ⟨⟨v2, v2.ownBlock, ⟨?_, ?_, rfl, ?_, ?_, hm.f.keep ht (fun e => by have := HAB.out.2.2.1 _ e; omega), (fun h => by cases h), hm.t.grown r3 (fun k e => Or.inl (Or.inr e)), fun h => absurd (show L 21 = true from h) (by rw [n21]; decide)⟩⟩, hb, hs.put (by intro p hp; simp only [aF, List.mem_cons, List.not_mem_nil, or_false] at hp; rcases hp with rfl | rfl | rfl | rfl | rfl | rfl | rfl | rfl | rfl | rfl | rfl | rfl | rfl | rfl | rfl | rfl | rfl | rfl | rfl | rfl <;> simp)⟩)
      · have e22 : onL L 4 22 = false := n22
        rw [e22]
        simp only [Bool.false_eq_true, if_false]
        exact ha1.keep ht HAB.out.2.1
      · have e4 : onL L 4 4 = true := rfl
        rw [e4]
        simp only [if_true]
        exact ⟨by rw [u8s_append, List.length_append]; rw [length_u8s] at r2; exact r2, rfl⟩
      · rcases r4 with r4 | r4
        · exact Or.inl r4
        · exact Or.inr ⟨_, r4, hm.t.size⟩
      · intro e
        rcases r4 with r4 | r4
        · exact HAB.out.2.1 (by rw [← r4]; exact e)
        · rw [r4] at e; cases e; have := HAB.out.2.2.2.2.2; have := hm.t.size; omega
    · refine StepG.of 5 rfl (fun L V wx ev hE hV hi haf hcl hM => ?_)
      obtain ⟨hc, hf, hg⟩ := hE
      obtain ⟨⟨v', og', hm⟩, hb, hs⟩ := hM
      have h0 : ev (.tmp 1) = .pointer (some ⟨A, 0, none⟩) := (hV 1).trans hb.1
      clear hV
      exact stepG_on rfl (runsTo_val (.pointer (some ⟨A, 1, none⟩)) (by go_simp) ⟨⟨v', og', ⟨hm.a, hm.r, hm.s, hm.n, hm.d, hm.f, hm.v, hm.t, hm.x⟩⟩, hb, hs.put (by intro p hp; simp only [aF, List.mem_cons, List.not_mem_nil, or_false] at hp; rcases hp with rfl | rfl | rfl | rfl | rfl | rfl | rfl | rfl | rfl | rfl | rfl | rfl | rfl | rfl | rfl | rfl | rfl | rfl | rfl | rfl <;> simp)⟩)
    · refine StepG.of 6 rfl (fun L V wx ev hE hV hi haf hcl hM => ?_)
      obtain ⟨hc, hf, hg⟩ := hE
      obtain ⟨⟨v', og', hm⟩, hb, hs⟩ := hM
      have n22 : L 22 = false := by
        cases h : L 22 with
        | false => rfl
        | true => exact absurd (hcl 22 6 (by kernel_rfl) h) (by rw [hi]; decide)
      have p5 : L 5 = true := haf 5 (by kernel_rfl)
      have h0 : ev (.tmp 8) = .pointer (some ⟨A, 1, none⟩) := (hV 8).trans (hs (5, 8, _) (by simp [aF]) p5)
      have ha1 := hm.a
      rw [n22] at ha1
      simp only [Bool.false_eq_true, if_false] at ha1
      have hc1 := ha1.cells.1.2.1
      clear ha1
      clear hV
      exact stepG_on rfl (runsTo_val (.int .i64 S) (by go_simp) ⟨⟨v', og', ⟨hm.a, hm.r, hm.s, hm.n, hm.d, hm.f, hm.v, hm.t, hm.x⟩⟩, hb, hs.put (by intro p hp; simp only [aF, List.mem_cons, List.not_mem_nil, or_false] at hp; rcases hp with rfl | rfl | rfl | rfl | rfl | rfl | rfl | rfl | rfl | rfl | rfl | rfl | rfl | rfl | rfl | rfl | rfl | rfl | rfl | rfl <;> simp)⟩)
    · refine StepG.of 7 rfl (fun L V wx ev hE hV hi haf hcl hM => ?_)
      obtain ⟨hc, hf, hg⟩ := hE
      obtain ⟨⟨v', og', hm⟩, hb, hs⟩ := hM
      have h0 : ev (.tmp 2) = .pointer (some ⟨B2, 0, none⟩) := (hV 2).trans hb.2
      clear hV
      exact stepG_on rfl (runsTo_val (.pointer (some ⟨B2, 1, none⟩)) (by go_simp) ⟨⟨v', og', ⟨hm.a, hm.r, hm.s, hm.n, hm.d, hm.f, hm.v, hm.t, hm.x⟩⟩, hb, hs.put (by intro p hp; simp only [aF, List.mem_cons, List.not_mem_nil, or_false] at hp; rcases hp with rfl | rfl | rfl | rfl | rfl | rfl | rfl | rfl | rfl | rfl | rfl | rfl | rfl | rfl | rfl | rfl | rfl | rfl | rfl | rfl <;> simp)⟩)
    · refine StepG.of 8 rfl (fun L V wx ev hE hV hi haf hcl hM => ?_)
      obtain ⟨hc, hf, hg⟩ := hE
      obtain ⟨⟨v', og', hm⟩, hb, hs⟩ := hM
      have p7 : L 7 = true := haf 7 (by kernel_rfl)
      have h0 : ev (.tmp 10) = .pointer (some ⟨B2, 1, none⟩) := (hV 10).trans (hs (7, 10, _) (by simp [aF]) p7)
      have hc1 := hm.f.cells.1.2.1
      clear hV
      exact stepG_on rfl (runsTo_val (.int .i64 N) (by go_simp) ⟨⟨v', og', ⟨hm.a, hm.r, hm.s, hm.n, hm.d, hm.f, hm.v, hm.t, hm.x⟩⟩, hb, hs.put (by intro p hp; simp only [aF, List.mem_cons, List.not_mem_nil, or_false] at hp; rcases hp with rfl | rfl | rfl | rfl | rfl | rfl | rfl | rfl | rfl | rfl | rfl | rfl | rfl | rfl | rfl | rfl | rfl | rfl | rfl | rfl <;> simp)⟩)
    · refine StepG.of 9 rfl (fun L V wx ev hE hV hi haf hcl hM => ?_)
      obtain ⟨hc, hf, hg⟩ := hE
      obtain ⟨⟨v', og', hm⟩, hb, hs⟩ := hM
      have p6 : L 6 = true := haf 6 (by kernel_rfl)
      have p8 : L 8 = true := haf 8 (by kernel_rfl)
      have h0 : ev (.tmp 9) = .int .i64 S := (hV 9).trans (hs (6, 9, _) (by simp [aF]) p6)
      have h1 : ev (.tmp 11) = .int .i64 N := (hV 11).trans (hs (8, 11, _) (by simp [aF]) p8)
      have hw := HS.out.1
      clear hV
      exact stepG_on rfl (runsTo_val (.int .i64 S2) (by go_simp) ⟨⟨v', og', ⟨hm.a, hm.r, hm.s, hm.n, hm.d, hm.f, hm.v, hm.t, hm.x⟩⟩, hb, hs.put (by intro p hp; simp only [aF, List.mem_cons, List.not_mem_nil, or_false] at hp; rcases hp with rfl | rfl | rfl | rfl | rfl | rfl | rfl | rfl | rfl | rfl | rfl | rfl | rfl | rfl | rfl | rfl | rfl | rfl | rfl | rfl <;> simp)⟩)
    · refine StepG.of 10 rfl (fun L V wx ev hE hV hi haf hcl hM => ?_)
      obtain ⟨hc, hf, hg⟩ := hE
      obtain ⟨⟨v', og', hm⟩, hb, hs⟩ := hM
      have h0 : ev (.tmp 1) = .pointer (some ⟨A, 0, none⟩) := (hV 1).trans hb.1
      clear hV
      exact stepG_on rfl (runsTo_val (.pointer (some ⟨A, 2, none⟩)) (by go_simp) ⟨⟨v', og', ⟨hm.a, hm.r, hm.s, hm.n, hm.d, hm.f, hm.v, hm.t, hm.x⟩⟩, hb, hs.put (by intro p hp; simp only [aF, List.mem_cons, List.not_mem_nil, or_false] at hp; rcases hp with rfl | rfl | rfl | rfl | rfl | rfl | rfl | rfl | rfl | rfl | rfl | rfl | rfl | rfl | rfl | rfl | rfl | rfl | rfl | rfl <;> simp)⟩)
    · refine StepG.of 11 rfl (fun L V wx ev hE hV hi haf hcl hM => ?_)
      obtain ⟨hc, hf, hg⟩ := hE
      obtain ⟨⟨v', og', hm⟩, hb, hs⟩ := hM
      have n22 : L 22 = false := by
        cases h : L 22 with
        | false => rfl
        | true => exact absurd (hcl 22 11 (by kernel_rfl) h) (by rw [hi]; decide)
      have p10 : L 10 = true := haf 10 (by kernel_rfl)
      have h0 : ev (.tmp 13) = .pointer (some ⟨A, 2, none⟩) := (hV 13).trans (hs (10, 13, _) (by simp [aF]) p10)
      have ha1 := hm.a
      rw [n22] at ha1
      simp only [Bool.false_eq_true, if_false] at ha1
      have hc1 := ha1.cells.1.2.2.1
      clear ha1
      clear hV
      exact stepG_on rfl (runsTo_val (.int .i64 U) (by go_simp) ⟨⟨v', og', ⟨hm.a, hm.r, hm.s, hm.n, hm.d, hm.f, hm.v, hm.t, hm.x⟩⟩, hb, hs.put (by intro p hp; simp only [aF, List.mem_cons, List.not_mem_nil, or_false] at hp; rcases hp with rfl | rfl | rfl | rfl | rfl | rfl | rfl | rfl | rfl | rfl | rfl | rfl | rfl | rfl | rfl | rfl | rfl | rfl | rfl | rfl <;> simp)⟩)
    · refine StepG.of 12 rfl (fun L V wx ev hE hV hi haf hcl hM => ?_)
      obtain ⟨hc, hf, hg⟩ := hE
      obtain ⟨⟨v', og', hm⟩, hb, hs⟩ := hM
      have h0 : ev (.tmp 2) = .pointer (some ⟨B2, 0, none⟩) := (hV 2).trans hb.2
      clear hV
      exact stepG_on rfl (runsTo_val (.pointer (some ⟨B2, 2, none⟩)) (by go_simp) ⟨⟨v', og', ⟨hm.a, hm.r, hm.s, hm.n, hm.d, hm.f, hm.v, hm.t, hm.x⟩⟩, hb, hs.put (by intro p hp; simp only [aF, List.mem_cons, List.not_mem_nil, or_false] at hp; rcases hp with rfl | rfl | rfl | rfl | rfl | rfl | rfl | rfl | rfl | rfl | rfl | rfl | rfl | rfl | rfl | rfl | rfl | rfl | rfl | rfl <;> simp)⟩)
    · refine StepG.of 13 rfl (fun L V wx ev hE hV hi haf hcl hM => ?_)
      obtain ⟨hc, hf, hg⟩ := hE
      obtain ⟨⟨v', og', hm⟩, hb, hs⟩ := hM
      have p12 : L 12 = true := haf 12 (by kernel_rfl)
      have h0 : ev (.tmp 15) = .pointer (some ⟨B2, 2, none⟩) := (hV 15).trans (hs (12, 15, _) (by simp [aF]) p12)
      have hc1 := hm.f.cells.1.2.2.1
      clear hV
      exact stepG_on rfl (runsTo_val (.int .i64 u) (by go_simp) ⟨⟨v', og', ⟨hm.a, hm.r, hm.s, hm.n, hm.d, hm.f, hm.v, hm.t, hm.x⟩⟩, hb, hs.put (by intro p hp; simp only [aF, List.mem_cons, List.not_mem_nil, or_false] at hp; rcases hp with rfl | rfl | rfl | rfl | rfl | rfl | rfl | rfl | rfl | rfl | rfl | rfl | rfl | rfl | rfl | rfl | rfl | rfl | rfl | rfl <;> simp)⟩)
    · refine StepG.of 14 rfl (fun L V wx ev hE hV hi haf hcl hM => ?_)
      obtain ⟨hc, hf, hg⟩ := hE
      obtain ⟨⟨v', og', hm⟩, hb, hs⟩ := hM
      have p11 : L 11 = true := haf 11 (by kernel_rfl)
      have p13 : L 13 = true := haf 13 (by kernel_rfl)
      have h0 : ev (.tmp 14) = .int .i64 U := (hV 14).trans (hs (11, 14, _) (by simp [aF]) p11)
      have h1 : ev (.tmp 16) = .int .i64 u := (hV 16).trans (hs (13, 16, _) (by simp [aF]) p13)
      have hw := HS.out.2
      clear hV
      exact stepG_on rfl (runsTo_val (.int .i64 U2) (by go_simp) ⟨⟨v', og', ⟨hm.a, hm.r, hm.s, hm.n, hm.d, hm.f, hm.v, hm.t, hm.x⟩⟩, hb, hs.put (by intro p hp; simp only [aF, List.mem_cons, List.not_mem_nil, or_false] at hp; rcases hp with rfl | rfl | rfl | rfl | rfl | rfl | rfl | rfl | rfl | rfl | rfl | rfl | rfl | rfl | rfl | rfl | rfl | rfl | rfl | rfl <;> simp)⟩)
    · refine StepG.of 15 rfl (fun L V wx ev hE hV hi haf hcl hM => ?_)
      obtain ⟨hc, hf, hg⟩ := hE
      obtain ⟨⟨v', og', hm⟩, hb, hs⟩ := hM
      have h0 : ev (.tmp 1) = .pointer (some ⟨A, 0, none⟩) := (hV 1).trans hb.1
      clear hV
      exact stepG_on rfl (runsTo_val (.pointer (some ⟨A, 3, none⟩)) (by go_simp) ⟨⟨v', og', ⟨hm.a, hm.r, hm.s, hm.n, hm.d, hm.f, hm.v, hm.t, hm.x⟩⟩, hb, hs.put (by intro p hp; simp only [aF, List.mem_cons, List.not_mem_nil, or_false] at hp; rcases hp with rfl | rfl | rfl | rfl | rfl | rfl | rfl | rfl | rfl | rfl | rfl | rfl | rfl | rfl | rfl | rfl | rfl | rfl | rfl | rfl <;> simp)⟩)
    · refine StepG.of 16 rfl (fun L V wx ev hE hV hi haf hcl hM => ?_)
      obtain ⟨hc, hf, hg⟩ := hE
      obtain ⟨⟨v', og', hm⟩, hb, hs⟩ := hM
      have n22 : L 22 = false := by
        cases h : L 22 with
        | false => rfl
        | true => exact absurd (hcl 22 16 (by kernel_rfl) h) (by rw [hi]; decide)
      have p15 : L 15 = true := haf 15 (by kernel_rfl)
      have h0 : ev (.tmp 18) = .pointer (some ⟨A, 3, none⟩) := (hV 18).trans (hs (15, 18, _) (by simp [aF]) p15)
      have ha1 := hm.a
      rw [n22] at ha1
      simp only [Bool.false_eq_true, if_false] at ha1
      have hc1 := ha1.cells.1.2.2.2
      clear ha1
      clear hV
      exact stepG_on rfl (runsTo_val (.bool false) (by go_simp) ⟨⟨v', og', ⟨hm.a, hm.r, hm.s, hm.n, hm.d, hm.f, hm.v, hm.t, hm.x⟩⟩, hb, hs.put (by intro p hp; simp only [aF, List.mem_cons, List.not_mem_nil, or_false] at hp; rcases hp with rfl | rfl | rfl | rfl | rfl | rfl | rfl | rfl | rfl | rfl | rfl | rfl | rfl | rfl | rfl | rfl | rfl | rfl | rfl | rfl <;> simp)⟩)
    · refine StepG.of 17 rfl (fun L V wx ev hE hV hi haf hcl hM => ?_)
      obtain ⟨hc, hf, hg⟩ := hE
      obtain ⟨⟨v', og', hm⟩, hb, hs⟩ := hM
      have p16 : L 16 = true := haf 16 (by kernel_rfl)
      have h0 : ev (.tmp 19) = .bool false := (hV 19).trans (hs (16, 19, _) (by simp [aF]) p16)
      clear hV
      exact stepG_on rfl (runsTo_val (.bool false) (by go_simp) ⟨⟨v', og', ⟨hm.a, hm.r, hm.s, hm.n, hm.d, hm.f, hm.v, hm.t, hm.x⟩⟩, hb, hs.put (by intro p hp; simp only [aF, List.mem_cons, List.not_mem_nil, or_false] at hp; rcases hp with rfl | rfl | rfl | rfl | rfl | rfl | rfl | rfl | rfl | rfl | rfl | rfl | rfl | rfl | rfl | rfl | rfl | rfl | rfl | rfl <;> simp)⟩)
    · refine StepG.of 18 rfl (fun L V wx ev hE hV hi haf hcl hM => ?_)
      obtain ⟨hc, hf, hg⟩ := hE
      obtain ⟨⟨v', og', hm⟩, hb, hs⟩ := hM
      have p17 : L 17 = true := haf 17 (by kernel_rfl)
      have h0 : ev (.tmp 2) = .pointer (some ⟨B2, 0, none⟩) := (hV 2).trans hb.2
      have hgd : ev (.tmp 20) = .bool false := (hV 20).trans (hs (17, 20, _) (by simp [aF]) p17)
      clear hV
      exact stepG_on (wanted_of rfl rfl hgd) (runsTo_val (.pointer (some ⟨B2, 3, none⟩)) (by go_simp) ⟨⟨v', og', ⟨hm.a, hm.r, hm.s, hm.n, hm.d, hm.f, hm.v, hm.t, hm.x⟩⟩, hb, hs.put (by intro p hp; simp only [aF, List.mem_cons, List.not_mem_nil, or_false] at hp; rcases hp with rfl | rfl | rfl | rfl | rfl | rfl | rfl | rfl | rfl | rfl | rfl | rfl | rfl | rfl | rfl | rfl | rfl | rfl | rfl | rfl <;> simp)⟩)
    · refine StepG.of 19 rfl (fun L V wx ev hE hV hi haf hcl hM => ?_)
      obtain ⟨hc, hf, hg⟩ := hE
      obtain ⟨⟨v', og', hm⟩, hb, hs⟩ := hM
      have p17 : L 17 = true := haf 17 (by kernel_rfl)
      have p18 : L 18 = true := haf 18 (by kernel_rfl)
      have h0 : ev (.tmp 21) = .pointer (some ⟨B2, 3, none⟩) := (hV 21).trans (hs (18, 21, _) (by simp [aF]) p18)
      have hc1 := hm.f.cells.1.2.2.2
      have hgd : ev (.tmp 20) = .bool false := (hV 20).trans (hs (17, 20, _) (by simp [aF]) p17)
      clear hV
      exact stepG_on (wanted_of rfl rfl hgd) (runsTo_val (.bool w2) (by go_simp) ⟨⟨v', og', ⟨hm.a, hm.r, hm.s, hm.n, hm.d, hm.f, hm.v, hm.t, hm.x⟩⟩, hb, hs.put (by intro p hp; simp only [aF, List.mem_cons, List.not_mem_nil, or_false] at hp; rcases hp with rfl | rfl | rfl | rfl | rfl | rfl | rfl | rfl | rfl | rfl | rfl | rfl | rfl | rfl | rfl | rfl | rfl | rfl | rfl | rfl <;> simp)⟩)
    · refine StepG.of 20 rfl (fun L V wx ev hE hV hi haf hcl hM => ?_)
      obtain ⟨hc, hf, hg⟩ := hE
      obtain ⟨⟨v', og', hm⟩, hb, hs⟩ := hM
      have p17 : L 17 = true := haf 17 (by kernel_rfl)
      have p19 : L 19 = true := haf 19 (by kernel_rfl)
      have h0 : ev (.tmp 20) = .bool false := (hV 20).trans (hs (17, 20, _) (by simp [aF]) p17)
      have h1 : ev (.tmp 22) = .bool w2 := (hV 22).trans (hs (19, 22, _) (by simp [aF]) p19)
      clear hV
      exact stepG_on rfl (runsTo_val (.bool w2) (by go_simp) ⟨⟨v', og', ⟨hm.a, hm.r, hm.s, hm.n, hm.d, hm.f, hm.v, hm.t, hm.x⟩⟩, hb, hs.put (by intro p hp; simp only [aF, List.mem_cons, List.not_mem_nil, or_false] at hp; rcases hp with rfl | rfl | rfl | rfl | rfl | rfl | rfl | rfl | rfl | rfl | rfl | rfl | rfl | rfl | rfl | rfl | rfl | rfl | rfl | rfl <;> simp)⟩)
    · refine StepG.of 21 rfl (fun L V wx ev hE hV hi haf hcl hM => ?_)
      obtain ⟨hc, hf, hg⟩ := hE
      obtain ⟨⟨v', og', hm⟩, hb, hs⟩ := hM
      have p4 : L 4 = true := haf 4 (by kernel_rfl)
      have p9 : L 9 = true := haf 9 (by kernel_rfl)
      have p14 : L 14 = true := haf 14 (by kernel_rfl)
      have p20 : L 20 = true := haf 20 (by kernel_rfl)
      have hq := hm.s
      rw [p4] at hq
      simp only [if_true] at hq
      have h0 : ev (.tmp 7) = v' := (hV 7).trans hq
      have h1 : ev (.tmp 12) = .int .i64 S2 := (hV 12).trans (hs (9, 12, _) (by simp [aF]) p9)
      have h2 : ev (.tmp 17) = .int .i64 U2 := (hV 17).trans (hs (14, 17, _) (by simp [aF]) p14)
      have h3 : ev (.tmp 23) = .bool w2 := (hV 23).trans (hs (20, 23, _) (by simp [aF]) p20)
      obtain ⟨vb, vc, evv⟩ := hm.r.shape
      rw [evv] at h0
      clear hV hq
      refine stepG_on rfl (runsTo_val (.agg #[v', .int .i64 S2, .int .i64 U2, .bool w2]) (by rw [evv]; go_simp) ⟨⟨v', og', ⟨hm.a, hm.r, hm.s, hm.n, hm.d, hm.f, hm.v, hm.t, fun _ => rfl⟩⟩, hb, hs.put (by intro p hp; simp only [aF, List.mem_cons, List.not_mem_nil, or_false] at hp; rcases hp with rfl | rfl | rfl | rfl | rfl | rfl | rfl | rfl | rfl | rfl | rfl | rfl | rfl | rfl | rfl | rfl | rfl | rfl | rfl | rfl <;> simp)⟩)
    · refine StepG.of 22 rfl (fun L V wx ev hE hV hi haf hcl hM => ?_)
      obtain ⟨hc, hf, hg⟩ := hE
      obtain ⟨⟨v', og', hm⟩, hb, hs⟩ := hM
      have p4 : L 4 = true := haf 4 (by kernel_rfl)
      have p21 : L 21 = true := haf 21 (by kernel_rfl)
      have h0 : ev (.tmp 1) = .pointer (some ⟨A, 0, none⟩) := (hV 1).trans hb.1
      have h1 : ev (.tmp 24) = .agg #[v', .int .i64 S2, .int .i64 U2, .bool w2] := (hV 24).trans (hm.x p21)
      have ha1 := hm.a
      rw [hi] at ha1
      simp only [Bool.false_eq_true, if_false] at ha1
      obtain ⟨⟨c0, c1, c2, c3⟩, fz⟩ := ha1.cells
      have z0 := fz 0
      have z1 := fz 1
      have z2 := fz 2
      have z3 := fz 3
      obtain ⟨d1, d2⟩ := ha1.set v' (S2 : Int) (U2 : Int) w2
      obtain ⟨vb, vc, evv⟩ := hm.r.shape
      clear hV fz ha1
      refine stepG_on rfl (runsTo_skip (w' := (((wx.setCell ⟨A, 0, none⟩ v').setCell ⟨A, 1, none⟩ (.int .i64 S2)).setCell ⟨A, 2, none⟩ (.int .i64 U2)).setCell ⟨A, 3, none⟩ (.bool w2)) (by rw [evv] at h1 ⊢; go_simp) ⟨⟨v', og', ⟨?_, hm.r.keep d2 (fun k e h => hm.d (by rw [e, h])), hm.s, hm.n, hm.d, hm.f.keep d2 (fun e => HAB.out.1 e.symm), (fun h => absurd (show L 4 = false from h) (by rw [p4]; decide)), hm.t.trans d2 (fun k _ e => Or.inl e), hm.x⟩⟩, hb, hs.on (by intro p hp; simp only [aF, List.mem_cons, List.not_mem_nil, or_false] at hp; rcases hp with rfl | rfl | rfl | rfl | rfl | rfl | rfl | rfl | rfl | rfl | rfl | rfl | rfl | rfl | rfl | rfl | rfl | rfl | rfl | rfl <;> simp)⟩)
      have e22 : onL L 22 22 = true := rfl
      rw [e22]
      simp only [if_true]
      exact d1
    case fin =>
      rintro V w5 L hL ⟨hm, _, _⟩
      have HF := Lib.hid (HFIN.out w2 V w5 L (by simp) (hL 4 (by decide)) (hL 22 (by decide)) hm)
      clear hm0 hL hm
      go_wp2_with fail
      go_end0
      exact HF.out
end Go.Proofs.YtbbcphloafmldaaGreat
