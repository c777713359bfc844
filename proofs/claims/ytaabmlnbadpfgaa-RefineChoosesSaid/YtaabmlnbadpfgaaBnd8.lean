/- refine.refined: what its walk is made of: the slots between its pieces, the pieces of a round. refine.refined: a round's rows of counts: their walk. refine.refined: a round's symbols are counted: its walk. refine.refined: a round's codes are made: their walk. refine.refined: a round's groups choose: their walk. refine.refined: a round: its pieces, one behind the other. refine.refined: its walk. -/
import Derived.Stop.RegionWithIn
import Derived.Laws.EntriesVeiled
import Derived.Deep.RegionHeld3
import Derived.Test.YtaabmlnbadpfgaaBnd6
import Derived.Test.YtaabmlnbadpfgaaBnd7
import Derived.Test.YtaabmlnbadpfgaaBnd2
import Derived.Test.YtaabmlnbadpfgaaGrowInZ
import Derived.Test.YtaabmlnbadpfgaaAppend
/-! refine.refined: what its walk is made of: the slots between its pieces, the pieces of a round. -/
namespace Go.Proofs.Ytaabmlnbadpfgaa
open Go.RowKit Go.Shelf
set_option linter.unusedVariables false
attribute [local go_sem] Oper.semAt_some

theorem make_intsR (w : World) (n : Nat) (hn : n ≤ 2 ^ 40) :
    ∃ w', (Instr.makeSlice 23 (.int .i64 (n : Int)) (.int .i64 (n : Int))).run Try.prog w = .ok (.slice (some ⟨w.heap.size, 0, none⟩) n n) w' ∧ IOn w (List.replicate n 0) (.slice (some ⟨w.heap.size, 0, none⟩) n n) w' := by
  obtain ⟨i0, hi, hz0, hz1, hz2⟩ := info_parts info_int
  obtain ⟨w', h1, h2, h3⟩ := make_ownsL w 23 3 i0 (.int .i64 0) n Try.underlying23 hi hz0 hz1 (by omega) rfl hn
  refine ⟨w', h1, some w.heap.size, ?_, fun g e => (by cases e; exact Nat.le_refl _), h3⟩
  rw [List.length_replicate, show intsL (List.replicate n 0) = List.replicate n (.int .i64 0) by simp [intsL]]
  exact h2
theorem make_ownsW (w : World) (t e : TypeId) (i : TypeInfo) (z : Value) (n : Nat) (h1 : Try.prog.underlying t = some (.slice e)) (h2 : Try.prog.info? e = some i) (h3 : i.zero = some z) (h4 : i.size = 1) (h5 : i.bytes ≤ 24) (hz : z.cells = #[z]) (hn : n ≤ 2 ^ 40) :
    ∃ w', (Instr.makeSlice t (.int .i64 (n : Int)) (.int .i64 (n : Int))).run Try.prog w = .ok (.slice (some ⟨w.heap.size, 0, none⟩) n n) w' ∧ Owns w' e 1 (.slice (some ⟨w.heap.size, 0, none⟩) n n) (some w.heap.size) n (List.replicate n z) ∧ Ext w w' := by
  obtain ⟨w', hrun, r1, r2⟩ := run_make_full (P := Try.prog) w 0 t e i z 1 h1 h2 h3 h4 .i64 .i64 n (by
    have : i.bytes * n ≤ 24 * 2 ^ 40 := Nat.mul_le_mul h5 hn
    omega) (by unfold maxLen; omega) (Nat.zero_le _)
  refine ⟨w', hrun, ⟨?_, rfl⟩, (Touch.refl _ w).grown r2 (fun k e => by cases e)⟩
  rw [hz, Nat.mul_one, made_one] at r1
  exact r1
theorem info_intsR : (Try.prog.info? 23).map (fun i => (i.zero, i.size, i.bytes)) = some (some (.slice none 0 0), 1, 24) := by kernel_rfl
theorem make_rowsR (w : World) (n : Nat) (hn : n ≤ 2 ^ 20) :
    ∃ w', (Instr.makeSlice 82 (.int .i64 (n : Int)) (.int .i64 (n : Int))).run Try.prog w = .ok (.slice (some ⟨w.heap.size, 0, none⟩) n n) w' ∧ Owns w' 23 1 (.slice (some ⟨w.heap.size, 0, none⟩) n n) (some w.heap.size) n (List.replicate n (.slice none 0 0)) ∧ Ext w w' := by
  obtain ⟨i0, hi, hz0, hz1, hz2⟩ := info_parts info_intsR
  exact make_ownsW w 82 23 i0 (.slice none 0 0) n Try.underlying82 hi hz0 hz1 (by omega) rfl (by omega)
/-- the choice under way: its box B8, the groups' row g, the result's box B6. -/
structure Rfd (w wr : World) (B6 B8 g G : Nat) (lv : Value) (ch : List Nat) : Prop where
  b6 : Box2 wr B6 (.slice none 0 0) (.slice none 0 0)
  b8 : Box2 wr B8 lv (.slice (some ⟨g, 0, none⟩) G G)
  grp : Owns wr 3 1 (.slice (some ⟨g, 0, none⟩) G G) (some g) G (intsL ch)
  len : ch.length = G
  ext : Ext w wr
  n6 : w.heap.size ≤ B6
  n8 : w.heap.size ≤ B8
  ng : w.heap.size ≤ g
  d68 : B6 ≠ B8
  d6g : B6 ≠ g
  d8g : B8 ≠ g
theorem Rfd.set {w wr : World} {B6 B8 g G : Nat} {lv : Value} {ch : List Nat} (h : Rfd w wr B6 B8 g G lv ch) (i x : Nat) (hi : i < G) : Rfd w (wr.setCell ⟨g, i, none⟩ (.int .i64 x)) B6 B8 g G lv (ch.set i x) := by
  have ht : Touch (fun k => k = g) wr (wr.setCell ⟨g, i, none⟩ (.int .i64 x)) := (Touch.refl (fun k => k = g) wr).setCell (Or.inl rfl) _
  exact ⟨ht.keep h.b6 h.d6g, ht.keep h.b8 h.d8g, by rw [intsL_set]; exact h.grp.set i _ hi, by rw [List.length_set]; exact h.len, h.ext.touch ht (fun k hk e => by have := h.ng; omega), h.n6, h.n8, h.ng, h.d68, h.d6g, h.d8g⟩
theorem Rfd.touch {w wr wx : World} {B6 B8 g G : Nat} {lv : Value} {ch : List Nat} {S : Nat → Prop} (h : Rfd w wr B6 B8 g G lv ch) (ht : Touch S wr wx) (h6 : ¬ S B6) (h8 : ¬ S B8) (hg : ¬ S g) (hS : ∀ k, S k → w.heap.size ≤ k) : Rfd w wx B6 B8 g G lv ch :=
  ⟨ht.keep h.b6 h6, ht.keep h.b8 h8, h.grp.keep ht (fun q e => by cases e; exact hg), h.len, h.ext.touch ht (fun k hk e => by have := hS k e; omega), h.n6, h.n8, h.ng, h.d68, h.d6g, h.d8g⟩
theorem Rfd.at {w wr : World} {B6 B8 g G : Nat} {lv : Value} {ch : List Nat} (h : Rfd w wr B6 B8 g G lv ch) {i : Nat} (hi : i < G) : wr.cell? ⟨g, i, none⟩ = some (.int .i64 (ch.getD i 0 : Nat)) ∧ wr.frozen? ⟨g, i, none⟩ = false := by
  have hl := h.len
  refine ⟨h.grp.cell i _ ?_, h.grp.free i⟩
  have : i < ch.length := by omega
  simp [intsL, List.getD, this]
theorem arr_map (T : Array Value) (N : Nat) (hs : T.size = N) : T = ((List.range N).map fun j => T.getD j undef).toArray := by
  apply Array.ext (by simp [hs])
  intro i h1 h2
  simp [Array.getD, h1]
/-- what is known of the slots between two rounds. -/
structure LitOk (T : Array Value) (sv : Value) (n K G B6 B8 B10 k : Nat) (v11 : Value) : Prop where
  size : T.size = 120
  t0 : T.getD 0 undef = sv
  t1 : T.getD 1 undef = .int .i64 n
  t2 : T.getD 2 undef = .int .i64 K
  t6 : T.getD 6 undef = .pointer (some ⟨B6, 0, none⟩)
  t7 : T.getD 7 undef = .int .i64 G
  t8 : T.getD 8 undef = .pointer (some ⟨B8, 0, none⟩)
  t10 : T.getD 10 undef = .pointer (some ⟨B10, 0, none⟩)
  t48 : T.getD 48 undef = .int .i64 k
  t11 : T.getD 11 undef = v11
set_option maxRecDepth 10000 in
theorem lit_of {T : Array Value} {sv : Value} {n K G B6 B8 B10 k : Nat} {v11 : Value} (h : LitOk T sv n K G B6 B8 B10 k v11) : ∃ u : Nat → Value, T = #[sv, .int .i64 n, .int .i64 K, u 3, u 4, u 5, .pointer (some ⟨B6, 0, none⟩), .int .i64 G, .pointer (some ⟨B8, 0, none⟩), u 9, .pointer (some ⟨B10, 0, none⟩), v11, u 12, u 13, u 14, u 15, u 16, u 17, u 18, u 19, u 20, u 21, u 22, u 23, u 24, u 25, u 26, u 27, u 28, u 29, u 30, u 31, u 32, u 33, u 34, u 35, u 36, u 37, u 38, u 39, u 40, u 41, u 42, u 43, u 44, u 45, u 46, u 47, .int .i64 k, u 49, u 50, u 51, u 52, u 53, u 54, u 55, u 56, u 57, u 58, u 59, u 60, u 61, u 62, u 63, u 64, u 65, u 66, u 67, u 68, u 69, u 70, u 71, u 72, u 73, u 74, u 75, u 76, u 77, u 78, u 79, u 80, u 81, u 82, u 83, u 84, u 85, u 86, u 87, u 88, u 89, u 90, u 91, u 92, u 93, u 94, u 95, u 96, u 97, u 98, u 99, u 100, u 101, u 102, u 103, u 104, u 105, u 106, u 107, u 108, u 109, u 110, u 111, u 112, u 113, u 114, u 115, u 116, u 117, u 118, u 119] := by
  refine ⟨fun j => T.getD j undef, (arr_map T 120 h.size).trans ?_⟩
  rw [← h.t0, ← h.t1, ← h.t2, ← h.t6, ← h.t7, ← h.t8, ← h.t10, ← h.t11, ← h.t48]
  rfl
/-- what block id holds. -/
def blkOf (id : Nat) : Code → Option Code
  | .block i c => if i = id then some c else blkOf id c
  | .seq a b => match blkOf id a with
    | some c => some c
    | none => blkOf id b
  | .loop c => blkOf id c
  | .scope c => blkOf id c
  | .rangeFunc _ _ a b => match blkOf id a with
    | some c => some c
    | none => blkOf id b
  | .cond _ a b => match blkOf id a with
    | some c => some c
    | none => blkOf id b
  | _ => none
def fstS : Code → Code
  | .seq a _ => a
  | c => c
def sndS : Code → Code
  | .seq _ b => b
  | c => c
noncomputable def refdB2 : Code := match (Try.f32.body.bind (blkOf 2)).getD .skip with
  | .loop c => c
  | c => c
noncomputable def refdB3 : Code := (Try.f32.body.bind (blkOf 3)).getD .skip
/-- rows of counts. -/
noncomputable def cRows (c : Code) : Code := .seq (fstS refdB3) (.seq (fstS (sndS refdB3)) c)
noncomputable def cCnt : Code := fstS (sndS (sndS refdB3))
noncomputable def cNil : Code := fstS (sndS (sndS (sndS refdB3)))
noncomputable def cLens : Code := fstS (sndS (sndS (sndS (sndS refdB3))))
noncomputable def cBest : Code := sndS (sndS (sndS (sndS (sndS refdB3))))
set_option maxRecDepth 100000 in
theorem refdB3_eq : refdB3 = cRows (.seq cCnt (.seq cNil (.seq cLens cBest))) := by rfl
set_option maxRecDepth 100000 in
theorem refdB2_eq : refdB2 = .seq (fstS refdB2) (.seq (.cond (.tmp 49) .skip (.exit 2)) (.seq (.block 3 refdB3) (sndS (sndS (sndS refdB2))))) := by rfl
/-- a range's mark. -/
def markD (D : Nat) : Deferred := { target := .collected D, args := #[] }
/-- the marks' blocks. -/
structure Marks (w W : World) (Ds : List Nat) : Prop where
  here : ∀ d ∈ Ds, W.heap[d]? = some (.deferred (some []))
  new : ∀ d ∈ Ds, w.heap.size ≤ d
  nodup : Ds.Nodup
theorem Marks.touch {w W X : World} {Ds : List Nat} {S : Nat → Prop} (h : Marks w W Ds) (ht : Touch S W X) (hS : ∀ k, S k → k < W.heap.size → ∃ o : Obj, W.heap[k]? = some o ∧ o.isCells = true) : Marks w X Ds := by
  refine ⟨fun d hd => ?_, h.new, h.nodup⟩
  have h1 := h.here d hd
  refine ht.keep h1 fun hs => ?_
  obtain ⟨o, ho, hc⟩ := hS d hs (Array.getElem?_eq_some_iff.1 h1).1
  rw [h1] at ho
  cases ho
  simp [Obj.isCells] at hc
def RndI (sy : List Nat) (sv : Value) (n K G B6 B8 B10 g : Nat) (w : World) (a : Act) (W : World) : Prop := ∃ (k : Nat) (Ds : List Nat) (lv : Value), (∃ v11, LitOk a.tmps sv n K G B6 B8 B10 k v11) ∧ a.defers = Ds.map markD ∧ k ≤ 4 ∧ Rfd w W B6 B8 g G lv (chN sy n K k) ∧ Boxed W B10 69 (.func (.func 51) #[] #[.pointer (some ⟨B8, 0, none⟩)]) ∧ Marks w W Ds ∧ (∃ a l c, lv = .slice a l c) ∧ (0 < k → ∀ X, Touch (fun q => q = B6) W X → RowsV X lv (rndL sy n K (chN sy n K (k - 1))))
end Go.Proofs.Ytaabmlnbadpfgaa

/-! refine.refined: a round's rows of counts: their walk. -/
namespace Go.Proofs.Ytaabmlnbadpfgaa
open Go.RowKit Go.Shelf
set_option linter.unusedVariables false

def RB1 (w W2 : World) (fb K n : Nat) (vi : Value) (wr : World) : Prop := ∃ (i : Nat) (rb cp : Nat → Nat), vi = .int .i64 i ∧ i ≤ K ∧ FrB w wr fb rb cp K n i ∧ (∀ j, j < i → W2.heap.size ≤ rb j) ∧ Touch (fun k => k = fb) W2 wr
set_option maxRecDepth 100000 in
set_option maxHeartbeats 4000000 in
theorem refd_rows {sv : Value} {n K G B6 B8 B10 k : Nat} {v11 : Value} {T : Array Value} (c : Code) (ds : List Deferred) (W : World) (Q : Exit → Act → World → Prop) (hT : LitOk T sv n K G B6 B8 B10 k v11) (hn : 3 ≤ n ∧ n ≤ 258) (hK : 2 ≤ K ∧ K ≤ 6)
    (hQ : ∀ (T' : Array Value) (wx : World) (B11 fb : Nat) (rb cp : Nat → Nat), LitOk T' sv n K G B6 B8 B10 k (.pointer (some ⟨B11, 0, none⟩)) → FrB W wx fb rb cp K n K → Boxed wx B11 82 (.slice (some ⟨fb, 0, none⟩) K K) → B11 ≠ fb → (∀ j, j < K → rb j ≠ B11) → W.heap.size ≤ B11 → Ext W wx → c.wp Try.prog Q ⟨T', ds⟩ wx) :
    (cRows c).wp Try.prog Q ⟨T, ds⟩ W := by
  obtain ⟨u, rfl⟩ := lit_of hT
  have HQ := Lib.hid hQ
  have HK := Lib.hid (And.intro hn hK)
  clear hQ hT
  obtain ⟨w2, hmk, o1, o2⟩ := make_rowsR W K (by omega)
  have hK2 : (K : Int) ≤ 6 := by omega
  clear hn hK
  conv => arg 2; unfold cRows
  conv => arg 2; arg 1; whnf
  conv => arg 2; arg 2; arg 1; whnf
  go_wp2_with fail
  obtain ⟨fb, hfb⟩ : ∃ fb, fb = W.heap.size := ⟨_, rfl⟩
  rw [← hfb] at o1 ⊢
  obtain ⟨B11, hB11⟩ : ∃ B11, B11 = w2.heap.size := ⟨_, rfl⟩
  obtain ⟨W2, hW2⟩ : ∃ W2, W2 = w2.alloc (.cells #[.slice (some ⟨fb, 0, none⟩) K K] 82) := ⟨_, rfl⟩
  rw [← hW2, ← hB11]
  have h22 : Ext w2 W2 := by rw [hW2]; exact (Ext.refl w2).alloc _
  have HF := Lib.hid (show FrB W W2 fb (fun _ => 0) (fun _ => 0) K n 0 ∧ Boxed W2 B11 82 (.slice (some ⟨fb, 0, none⟩) K K) ∧ Ext W W2 ∧ fb < W2.heap.size ∧ B11 ≠ fb ∧ B11 < W2.heap.size ∧ W.heap.size ≤ fb ∧ W.heap.size ≤ B11 from ⟨FrB.begin _ _ (o1.ext' h22) (by rw [hfb]; exact Nat.le_refl _), by rw [hW2, hB11]; exact Boxed.new w2 _ _, o2.trans h22, Nat.lt_of_lt_of_le (o1.lt fb rfl) h22.size, by have := o1.lt fb rfl; omega, by rw [hW2, hB11]; simp, by omega, by have := o2.size; omega⟩)
  have c11 := HF.out.2.1.cell
  clear hmk o1 o2 h22 hW2 hB11 hfb
  go_loopw [12, 54] (fun _ vi wr => RB1 W W2 fb K n vi wr) (fun _ vi _ => K - (intOf vi).toNat)
  case atStart => exact ⟨0, _, _, rfl, Nat.zero_le _, HF.out.1, fun j hj => by omega, Touch.refl _ _⟩
  case round =>
    obtain ⟨i, rb, cp, rfl, hiK, hfr, hnw, ht1⟩ := hrel
    have HR1 := Lib.hid (show FrB W wr fb rb cp K n i ∧ (∀ j, j < i → W2.heap.size ≤ rb j) ∧ Touch (fun k => k = fb) W2 wr from ⟨hfr, hnw, ht1⟩)
    have hb11 : Boxed wr B11 82 (.slice (some ⟨fb, 0, none⟩) K K) := ht1.keep HF.out.2.1 HF.out.2.2.2.2.1
    have c11r := hb11.cell
    have HB11 := Lib.hid hb11
    clear hfr hnw ht1 hb11
    by_cases hlt : i < K
    · have hltz : (i : Int) < (K : Int) := by omega
      have HLT := Lib.hid hlt
      have HS1 := Lib.hid (show ∀ wx, (∃ w0 r c, Ext wr w0 ∧ Owns w0 3 1 (.slice (some ⟨r, 0, none⟩) n c) (some r) n (intsL (List.replicate n 1)) ∧ wr.heap.size ≤ r ∧ Ext (w0.setCell ⟨fb, i, none⟩ (.slice (some ⟨r, 0, none⟩) n c)) wx) → RB1 W W2 fb K n (.int .i64 ((i : Int) + 1)) wx from fun wx ⟨w0, r, c, h0, ho, hn, h1⟩ => by
        have hz := HR1.out.2.2.size
        have hfbz := HF.out.2.2.2.1
        have hm := (HR1.out.1.keep h0 (fun _ _ f => f) (fun f => f)).more hlt ho (by omega) (fun j hj e => by
          have := (HR1.out.1.rows j hj).lt _ rfl
          omega) (by have := HF.out.2.2.1.size; omega)
        refine ⟨i + 1, _, _, by go_num, by omega, hm.keep h1 (fun _ _ f => f) (fun f => f), fun j hj => ?_, ?_⟩
        · by_cases e : j = i
          · subst e; rw [upd_at]; omega
          · rw [upd_ne _ _ e]; exact HR1.out.2.1 j (by omega)
        · exact ((HR1.out.2.2.trans h0 (fun _ _ f => f.elim)).setCell (Or.inl rfl) _).trans h1 (fun _ _ f => f.elim))
      clear hlt
      go_wp2_with fail
      have hst : Stab (Phi [(11, .pointer (some ⟨B11, 0, none⟩)), (12, .int .i64 i), (1, .int .i64 n), (57, .slice (some ⟨fb, 0, none⟩) K K), (58, .int .i64 i), (60, .int .i64 n), (62, .pointer (some ⟨fb, i, none⟩))] [(59, fun v w => ∃ q, v = .slice (some ⟨q, 0, none⟩) 1 1 ∧ wr.heap.size ≤ q ∧ w.heap[q]? = some (.cells #[.int .i64 (1 : Nat)] 3 (0, 0))), (61, fun v w => ∃ r c, v = .slice (some ⟨r, 0, none⟩) n c ∧ wr.heap.size ≤ r ∧ Owns w 3 1 v (some r) n (intsL (List.replicate n 1)))]) := Phi.stable (by
          intro x hx v w1 w2 he hp
          simp only [List.mem_cons, List.not_mem_nil, or_false] at hx
          rcases hx with rfl | rfl
          · exact by obtain ⟨q, h1, h2, h3⟩ := hp; exact ⟨q, h1, h2, he.keep h3 (fun f => f)⟩
          · exact by obtain ⟨r, c, h1, h2, h3⟩ := hp; exact ⟨r, c, h1, h2, h3.ext' he⟩)
      refine wp_region_two 120 [11, 12, 1] [57, 58, 59, 60, 61, 62] 6 [0, 0, 0, 0, 0, 0, 2] (fun w1 => Ext wr w1) (fun w1 => ∃ w0 r c, Ext wr w0 ∧ Owns w0 3 1 (.slice (some ⟨r, 0, none⟩) n c) (some r) n (intsL (List.replicate n 1)) ∧ wr.heap.size ≤ r ∧ Ext (w0.setCell ⟨fb, i, none⟩ (.slice (some ⟨r, 0, none⟩) n c)) w1) (by kernel_rfl) _ hst (fun _ _ h k => h.trans k) (fun _ _ ⟨w0, r, c, h1, h2, h3, h4⟩ k => ⟨w0, r, c, h1, h2, h3, h4.trans k⟩) (by kernel_rfl) rfl rfl (fun _ => ⟨rfl, rfl, rfl, trivial⟩) (Ext.refl wr) ⟨?_, ?_, ?_, ?_, ?_, ?_, ?_, trivial⟩ ?fin
      · refine Obl.some (fun ev w1 hI hc hf hg hev => ?_)
        have h0 : ev (.tmp 11) = .pointer (some ⟨B11, 0, none⟩) := hev.1
        clear hev
        have hI : Ext wr w1 := hI
        have k := Boxed.cell (hI.keep HB11.out (fun f => f))
        exact ⟨rfl, .slice (some ⟨fb, 0, none⟩) K K, by go_simp, fun d hd => by cases hd; rfl⟩
      · refine Obl.val (.int .i64 i) (fun ev w1 hc hf hg hev => ?_) (fun d hd w1 => by cases hd; rfl)
        have h0 : ev (.tmp 12) = .int .i64 i := hev.1
        exact ⟨rfl, by (clear hev; go_simp)⟩
      · refine obl_mem (fun ev w1 hI hc hf hg hev => ?_)
        clear hev
        have hI : Ext wr w1 := hI
        refine ⟨rfl, .slice (some ⟨w1.heap.size, 0, none⟩) 1 1, w1.alloc (.cells #[.int .i64 1] 3), by go_simp, (Ext.refl w1).alloc _, fun d hd => ?_⟩
        cases hd
        exact ⟨_, rfl, hI.size, heap_alloc_new w1 _⟩
      · refine Obl.val (.int .i64 n) (fun ev w1 hc hf hg hev => ?_) (fun d hd w1 => by cases hd; rfl)
        have h0 : ev (.tmp 1) = .int .i64 n := hev.1
        exact ⟨rfl, by (clear hev; go_simp)⟩
      · refine obl_callx (fun ev w1 hI hc hf hg hev => ?_)
        have h0 : (fun v w => ∃ q, v = .slice (some ⟨q, 0, none⟩) 1 1 ∧ wr.heap.size ≤ q ∧ w.heap[q]? = some (.cells #[.int .i64 (1 : Nat)] 3 (0, 0))) (ev (.tmp 59)) w1 := hev.1; have h1 : ev (.tmp 60) = .int .i64 n := hev.2.1
        have hI : Ext wr w1 := hI
        obtain ⟨q, e59, hq, hq1⟩ := h0
        clear hev
        refine ⟨rfl, 52, #[.slice (some ⟨q, 0, none⟩) 1 1, .int .i64 n], by go_simp, ?_⟩
        refine (repi_repeat q 1 n w1 hq1 (by have := HK.out; omega) (by have := HK.out; omega)).mono ?_
        rintro e w2 ⟨v, og, rfl, ho, hnw, hx⟩
        rcases ho.form with ⟨_, _, e0, _⟩ | ⟨r, c, cur, e1, e2, _⟩
        · have := HK.out; omega
        · subst e2
          subst e1
          exact ⟨_, rfl, hx, fun d hd => by cases hd; exact ⟨r, c, rfl, Nat.le_trans hI.size (hnw r rfl), ho⟩⟩
      · refine Obl.val (.pointer (some ⟨fb, i, none⟩)) (fun ev w1 hc hf hg hev => ?_) (fun d hd w1 => by cases hd; rfl)
        have h0 : ev (.tmp 57) = .slice (some ⟨fb, 0, none⟩) K K := hev.1; have h1 : ev (.tmp 58) = .int .i64 i := hev.2.1
        clear hev
        have k := HLT.out
        exact ⟨rfl, by go_simp⟩
      · refine OblC.skip (fun ev w1 hI hc hf hg hev => ?_)
        have h0 : ev (.tmp 62) = .pointer (some ⟨fb, i, none⟩) := hev.1; have h1 : (fun v w => ∃ r c, v = .slice (some ⟨r, 0, none⟩) n c ∧ wr.heap.size ≤ r ∧ Owns w 3 1 v (some r) n (intsL (List.replicate n 1))) (ev (.tmp 61)) w1 := hev.2.1
        have hI : Ext wr w1 := hI
        obtain ⟨r, c, e61, hr, ho⟩ := h1
        have hfbz : fb < wr.heap.size := Nat.lt_of_lt_of_le HF.out.2.2.2.1 HR1.out.2.2.size
        have k := ((HR1.out.1.keep hI (fun _ _ f => f) (fun f => f)).outer.cell i (.slice none 0 0) (by have := HLT.out; rw [List.getElem?_append_right (by simp)]; simp only [List.length_map, List.length_range, Nat.sub_self, List.getElem?_replicate]; rw [if_pos (by omega)]))
        have k2 := ((HR1.out.1.keep hI (fun _ _ f => f) (fun f => f)).outer.free i)
        rw [e61] at ho
        clear hev
        refine ⟨rfl, w1.setCell ⟨fb, i, none⟩ (.slice (some ⟨r, 0, none⟩) n c), by go_simp, ⟨w1, r, c, hI, ho, hr, Ext.refl _⟩, ?_, fun d hd => by cases hd⟩
        have ht : Touch (fun k => k = fb) w1 (w1.setCell ⟨fb, i, none⟩ (.slice (some ⟨r, 0, none⟩) n c)) := (Touch.refl (fun k => k = fb) w1).setCell (Or.inl rfl) _
        intro t u _ h
        refine Phi.mono ?_ h
        intro x hx v hp
        simp only [List.mem_cons, List.not_mem_nil, or_false] at hx
        rcases hx with rfl | rfl
        · obtain ⟨q, h1, h2, h3⟩ := hp; exact ⟨q, h1, h2, ht.keep h3 (by omega)⟩
        · obtain ⟨r, c, h1, h2, h3⟩ := hp; exact ⟨r, c, h1, h2, h3.keep ht (fun g e => by cases e; omega)⟩
      case fin =>
        intro vs w5 he5 hf
        have e57 : vs 57 = .slice (some ⟨fb, 0, none⟩) K K := hf 57 (by decide)
        have e58 : vs 58 = .int .i64 i := hf 58 (by decide)
        have e60 : vs 60 = .int .i64 n := hf 60 (by decide)
        have e62 : vs 62 = .pointer (some ⟨fb, i, none⟩) := hf 62 (by decide)
        simp only [List.foldl_cons, List.foldl_nil]
        rw [e57, e58, e60, e62]
        generalize vs 59 = u59
        generalize vs 61 = u61
        simp only [Act.put, List.setIfInBounds_toArray, List.set_cons_succ, List.set_cons_zero]
        clear hf e57 e58 e60 e62
        have HE5 := Lib.hid he5
        clear he5
        go_wp2_with fail
        go_roundw
        case rel => exact HS1.out w5 HE5.out
        case measure => simp [intOf]; have := HLT.out; omega
    · obtain rfl : i = K := by omega
      have hltz : ¬ (i : Int) < (i : Int) := by omega
      clear hlt
      go_wp2_with fail
      exact HQ.out _ _ B11 fb rb cp ⟨rfl, rfl, rfl, rfl, rfl, rfl, rfl, rfl, rfl, rfl⟩ HR1.out.1 HB11.out HF.out.2.2.2.2.1 (fun j hj => by have := HR1.out.2.1 j hj; have := HF.out.2.2.2.2.2.1; omega) HF.out.2.2.2.2.2.2.2 (HF.out.2.2.1.touch HR1.out.2.2 (fun q hq e => by have := HF.out.2.2.2.2.2.2.1; omega))
end Go.Proofs.Ytaabmlnbadpfgaa

/-! refine.refined: a round's symbols are counted: its walk. -/
namespace Go.Proofs.Ytaabmlnbadpfgaa
open Go.RowKit Go.Shelf
set_option linter.unusedVariables false
attribute [local go_sem] Oper.semAt_some

/-- what is touched held cells: marks and records of loops stay. -/
theorem keeps_touch {S : Nat → Prop} {W W' : World} (h : Touch S W W') (hS : ∀ k, S k → k < W.heap.size → ∃ o : Obj, W.heap[k]? = some o ∧ o.isCells = true) : KeepsOthers W W' := ⟨h.size, fun k o ho hc => h.keep ho fun hs => by
  obtain ⟨o', h1, h2⟩ := hS k hs (block_lt ho)
  rw [ho] at h1; cases h1; rw [hc] at h2; cases h2⟩
theorem Owns.cells {w : World} {e : TypeId} {size : Nat} {v : Value} {g n : Nat} {xs : List Value} (h : Owns w e size v (some g) n xs) : ∃ o : Obj, w.heap[g]? = some o ∧ o.isCells = true := by
  rcases h.form with ⟨h1, _⟩ | ⟨g', cap, cur, h1, _, h2, _⟩
  · cases h1
  · cases h1; exact ⟨_, h2, rfl⟩
theorem Frq.cells {w wr : World} {fb : Nat} {rb cp : Nat → Nat} {K n : Nat} {Fs : Nat → List Nat} (h : Frq w wr fb rb cp K n Fs) {i : Nat} (hi : i < K) : ∃ o : Obj, wr.heap[rb i]? = some o ∧ o.isCells = true := (h.rows i hi).cells
/-- symbols are counted: t of them. -/
def CntI (W0 Wg : World) (fb : Nat) (rb cp : Nat → Nat) (K n : Nat) (ch sy : List Nat) (BG t : Nat) (W : World) : Prop := Frq W0 W fb rb cp K n (fun c => frqF ch sy n c t) ∧ Touch (fun q => q = BG ∨ ∃ j, j < K ∧ q = rb j) Wg W
def CntR (W0 Wr : World) (fb : Nat) (rb cp : Nat → Nat) (K n : Nat) (ch sy : List Nat) (x m : Nat) (vj : Value) (wr : World) : Prop := ∃ j : Nat, vj = .int .i64 j ∧ j ≤ m ∧ Frq W0 wr fb rb cp K n (fun c => frqF ch sy n c (50 * x + j)) ∧ Touch (fun q => ∃ j, j < K ∧ q = rb j) Wr wr
theorem frqF_top {ch sy : List Nat} {n c t s : Nat} (hs : s < n) : (frqF ch sy n c t).getD s 0 ≤ 1 + 16 * t := by
  rw [frqF_getD _ _ _ _ _ _ hs]; have := cntF_le ch sy c s t; omega
set_option maxRecDepth 100000 in
set_option maxHeartbeats 4000000 in
theorem refd_cnt {sa : Option Addr} {sc : Nat} {n K G B6 B8 B10 k B11 fb S : Nat} {rb cp : Nat → Nat} {lv : Value} {ch sy : List Nat} {T : Array Value} (ds : List Deferred) (w W0 W : World) (Q : Exit → Act → World → Prop) (hT : LitOk T (.slice sa S sc) n K G B6 B8 B10 k (.pointer (some ⟨B11, 0, none⟩))) (hn : 3 ≤ n ∧ n ≤ 258) (hK : 2 ≤ K ∧ K ≤ 6) (hS : S = sy.length) (h0 : 0 < S) (h9 : S ≤ 900050) (hlt : ∀ s ∈ sy, s < n) (hG : G = manyG S)
    (hs : ViewL W0 (.slice sa S sc) (intsL sy)) {g : Nat} (hr : Rfd w W0 B6 B8 g G lv ch) (hch : ∀ c ∈ ch, c < K)
    (hf : Frq W0 W fb rb cp K n (fun c => frqF ch sy n c 0)) (hb : Boxed W B11 82 (.slice (some ⟨fb, 0, none⟩) K K)) (hrb : ∀ j, j < K → rb j ≠ B11) (hx : Ext W0 W)
    (hQ : ∀ (T' : Array Value) (wx : World) (D : Nat), LitOk T' (.slice sa S sc) n K G B6 B8 B10 k (.pointer (some ⟨B11, 0, none⟩)) → Frq W0 wx fb rb cp K n (fun c => frqF ch sy n c S) → Boxed wx B11 82 (.slice (some ⟨fb, 0, none⟩) K K) → Ext W0 wx → wx.heap[D]? = some (.deferred (some [])) → W0.heap.size ≤ D → Q .normal ⟨T', markD D :: ds⟩ wx) :
    cCnt.wp Try.prog Q ⟨T, ds⟩ W := by
  obtain ⟨u, rfl⟩ := lit_of hT
  have HQ := Lib.hid hQ
  have HN := Lib.hid (show (3 ≤ n ∧ n ≤ 258) ∧ (2 ≤ K ∧ K ≤ 6) ∧ S = sy.length ∧ 0 < S ∧ S ≤ 900050 ∧ (∀ s ∈ sy, s < n) ∧ G = manyG S ∧ (∀ c ∈ ch, c < K) from ⟨hn, hK, hS, h0, h9, hlt, hG, hch⟩)
  have HIN := Lib.hid (show ViewL W0 (.slice sa S sc) (intsL sy) ∧ Rfd w W0 B6 B8 g G lv ch ∧ Frq W0 W fb rb cp K n (fun c => frqF ch sy n c 0) ∧ Boxed W B11 82 (.slice (some ⟨fb, 0, none⟩) K K) ∧ (∀ j, j < K → rb j ≠ B11) ∧ Ext W0 W from ⟨hs, hr, hf, hb, hrb, hx⟩)
  obtain ⟨sb, so, rfl, _, _⟩ := viewL_cells hs (by rw [length_intsL]; omega)
  have hSc : S ≤ sc := by
    obtain ⟨_, cap', e, hh, _⟩ := hs
    rw [length_intsL] at hh e
    cases e
    omega
  -- whatever is turned: the rows of counts, and what is new
  have HALL := Lib.hid (show ∀ wx, Touch (fun q => W0.heap.size ≤ q) W0 wx → ViewL wx (.slice (some ⟨sb, so, none⟩) S sc) (intsL sy) ∧ Rfd w wx B6 B8 g G lv ch ∧ Ext W0 wx from fun wx ht => by
    have he : Ext W0 wx := (Ext.refl W0).touch ht (fun i hi h => by omega)
    exact ⟨hs.ext he, hr.touch he (fun f => f) (fun f => f) (fun f => f) (fun k f => f.elim), he⟩)
  clear hQ hT hn hK hS h0 h9 hlt hG hs hr hch hf hb hrb hx
  refine (wpIn_wide (n := 9)).1 ?_
  conv => arg 4; whnf
  obtain ⟨BG, hBG⟩ : ∃ BG, BG = W.heap.size := ⟨_, rfl⟩
  obtain ⟨Wg, hWg⟩ : ∃ Wg, Wg = W.alloc (.cells #[.slice (some ⟨sb, so, none⟩) S sc] 23) := ⟨_, rfl⟩
  have hgx : Boxed Wg BG 23 (.slice (some ⟨sb, so, none⟩) S sc) := by rw [hWg, hBG]; exact Boxed.new W _ _
  have hxg : Ext W Wg := by rw [hWg]; exact (Ext.refl W).alloc _
  have HG := Lib.hid (show BG = W.heap.size ∧ Wg = W.alloc (.cells #[.slice (some ⟨sb, so, none⟩) S sc] 23) ∧ Boxed Wg BG 23 (.slice (some ⟨sb, so, none⟩) S sc) ∧ Ext W Wg ∧ (∀ j, j < K → rb j < W.heap.size) ∧ fb < W.heap.size ∧ B11 < W.heap.size from ⟨hBG, hWg, hgx, hxg, fun j hj => by obtain ⟨o, h, _⟩ := HIN.out.2.2.1.cells hj; exact block_lt h, World.block_lt_of_cell? _ _ (HIN.out.2.2.1.outer 0 (by have := HN.out; omega)), HIN.out.2.2.2.1.lt⟩)
  clear hBG hWg hgx hxg
  gi_wp2_with fail
  refine ⟨trivial, (callsIn_wide.2 (ref_groups _ S sc W)).mono ?_⟩
  rintro e w' ⟨rfl, rfl⟩
  gi_wp2_with fail
  rw [← HG.out.1, ← HG.out.2.1]
  refine' wpIn_range_T (T := fun k => k = BG) (gf := 46) (lb := #[.pointer (some ⟨BG, 0, none⟩)]) rfl (by decide) rfl trivial (enters_of Try.func46 (by kernel_rfl) rfl) (fun k e => by rw [e]; exact HG.out.2.2.1.lt)
    (groups_seq 8 (by decide) BG sb so S sc hSc (by have := HN.out; omega) Wg HG.out.2.2.1) kpG_t (kpG_b (n := Wg.heap.size)) (Below.refl _ _) (fun _ => rfl)
    (fun pre X => CntI W0 Wg fb rb cp K n ch sy BG (min S (50 * pre.length)) X) (fun _ _ _ => False) ?own (fun _ _ _ _ _ hs _ _ => hs) ⟨by simpa using HIN.out.2.2.1.keep HG.out.2.2.2.1 (fun _ _ f => f) (fun f => f), Touch.refl _ _⟩ _ ?assign ?body ?done ?stop
  case own =>
    rintro pre X Y row ⟨hfr, ht⟩ hg hr
    have hrow : Touch (fun q => row = some q) X Y := (Touch.refl _ X).grown hg (fun k e => Or.inl e)
    have hno : ∀ q, (∃ o : Obj, X.heap[q]? = some o ∧ o.isCells = true) → q < W.heap.size → row ≠ some q := fun q ⟨o, h1, h2⟩ hq e => by
      rcases hr q e with h | ⟨_, o', h3, h4⟩
      · have := HG.out.1; omega
      · rw [h1] at h3; cases h3; rw [h2] at h4; cases h4
    refine ⟨hfr.keep hrow (fun i hi => hno _ (hfr.cells hi) (HG.out.2.2.2.2.1 i hi)) (hno _ ?_ HG.out.2.2.2.2.2.1), ht.grown hg fun q e => ?_⟩
    · have hc := hfr.outer 0 (by have := HN.out; omega)
      obtain ⟨o, ho⟩ : ∃ o, X.heap[fb]? = some o := ⟨_, Array.getElem?_eq_getElem (World.block_lt_of_cell? _ _ hc)⟩
      refine ⟨o, ho, ?_⟩
      cases o <;> simp [World.cell?, ho] at hc <;> rfl
    · rcases hr q e with h | ⟨h, _⟩
      · exact Or.inl (Or.inl h)
      · exact Or.inr h
  case assign =>
    intro l x X K' hK'
    gi_wp2
    exact hK'
  case stop =>
    rintro D c pre X _ _ h _
    exact h.elim
  case done =>
    rintro D ys X hD hys ⟨hfr, ht⟩ hX
    have hyl : ys.length = manyG S := by have := congrArg List.length hys; simpa using this
    rw [show min S (50 * ys.length) = S by rw [hyl, manyG]; omega] at hfr
    have hz : W0.heap.size ≤ Wg.heap.size := Nat.le_trans HIN.out.2.2.2.2.2.size HG.out.2.2.2.1.size
    have hext : Touch (fun q => W0.heap.size ≤ q) W0 X := ((HIN.out.2.2.2.2.2.trans HG.out.2.2.2.1).mono (fun _ _ f => f.elim)).trans (ht.mono (fun q _ h => by
      rcases h with h | ⟨j, hj, h⟩
      · rw [h, HG.out.1]; exact HIN.out.2.2.2.2.2.size
      · rw [h]; exact HIN.out.2.2.1.new j hj)) (fun q _ h => h)
    have hb : Boxed X B11 82 (.slice (some ⟨fb, 0, none⟩) K K) := ht.keep (HG.out.2.2.2.1.keep HIN.out.2.2.2.1 (fun f => f)) (fun h => by
      rcases h with h | ⟨j, hj, h⟩
      · have := HG.out.1; have := HG.out.2.2.2.2.2.2; omega
      · exact HIN.out.2.2.2.2.1 j hj h.symm)
    have HE := Lib.hid (show Frq W0 X fb rb cp K n (fun c => frqF ch sy n c S) ∧ Boxed X B11 82 (.slice (some ⟨fb, 0, none⟩) K K) ∧ Ext W0 X ∧ X.heap[D]? = some (.deferred (some [])) ∧ W0.heap.size ≤ D from ⟨hfr, hb, (HALL.out X hext).2.2, hX, by omega⟩)
    clear hD hys hfr ht hX hyl hz hext hb
    gi_wp2_with fail
    exact HQ.out _ X D ⟨rfl, rfl, rfl, rfl, rfl, rfl, rfl, rfl, rfl, rfl⟩ HE.out.1 HE.out.2.1 HE.out.2.2.1 HE.out.2.2.2.1 HE.out.2.2.2.2
  case body =>
    rintro l pre ⟨x, hx⟩ X ⟨hfr, ht⟩ hlt hnx
    dsimp only at hx hlt hnx ⊢
    rw [show min S (50 * pre.length) = 50 * x by omega] at hfr
    obtain ⟨m, hm⟩ : ∃ m, m = min 50 (S - 50 * x) := ⟨_, rfl⟩
    have hx0 : Touch (fun q => W0.heap.size ≤ q) W0 X := ((HIN.out.2.2.2.2.2.trans HG.out.2.2.2.1).mono (fun _ _ f => f.elim)).trans (ht.mono (fun q _ h => by
      rcases h with h | ⟨j, hj, h⟩
      · rw [h, HG.out.1]; exact HIN.out.2.2.2.2.2.size
      · rw [h]; exact HIN.out.2.2.1.new j hj)) (fun q _ h => h)
    have hbX : Boxed X B11 82 (.slice (some ⟨fb, 0, none⟩) K K) := ht.keep (HG.out.2.2.2.1.keep HIN.out.2.2.2.1 (fun f => f)) (fun h => by
      rcases h with h | ⟨j, hj, h⟩
      · have := HG.out.1; have := HG.out.2.2.2.2.2.2; omega
      · exact HIN.out.2.2.2.2.1 j hj h.symm)
    -- what the round leaves
    have HEND := Lib.hid (show ∀ wx, CntR W0 X fb rb cp K n ch sy x m (.int .i64 m) wx → ownPostG Wg.heap.size (KpG BG) (fun pre X => CntI W0 Wg fb rb cp K n ch sy BG (min S (50 * pre.length)) X) (fun _ _ _ => False) (pre ++ [⟨x, hx⟩]) X .normal ⟨#[], []⟩ wx from fun wx ⟨j, e, _, h1, h2⟩ => by
      have ej : j = m := by injection e with _ e; omega
      rw [show 50 * x + j = min S (50 * (pre ++ [(⟨x, hx⟩ : GIx S)]).length) by rw [List.length_append, ← hnx, ej, hm, List.length_singleton]; omega] at h1
      refine ⟨(keeps_touch h2 fun q ⟨j, hj, h⟩ _ => by rw [h]; exact hfr.cells hj).from _, fun v hv => h2.keep hv (fun ⟨j, hj, h⟩ => ?_), h1, ht.trans h2 (fun q _ h => Or.inr h)⟩
      have := HG.out.2.2.2.2.1 j hj
      have := HG.out.1
      omega)
    have HX := Lib.hid (show Frq W0 X fb rb cp K n (fun c => frqF ch sy n c (50 * x)) ∧ Touch (fun q => W0.heap.size ≤ q) W0 X ∧ Boxed X B11 82 (.slice (some ⟨fb, 0, none⟩) K K) ∧ m = min 50 (S - 50 * x) ∧ 50 * x < S from ⟨hfr, hx0, hbX, hm, hx⟩)
    have hgv : grpV sb so S sc x = .slice (some ⟨sb, so + 50 * x, none⟩) m (sc - 50 * x) := by rw [grpV, hm]
    rw [hgv]
    have hm50 : (m : Int) ≤ 50 := by omega
    clear hfr ht hlt hnx hx0 hbX hm hgv hSc
    gi_wp2_with fail
    gi_loopw [16, 70] (fun _ vj wr => CntR W0 X fb rb cp K n ch sy x m vj wr) (fun _ vj _ => m - (intOf vj).toNat)
    case atStart => exact ⟨0, rfl, Nat.zero_le _, HX.out.1, Touch.refl _ _⟩
    case round =>
      obtain ⟨j, rfl, hj, hfr, ht⟩ := hrel
      have HR := Lib.hid (show j ≤ m ∧ Frq W0 wr fb rb cp K n (fun c => frqF ch sy n c (50 * x + j)) ∧ Touch (fun q => ∃ j, j < K ∧ q = rb j) X wr from ⟨hj, hfr, ht⟩)
      have hx1 : Touch (fun q => W0.heap.size ≤ q) W0 wr := HX.out.2.1.trans (ht.mono (fun q _ ⟨j, hj, h⟩ => by rw [h]; exact HIN.out.2.2.1.new j hj)) (fun q _ h => h)
      have hb1 : Boxed wr B11 82 (.slice (some ⟨fb, 0, none⟩) K K) := ht.keep HX.out.2.2.1 (fun ⟨j, hj, h⟩ => HIN.out.2.2.2.2.1 j hj h.symm)
      by_cases hlt : j < m
      · have hltz : (j : Int) < (m : Int) := by omega
        obtain ⟨hv, hrf, _⟩ := HALL.out wr hx1
        obtain ⟨t, ht'⟩ : ∃ t, t = 50 * x + j := ⟨_, rfl⟩
        have htS : t < S := by have := HX.out.2.2.2.1; omega
        obtain ⟨s, hs⟩ : ∃ s, s = sy.getD t 0 := ⟨_, rfl⟩
        obtain ⟨b', o', e', _, hcells⟩ := viewL_cells hv (by rw [length_intsL]; have := HN.out; omega)
        cases e'
        have htl : t < sy.length := by have := HN.out; omega
        have cs : wr.cell? ⟨sb, so + 50 * x + j, none⟩ = some (.int .i64 s) := by
          have h := hcells t (.int .i64 s) (by rw [hs]; simp [intsL, List.getD, htl])
          rw [Nat.add_assoc, ← ht']; exact h
        have hsn : s < n := by rw [hs]; have := HN.out.2.2.2.2.2.1 _ (List.getElem_mem htl); simpa [List.getD, htl] using this
        obtain ⟨c, hc⟩ : ∃ c, c = ch.getD x 0 := ⟨_, rfl⟩
        have hxG : x < G := by have := HN.out.2.2.2.2.2.2.1; have := HX.out.2.2.2.2; rw [manyG] at *; omega
        obtain ⟨cch, fch⟩ := hrf.at hxG
        rw [← hc] at cch
        have hcK : c < K := by
          have hl : x < ch.length := by rw [hrf.len]; exact hxG
          rw [hc, List.getD, List.getElem?_eq_getElem hl]
          exact HN.out.2.2.2.2.2.2.2 _ (List.getElem_mem _)
        obtain ⟨f, hf⟩ : ∃ f, f = (frqF ch sy n c t).getD s 0 := ⟨_, rfl⟩
        have cfr := hfr.cell hcK hsn
        rw [← ht', ← hf] at cfr
        have cou := hfr.outer c hcK
        have c8 := hrf.b8.cells.2.1
        have c11 := hb1.cell
        have hft : f ≤ 1 + 16 * t := by rw [hf]; exact frqF_top hsn
        have hwf : IntKind.i64.wrap ((f : Int) + 16) = ((f + 16 : Nat) : Int) := by rw [show (f : Int) + 16 = ((f + 16 : Nat) : Int) by omega]; exact IntWalk.i64_in _ (by have := HN.out; omega)
        have HC := Lib.hid (show wr.cell? ⟨B11, 0, none⟩ = some (.slice (some ⟨fb, 0, none⟩) K K) ∧ wr.cell? ⟨B8, 1, none⟩ = some (.slice (some ⟨g, 0, none⟩) G G) ∧ wr.cell? ⟨g, x, none⟩ = some (.int .i64 c) ∧ wr.cell? ⟨fb, c, none⟩ = some (.slice (some ⟨rb c, 0, none⟩) n (cp c)) ∧ wr.cell? ⟨rb c, s, none⟩ = some (.int .i64 f) ∧ wr.frozen? ⟨rb c, s, none⟩ = false ∧ c < K ∧ s < n ∧ x < G ∧ IntKind.i64.wrap ((f : Int) + 16) = ((f + 16 : Nat) : Int) from ⟨c11, c8, cch, cou, cfr.1, cfr.2, hcK, hsn, hxG, hwf⟩)
        obtain ⟨rc, hrc⟩ : ∃ rc, rc = rb c := ⟨_, rfl⟩
        obtain ⟨cc, hcc⟩ : ∃ cc, cc = cp c := ⟨_, rfl⟩
        rw [← hrc, ← hcc] at HC
        have HS1 := Lib.hid (show ∀ wx, (∃ w0, Ext wr w0 ∧ Ext (w0.setCell ⟨rc, s, none⟩ (.int .i64 (f + 16 : Nat))) wx) → CntR W0 X fb rb cp K n ch sy x m (.int .i64 ((j : Int) + 1)) wx from fun wx ⟨w0, h0, h1⟩ => by
          have hk := hfr.keep h0 (fun _ _ f => f) (fun f => f)
          rw [← ht'] at hk
          have hq := hk.count (c := c) (s := s) (by rw [hc, ht']; congr 1; omega) hs hcK hsn
          rw [← hf, ← hrc, ht'] at hq
          refine ⟨j + 1, by go_num, by omega, ?_, ?_⟩
          · exact hq.keep h1 (fun _ _ f => f) (fun f => f)
          · exact ((ht.trans h0 (fun _ _ f => f.elim)).setCell (Or.inl ⟨c, hcK, hrc⟩) _).trans h1 (fun _ _ f => f.elim))
        have HLT := Lib.hid hlt
        clear hj hfr ht hx1 hb1 hlt hv hrf ht' htS hs hcells htl hsn hc hxG cch fch hcK hf cfr cou c8 c11 hft hwf hrc hcc
        gi_wp2_with fail
        have hst : Stab (Phi [(11, .pointer (some ⟨B11, 0, none⟩)), (8, .pointer (some ⟨B8, 0, none⟩)), (13, .int .i64 x), (16, .int .i64 s), (74, .slice (some ⟨fb, 0, none⟩) K K), (75, .pointer (some ⟨B8, 1, none⟩)), (76, .slice (some ⟨g, 0, none⟩) G G), (77, .int .i64 x), (78, .pointer (some ⟨g, x, none⟩)), (79, .int .i64 c), (80, .pointer (some ⟨fb, c, none⟩)), (81, .slice (some ⟨rc, 0, none⟩) n cc), (82, .int .i64 s), (83, .pointer (some ⟨rc, s, none⟩)), (84, .int .i64 f), (85, .int .i64 (f + 16 : Nat)), (86, .pointer (some ⟨rc, s, none⟩))] []) := Phi.stable (fun x hx => by cases hx)
        refine wpIn_region_round (by kernel_rfl) (by kernel_rfl) (any_region_two 120 [11, 8, 13, 16] [74, 75, 76, 77, 78, 79, 80, 81, 82, 83, 84, 85, 86] 13 [0, 0, 0, 0, 0, 0, 0, 0, 0, 0, 0, 0, 0, 2] (fun w1 => Ext wr w1) (fun w1 => ∃ w0, Ext wr w0 ∧ Ext (w0.setCell ⟨rc, s, none⟩ (.int .i64 (f + 16 : Nat))) w1) _ hst (fun _ _ h k => h.trans k) (fun _ _ ⟨w0, h, h2⟩ k => ⟨w0, h, h2.trans k⟩) (by kernel_rfl) rfl rfl (fun _ => ⟨rfl, rfl, rfl, rfl, trivial⟩) (Ext.refl wr) ⟨?_, ?_, ?_, ?_, ?_, ?_, ?_, ?_, ?_, ?_, ?_, ?_, ?_, ?_, trivial⟩ ?fin)
        · refine Obl.some (fun ev w1 hI hc hf hg hev => ?_)
          have h0 : ev (.tmp 11) = .pointer (some ⟨B11, 0, none⟩) := hev.1
          clear hev
          have hI : Ext wr w1 := hI
          have k := cell_touch hI HC.out.1 (fun f => f)
          exact ⟨rfl, .slice (some ⟨fb, 0, none⟩) K K, by go_simp, fun d hd => by cases hd; rfl⟩
        · refine Obl.val (.pointer (some ⟨B8, 1, none⟩)) (fun ev w1 hc hf hg hev => ?_) (fun d hd w1 => by cases hd; rfl)
          have h0 : ev (.tmp 8) = .pointer (some ⟨B8, 0, none⟩) := hev.1
          exact ⟨rfl, by (clear hev; go_simp)⟩
        · refine Obl.some (fun ev w1 hI hc hf hg hev => ?_)
          have h0 : ev (.tmp 75) = .pointer (some ⟨B8, 1, none⟩) := hev.1
          clear hev
          have hI : Ext wr w1 := hI
          have k := cell_touch hI HC.out.2.1 (fun f => f)
          exact ⟨rfl, .slice (some ⟨g, 0, none⟩) G G, by go_simp, fun d hd => by cases hd; rfl⟩
        · refine Obl.val (.int .i64 x) (fun ev w1 hc hf hg hev => ?_) (fun d hd w1 => by cases hd; rfl)
          have h0 : ev (.tmp 13) = .int .i64 x := hev.1
          exact ⟨rfl, by (clear hev; go_simp)⟩
        · refine Obl.val (.pointer (some ⟨g, x, none⟩)) (fun ev w1 hc hf hg hev => ?_) (fun d hd w1 => by cases hd; rfl)
          have h0 : ev (.tmp 76) = .slice (some ⟨g, 0, none⟩) G G := hev.1; have h1 : ev (.tmp 77) = .int .i64 x := hev.2.1
          clear hev
          have k := HC.out.2.2.2.2.2.2.2.2.1
          exact ⟨rfl, by go_simp⟩
        · refine Obl.some (fun ev w1 hI hc hf hg hev => ?_)
          have h0 : ev (.tmp 78) = .pointer (some ⟨g, x, none⟩) := hev.1
          clear hev
          have hI : Ext wr w1 := hI
          have k := cell_touch hI HC.out.2.2.1 (fun f => f)
          exact ⟨rfl, .int .i64 c, by go_simp, fun d hd => by cases hd; rfl⟩
        · refine Obl.val (.pointer (some ⟨fb, c, none⟩)) (fun ev w1 hc hf hg hev => ?_) (fun d hd w1 => by cases hd; rfl)
          have h0 : ev (.tmp 74) = .slice (some ⟨fb, 0, none⟩) K K := hev.1; have h1 : ev (.tmp 79) = .int .i64 c := hev.2.1
          clear hev
          have k := HC.out.2.2.2.2.2.2.1
          exact ⟨rfl, by go_simp⟩
        · refine Obl.some (fun ev w1 hI hc hf hg hev => ?_)
          have h0 : ev (.tmp 80) = .pointer (some ⟨fb, c, none⟩) := hev.1
          clear hev
          have hI : Ext wr w1 := hI
          have k := cell_touch hI HC.out.2.2.2.1 (fun f => f)
          exact ⟨rfl, .slice (some ⟨rc, 0, none⟩) n cc, by go_simp, fun d hd => by cases hd; rfl⟩
        · refine Obl.val (.int .i64 s) (fun ev w1 hc hf hg hev => ?_) (fun d hd w1 => by cases hd; rfl)
          have h0 : ev (.tmp 16) = .int .i64 s := hev.1
          exact ⟨rfl, by (clear hev; go_simp)⟩
        · refine Obl.val (.pointer (some ⟨rc, s, none⟩)) (fun ev w1 hc hf hg hev => ?_) (fun d hd w1 => by cases hd; rfl)
          have h0 : ev (.tmp 81) = .slice (some ⟨rc, 0, none⟩) n cc := hev.1; have h1 : ev (.tmp 82) = .int .i64 s := hev.2.1
          clear hev
          have k := HC.out.2.2.2.2.2.2.2.1
          exact ⟨rfl, by go_simp⟩
        · refine Obl.some (fun ev w1 hI hc hf hg hev => ?_)
          have h0 : ev (.tmp 83) = .pointer (some ⟨rc, s, none⟩) := hev.1
          clear hev
          have hI : Ext wr w1 := hI
          have k := cell_touch hI HC.out.2.2.2.2.1 (fun f => f)
          exact ⟨rfl, .int .i64 f, by go_simp, fun d hd => by cases hd; rfl⟩
        · refine Obl.some (fun ev w1 hI hc hf hg hev => ?_)
          have h0 : ev (.tmp 84) = .int .i64 f := hev.1
          clear hev
          have k := HC.out.2.2.2.2.2.2.2.2.2
          exact ⟨rfl, .int .i64 (f + 16 : Nat), by go_simp, fun d hd => by cases hd; rfl⟩
        · refine Obl.val (.pointer (some ⟨rc, s, none⟩)) (fun ev w1 hc hf hg hev => ?_) (fun d hd w1 => by cases hd; rfl)
          have h0 : ev (.tmp 81) = .slice (some ⟨rc, 0, none⟩) n cc := hev.1; have h1 : ev (.tmp 82) = .int .i64 s := hev.2.1
          clear hev
          have k := HC.out.2.2.2.2.2.2.2.1
          exact ⟨rfl, by go_simp⟩
        · refine OblC.skip (fun ev w1 hI hc hf hg hev => ?_)
          have h0 : ev (.tmp 86) = .pointer (some ⟨rc, s, none⟩) := hev.1; have h1 : ev (.tmp 85) = .int .i64 (f + 16 : Nat) := hev.2.1
          have hI : Ext wr w1 := hI
          have k := cell_touch hI HC.out.2.2.2.2.1 (fun f => f)
          have k2 := (hI.frozen (p := ⟨rc, s, none⟩) (World.block_lt_of_cell? _ _ HC.out.2.2.2.2.1) (fun f => f)).trans HC.out.2.2.2.2.2.1
          clear hev
          refine ⟨rfl, w1.setCell ⟨rc, s, none⟩ (.int .i64 (f + 16 : Nat)), by go_simp, ⟨w1, hI, Ext.refl _⟩, ?_, fun d hd => by cases hd⟩
          intro t u _ h
          exact h
        case fin =>
          intro vs w5 he5 hf
          have e74 : vs 74 = .slice (some ⟨fb, 0, none⟩) K K := hf 74 (by decide)
          have e75 : vs 75 = .pointer (some ⟨B8, 1, none⟩) := hf 75 (by decide)
          have e76 : vs 76 = .slice (some ⟨g, 0, none⟩) G G := hf 76 (by decide)
          have e77 : vs 77 = .int .i64 x := hf 77 (by decide)
          have e78 : vs 78 = .pointer (some ⟨g, x, none⟩) := hf 78 (by decide)
          have e79 : vs 79 = .int .i64 c := hf 79 (by decide)
          have e80 : vs 80 = .pointer (some ⟨fb, c, none⟩) := hf 80 (by decide)
          have e81 : vs 81 = .slice (some ⟨rc, 0, none⟩) n cc := hf 81 (by decide)
          have e82 : vs 82 = .int .i64 s := hf 82 (by decide)
          have e83 : vs 83 = .pointer (some ⟨rc, s, none⟩) := hf 83 (by decide)
          have e84 : vs 84 = .int .i64 f := hf 84 (by decide)
          have e85 : vs 85 = .int .i64 (f + 16 : Nat) := hf 85 (by decide)
          have e86 : vs 86 = .pointer (some ⟨rc, s, none⟩) := hf 86 (by decide)
          simp only [List.foldl_cons, List.foldl_nil]
          rw [e74, e75, e76, e77, e78, e79, e80, e81, e82, e83, e84, e85, e86]
          simp only [Act.put, List.setIfInBounds_toArray, List.set_cons_succ, List.set_cons_zero]
          clear hf e74 e75 e76 e77 e78 e79 e80 e81 e82 e83 e84 e85 e86
          refine ⟨rfl, ?_⟩
          have HE5 := Lib.hid he5
          clear he5
          gi_wp2_with fail
          exact ⟨HS1.out w5 HE5.out, by simp [intOf]; have := HLT.out; omega⟩
      · obtain rfl : j = m := by omega
        have hltz : ¬ (j : Int) < (j : Int) := by omega
        have HE := Lib.hid (HEND.out wr ⟨j, rfl, Nat.le_refl _, HR.out.2.1, HR.out.2.2⟩)
        clear hj hfr ht hx1 hb1 hlt
        gi_wp2_with fail
        exact HE.out
end Go.Proofs.Ytaabmlnbadpfgaa

/-! refine.refined: a round's codes are made: their walk. -/
namespace Go.Proofs.Ytaabmlnbadpfgaa
open Go.RowKit Go.Shelf
set_option linter.unusedVariables false

theorem info_u8row : (Try.prog.info? 24).map (fun i => (i.zero, i.size, i.bytes)) = some (some (.slice none 0 0), 1, 24) := by kernel_rfl
/-- i codes are made: their row lies in block og, each in a block of its own. -/
structure LnI (W1 wr : World) (B8 : Nat) (gv lv : Value) (i n : Nat) (Ls : Nat → List Nat) (us : List Value) (og : Option Nat) : Prop where
  box : Box2 wr B8 lv gv
  own : Owns wr 24 1 lv og i us
  new : ∀ q, og = some q → W1.heap.size ≤ q
  rows : ∀ j, j < i → ∃ u oj, us[j]? = some u ∧ Owns wr 5 1 u oj n (u8s (Ls j)) ∧ ∀ q, oj = some q → W1.heap.size ≤ q ∧ og ≠ some q
  touch : Touch (fun q => q = B8) W1 wr
theorem LnI.more {W1 wr w3 w5 : World} {B8 i n : Nat} {gv lv u v' : Value} {Ls : Nat → List Nat} {us : List Value} {og : Option Nat} {o : Obj} (h : LnI W1 wr B8 gv lv i n Ls us og) (hB : B8 < W1.heap.size) (hbo : BO wr (Ls i) u w3) (hl : (Ls i).length = n)
    (hown : w5.ownsRow 0 24 1 v' (i + 1) (us ++ [u])) (hgrow : (w3.alloc o).grownBy w5 lv.ownBlock) (hat : v'.ownBlock = lv.ownBlock ∨ v'.ownBlock = some (w3.alloc o).heap.size) : LnI W1 (w5.setCell ⟨B8, 0, none⟩ v') B8 gv v' (i + 1) n Ls (us ++ [u]) v'.ownBlock := by
  obtain ⟨oi, b1, b2, b3⟩ := hbo
  rw [hl] at b1
  have e0 : lv.ownBlock = og := h.own.2
  rw [e0] at hgrow hat
  have hx3 : Ext wr (w3.alloc o) := b3.alloc o
  have h35 : Touch (fun q => og = some q) (w3.alloc o) w5 := (Touch.refl _ _).grown hgrow (fun q e => Or.inl e)
  have h05 : Touch (fun q => og = some q) wr w5 := (hx3.mono (fun _ _ f => f.elim)).trans h35 (fun _ _ h => h)
  have h56 : Touch (fun q => q = B8) w5 (w5.setCell ⟨B8, 0, none⟩ v') := (Touch.refl (fun q => q = B8) w5).setCell (Or.inl rfl) _
  have hsz : (w3.alloc o).heap.size = w3.heap.size + 1 := World.size_alloc _ _
  have hog8 : ∀ q, og = some q → q ≠ B8 := fun q e e2 => by have := h.new q e; omega
  have hW : W1.heap.size ≤ wr.heap.size := h.touch.size
  have hnew' : ∀ q, v'.ownBlock = some q → W1.heap.size ≤ q := fun q e => by
    rcases hat with r | r
    · exact h.new q (by rw [← r]; exact e)
    · rw [r, hsz] at e; cases e; have := b3.size; omega
  have hlo : ∀ q, og = some q → q < wr.heap.size := fun q e => h.own.lt q e
  refine ⟨?_, ?_, hnew', fun j hj => ?_, ?_⟩
  · have hb5 : Box2 w5 B8 lv gv := h05.keep h.box (fun e => hog8 B8 e rfl)
    have h2 := heap_setCell_at (a := ⟨B8, 0, none⟩) (u := v') hb5 rfl
    simpa [Box2] using h2
  · exact (show Owns w5 24 1 v' v'.ownBlock (i + 1) (us ++ [u]) from ⟨hown, rfl⟩).keep h56 (fun q e e2 => by have := hnew' q e; omega)
  · have hul : us.length = i := by simpa using h.own.1.1
    have fin : ∀ (x : Value) (ox : Option Nat) (L : List Nat), Owns (w3.alloc o) 5 1 x ox n (u8s L) → (∀ q, ox = some q → W1.heap.size ≤ q ∧ og ≠ some q ∧ q < w3.heap.size) → Owns (w5.setCell ⟨B8, 0, none⟩ v') 5 1 x ox n (u8s L) ∧ ∀ q, ox = some q → W1.heap.size ≤ q ∧ v'.ownBlock ≠ some q := fun x ox L hx hq => by
      refine ⟨(hx.keep h35 (fun q e => (hq q e).2.1)).keep h56 (fun q e e2 => by have := (hq q e).1; omega), fun q e => ⟨(hq q e).1, fun e2 => ?_⟩⟩
      rcases hat with r | r
      · exact (hq q e).2.1 (by rw [← r]; exact e2)
      · rw [r, hsz] at e2; cases e2; have := (hq _ e).2.2; omega
    by_cases e : j = i
    · subst e
      have := fin u oi (Ls j) (b1.ext' ((Ext.refl w3).alloc o)) (fun q e => ⟨Nat.le_trans hW (b2 q e), fun e2 => by have := hlo q e2; have := b2 q e; omega, b1.lt q e⟩)
      exact ⟨u, oi, by rw [← hul, List.getElem?_append_right (Nat.le_refl _), Nat.sub_self]; rfl, this.1, this.2⟩
    · obtain ⟨x, ox, r1, r2, r3⟩ := h.rows j (by omega)
      have := fin x ox (Ls j) (r2.ext' hx3) (fun q e => ⟨(r3 q e).1, (r3 q e).2, Nat.lt_of_lt_of_le (r2.lt q e) b3.size⟩)
      exact ⟨x, ox, by rw [List.getElem?_append_left (by omega)]; exact r1, this.1, this.2⟩
  · exact (h.touch.trans h05 (fun q hq e => by have := h.new q e; omega)).trans h56 (fun q _ h => h)
theorem LnI.read {W1 wr : World} {B8 n K : Nat} {gv lv : Value} {Ls : Nat → List Nat} {us : List Value} {og : Option Nat} (h : LnI W1 wr B8 gv lv K n Ls us og) : RowsV wr lv ((List.range K).map Ls) := by
  have hul : us.length = K := by simpa using h.own.1.1
  refine ⟨us, h.own.viewL, by simp [hul], fun k u L hu hL => ?_⟩
  have hk : k < K := by have := (List.getElem?_eq_some_iff.1 hu).1; omega
  obtain ⟨x, ox, r1, r2, r3⟩ := h.rows k hk
  rw [hu] at r1; cases r1
  simp [hk] at hL
  subst hL
  exact r2.viewL
/-- the rows are read behind whatever is turned of what lay there before. -/
theorem LnI.readT {W1 wr X : World} {B8 n K : Nat} {gv lv : Value} {Ls : Nat → List Nat} {us : List Value} {og : Option Nat} {S : Nat → Prop} (h : LnI W1 wr B8 gv lv K n Ls us og) (ht : Touch S wr X) (hS : ∀ q, S q → q < W1.heap.size) : RowsV X lv ((List.range K).map Ls) := by
  have hul : us.length = K := by simpa using h.own.1.1
  refine ⟨us, (h.own.keep ht (fun q e hs => by have := h.new q e; have := hS q hs; omega)).viewL, by simp [hul], fun k u L hu hL => ?_⟩
  have hk : k < K := by have := (List.getElem?_eq_some_iff.1 hu).1; omega
  obtain ⟨x, ox, r1, r2, r3⟩ := h.rows k hk
  rw [hu] at r1; cases r1
  simp [hk] at hL
  subst hL
  exact (r2.keep ht (fun q e hs => by have := (r3 q e).1; have := hS q hs; omega)).viewL
theorem lens_of (v : Value) (F : List Nat) (w : World) (hv : ViewL w v (intsL F)) (hl : F.length ≤ 258) (h1 : ∀ x ∈ F, 1 ≤ x ∧ x ≤ 2 ^ 40) :
    Calls Try.prog 53 #[v, .int .i64 17] w fun e w' => ∃ ov, e = .returned (.tuple #[ov, .int .i64 0]) ∧ BO w (lensC F) ov w' :=
  lim_len v F (ordC F) 17 w hv (by omega) (by omega) (by omega) (fun x hx => (h1 x hx).2) (ordC_ord F) (by rw [ordC_len (fun x hx => (h1 x hx).1)]; omega)
theorem refd_nil {sv : Value} {n K G B6 B8 B10 k : Nat} {v11 : Value} {T : Array Value} (ds : List Deferred) (W : World) (Q : Exit → Act → World → Prop) (hT : LitOk T sv n K G B6 B8 B10 k v11) {la lc : Nat} {lo : Option Addr} {gv : Value} (hb : Box2 W B8 (.slice lo la lc) gv)
    (hQ : ∀ (T' : Array Value), LitOk T' sv n K G B6 B8 B10 k v11 → Box2 (W.setCell ⟨B8, 0, none⟩ (.slice none 0 0)) B8 (.slice none 0 0) gv → Q .normal ⟨T', ds⟩ (W.setCell ⟨B8, 0, none⟩ (.slice none 0 0))) :
    cNil.wp Try.prog Q ⟨T, ds⟩ W := by
  obtain ⟨u, rfl⟩ := lit_of hT
  have HQ := Lib.hid hQ
  obtain ⟨c1, c2, f1, f2⟩ := hb.cells
  have HB := Lib.hid (show Box2 (W.setCell ⟨B8, 0, none⟩ (.slice none 0 0)) B8 (.slice none 0 0) gv from by
    have h2 := heap_setCell_at (a := ⟨B8, 0, none⟩) (u := .slice none 0 0) hb rfl
    simpa [Box2] using h2)
  clear hQ hT hb
  conv => arg 2; whnf
  go_wp2_with fail
  exact HQ.out _ ⟨rfl, rfl, rfl, rfl, rfl, rfl, rfl, rfl, rfl, rfl⟩ HB.out
set_option maxRecDepth 100000 in
set_option maxHeartbeats 4000000 in
theorem refd_lens {sv : Value} {n K G B6 B8 B10 k B11 fb : Nat} {rb cp : Nat → Nat} {gv : Value} {Fs : Nat → List Nat} {T : Array Value} (ds : List Deferred) (W0 W : World) (Q : Exit → Act → World → Prop) (hT : LitOk T sv n K G B6 B8 B10 k (.pointer (some ⟨B11, 0, none⟩))) (hn : 3 ≤ n ∧ n ≤ 258) (hK : 2 ≤ K ∧ K ≤ 6)
    (hf : Frq W0 W fb rb cp K n Fs) (hF : ∀ c, c < K → ∀ x ∈ Fs c, 1 ≤ x ∧ x ≤ 2 ^ 40) (hb : Boxed W B11 82 (.slice (some ⟨fb, 0, none⟩) K K)) (h11 : B11 ≠ B8) (h8 : B8 < W0.heap.size) (hz : W0.heap.size ≤ W.heap.size) (hbx : Box2 W B8 (.slice none 0 0) gv)
    (hQ : ∀ (T' : Array Value) (wx : World) (lv : Value), LitOk T' sv n K G B6 B8 B10 k (.pointer (some ⟨B11, 0, none⟩)) → Box2 wx B8 lv gv → (∀ (X : World) (S : Nat → Prop), Touch S wx X → (∀ q, S q → q < W.heap.size) → RowsV X lv ((List.range K).map fun c => lensC (Fs c))) → Touch (fun q => q = B8) W wx → Q .normal ⟨T', ds⟩ wx) :
    cLens.wp Try.prog Q ⟨T, ds⟩ W := by
  obtain ⟨u, rfl⟩ := lit_of hT
  obtain ⟨i0, hi, hz0, hz1, hz2⟩ := info_parts info_u8row
  have HQ := Lib.hid hQ
  have HN := Lib.hid (show (3 ≤ n ∧ n ≤ 258) ∧ (2 ≤ K ∧ K ≤ 6) ∧ B8 < W.heap.size ∧ B11 ≠ B8 ∧ (∀ c, c < K → ∀ x ∈ Fs c, 1 ≤ x ∧ x ≤ 2 ^ 40) ∧ (∀ j, j < K → rb j ≠ B8) ∧ fb ≠ B8 from ⟨hn, hK, by omega, h11, hF, fun j hj => by have := hf.new j hj; omega, by have := hf.newO; omega⟩)
  have HF := Lib.hid (And.intro hf hb)
  have HST := Lib.hid (show LnI W W B8 gv (.slice none 0 0) 0 n (fun c => lensC (Fs c)) [] none from ⟨hbx, Owns.nil _ _ _, fun q e => (by cases e), fun j hj => by omega, Touch.refl _ _⟩)
  have hK2 : (K : Int) ≤ 6 := by omega
  have c11 := hb.cell
  have HI := Lib.hid (And.intro hi (And.intro hz0 (And.intro hz1 hz2)))
  clear hQ hT hn hK hf hF hb h11 h8 hz hbx hi hz0 hz1 hz2
  conv => arg 2; whnf
  go_wp2_with fail
  go_loopw [18, 91] (fun _ vi wr => ∃ (i : Nat) (lv : Value) (us : List Value) (og : Option Nat), vi = .int .i64 i ∧ i ≤ K ∧ LnI W wr B8 gv lv i n (fun c => lensC (Fs c)) us og) (fun _ vi _ => K - (intOf vi).toNat)
  case atStart => exact ⟨0, _, _, _, rfl, Nat.zero_le _, HST.out⟩
  case round =>
    obtain ⟨i, lv, us, og, rfl, hiK, hl⟩ := hrel
    obtain ⟨lo, lc, rfl⟩ := hl.own.shape
    have HL := Lib.hid hl
    have hfr : Frq W0 wr fb rb cp K n Fs := HF.out.1.keep hl.touch (fun j hj => HN.out.2.2.2.2.2.1 j hj) HN.out.2.2.2.2.2.2
    have HFR := Lib.hid hfr
    by_cases hlt : i < K
    · have hltz : (i : Int) < (K : Int) := by omega
      have cou := hfr.outer i hlt
      obtain ⟨r, hr⟩ : ∃ r, r = rb i := ⟨_, rfl⟩
      obtain ⟨c, hc⟩ : ∃ c, c = cp i := ⟨_, rfl⟩
      rw [← hr, ← hc] at cou
      have hcall := lens_of (.slice (some ⟨r, 0, none⟩) n c) (Fs i) wr (by rw [hr, hc]; exact (hfr.rows i hlt).viewL) (by rw [hfr.len i hlt]; exact HN.out.1.2) (HN.out.2.2.2.2.1 i hlt)
      have HCALL := Lib.hid hcall
      have HLT := Lib.hid hlt
      have hgl : (lensC (Fs i)).length = n := (lensC_good (hfr.len i hlt) HN.out.1.1 HN.out.1.2 (fun x hx => (HN.out.2.2.2.2.1 i hlt x hx).1)).1
      have HGL := Lib.hid hgl
      clear hl hfr hlt hcall hgl hr hc
      go_wp2_with fail
      refine HCALL.out.mono ?_
      rintro e w3 ⟨ov, rfl, hbo⟩
      obtain ⟨va, vc, rfl⟩ : ∃ va vc, ov = .slice va n vc := by
        obtain ⟨oi, b1, _⟩ := hbo
        obtain ⟨va, vc, e⟩ := b1.shape
        rw [HGL.out] at e
        exact ⟨va, vc, e⟩
      have HBO := Lib.hid hbo
      have hx3 : Ext wr w3 := by obtain ⟨_, _, _, h⟩ := hbo; exact h
      have HX3 := Lib.hid hx3
      have hb3 : Box2 w3 B8 (.slice lo i lc) gv := hx3.keep HL.out.box (fun f => f)
      obtain ⟨c8, _, f8, _⟩ := hb3.cells
      have HOW := Lib.hid ((HL.out.own.ext' hx3).1)
      have hb4 : Box2 (w3.alloc (.cells #[.slice va n vc] 24)) B8 (.slice lo i lc) gv := ((Ext.refl w3).alloc _).keep hb3 (fun f => f)
      have HB4 := Lib.hid hb4
      have hx4 : Ext w3 (w3.alloc (.cells #[.slice va n vc] 24)) := (Ext.refl w3).alloc _
      have HOW4 := Lib.hid (((HL.out.own.ext' hx3).ext' hx4).1)
      have hi6 : i ≤ 6 := by have := HN.out; have := HLT.out; omega
      have HI6 := Lib.hid hi6
      have HZI := HI.out
      clear hbo hx3 hb3 hb4 hx4 hi6 c11 cou HZI
      go_wp2_with (at_builtin; go_must (refine wpList_append_own_at _ rfl (.tmp 101) (.tmp 103) 22 rfl 0 24 i0 (.slice none 0 0) 1 24 Try.underlying22 HI.out.1 HI.out.2.1 HI.out.2.2.1 HI.out.2.2.2 rfl (by decide) _ i us rfl HOW4.out ⟨w3.heap.size, 0, none⟩ 1 1 [_] rfl rfl (cell_one_new _ _ _) (by simp [Value.oneCell']) (by have := HI6.out; unfold maxLen; omega) (by have := HI6.out; omega) (Nat.zero_le _) ?_))
      intro v' w5 hown hgrow _ hat
      obtain ⟨g', cap', rfl⟩ := ownsRow_form hown (by omega)
      have HM := Lib.hid (HL.out.more HN.out.2.2.1 HBO.out HGL.out hown hgrow (by rw [World.size_alloc]; exact hat))
      have hb5 : Box2 w5 B8 (.slice lo i lc) gv := by
        refine Touch.keep (S := fun q => (Value.slice lo i lc).ownBlock = some q) ((Touch.refl _ _).grown hgrow (fun q e => Or.inl e)) HB4.out (fun e => ?_)
        rw [show (Value.slice lo i lc).ownBlock = og from HL.out.own.2] at e
        have := HL.out.new B8 e
        have := HN.out.2.2.1
        omega
      obtain ⟨c85, _, f85, _⟩ := hb5.cells
      clear hown hgrow hat hb5
      go_wp2_with fail
      go_roundw
      case rel => exact ⟨i + 1, _, _, _, by go_num, by have := HLT.out; omega, HM.out⟩
      case measure => simp [intOf]; have := HLT.out; omega
    · obtain rfl : i = K := by omega
      have hltz : ¬ (i : Int) < (i : Int) := by omega
      clear hl hfr hlt
      go_wp2_with fail
      exact HQ.out _ wr (.slice lo i lc) ⟨rfl, rfl, rfl, rfl, rfl, rfl, rfl, rfl, rfl, rfl⟩ HL.out.box (fun X S ht hS => HL.out.readT ht hS) HL.out.touch
end Go.Proofs.Ytaabmlnbadpfgaa

/-! refine.refined: a round's groups choose: their walk. -/
namespace Go.Proofs.Ytaabmlnbadpfgaa
open Go.RowKit Go.Shelf
set_option linter.unusedVariables false
attribute [local go_sem] Oper.semAt_some

/-- x groups have chosen. -/
def chsL (Ls : List (List Nat)) (sy ch : List Nat) (x : Nat) : List Nat := (List.range x).map (fun i => bestN Ls (grpS sy i)) ++ ch.drop x
theorem chsL_zero (Ls : List (List Nat)) (sy ch : List Nat) : chsL Ls sy ch 0 = ch := by simp [chsL]
theorem chsL_set {Ls : List (List Nat)} {sy ch : List Nat} {x : Nat} (h : x < ch.length) : (chsL Ls sy ch x).set x (bestN Ls (grpS sy x)) = chsL Ls sy ch (x + 1) := by
  rw [chsL, List.set_append_right _ _ (by simp), List.length_map, List.length_range, Nat.sub_self, List.drop_eq_getElem_cons h, List.set_cons_zero, chsL, List.range_succ, List.map_append, List.append_assoc]
  rfl
def BstI (w W0 Wg : World) (B6 B8 g G : Nat) (lv : Value) (Ls : List (List Nat)) (sy ch : List Nat) (BG x : Nat) (W : World) : Prop := Rfd w W B6 B8 g G lv (chsL Ls sy ch x) ∧ Touch (fun q => q = BG ∨ q = g) Wg W
set_option maxRecDepth 100000 in
set_option maxHeartbeats 4000000 in
theorem refd_best {sa : Option Addr} {sc : Nat} {n K G B6 B8 B10 k S : Nat} {lv v11 : Value} {ch sy : List Nat} {Ls : List (List Nat)} {T : Array Value} (ds : List Deferred) (w W : World) (Q : Exit → Act → World → Prop) (hT : LitOk T (.slice sa S sc) n K G B6 B8 B10 k v11) (hn : n ≤ 258) (hLK : Ls.length ≤ 6) (hS : S = sy.length) (h0 : 0 < S) (h9 : S ≤ 900050) (hlt : ∀ s ∈ sy, s < n) (hG : G = manyG S)
    (hs : ViewL w (.slice sa S sc) (intsL sy)) {g : Nat} (hr : Rfd w W B6 B8 g G lv ch) (hL : RowsV W lv Ls) (hgd : ∀ L ∈ Ls, L.length = n ∧ ∀ x ∈ L, x < 256) (hLg : ∀ X, Touch (fun q => q = g) W X → RowsV X lv Ls)
    (hb : Boxed W B10 69 (.func (.func 51) #[] #[.pointer (some ⟨B8, 0, none⟩)])) (h10 : B10 ≠ g)
    (hQ : ∀ (T' : Array Value) (wx : World) (D : Nat), LitOk T' (.slice sa S sc) n K G B6 B8 B10 k v11 → Rfd w wx B6 B8 g G lv ((List.range G).map fun i => bestN Ls (grpS sy i)) → Touch (fun q => q = g) W wx → wx.heap[D]? = some (.deferred (some [])) → W.heap.size ≤ D → Q .normal ⟨T', markD D :: ds⟩ wx) :
    cBest.wp Try.prog Q ⟨T, ds⟩ W := by
  obtain ⟨u, rfl⟩ := lit_of hT
  have HQ := Lib.hid hQ
  have HN := Lib.hid (show n ≤ 258 ∧ Ls.length ≤ 6 ∧ S = sy.length ∧ 0 < S ∧ S ≤ 900050 ∧ (∀ s ∈ sy, s < n) ∧ G = manyG S ∧ (∀ L ∈ Ls, L.length = n ∧ ∀ x ∈ L, x < 256) from ⟨hn, hLK, hS, h0, h9, hlt, hG, hgd⟩)
  have HIN := Lib.hid (show ViewL w (.slice sa S sc) (intsL sy) ∧ Rfd w W B6 B8 g G lv ch ∧ (∀ X, Touch (fun q => q = g) W X → RowsV X lv Ls) ∧ Boxed W B10 69 (.func (.func 51) #[] #[.pointer (some ⟨B8, 0, none⟩)]) ∧ B10 ≠ g from ⟨hs, hr, hLg, hb, h10⟩)
  obtain ⟨sb, so, rfl, _, _⟩ := viewL_cells hs (by rw [length_intsL]; omega)
  have hSc : S ≤ sc := by
    obtain ⟨_, cap', e, hh, _⟩ := hs
    rw [length_intsL] at hh e
    cases e
    omega
  clear hQ hT hn hLK hS h0 h9 hlt hG hs hr hL hgd hLg hb h10
  refine (wpIn_wide (n := 9)).1 ?_
  conv => arg 4; whnf
  obtain ⟨BG, hBG⟩ : ∃ BG, BG = W.heap.size := ⟨_, rfl⟩
  obtain ⟨Wg, hWg⟩ : ∃ Wg, Wg = W.alloc (.cells #[.slice (some ⟨sb, so, none⟩) S sc] 23) := ⟨_, rfl⟩
  have hgx : Boxed Wg BG 23 (.slice (some ⟨sb, so, none⟩) S sc) := by rw [hWg, hBG]; exact Boxed.new W _ _
  have hxg : Ext W Wg := by rw [hWg]; exact (Ext.refl W).alloc _
  have HG := Lib.hid (show BG = W.heap.size ∧ Wg = W.alloc (.cells #[.slice (some ⟨sb, so, none⟩) S sc] 23) ∧ Boxed Wg BG 23 (.slice (some ⟨sb, so, none⟩) S sc) ∧ Ext W Wg ∧ g < W.heap.size ∧ B10 < W.heap.size ∧ B6 < W.heap.size ∧ B8 < W.heap.size from ⟨hBG, hWg, hgx, hxg, HIN.out.2.1.grp.lt g rfl, HIN.out.2.2.2.1.lt, block_lt HIN.out.2.1.b6, block_lt HIN.out.2.1.b8⟩)
  clear hBG hWg hgx hxg
  gi_wp2_with fail
  refine ⟨trivial, (callsIn_wide.2 (ref_groups _ S sc W)).mono ?_⟩
  rintro e w' ⟨rfl, rfl⟩
  gi_wp2_with fail
  rw [← HG.out.1, ← HG.out.2.1]
  refine' wpIn_range_T (T := fun k => k = BG) (gf := 46) (lb := #[.pointer (some ⟨BG, 0, none⟩)]) rfl (by decide) rfl trivial (enters_of Try.func46 (by kernel_rfl) rfl) (fun k e => by rw [e]; exact HG.out.2.2.1.lt)
    (groups_seq 8 (by decide) BG sb so S sc hSc (by have := HN.out; omega) Wg HG.out.2.2.1) kpG_t (kpG_b (n := Wg.heap.size)) (Below.refl _ _) (fun _ => rfl)
    (fun pre X => BstI w W Wg B6 B8 g G lv Ls sy ch BG pre.length X) (fun _ _ _ => False) ?own (fun _ _ _ _ _ hs _ _ => hs) ⟨by rw [List.length_nil, chsL_zero]; exact HIN.out.2.1.touch HG.out.2.2.2.1 (fun f => f) (fun f => f) (fun f => f) (fun k f => f.elim), Touch.refl _ _⟩ _ ?assign ?body ?done ?stop
  case own =>
    rintro pre X Y row ⟨hfr, ht⟩ hg hr
    have hrow : Touch (fun q => row = some q) X Y := (Touch.refl _ X).grown hg (fun k e => Or.inl e)
    have hno : ∀ q, (∃ o : Obj, X.heap[q]? = some o ∧ o.isCells = true) → q < W.heap.size → row ≠ some q := fun q ⟨o, h1, h2⟩ hq e => by
      rcases hr q e with h | ⟨_, o', h3, h4⟩
      · have := HG.out.1; omega
      · rw [h1] at h3; cases h3; rw [h2] at h4; cases h4
    refine ⟨hfr.touch hrow (hno _ ⟨_, hfr.b6, rfl⟩ HG.out.2.2.2.2.2.2.1) (hno _ ⟨_, hfr.b8, rfl⟩ HG.out.2.2.2.2.2.2.2) (hno _ hfr.grp.cells HG.out.2.2.2.2.1) (fun q e => ?_), ht.grown hg fun q e => ?_⟩
    · have h2 := HIN.out.2.1.ext.size
      have h3 := HG.out.2.2.2.1.size
      rcases hr q e with h | ⟨h, _⟩
      · have := HG.out.1; omega
      · omega
    · rcases hr q e with h | ⟨h, _⟩
      · exact Or.inl (Or.inl h)
      · exact Or.inr h
  case assign =>
    intro l x X K' hK'
    gi_wp2
    exact hK'
  case stop =>
    rintro D c pre X _ _ h _
    exact h.elim
  case done =>
    rintro D ys X hD hys ⟨hfr, ht⟩ hX
    have hyl : ys.length = G := by have := congrArg List.length hys; have := HN.out; simp at *; omega
    have hlen : ch.length = G := HIN.out.2.1.len
    have hch : chsL Ls sy ch ys.length = (List.range G).map fun i => bestN Ls (grpS sy i) := by rw [chsL, hyl, List.drop_of_length_le (by omega), List.append_nil]
    rw [hch] at hfr
    have hWX : Touch (fun q => q = g) W X := ⟨ht.os.trans HG.out.2.2.2.1.os, ht.tape.trans HG.out.2.2.2.1.tape, ht.output.trans HG.out.2.2.2.1.output, Nat.le_trans HG.out.2.2.2.1.size ht.size, fun q hq hn => (ht.block q (Nat.lt_of_lt_of_le hq HG.out.2.2.2.1.size) (fun h => by rcases h with h | h; (have := HG.out.1; omega); exact hn h)).trans (HG.out.2.2.2.1.block q hq (fun f => f))⟩
    have HE := Lib.hid (show Rfd w X B6 B8 g G lv ((List.range G).map fun i => bestN Ls (grpS sy i)) ∧ Touch (fun q => q = g) W X ∧ X.heap[D]? = some (.deferred (some [])) ∧ W.heap.size ≤ D from ⟨hfr, hWX, hX, Nat.le_trans HG.out.2.2.2.1.size hD⟩)
    clear hD hys hfr ht hX hyl hlen hch hWX
    gi_wp2_with fail
    exact HQ.out _ X D ⟨rfl, rfl, rfl, rfl, rfl, rfl, rfl, rfl, rfl, rfl⟩ HE.out.1 HE.out.2.1 HE.out.2.2.1 HE.out.2.2.2
  case body =>
    rintro l pre ⟨x, hx⟩ X ⟨hfr, ht⟩ hlt hnx
    dsimp only at hx hlt hnx ⊢
    rw [← hnx] at hfr
    have hxG : x < G := by have := HN.out.2.2.2.2.2.2.1; rw [manyG] at this; omega
    have hWX : Touch (fun q => q = g) W X := ⟨ht.os.trans HG.out.2.2.2.1.os, ht.tape.trans HG.out.2.2.2.1.tape, ht.output.trans HG.out.2.2.2.1.output, Nat.le_trans HG.out.2.2.2.1.size ht.size, fun q hq hn => (ht.block q (Nat.lt_of_lt_of_le hq HG.out.2.2.2.1.size) (fun h => by rcases h with h | h; (have := HG.out.1; omega); exact hn h)).trans (HG.out.2.2.2.1.block q hq (fun f => f))⟩
    obtain ⟨y, hy⟩ : ∃ y, y = bestN Ls (grpS sy x) := ⟨_, rfl⟩
    have hLX := HIN.out.2.2.1 X hWX
    have hb10 : Boxed X B10 69 (.func (.func 51) #[] #[.pointer (some ⟨B8, 0, none⟩)]) := hWX.keep HIN.out.2.2.2.1 HIN.out.2.2.2.2
    have hbest : ∀ wx, Ext X wx → Calls Try.prog 51 #[grpV sb so S sc x, .pointer (some ⟨B8, 0, none⟩)] wx fun e w' => e = .returned (.int .i64 y) ∧ Ext wx w' := fun wx hwx => by
      rw [hy]
      have hvw : ViewL wx (.slice (some ⟨sb, so, none⟩) S sc) (intsL sy) := (HIN.out.1.ext hfr.ext).ext hwx
      exact ref_best B8 lv _ Ls (grpS sy x) n wx (cell_touch hwx hfr.b8.cells.1 (fun f => f)) (hLX.ext hwx) (view_grp hvw HN.out.2.2.1 hx) HN.out.2.2.2.2.2.2.2 (fun s hs => HN.out.2.2.2.2.2.1 s (List.mem_of_mem_drop (List.mem_of_mem_take hs))) (by rw [grpS, List.length_take]; omega) (by have := HN.out; omega)
    have HBST := Lib.hid hbest
    have HC := Lib.hid (show Rfd w X B6 B8 g G lv (chsL Ls sy ch x) ∧ Boxed X B10 69 (.func (.func 51) #[] #[.pointer (some ⟨B8, 0, none⟩)]) ∧ x < G from ⟨hfr, hb10, hxG⟩)
    have HEND := Lib.hid (show ∀ w0 wx, Ext X w0 → Ext (w0.setCell ⟨g, x, none⟩ (.int .i64 y)) wx → ownPostG Wg.heap.size (KpG BG) (fun pre X => BstI w W Wg B6 B8 g G lv Ls sy ch BG pre.length X) (fun _ _ _ => False) (pre ++ [⟨x, hx⟩]) X .normal ⟨#[], []⟩ wx from fun w0 wx h0 h1 => by
      have ht2 : Touch (fun q => q = g) X wx := ((h0.mono (fun _ _ f => f.elim)).trans ((Touch.refl (fun k => k = g) w0).setCell (Or.inl rfl) _) (fun _ _ h => h)).trans (h1.mono (fun _ _ f => f.elim)) (fun _ _ h => h)
      have hgB : g ≠ BG := by have := HG.out.1; have := HG.out.2.2.2.2.1; omega
      refine ⟨(keeps_touch ht2 fun q h _ => by rw [h]; exact hfr.grp.cells).from _, fun v hv => ht2.keep hv (fun h => hgB h.symm), ?_, ht.trans ht2 (fun q _ h => Or.inr h)⟩
      have h2 := ((hfr.touch h0 (fun f => f) (fun f => f) (fun f => f) (fun k f => f.elim)).set x y hxG).touch h1 (fun f => f) (fun f => f) (fun f => f) (fun k f => f.elim)
      rw [hy, chsL_set (by rw [HIN.out.2.1.len]; exact hxG)] at h2
      rw [List.length_append, ← hnx, List.length_singleton]
      exact h2)
    clear hfr ht hlt hnx hxG hWX hy hLX hb10 hbest hSc
    gi_wp2_with fail
    have hst : Stab (Phi [(8, .pointer (some ⟨B8, 0, none⟩)), (21, .int .i64 x), (10, .pointer (some ⟨B10, 0, none⟩)), (22, grpV sb so S sc x), (111, .pointer (some ⟨B8, 1, none⟩)), (112, .slice (some ⟨g, 0, none⟩) G G), (113, .int .i64 x), (114, .func (.func 51) #[] #[.pointer (some ⟨B8, 0, none⟩)]), (115, grpV sb so S sc x), (116, .int .i64 y), (117, .pointer (some ⟨g, x, none⟩))] []) := Phi.stable (fun x hx => by cases hx)
    refine wpIn_region_round (by kernel_rfl) (by kernel_rfl) (any_region_two 120 [8, 21, 10, 22] [111, 112, 113, 114, 115, 116, 117] 7 [0, 0, 0, 0, 0, 0, 0, 2] (fun w1 => Ext X w1) (fun w1 => ∃ w0, Ext X w0 ∧ Ext (w0.setCell ⟨g, x, none⟩ (.int .i64 y)) w1) _ hst (fun _ _ h k => h.trans k) (fun _ _ ⟨w0, h, h2⟩ k => ⟨w0, h, h2.trans k⟩) (by kernel_rfl) rfl rfl (fun _ => ⟨rfl, rfl, rfl, rfl, trivial⟩) (Ext.refl X) ⟨?_, ?_, ?_, ?_, ?_, ?_, ?_, ?_, trivial⟩ ?fin)
    · refine Obl.val (.pointer (some ⟨B8, 1, none⟩)) (fun ev w1 hc hf hg hev => ?_) (fun d hd w1 => by cases hd; rfl)
      have h0 : ev (.tmp 8) = .pointer (some ⟨B8, 0, none⟩) := hev.1
      exact ⟨rfl, by (clear hev; go_simp)⟩
    · refine Obl.some (fun ev w1 hI hc hf hg hev => ?_)
      have h0 : ev (.tmp 111) = .pointer (some ⟨B8, 1, none⟩) := hev.1
      clear hev
      have hI : Ext X w1 := hI
      have hr1 := HC.out.1.touch hI (fun f => f) (fun f => f) (fun f => f) (fun k f => f.elim)
      have k := hr1.b8.cells.2.1
      exact ⟨rfl, .slice (some ⟨g, 0, none⟩) G G, by go_simp, fun d hd => by cases hd; rfl⟩
    · refine Obl.val (.int .i64 x) (fun ev w1 hc hf hg hev => ?_) (fun d hd w1 => by cases hd; rfl)
      have h0 : ev (.tmp 21) = .int .i64 x := hev.1
      exact ⟨rfl, by (clear hev; go_simp)⟩
    · refine Obl.some (fun ev w1 hI hc hf hg hev => ?_)
      have h0 : ev (.tmp 10) = .pointer (some ⟨B10, 0, none⟩) := hev.1
      clear hev
      have hI : Ext X w1 := hI
      have k := Boxed.cell (hI.keep HC.out.2.1 (fun f => f))
      exact ⟨rfl, .func (.func 51) #[] #[.pointer (some ⟨B8, 0, none⟩)], by go_simp, fun d hd => by cases hd; rfl⟩
    · refine Obl.val (grpV sb so S sc x) (fun ev w1 hc hf hg hev => ?_) (fun d hd w1 => by cases hd; rfl)
      have h0 : ev (.tmp 22) = grpV sb so S sc x := hev.1
      exact ⟨rfl, by (clear hev; go_simp)⟩
    · refine Obl.call 51 #[grpV sb so S sc x, .pointer (some ⟨B8, 0, none⟩)] (fun ev w1 hI hc hf hg hev => ?_)
      have h0 : ev (.tmp 114) = .func (.func 51) #[] #[.pointer (some ⟨B8, 0, none⟩)] := hev.1; have h1 : ev (.tmp 115) = grpV sb so S sc x := hev.2.1
      refine ⟨rfl, by (clear hev; go_simp), ?_⟩
      have hI : Ext X w1 := hI
      refine (HBST.out w1 hI).mono ?_
      rintro e w2 ⟨rfl, hx⟩
      exact ⟨_, rfl, hx, fun d hd => by cases hd; rfl⟩
    · refine Obl.val (.pointer (some ⟨g, x, none⟩)) (fun ev w1 hc hf hg hev => ?_) (fun d hd w1 => by cases hd; rfl)
      have h0 : ev (.tmp 112) = .slice (some ⟨g, 0, none⟩) G G := hev.1; have h1 : ev (.tmp 113) = .int .i64 x := hev.2.1
      clear hev
      have k := HC.out.2.2
      exact ⟨rfl, by go_simp⟩
    · refine OblC.skip (fun ev w1 hI hc hf hg hev => ?_)
      have h0 : ev (.tmp 117) = .pointer (some ⟨g, x, none⟩) := hev.1; have h1 : ev (.tmp 116) = .int .i64 y := hev.2.1
      have hI : Ext X w1 := hI
      have hr1 := HC.out.1.touch hI (fun f => f) (fun f => f) (fun f => f) (fun k f => f.elim)
      have k := (hr1.at HC.out.2.2).1
      have k2 := (hr1.at HC.out.2.2).2
      clear hev
      refine ⟨rfl, w1.setCell ⟨g, x, none⟩ (.int .i64 y), by go_simp, ⟨w1, hI, Ext.refl _⟩, ?_, fun d hd => by cases hd⟩
      intro t u _ h
      exact h
    case fin =>
      intro vs w5 he5 hf
      have e111 : vs 111 = .pointer (some ⟨B8, 1, none⟩) := hf 111 (by decide)
      have e112 : vs 112 = .slice (some ⟨g, 0, none⟩) G G := hf 112 (by decide)
      have e113 : vs 113 = .int .i64 x := hf 113 (by decide)
      have e114 : vs 114 = .func (.func 51) #[] #[.pointer (some ⟨B8, 0, none⟩)] := hf 114 (by decide)
      have e115 : vs 115 = grpV sb so S sc x := hf 115 (by decide)
      have e116 : vs 116 = .int .i64 y := hf 116 (by decide)
      have e117 : vs 117 = .pointer (some ⟨g, x, none⟩) := hf 117 (by decide)
      simp only [List.foldl_cons, List.foldl_nil]
      rw [e111, e112, e113, e114, e115, e116, e117]
      simp only [Act.put, List.setIfInBounds_toArray, List.set_cons_succ, List.set_cons_zero]
      clear hf e111 e112 e113 e114 e115 e116 e117
      refine ⟨rfl, ?_⟩
      obtain ⟨w0, hx0, hx1⟩ := he5
      have HE := Lib.hid (HEND.out _ _ hx0 hx1)
      clear hx0 hx1
      gi_wp2_with fail
      exact HE.out
end Go.Proofs.Ytaabmlnbadpfgaa

/-! refine.refined: a round: its pieces, one behind the other. -/
namespace Go.Proofs.Ytaabmlnbadpfgaa
open Go.RowKit Go.Shelf
set_option linter.unusedVariables false

theorem rndL_good {sy ch : List Nat} {n K : Nat} (hn : 3 ≤ n ∧ n ≤ 258) : ∀ L ∈ rndL sy n K ch, L.length = n ∧ (∀ x ∈ L, x < 256) ∧ GoodC L n := fun L hL => by
  obtain ⟨c, _, rfl⟩ := List.mem_map.1 hL
  have h := lensC_good (n := n) (length_frqF ch sy n c sy.length) hn.1 hn.2 (fun x hx => (frqF_pos ch sy n c sy.length x hx).1)
  exact ⟨h.1, fun x hx => by have := h.2.1 x hx; omega, h⟩
theorem chN_lt {sy : List Nat} {n K : Nat} (hK : 2 ≤ K) (h0 : 0 < sy.length) : ∀ k, ∀ c ∈ chN sy n K k, c < K
  | 0, c, hc => by
    rw [chN, ch0] at hc
    obtain ⟨i, hi, rfl⟩ := List.mem_map.1 hc
    have hi := List.mem_range.1 hi
    rw [Nat.div_lt_iff_lt_mul (by omega), Nat.mul_comm K]
    exact Nat.mul_lt_mul_of_pos_right hi (by omega)
  | k + 1, c, hc => by
    rw [chN, rndC] at hc
    obtain ⟨i, hi, rfl⟩ := List.mem_map.1 hc
    have := bestTo_lt (rndL sy n K (chN sy n K k)) (grpS sy i) K (by omega)
    rw [bestN, show (rndL sy n K (chN sy n K k)).length = K by simp [rndL]]
    exact this
theorem rows_keep {W X : World} {S : Nat → Prop} {lv : Value} {Ls : List (List Nat)} (h : RowsV W lv Ls) (ht : Touch S W X) (hS : ∀ k, S k → k < W.heap.size → False) : RowsV X lv Ls := h.ext (ht.mono (fun k hk h => hS k h hk))
set_option maxHeartbeats 4000000 in
theorem refd_body {sa : Option Addr} {sc : Nat} {n K G B6 B8 B10 k S : Nat} {v11 lv : Value} {ch sy : List Nat} {T : Array Value} (ds : List Deferred) (w W : World) (Q : Exit → Act → World → Prop) (hT : LitOk T (.slice sa S sc) n K G B6 B8 B10 k v11) (hn : 3 ≤ n ∧ n ≤ 258) (hK : 2 ≤ K ∧ K ≤ 6) (hS : S = sy.length) (h0 : 0 < S) (h9 : S ≤ 900050) (hlt : ∀ s ∈ sy, s < n) (hG : G = manyG S)
    (hs : ViewL w (.slice sa S sc) (intsL sy)) {g : Nat} (hr : Rfd w W B6 B8 g G lv ch) (hch : ∀ c ∈ ch, c < K) (hlv : ∃ a l c, lv = .slice a l c)
    (hb : Boxed W B10 69 (.func (.func 51) #[] #[.pointer (some ⟨B8, 0, none⟩)])) (h10 : B10 ≠ g) (h108 : B10 ≠ B8)
    (hQ : ∀ (T' : Array Value) (wx : World) (D1 D2 : Nat) (lv' v11' : Value), LitOk T' (.slice sa S sc) n K G B6 B8 B10 k v11' → Rfd w wx B6 B8 g G lv' (rndC sy n K ch) → (∀ X, Touch (fun q => q = B6) wx X → RowsV X lv' (rndL sy n K ch)) → Touch (fun q => q = B8 ∨ q = g) W wx → wx.heap[D1]? = some (.deferred (some [])) → wx.heap[D2]? = some (.deferred (some [])) → W.heap.size ≤ D1 → W.heap.size ≤ D2 → D1 ≠ D2 → Q .normal ⟨T', markD D2 :: markD D1 :: ds⟩ wx) :
    refdB3.wp Try.prog Q ⟨T, ds⟩ W := by
  rw [refdB3_eq]
  have h8 : B8 < W.heap.size := block_lt hr.b8
  have hgl : g < W.heap.size := hr.grp.lt g rfl
  have h6 : B6 < W.heap.size := block_lt hr.b6
  refine refd_rows _ ds W Q hT hn hK fun T1 w1 B11 fb rb cp hT1 hf1 hb1 hne1 hrb1 h11 hx1 => ?_
  have hf1' := hf1.done ch sy
  refine wp_seq (refd_cnt ds w W w1 _ hT1 hn hK hS h0 h9 hlt hG (hs.ext hr.ext) hr hch hf1' hb1 hrb1 hx1 fun T2 w2 D1 hT2 hf2 hb2 hx2 hD1 hD1n => ?_)
  show Code.wp _ (.seq cNil (.seq cLens cBest)) _ _ _
  have hr2 : Rfd w w2 B6 B8 g G lv ch := hr.touch hx2 (fun f => f) (fun f => f) (fun f => f) (fun k f => f.elim)
  obtain ⟨la, ll, lc, rfl⟩ := hlv
  refine wp_seq (refd_nil _ w2 _ hT2 hr2.b8 fun T3 hT3 hb3 => ?_)
  show Code.wp _ (.seq cLens cBest) _ _ _
  obtain ⟨w3, hw3⟩ : ∃ w3, w3 = w2.setCell ⟨B8, 0, none⟩ (.slice none 0 0) := ⟨_, rfl⟩
  rw [← hw3] at hb3 ⊢
  have ht3 : Touch (fun q => q = B8) w2 w3 := by rw [hw3]; exact (Touch.refl (fun q => q = B8) w2).setCell (Or.inl rfl) _
  have h11B : B11 ≠ B8 := by omega
  have hsz2 := hx2.size
  have hsz3 := ht3.size
  have hf3 := hf2.keep ht3 (fun j hj e => by have := hf2.new j hj; omega) (fun e => by have := hf2.newO; omega)
  refine wp_seq (refd_lens _ W w3 _ hT3 hn hK hf3 (fun c hc x hx => by have := frqF_pos ch sy n c S x hx; omega) (ht3.keep hb2 h11B) h11B h8 (by omega) hb3 fun T4 w4 lv4 hT4 hb4 hL4 ht4 => ?_)
  show Code.wp _ cBest _ _ _
  have hsz4 := ht4.size
  have ht24 : Touch (fun q => q = B8) w2 w4 := ht3.trans ht4 (fun q _ h => h)
  have hr4 : Rfd w w4 B6 B8 g G lv4 ch := ⟨ht24.keep hr2.b6 hr2.d68, hb4, hr2.grp.keep ht24 (fun q e => by cases e; exact fun e2 => hr2.d8g e2.symm), hr2.len, hr2.ext.touch ht24 (fun q hq e => by have := hr2.n8; omega), hr2.n6, hr2.n8, hr2.ng, hr2.d68, hr2.d6g, hr2.d8g⟩
  have hLs : ((List.range K).map fun c => lensC (frqF ch sy n c S)) = rndL sy n K ch := by rw [rndL, hS]
  rw [hLs] at hL4
  have hb10 : Boxed w4 B10 69 (.func (.func 51) #[] #[.pointer (some ⟨B8, 0, none⟩)]) := ht24.keep (hx2.keep hb (fun f => f)) h108
  have hD14 : w4.heap[D1]? = some (.deferred (some [])) := ht24.keep hD1 (fun e => by omega)
  refine refd_best _ w w4 _ hT4 hn.2 (by rw [rndL]; simp; omega) hS h0 h9 hlt hG hs hr4 (hL4 w4 _ (Ext.refl _) (fun q f => f.elim)) (fun L hL => ⟨(rndL_good hn L hL).1, (rndL_good hn L hL).2.1⟩) (fun X hX => ?_) hb10 h10 fun T5 w5 D2 hT5 hr5 ht5 hD2 hD2n => ?_
  · exact hL4 X _ hX (fun q e => by omega)
  · have hsz5 := ht5.size
    have ht25 : Touch (fun q => q = B8 ∨ q = g) w2 w5 := (ht24.mono (fun q _ h => Or.inl h)).trans ht5 (fun q _ h => Or.inr h)
    refine hQ T5 w5 D1 D2 lv4 _ hT5 ?_ (fun X hX => hL4 X (fun q => q = g ∨ q = B6) ((ht5.mono (fun q _ h => Or.inl h)).trans hX (fun q _ h => Or.inr h)) (fun q h => by rcases h with h | h <;> omega)) (hx2.trans' ht25) (ht5.keep hD14 (fun e => by omega)) hD2 hD1n (by omega) (fun e => by have := block_lt hD14; omega)
    rw [rndC, ← hS, ← hG]
    exact hr5
/-- what stands between two rounds, as the loop's law asks. -/
def muR (a : Act) (_ : World) : Nat := 4 - (intOf (a.tmps.getD 48 undef)).toNat
set_option maxHeartbeats 4000000 in
theorem refd_test {sv : Value} {n K G B6 B8 B10 k : Nat} {v11 : Value} {T : Array Value} (ds : List Deferred) (W : World) (Q : Exit → Act → World → Prop) (hT : LitOk T sv n K G B6 B8 B10 k v11)
    (hQ : ∀ (T' : Array Value), LitOk T' sv n K G B6 B8 B10 k v11 → T'.getD 49 undef = .bool (decide (k < 4)) → Q .normal ⟨T', ds⟩ W) :
    (fstS refdB2).wp Try.prog Q ⟨T, ds⟩ W := by
  obtain ⟨u, rfl⟩ := lit_of hT
  have HQ := Lib.hid hQ
  clear hQ hT
  conv => arg 2; whnf
  by_cases hk : k < 4
  · have hkz : (k : Int) < 4 := by omega
    have HK := Lib.hid hk
    clear hk
    go_wp2_with fail
    exact HQ.out _ ⟨rfl, rfl, rfl, rfl, rfl, rfl, rfl, rfl, rfl, rfl⟩ (by rw [decide_eq_true HK.out]; rfl)
  · have hkz : ¬ (k : Int) < 4 := by omega
    have HK := Lib.hid hk
    clear hk
    go_wp2_with fail
    exact HQ.out _ ⟨rfl, rfl, rfl, rfl, rfl, rfl, rfl, rfl, rfl, rfl⟩ (by rw [decide_eq_false HK.out]; rfl)
set_option maxHeartbeats 4000000 in
theorem refd_next {sv : Value} {n K G B6 B8 B10 k : Nat} {v11 : Value} {T : Array Value} (ds : List Deferred) (W : World) (Q : Exit → Act → World → Prop) (hT : LitOk T sv n K G B6 B8 B10 k v11) (hk : k < 4)
    (hQ : ∀ (T' : Array Value), LitOk T' sv n K G B6 B8 B10 (k + 1) v11 → Q .normal ⟨T', ds⟩ W) :
    (sndS (sndS (sndS refdB2))).wp Try.prog Q ⟨T, ds⟩ W := by
  obtain ⟨u, rfl⟩ := lit_of hT
  have HQ := Lib.hid hQ
  have hkz : (k : Int) < 4 := by omega
  clear hQ hT hk
  conv => arg 2; whnf
  go_wp2_with fail
  exact HQ.out _ ⟨rfl, rfl, rfl, rfl, rfl, rfl, rfl, rfl, by go_num, rfl⟩
set_option maxRecDepth 100000 in
set_option maxHeartbeats 4000000 in
theorem refd_round {sa : Option Addr} {sc : Nat} {n K G B6 B8 B10 g S : Nat} {sy : List Nat} {T : Array Value} {ds : List Deferred} (w W : World) (Q : Exit → Act → World → Prop) (hn : 3 ≤ n ∧ n ≤ 258) (hK : 2 ≤ K ∧ K ≤ 6) (hS : S = sy.length) (h0 : 0 < S) (h9 : S ≤ 900050) (hlt : ∀ s ∈ sy, s < n) (hG : G = manyG S)
    (hs : ViewL w (.slice sa S sc) (intsL sy)) (h10 : B10 ≠ g) (h108 : B10 ≠ B8) (hI : RndI sy (.slice sa S sc) n K G B6 B8 B10 g w ⟨T, ds⟩ W)
    (hQ : ∀ (T' : Array Value) (v11 : Value), RndI sy (.slice sa S sc) n K G B6 B8 B10 g w ⟨T', ds⟩ W → LitOk T' (.slice sa S sc) n K G B6 B8 B10 4 v11 → Q (.exit 2) ⟨T', ds⟩ W) :
    refdB2.wp Try.prog (Exit.then (fun a' W' => RndI sy (.slice sa S sc) n K G B6 B8 B10 g w a' W' ∧ muR a' W' < muR ⟨T, ds⟩ W) Q) ⟨T, ds⟩ W := by
  obtain ⟨k, Ds, lv, ⟨v11, hT⟩, hds, hk, hr, hb, hm, hv⟩ := hI
  dsimp only at hT hds
  have hmu : muR ⟨T, ds⟩ W = 4 - k := by unfold muR; dsimp only; rw [hT.t48]; simp [intOf]
  rw [hmu, refdB2_eq]
  refine wp_seq (refd_test ds W _ hT fun T1 hT1 h49 => ?_)
  show Code.wp _ (.seq _ _) _ _ _
  by_cases hk4 : k < 4
  · refine wp_seq (wp_cond_true (by rw [← decide_eq_true hk4]; exact h49) (wp_skip ?_))
    show Code.wp _ (.seq _ _) _ _ _
    refine wp_seq (wp_block ?_)
    refine refd_body (lv := lv) ds w W _ hT1 hn hK hS h0 h9 hlt hG hs hr (chN_lt hK.1 (by omega) k) hv.1 hb h10 h108 fun T' wx D1 D2 lv' v11' hT' hr' hL' ht' hd1 hd2 hn1 hn2 hne => ?_
    show Code.wp _ (sndS (sndS (sndS refdB2))) _ _ _
    have hw : w.heap.size ≤ W.heap.size := hr.ext.size
    have h8 := hr.b8
    have hgc := hr.grp.cells
    refine refd_next _ wx _ hT' hk4 fun T2 hT2 => ?_
    refine ⟨⟨k + 1, D2 :: D1 :: Ds, lv', ⟨v11', hT2⟩, by simp [hds], by omega, by rw [chN]; exact hr', ht'.keep hb (fun h => by rcases h with h | h; exact h108 h; exact h10 h), ⟨fun d hd => ?_, fun d hd => ?_, ?_⟩, ?_, fun _ => by rw [Nat.add_sub_cancel]; exact hL'⟩, ?_⟩
    · rcases List.mem_cons.1 hd with rfl | hd
      · exact hd2
      · rcases List.mem_cons.1 hd with rfl | hd
        · exact hd1
        · refine ht'.keep (hm.here d hd) (fun h => ?_)
          have h1 := hm.here d hd
          rcases h with rfl | rfl
          · rw [show W.heap[d]? = _ from h8] at h1; cases h1
          · obtain ⟨o, ho, hc⟩ := hgc
            rw [h1] at ho; cases ho; cases hc
    · rcases List.mem_cons.1 hd with rfl | hd
      · omega
      · rcases List.mem_cons.1 hd with rfl | hd
        · omega
        · exact hm.new d hd
    · have hold : ∀ d ∈ Ds, d < W.heap.size := fun d hd => block_lt (hm.here d hd)
      refine List.nodup_cons.2 ⟨fun h => ?_, List.nodup_cons.2 ⟨fun h => ?_, hm.nodup⟩⟩
      · rcases List.mem_cons.1 h with h | h
        · exact hne h.symm
        · have := hold _ h; omega
      · have := hold _ h; omega
    · obtain ⟨ao, cap, e⟩ := (hL' wx (Touch.refl _ _)).shape
      exact ⟨_, _, _, e⟩
    · unfold muR; dsimp only; rw [hT2.t48]; simp [intOf]; omega
  · obtain rfl : k = 4 := by omega
    refine wp_seq (wp_cond_false (by rw [← decide_eq_false hk4]; exact h49) (wp_exit ?_))
    exact hQ T1 v11 ⟨4, Ds, lv, ⟨v11, hT1⟩, hds, hk, hr, hb, hm, hv⟩ hT1
/-- what is turned held no cells: what is read stays. -/
theorem cell_isCells {w : World} {b o : Nat} {v : Value} (h : w.cell? ⟨b, o, none⟩ = some v) : ∃ ob : Obj, w.heap[b]? = some ob ∧ ob.isCells = true := by
  obtain ⟨ob, ho⟩ : ∃ ob, w.heap[b]? = some ob := ⟨_, Array.getElem?_eq_getElem (World.block_lt_of_cell? _ _ h)⟩
  refine ⟨ob, ho, ?_⟩
  cases ob <;> simp [World.cell?, ho] at h <;> rfl
theorem ViewL.calm {S : Nat → Prop} {w X : World} {v : Value} {xs : List Value} (h : ViewL w v xs) (ht : Touch S w X) (hS : ∀ q, S q → ∀ o : Obj, w.heap[q]? = some o → o.isCells = false) : ViewL X v xs := by
  obtain ⟨ao, cap, rfl, h1, h2, h3⟩ := h
  refine ⟨ao, cap, rfl, h1, h2, fun h0 => ?_⟩
  obtain ⟨b, o, rfl, hc⟩ := h3 h0
  refine ⟨b, o, rfl, fun j u hu => cell_touch ht (hc j u hu) fun hs => ?_⟩
  obtain ⟨ob, k1, k2⟩ := cell_isCells (hc j u hu)
  rw [hS b hs ob k1] at k2; cases k2
theorem RowsV.calm {S : Nat → Prop} {w X : World} {v : Value} {Ls : List (List Nat)} (h : RowsV w v Ls) (ht : Touch S w X) (hS : ∀ q, S q → ∀ o : Obj, w.heap[q]? = some o → o.isCells = false) : RowsV X v Ls := by
  obtain ⟨us, h1, h2, h3⟩ := h
  exact ⟨us, h1.calm ht hS, h2, fun k u L a b => (h3 k u L a b).calm ht hS⟩
/-- a function whose deferred calls are marks. -/
theorem leaves_marks {F : Fence} {n : Nat} {P : Program} {fn : Func} {tmps : Array Value} {R : Ending → World → Prop} : ∀ (Ds : List Nat) (w : World), Ds.Nodup → (∀ d ∈ Ds, w.heap[d]? = some (.deferred (some []))) → (∀ X, Touch (fun q => q ∈ Ds) w X → LeavesIn F n P fn tmps R [] .returning X) → LeavesInM F n P fn tmps R (Ds.map markD) .returning w
  | [], w, _, _, h => h w (Touch.refl _ _)
  | d :: Ds, w, hn, hd, h => by
    have hn' := List.nodup_cons.1 hn
    have ht : Touch (fun q => q ∈ d :: Ds) w (w.putObj d (.deferred none)) := (Touch.refl _ w).grown (grownBy_putObj' w d _) (fun k e => by cases e; exact Or.inl (List.mem_cons_self ..))
    refine ⟨by simp, .inl ⟨d, _, rfl, run_takeDeferred (hd d (List.mem_cons_self ..)), leaves_marks Ds _ hn'.2 (fun e he => ?_) (fun X hX => ?_)⟩⟩
    · exact (World.putObj_heap_other (fun e2 => hn'.1 (by rw [← e2]; exact he))).trans (hd e (List.mem_cons_of_mem _ he))
    · exact h X (ht.trans hX (fun q _ hq => List.mem_cons_of_mem _ hq))
end Go.Proofs.Ytaabmlnbadpfgaa

/-! refine.refined: its walk. -/
namespace Go.Proofs.Ytaabmlnbadpfgaa
open Go.RowKit Go.Shelf
set_option linter.unusedVariables false
attribute [local go_sem] Oper.semAt_some

/-- the groups' row as it is begun. -/
def begL (G K i : Nat) : List Nat := (List.range i).map (fun j => j * K / G) ++ List.replicate (G - i) 0
theorem begL_set {G K i : Nat} (h : i < G) : (begL G K i).set i (i * K / G) = begL G K (i + 1) := by
  rw [begL, List.set_append_right _ _ (by simp), List.length_map, List.length_range, Nat.sub_self, show G - i = (G - (i + 1)) + 1 by omega, List.replicate_succ, List.set_cons_zero, begL, List.range_succ, List.map_append, List.append_assoc]
  rfl
def RB0 (w : World) (B6 B8 g G K : Nat) (vi : Value) (wr : World) : Prop := ∃ i : Nat, vi = .int .i64 i ∧ i ≤ G ∧ Rfd w wr B6 B8 g G (.slice none 0 0) (begL G K i)
set_option maxRecDepth 100000 in
set_option maxHeartbeats 4000000 in
theorem ref_refined (sv : Value) (sy : List Nat) (n K : Nat) (w : World) (hs : ViewL w sv (intsL sy)) (h0 : 0 < sy.length) (h9 : sy.length ≤ 900050) (hlt : ∀ s ∈ sy, s < n) (h3 : 3 ≤ n) (h258 : n ≤ 258) (h2 : 2 ≤ K) (h6 : K ≤ 6) :
    Calls Try.prog 32 #[sv, .int .i64 n, .int .i64 K] w fun e w' => ∃ lv gv, e = .returned (.agg #[lv, gv]) ∧ RowsV w' lv (rndL sy n K (chN sy n K 3)) ∧ ViewL w' gv (intsL (chN sy n K 4)) ∧ Ext w w' := by
  obtain ⟨sa, sc, rfl⟩ := hs.shape
  rw [length_intsL] at hs ⊢
  obtain ⟨S, hS⟩ : ∃ S, S = sy.length := ⟨_, rfl⟩
  rw [← hS] at hs h0 h9 ⊢
  obtain ⟨G, hG⟩ : ∃ G, G = manyG S := ⟨_, rfl⟩
  have hGS : G = (S + 49) / 50 := hG
  have HS := Lib.hid hs
  have HK := Lib.hid (show S = sy.length ∧ G = manyG S ∧ 0 < S ∧ S ≤ 900050 ∧ 3 ≤ n ∧ n ≤ 258 ∧ 2 ≤ K ∧ K ≤ 6 ∧ 1 ≤ G ∧ G ≤ 18001 ∧ (∀ s ∈ sy, s < n) from ⟨hS, hG, h0, h9, h3, h258, h2, h6, by omega, by omega, hlt⟩)
  have gq : ((S : Int) + 50 - 1) / 50 = (G : Int) := by omega
  have gq2 : ((S : Int) + 50 - 1).tdiv 50 = (G : Int) := by rw [Int.tdiv_eq_ediv_of_nonneg (by omega)]; omega
  obtain ⟨V, hV⟩ : ∃ V, V = w.alloc (.cells #[.slice none 0 0, .slice none 0 0] 61) := ⟨_, rfl⟩
  obtain ⟨w1, hmk, og, o1, o2, o3⟩ := make_intsR V G (by omega)
  obtain ⟨g, hg⟩ : ∃ g, g = V.heap.size := ⟨_, rfl⟩
  have hog : og = some g := by
    have h2 := o1.2
    rw [hg]; simpa [Value.ownBlock] using h2.symm
  subst hog
  rw [← hg] at hmk o1
  rw [hV] at hmk
  have hs900 : (S : Int) ≤ 900050 := by omega
  clear hs h0 h9 hlt h3 h258 h2 h6 hS hG hGS
  refine (callsIn_wide (n := 9)).1 ?_
  refine callsIn_of_wp_marks Try.func32 rfl trivial ?_ rfl
  simp only [Try.ntmps32, List.size_toArray, List.length_cons, List.length_nil, Nat.reduceAdd, Nat.reduceSub, Array.replicate_succ, Array.replicate_zero, List.push_toArray, List.append_toArray, List.nil_append, List.cons_append]
  gi_wp2_with fail
  obtain ⟨B8, hB8⟩ : ∃ B8, B8 = w1.heap.size := ⟨_, rfl⟩
  obtain ⟨B6, hB6⟩ : ∃ B6, B6 = w.heap.size := ⟨_, rfl⟩
  have hVs : V.heap.size = w.heap.size + 1 := by rw [hV]; simp
  have hgw : g = w.heap.size + 1 := by rw [hg, hVs]
  rw [← hgw, ← hB8, ← hB6]
  obtain ⟨W0, hW0⟩ : ∃ W0, W0 = w1.alloc (.cells #[.slice none 0 0, .slice (some ⟨g, 0, none⟩) G G] 61) := ⟨_, rfl⟩
  rw [← hW0]
  have hR0 : Rfd w W0 B6 B8 g G (.slice none 0 0) (begL G K 0) := by
    have hx1 : Ext w w1 := (show Ext w V by rw [hV]; exact (Ext.refl w).alloc _).trans o3
    have h6 : Box2 w1 B6 (.slice none 0 0) (.slice none 0 0) := o3.keep (by rw [hV, hB6]; exact heap_alloc_new w _) (fun f => f)
    have hgl : g < w1.heap.size := o1.lt g rfl
    refine ⟨Touch.keep (S := fun _ => False) (by rw [hW0]; exact (Touch.refl _ w1).alloc _) h6 (fun f => f), by unfold Box2; rw [hW0, hB8]; exact heap_alloc_new w1 _, ?_, by simp [begL], by rw [hW0]; exact hx1.alloc _, by omega, by have := hx1.size; omega, by omega, by have := hx1.size; omega, by omega, by omega⟩
    rw [List.length_replicate] at o1
    have h := o1.ext' (show Ext w1 W0 by rw [hW0]; exact (Ext.refl w1).alloc _)
    simpa [begL] using h
  have HR0 := Lib.hid hR0
  clear hR0 hmk o1 o2 o3 hV hg hVs hgw hB8 hB6 hW0
  gi_loopw [9, 34] (fun _ vi wr => RB0 w B6 B8 g G K vi wr) (fun _ vi _ => G - (intOf vi).toNat)
  case atStart => exact ⟨0, rfl, Nat.zero_le _, HR0.out⟩
  case round =>
    obtain ⟨i, rfl, hi, hr⟩ := hrel
    have HR := Lib.hid hr
    obtain ⟨q0, q1, _, _⟩ := hr.b8.cells
    clear hr
    by_cases hlt : i < G
    · have hltz : (i : Int) < (G : Int) := by omega
      obtain ⟨ci, fi⟩ := HR.out.at hlt
      have hkk := HK.out
      have hiK : i * K ≤ 18001 * 6 := Nat.mul_le_mul (by omega) (by omega)
      obtain ⟨p, hp⟩ : ∃ p, p = i * K := ⟨_, rfl⟩
      have hpz : (i : Int) * (K : Int) = (p : Int) := by rw [hp]; simp
      have hwp : IntKind.i64.wrap (p : Int) = (p : Int) := IntWalk.i64_in _ (by omega)
      obtain ⟨t, ht⟩ : ∃ t, t = p / G := ⟨_, rfl⟩
      have htz : (p : Int) / (G : Int) = (t : Int) := by rw [ht]; simp
      have htz2 : (p : Int).tdiv (G : Int) = (t : Int) := by rw [Int.tdiv_eq_ediv_of_nonneg (by omega)]; exact htz
      have hG0 : ¬ (G : Int) = 0 := by omega
      have HS1 := Lib.hid (show ∀ wx, (∃ w0, Ext wr w0 ∧ Ext (w0.setCell ⟨g, i, none⟩ (.int .i64 t)) wx) → RB0 w B6 B8 g G K (.int .i64 ((i + 1 : Nat) : Int)) wx from fun wx ⟨w0, h0, h1⟩ => ⟨i + 1, rfl, by omega, by
        have h := (HR.out.touch h0 (fun f => f) (fun f => f) (fun f => f) (fun k f => f.elim)).set i t hlt
        rw [show t = i * K / G by rw [ht, hp], begL_set hlt] at h
        rw [show t = i * K / G by rw [ht, hp]] at h1
        exact h.touch h1 (fun f => f) (fun f => f) (fun f => f) (fun k f => f.elim)⟩)
      have HA6 := Lib.hid (show (i : Int) * (K : Int) = (p : Int) ∧ IntKind.i64.wrap (p : Int) = (p : Int) ∧ (p : Int) / (G : Int) = (t : Int) ∧ (p : Int).tdiv (G : Int) = (t : Int) ∧ ¬ G = 0 ∧ IntKind.i64.wrap (t : Int) = (t : Int) from ⟨hpz, hwp, htz, htz2, by omega, IntWalk.i64_in _ (by have := Nat.div_le_self p G; omega)⟩)
      have HC6 := Lib.hid (And.intro ci fi)
      have HLT := Lib.hid hlt
      have hne := HR.out.d8g
      clear hkk hiK hp ht hlt
      gi_wp2_with fail
      refine wpIn_wide.2 ?_
      have hst : Stab (Phi [(8, .pointer (some ⟨B8, 0, none⟩)), (9, .int .i64 i), (2, .int .i64 K), (7, .int .i64 G), (37, .pointer (some ⟨B8, 1, none⟩)), (38, .slice (some ⟨g, 0, none⟩) G G), (39, .int .i64 i), (40, .int .i64 i), (41, .int .i64 K), (42, .int .i64 p), (43, .int .i64 G), (44, .int .i64 t), (45, .pointer (some ⟨g, i, none⟩))] []) := Phi.stable (fun x hx => by cases hx)
      refine wp_region_two 120 [8, 9, 2, 7] [37, 38, 39, 40, 41, 42, 43, 44, 45] 9 [0, 0, 0, 0, 0, 0, 0, 0, 0, 2] (fun w1 => Ext wr w1) (fun w1 => ∃ w0, Ext wr w0 ∧ Ext (w0.setCell ⟨g, i, none⟩ (.int .i64 t)) w1) (by kernel_rfl) _ hst (fun _ _ h k => h.trans k) (fun _ _ ⟨w0, h, h2⟩ k => ⟨w0, h, h2.trans k⟩) (by kernel_rfl) rfl rfl (fun _ => ⟨rfl, rfl, rfl, rfl, trivial⟩) (Ext.refl wr) ⟨?_, ?_, ?_, ?_, ?_, ?_, ?_, ?_, ?_, ?_, trivial⟩ ?fin
      · refine Obl.val (.pointer (some ⟨B8, 1, none⟩)) (fun ev w1 hc hf hg hev => ?_) (fun d hd w1 => by cases hd; rfl)
        have h0 : ev (.tmp 8) = .pointer (some ⟨B8, 0, none⟩) := hev.1
        exact ⟨rfl, by (clear hev; go_simp)⟩
      · refine Obl.some (fun ev w1 hI hc hf hg hev => ?_)
        have h0 : ev (.tmp 37) = .pointer (some ⟨B8, 1, none⟩) := hev.1
        clear hev
        have hI : Ext wr w1 := hI
        have k := (Box2.cells (hI.keep HR.out.b8 (fun f => f))).2.1
        exact ⟨rfl, .slice (some ⟨g, 0, none⟩) G G, by go_simp, fun d hd => by cases hd; rfl⟩
      · refine Obl.val (.int .i64 i) (fun ev w1 hc hf hg hev => ?_) (fun d hd w1 => by cases hd; rfl)
        have h0 : ev (.tmp 9) = .int .i64 i := hev.1
        exact ⟨rfl, by (clear hev; go_simp)⟩
      · refine Obl.val (.int .i64 i) (fun ev w1 hc hf hg hev => ?_) (fun d hd w1 => by cases hd; rfl)
        have h0 : ev (.tmp 9) = .int .i64 i := hev.1
        exact ⟨rfl, by (clear hev; go_simp)⟩
      · refine Obl.val (.int .i64 K) (fun ev w1 hc hf hg hev => ?_) (fun d hd w1 => by cases hd; rfl)
        have h0 : ev (.tmp 2) = .int .i64 K := hev.1
        exact ⟨rfl, by (clear hev; go_simp)⟩
      · refine Obl.some (fun ev w1 hI hc hf hg hev => ?_)
        have h0 : ev (.tmp 40) = .int .i64 i := hev.1; have h1 : ev (.tmp 41) = .int .i64 K := hev.2.1
        clear hev
        have k := HA6.out.1
        have k2 := HA6.out.2.1
        exact ⟨rfl, .int .i64 p, by go_simp, fun d hd => by cases hd; rfl⟩
      · refine Obl.val (.int .i64 G) (fun ev w1 hc hf hg hev => ?_) (fun d hd w1 => by cases hd; rfl)
        have h0 : ev (.tmp 7) = .int .i64 G := hev.1
        exact ⟨rfl, by (clear hev; go_simp)⟩
      · refine Obl.some (fun ev w1 hI hc hf hg hev => ?_)
        have h0 : ev (.tmp 42) = .int .i64 p := hev.1; have h1 : ev (.tmp 43) = .int .i64 G := hev.2.1
        clear hev
        have k := HA6.out.2.2.1
        have k2 := HA6.out.2.2.2.1
        have k3 := HA6.out.2.2.2.2.1
        have k4 := HA6.out.2.2.2.2.2
        exact ⟨rfl, .int .i64 t, by go_simp, fun d hd => by cases hd; rfl⟩
      · refine Obl.val (.pointer (some ⟨g, i, none⟩)) (fun ev w1 hc hf hg hev => ?_) (fun d hd w1 => by cases hd; rfl)
        have h0 : ev (.tmp 38) = .slice (some ⟨g, 0, none⟩) G G := hev.1; have h1 : ev (.tmp 39) = .int .i64 i := hev.2.1
        clear hev
        have k := HLT.out
        exact ⟨rfl, by go_simp⟩
      · refine OblC.skip (fun ev w1 hI hc hf hg hev => ?_)
        have h0 : ev (.tmp 45) = .pointer (some ⟨g, i, none⟩) := hev.1; have h1 : ev (.tmp 44) = .int .i64 t := hev.2.1
        have hI : Ext wr w1 := hI
        have k := cell_touch hI HC6.out.1 (fun f => f)
        have k2 := ((HR.out.touch hI (fun f => f) (fun f => f) (fun f => f) (fun k f => f.elim)).at HLT.out).2
        clear hev
        refine ⟨rfl, w1.setCell ⟨g, i, none⟩ (.int .i64 t), by go_simp, ⟨w1, hI, Ext.refl _⟩, ?_, fun d hd => by cases hd⟩
        intro t u _ h
        exact h
      case fin =>
        intro vs w5 he5 hf
        have e37 : vs 37 = .pointer (some ⟨B8, 1, none⟩) := hf 37 (by decide)
        have e38 : vs 38 = .slice (some ⟨g, 0, none⟩) G G := hf 38 (by decide)
        have e39 : vs 39 = .int .i64 i := hf 39 (by decide)
        have e40 : vs 40 = .int .i64 i := hf 40 (by decide)
        have e41 : vs 41 = .int .i64 K := hf 41 (by decide)
        have e42 : vs 42 = .int .i64 p := hf 42 (by decide)
        have e43 : vs 43 = .int .i64 G := hf 43 (by decide)
        have e44 : vs 44 = .int .i64 t := hf 44 (by decide)
        have e45 : vs 45 = .pointer (some ⟨g, i, none⟩) := hf 45 (by decide)
        simp only [List.foldl_cons, List.foldl_nil]
        rw [e37, e38, e39, e40, e41, e42, e43, e44, e45]
        simp only [Act.put, List.setIfInBounds_toArray, List.set_cons_succ, List.set_cons_zero]
        clear hf e37 e38 e39 e40 e41 e42 e43 e44 e45
        have HE5 := Lib.hid (show ∃ w0, Ext wr w0 ∧ Ext (w0.setCell ⟨g, i, none⟩ (.int .i64 t)) w5 from he5)
        clear he5
        gi_wp2
        exact ⟨HS1.out w5 HE5.out, by simp [intOf]; have := HLT.out; omega⟩
    · obtain rfl : i = G := by omega
      have hltz : ¬ (i : Int) < (i : Int) := by omega
      have hch : begL i K i = ch0 S K := by
        rw [begL, Nat.sub_self, List.replicate_zero, List.append_nil, ch0, ← HK.out.2.1]
      have HR1 := Lib.hid (show Rfd w wr B6 B8 g i (.slice none 0 0) (ch0 S K) by rw [← hch]; exact HR.out)
      clear hch hlt
      gi_wp2_with fail
      refine wpIn_loop (fun a W => RndI sy (.slice sa S sc) n K i B6 B8 wr.heap.size g w a W) (fun a _ => 4 - (intOf (a.tmps.getD 48 undef)).toNat) ?start ?rounds
      case start => exact ⟨0, [], _, ⟨_, ⟨rfl, rfl, rfl, rfl, rfl, rfl, rfl, rfl, rfl, rfl⟩⟩, rfl, by omega, by rw [chN, ← HK.out.1]; exact HR1.out.touch ((Touch.refl (fun _ => False) wr).alloc _) (fun f => f) (fun f => f) (fun f => f) (fun k f => f.elim), Boxed.new wr _ _, ⟨by simp, by simp, by simp⟩, ⟨_, _, _, rfl⟩, fun h => absurd h (by omega)⟩
      case rounds =>
        clear gq gq2
        obtain ⟨B10, hB10⟩ : ∃ B10, B10 = wr.heap.size := ⟨_, rfl⟩
        have h108 : B10 ≠ B8 := by have := block_lt HR1.out.b8; omega
        have h10g : B10 ≠ g := by have := HR1.out.grp.lt g rfl; omega
        rw [← hB10]
        rintro ⟨T, ds⟩ W hI
        refine wpIn_wide.2 ?_
        refine refd_round w W _ ⟨HK.out.2.2.2.2.1, HK.out.2.2.2.2.2.1⟩ ⟨HK.out.2.2.2.2.2.2.1, HK.out.2.2.2.2.2.2.2.1⟩ HK.out.1 HK.out.2.2.1 HK.out.2.2.2.1 HK.out.2.2.2.2.2.2.2.2.2.2 HK.out.2.1 HS.out h10g h108 hI fun T' v11 hI' hT' => ?_
        obtain ⟨k, Ds, lv, ⟨v', hT2⟩, hds, hk, hr, hb, hm, ⟨la, ll, lc, rfl⟩, hv⟩ := hI'
        obtain rfl : k = 4 := by
          have h := hT2.t48
          rw [hT'.t48] at h
          injection h with _ h; omega
        have HR2 := Lib.hid hr
        have HM2 := Lib.hid (And.intro hds hm)
        have HV2 := Lib.hid (hv (by omega))
        obtain ⟨c0, c1, f0, f1⟩ := hr.b8.cells
        obtain ⟨d0, d1, e0, e1⟩ := hr.b6.cells
        clear hI hT2 hds hr hb hm hv hk
        obtain ⟨u, rfl⟩ := lit_of hT'
        clear hT'
        simp only [Exit.inBlock, if_true, Exit.then]
        gi_wp2_with fail
        obtain ⟨hds, hm⟩ := HM2.out
        subst hds
        show LeavesInM Fence.wide 9 Try.prog Try.f32 _ _ (Ds.map markD) .returning _
        obtain ⟨X0, hX0⟩ : ∃ X0, X0 = (W.setCell ⟨B6, 0, none⟩ (.slice la ll lc)).setCell ⟨B6, 1, none⟩ (.slice (some ⟨g, 0, none⟩) i i) := ⟨_, rfl⟩
        have hX6 : Touch (fun q => q = B6) W X0 := by rw [hX0]; exact ((Touch.refl (fun q => q = B6) W).setCell (Or.inl rfl) _).setCell (Or.inl rfl) _
        have hB0 : Box2 X0 B6 (.slice la ll lc) (.slice (some ⟨g, 0, none⟩) i i) := by rw [hX0]; exact HR2.out.b6.set2 _ _
        have hdn : ∀ d ∈ Ds, X0.heap[d]? = some (.deferred (some [])) := fun d hd => hX6.keep (hm.here d hd) (fun e => by
          have h1 := hm.here d hd
          rw [e, show W.heap[B6]? = _ from HR2.out.b6] at h1; cases h1)
        rw [← hX0]
        refine leaves_marks Ds X0 hm.nodup hdn fun X hX => ?_
        have hcalm : ∀ q, q ∈ Ds → ∀ o : Obj, X0.heap[q]? = some o → o.isCells = false := fun q hq o ho => by
          rw [hdn q hq] at ho; cases ho; rfl
        have hB : Box2 X B6 (.slice la ll lc) (.slice (some ⟨g, 0, none⟩) i i) := hX.keep hB0 (fun hq => by
          have := hdn B6 hq
          rw [show X0.heap[B6]? = _ from hB0] at this; cases this)
        obtain ⟨p0, p1, _, _⟩ := hB.cells
        refine ⟨.agg #[.slice la ll lc, .slice (some ⟨g, 0, none⟩) i i], ?_, ⟨_, _, rfl, (HV2.out X0 hX6).calm hX hcalm, ?_, ?_⟩⟩
        · simp only [results, show Try.f32.results = #[.cell 6 61] from by kernel_rfl]
          go_simp
        · exact ((HR2.out.grp.keep hX6 (fun q e => by cases e; exact fun e2 => HR2.out.d6g e2.symm)).viewL).calm hX hcalm
        · refine (HR2.out.ext.touch hX6 (fun q hq e => by have := HR2.out.n6; omega)).touch hX (fun q hq h => ?_)
          have := hm.new q h
          omega
end Go.Proofs.Ytaabmlnbadpfgaa
