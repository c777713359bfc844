/- token.collect: the rows of a scale. -/
import Derived.Test.YtbbcphloafmldaaGreatTokScaleZ
import Derived.Test.YtbbcphloafmldaaGreatOwnUseZ
namespace Go.Proofs.YtbbcphloafmldaaGreat
open Go.RowKit Go.Shelf
set_option linter.unusedVariables false
attribute [local go_sem] Oper.semAt_some

theorem kpS_b0 {Bn Bo Be Bl : Nat} {w : World} (W : World) (l : Nat) (o o' : Obj) (hl : w.heap.size ≤ l) (h : W.heap[l]? = some o) (hc : o.isCells = false) (hw : o.isWalk = false) : KpS Bn Bo Be Bl W (W.putObj l o') := kpS_b (n := w.heap.size) W l o o' hl h hc hw
theorem scale_seq (m : Nat) (hm : 1 ≤ m) (n none each least Bn Bo Be Bl : Nat) (hN : n ≤ 30 ∧ none ≤ 30 ∧ 1 ≤ each ∧ each ≤ 30 ∧ least ≤ 30) (hne : Bl ≠ Bn ∧ Bl ≠ Bo ∧ Bl ≠ Be) (w : World) (hbx : ScB w Bn Bo Be n none each) (hbl : Boxed w Bl 3 (.int .i64 least)) :
    SeqT (fun k => k = Bl) Fence.wide m Tryz.prog 139 #[.pointer (some ⟨Bn, 0, Option.none⟩), .pointer (some ⟨Bo, 0, Option.none⟩), .pointer (some ⟨Be, 0, Option.none⟩), .pointer (some ⟨Bl, 0, Option.none⟩)] (fun x : SIx n => #[Value.int .i64 (scL none each least x.1), Value.int .i64 (scB none each x.1)]) (KpS Bn Bo Be Bl) (fun pre x => x.1 = pre.length) (fun ys => ys.map (·.1) = List.range n) (fun _ => True) n w := fun l J Jx W hW hJ hJx hY h0 =>
  scale_in m hm l n none each least Bn Bo Be Bl hN hne J Jx (fun s W W' row hs hg hr => hJ s W _ row hs hg (fun r e => Or.inl (hr r e))) (fun pre x W hp hl hx => hY pre x W hp hl hx) W ⟨(hW.block Bn hbx.1.lt).trans hbx.1, (hW.block Bo hbx.2.1.lt).trans hbx.2.1, (hW.block Be hbx.2.2.lt).trans hbx.2.2⟩ ((hW.block Bl hbl.lt).trans hbl) h0
set_option maxRecDepth 100000 in
theorem tok_scale (n none each least : Nat) (w : World) : Calls Tryz.prog 129 #[.int .i64 n, .int .i64 none, .int .i64 each, .int .i64 least] w fun e w' => e = .returned (.func (.func 139) #[] #[.pointer (some ⟨w.heap.size, 0, Option.none⟩), .pointer (some ⟨w.heap.size + 1, 0, Option.none⟩), .pointer (some ⟨w.heap.size + 2, 0, Option.none⟩), .pointer (some ⟨w.heap.size + 3, 0, Option.none⟩)]) ∧ w' = (((w.alloc (.cells #[.int .i64 n] 3)).alloc (.cells #[.int .i64 none] 3)).alloc (.cells #[.int .i64 each] 3)).alloc (.cells #[.int .i64 least] 3) := by
  go_enter Tryz.func129, Tryz.ntmps129
  go_wp2_with fail
  go_ret
  exact ⟨rfl, rfl⟩

theorem tok_info : (Tryz.prog.info? 3).map (fun i => (i.zero, i.size, i.bytes)) = some (some (.int .i64 0), 1, 8) := by kernel_rfl
/-- block R is a rule: its rows. -/
structure Rule2 (W : World) (R : Nat) (va vb ca cb : Value) (oa ob : Option Nat) (As Bs : List Value) : Prop where
  box : W.heap[R]? = some (.cells #[ca, cb] 159 (0, 0))
  oA : Owns W 3 1 va oa As.length As
  oB : Owns W 3 1 vb ob Bs.length Bs
  dA : oa ≠ some R
  dB : ob ≠ some R
  dAB : ∀ g, oa = some g → ob ≠ some g

theorem Touch.keepsFrom' {S : Nat → Prop} {W W' : World} (h : Touch S W W') (hc : ∀ k o, S k → W.heap[k]? = some o → o.isCells = true) (B0 : Nat) : KeepsFrom B0 W W' :=
  ⟨h.size, fun k o _ hk ho => h.keep hk (fun hs => by have := hc k o hs hk; rw [ho] at this; cases this)⟩
theorem Owns.isCellsT {w : World} {e : TypeId} {v : Value} {og : Option Nat} {n : Nat} {xs : List Value} (h : Owns w e 1 v og n xs) {k : Nat} {o : Obj} (e1 : og = some k) (hk : w.heap[k]? = some o) : o.isCells = true := by
  rcases h.form with ⟨h, _⟩ | ⟨g, cap, cur, h4, _, h5, _⟩
  · rw [h] at e1; cases e1
  · rw [h4] at e1; cases e1
    rw [h5] at hk; cases hk; rfl
section
variable {W W' : World} {R : Nat} {va vb ca cb : Value} {oa ob : Option Nat} {As Bs : List Value}
theorem Rule2.keep {S : Nat → Prop} (h : Rule2 W R va vb ca cb oa ob As Bs) (ht : Touch S W W') (hR : ¬ S R) (ha : ∀ g, oa = some g → ¬ S g) (hb : ∀ g, ob = some g → ¬ S g) : Rule2 W' R va vb ca cb oa ob As Bs :=
  ⟨ht.keep h.box hR, h.oA.keep ht ha, h.oB.keep ht hb, h.dA, h.dB, h.dAB⟩
theorem Rule2.ext (h : Rule2 W R va vb ca cb oa ob As Bs) (hx : Ext W W') : Rule2 W' R va vb ca cb oa ob As Bs := h.keep hx (fun f => f) (fun _ _ f => f) (fun _ _ f => f)
theorem Rule2.setA (h : Rule2 W R va vb ca cb oa ob As Bs) (u : Value) : Rule2 (W.setCell ⟨R, 0, Option.none⟩ u) R va vb u cb oa ob As Bs := by
  have ht : Touch (fun q => q = R) W (W.setCell ⟨R, 0, Option.none⟩ u) := (Touch.refl (fun q => q = R) W).setCell (Or.inl rfl) u
  have b := heap_setCell_at (a := ⟨R, 0, Option.none⟩) (u := u) h.box rfl
  exact ⟨b, h.oA.keep ht (fun g e f => h.dA (by rw [e, f])), h.oB.keep ht (fun g e f => h.dB (by rw [e, f])), h.dA, h.dB, h.dAB⟩
theorem Rule2.setB (h : Rule2 W R va vb ca cb oa ob As Bs) (u : Value) : Rule2 (W.setCell ⟨R, 1, Option.none⟩ u) R va vb ca u oa ob As Bs := by
  have ht : Touch (fun q => q = R) W (W.setCell ⟨R, 1, Option.none⟩ u) := (Touch.refl (fun q => q = R) W).setCell (Or.inl rfl) u
  have b := heap_setCell_at (a := ⟨R, 1, Option.none⟩) (u := u) h.box rfl
  exact ⟨b, h.oA.keep ht (fun g e f => h.dA (by rw [e, f])), h.oB.keep ht (fun g e f => h.dB (by rw [e, f])), h.dA, h.dB, h.dAB⟩
theorem Rule2.growA {v' x : Value} (h : Rule2 W R va vb ca cb oa ob As Bs) (r2 : W'.ownsRow 0 3 1 v' (As.length + 1) (As ++ [x])) (r3 : W.grownBy W' va.ownBlock) (r4 : v'.ownBlock = va.ownBlock ∨ v'.ownBlock = some W.heap.size) : Rule2 W' R v' vb ca cb v'.ownBlock ob (As ++ [x]) Bs := by
  have e : va.ownBlock = oa := h.oA.2
  rw [e] at r3 r4
  have ht : Touch (fun q => oa = some q) W W' := (Touch.refl _ W).grown r3 (fun k e => Or.inl e)
  have hR := block_lt h.box
  refine ⟨ht.keep h.box h.dA, ⟨by rw [List.length_append]; exact r2, rfl⟩, h.oB.keep ht (fun g e f => h.dAB g f e), fun e => ?_, h.dB, fun g e f => ?_⟩
  · rcases r4 with r | r
    · exact h.dA (by rw [← r]; exact e)
    · rw [r] at e; cases e; omega
  · rcases r4 with r | r
    · exact h.dAB g (by rw [← r]; exact e) f
    · rw [r] at e; cases e; have := h.oB.lt _ f; omega
theorem Rule2.growB {v' x : Value} (h : Rule2 W R va vb ca cb oa ob As Bs) (r2 : W'.ownsRow 0 3 1 v' (Bs.length + 1) (Bs ++ [x])) (r3 : W.grownBy W' vb.ownBlock) (r4 : v'.ownBlock = vb.ownBlock ∨ v'.ownBlock = some W.heap.size) : Rule2 W' R va v' ca cb oa v'.ownBlock As (Bs ++ [x]) := by
  have e : vb.ownBlock = ob := h.oB.2
  rw [e] at r3 r4
  have ht : Touch (fun q => ob = some q) W W' := (Touch.refl _ W).grown r3 (fun k e => Or.inl e)
  have hR := block_lt h.box
  refine ⟨ht.keep h.box h.dB, h.oA.keep ht (fun g e f => h.dAB g e f), ⟨by rw [List.length_append]; exact r2, rfl⟩, h.dA, fun e => ?_, fun g e f => ?_⟩
  · rcases r4 with r | r
    · exact h.dB (by rw [← r]; exact e)
    · rw [r] at e; cases e; omega
  · rcases r4 with r | r
    · exact h.dAB g e (by rw [← r]; exact f)
    · rw [r] at f; cases f; have := h.oA.lt _ e; omega
theorem Rule2.cells (h : Rule2 W R va vb ca cb oa ob As Bs) : W.cell? ⟨R, 0, Option.none⟩ = some ca ∧ W.cell? ⟨R, 1, Option.none⟩ = some cb ∧ W.frozen? ⟨R, 0, Option.none⟩ = false ∧ W.frozen? ⟨R, 1, Option.none⟩ = false :=
  ⟨by simp [World.cell?, h.box], by simp [World.cell?, h.box], by simp [World.frozen?, h.box], by simp [World.frozen?, h.box]⟩
end
/-- what waits for what. -/
def aft (l : List Oper) (i : Nat) : List Nat := match l[i]? with | .some o => (o.after.toList.filter (Region.binds .any)).map (·.on) | .none => []
def SV (F : List (Nat × Nat × Value)) (L : Nat → Bool) (V : Nat → Value) : Prop := ∀ p ∈ F, L p.1 = true → V p.2.1 = p.2.2
theorem SV.put {F : List (Nat × Nat × Value)} {L : Nat → Bool} {V : Nat → Value} {i d : Nat} {v : Value} (h : SV F L V) (hu : ∀ p ∈ F, (p.1 = i → p.2.1 = d ∧ v = p.2.2) ∧ (p.2.1 = d → p.1 = i)) : SV F (onL L i) (putV V (some d) v) := fun p hp hL => by
  by_cases e : p.1 = i
  · obtain ⟨h1, h2⟩ := (hu p hp).1 e
    show (if p.2.1 = d then v else V p.2.1) = _
    rw [if_pos h1]; exact h2
  · have hd : p.2.1 ≠ d := fun f => e ((hu p hp).2 f)
    show (if p.2.1 = d then v else V p.2.1) = _
    rw [if_neg hd]
    exact h p hp (by rw [onL_ne e] at hL; exact hL)
theorem SV.on {F : List (Nat × Nat × Value)} {L : Nat → Bool} {V : Nat → Value} {i : Nat} {v : Value} (h : SV F L V) (hu : ∀ p ∈ F, p.1 ≠ i) : SV F (onL L i) (putV V none v) := fun p hp hL => h p hp (by rw [onL_ne (hu p hp)] at hL; exact hL)
theorem runsTo_val {P : Program} {o : Oper} {ev : Operand → Value} {w w' : World} {post : Value → World → Prop} (v : Value) (h : (execOp ev o).run P w = .ok (.value v) w') (k : post v w') : RunsTo P o ev w post := by unfold RunsTo; rw [h]; exact k
theorem runsTo_skip {P : Program} {o : Oper} {ev : Operand → Value} {w w' : World} {post : Value → World → Prop} (h : (execOp ev o).run P w = .ok .skip w') (k : post undef w') : RunsTo P o ev w post := by unfold RunsTo; rw [h]; exact k
theorem StepI.of {P : Program} {l : List Oper} {M : (Nat → Bool) → (Nat → Value) → World → Prop} {o : Oper} (i : Nat) (ho : l[i]? = some o) (h : ∀ (L : Nat → Bool) (V : Nat → Value) (w : World) (ev : Operand → Value), Evs ev → (∀ t, ev (.tmp t) = V t) → L i = false → (∀ k, (aft l i).contains k = true → L k = true) → (∀ j k, (aft l j).contains k = true → L j = true → L k = true) → M L V w → Region.wanted o (saysOf l ev) = true ∧ RunsTo P o ev w fun v w' => M (onL L i) (putV V o.dst v) w') : StepI P l M i o := by
  intro L V w ev hE hV hi haft hcl hM
  have key : ∀ (j : Nat) (oj : Oper), l[j]? = some oj → (∀ e ∈ oj.after.toList, Region.binds .any e = true → L e.on = true) → ∀ k, (aft l j).contains k = true → L k = true := by
    intro j oj hj ha k hk
    unfold aft at hk
    rw [hj] at hk
    simp only [List.contains_iff_mem, List.mem_map, List.mem_filter] at hk
    obtain ⟨e, ⟨he, hb⟩, rfl⟩ := hk
    exact ha e he hb
  refine h L V w ev hE hV hi (key i o ho haft) (fun j k hk hj => ?_) hM
  cases hlj : l[j]? with
  | none => unfold aft at hk; rw [hlj] at hk; simp at hk
  | some oj => exact key j oj hlj (hcl j oj hlj hj) k hk

section
variable (W0 : World) (R : Nat) (a b x y : Value) (oa0 ob0 : Option Nat) (As Bs : List Value)
/-- what a round's region has done to memory. -/
structure CM (L : Nat → Bool) (V : Nat → Value) (w : World) (va vb : Value) (oa ob : Option Nat) : Prop where
  rule : Rule2 w R va vb (if L 11 then va else a) (if L 13 then vb else b) oa ob (if L 4 then As ++ [x] else As) (if L 9 then Bs ++ [y] else Bs)
  sA : if L 4 then V 13 = va else va = a ∧ oa = oa0
  sB : if L 9 then V 18 = vb else vb = b ∧ ob = ob0
  nA : Near oa0 oa W0
  nB : Near ob0 ob W0
  touch : Touch (fun k => k = R ∨ oa0 = some k ∨ ob0 = some k) W0 w
  x3 : L 3 = true → L 4 = false → ∃ blk, V 12 = .slice (some ⟨blk, 0, Option.none⟩) 1 1 ∧ W0.heap.size ≤ blk ∧ blk < w.heap.size ∧ w.cell? ⟨blk, 0, Option.none⟩ = some x
  y8 : L 8 = true → L 9 = false → ∃ blk, V 17 = .slice (some ⟨blk, 0, Option.none⟩) 1 1 ∧ W0.heap.size ≤ blk ∧ blk < w.heap.size ∧ w.cell? ⟨blk, 0, Option.none⟩ = some y
def cF : List (Nat × Nat × Value) := [(0, 9, .pointer (some ⟨R, 0, Option.none⟩)), (1, 10, a), (2, 11, x), (5, 14, .pointer (some ⟨R, 1, Option.none⟩)), (6, 15, b), (7, 16, y), (10, 19, .pointer (some ⟨R, 0, Option.none⟩)), (12, 20, .pointer (some ⟨R, 1, Option.none⟩))]
def CMM (L : Nat → Bool) (V : Nat → Value) (w : World) : Prop := (∃ va vb oa ob, CM W0 R a b x y oa0 ob0 As Bs L V w va vb oa ob) ∧ (V 3 = .pointer (some ⟨R, 0, Option.none⟩) ∧ V 4 = x ∧ V 5 = y) ∧ SV (cF R a b x y) L V
end
/-- the result's box. -/
def Boxed2 (W : World) (B : Nat) : Prop := W.heap[B]? = some (.cells #[.slice Option.none 0 0, .slice Option.none 0 0] 159 (0, 0))
def CoI (w : World) (R Bl none each least n : Nat) (pre : List (SIx n)) (W : World) : Prop :=
  ∃ va vb oa ob, Rule2 W R va vb va vb oa ob (pre.map fun x => .int .i64 (scL none each least x.1)) (pre.map fun x => .int .i64 (scB none each x.1)) ∧ (∀ g, oa = some g → w.heap.size + 2 ≤ g) ∧ (∀ g, ob = some g → w.heap.size + 2 ≤ g) ∧ Touch (fun k => k = Bl) w W ∧ Boxed2 W w.heap.size
set_option maxRecDepth 100000 in
set_option maxHeartbeats 4000000 in
theorem tok_collect (n none each least Bn Bo Be Bl : Nat) (hN : n ≤ 30 ∧ none ≤ 30 ∧ 1 ≤ each ∧ each ≤ 30 ∧ least ≤ 30) (hne : Bl ≠ Bn ∧ Bl ≠ Bo ∧ Bl ≠ Be) (w : World) (hbx : ScB w Bn Bo Be n none each) (hbl : Boxed w Bl 3 (.int .i64 least)) :
    Calls Tryz.prog 128 #[.func (.func 139) #[] #[.pointer (some ⟨Bn, 0, Option.none⟩), .pointer (some ⟨Bo, 0, Option.none⟩), .pointer (some ⟨Be, 0, Option.none⟩), .pointer (some ⟨Bl, 0, Option.none⟩)]] w fun e w' => ∃ va vb oa ob, e = .returned (.agg #[va, vb]) ∧ Owns w' 3 1 va oa n ((List.range n).map fun k => .int .i64 (scL none each least k)) ∧ Owns w' 3 1 vb ob n ((List.range n).map fun k => .int .i64 (scB none each k)) ∧ (∀ g, oa = some g → w.heap.size ≤ g) ∧ (∀ g, ob = some g → w.heap.size ≤ g) ∧ Touch (fun k => k = Bl) w w' := by
  have HN := Lib.hid hN
  have HNE := Lib.hid hne
  have HBX := Lib.hid hbx
  have HBL := Lib.hid hbl
  clear hN hne hbx hbl
  refine (callsIn_wide (n := 9)).1 ?_
  refine callsIn_of_wp_marks Tryz.func128 rfl trivial ?_ rfl
  simp only [Tryz.ntmps128, List.size_toArray, List.length_cons, List.length_nil, Nat.reduceAdd, Nat.reduceSub, Array.replicate_succ, Array.replicate_zero, List.push_toArray, List.append_toArray, List.nil_append, List.cons_append]
  gi_wp2_with fail
  obtain ⟨i0, hi0, hz0, hz1, hz2⟩ := info_parts tok_info
  have HW1 := Lib.hid (show ∀ wz, wz = ((w.alloc (.cells #[.slice Option.none 0 0, .slice Option.none 0 0] 159)).alloc (.cells #[.slice Option.none 0 0, .slice Option.none 0 0] 159)) → CoI w (w.heap.size + 1) Bl none each least n [] wz ∧ ScB wz Bn Bo Be n none each ∧ Boxed wz Bl 3 (.int .i64 least) ∧ Bl < w.heap.size ∧ wz.heap.size = w.heap.size + 2 from by
    rintro wz rfl
    have hx : Ext w ((w.alloc (.cells #[.slice Option.none 0 0, .slice Option.none 0 0] 159)).alloc (.cells #[.slice Option.none 0 0, .slice Option.none 0 0] 159)) := ((Ext.refl w).alloc _).alloc _
    refine ⟨⟨_, _, Option.none, Option.none, ⟨?_, Owns.nil _ _ _, Owns.nil _ _ _, (fun h => by cases h), (fun h => by cases h), (fun g h => by cases h)⟩, (fun g h => by cases h), (fun g h => by cases h), hx.mono (fun _ _ f => f.elim), (Below.heap_alloc _ _ _ (by simp)).trans (World.alloc_heap_new w _)⟩, ⟨boxed_ext HBX.out.1 hx, boxed_ext HBX.out.2.1 hx, boxed_ext HBX.out.2.2 hx⟩, boxed_ext HBL.out hx, HBL.out.lt, by simp⟩
    have h := World.alloc_heap_new (w.alloc (.cells #[.slice Option.none 0 0, .slice Option.none 0 0] 159)) (.cells #[.slice Option.none 0 0, .slice Option.none 0 0] 159)
    rw [World.size_alloc] at h
    exact h)
  generalize hwz : ((w.alloc (.cells #[.slice Option.none 0 0, .slice Option.none 0 0] 159)).alloc (.cells #[.slice Option.none 0 0, .slice Option.none 0 0] 159)) = wz
  have HZ := Lib.hid (HW1.out wz hwz.symm)
  clear HW1 hwz
  refine' wpIn_range_T (T := fun k => k = Bl) (gf := 139) (lb := #[.pointer (some ⟨Bn, 0, Option.none⟩), .pointer (some ⟨Bo, 0, Option.none⟩), .pointer (some ⟨Be, 0, Option.none⟩), .pointer (some ⟨Bl, 0, Option.none⟩)]) rfl (by decide) rfl trivial (enters_of Tryz.func139 (by kernel_rfl) rfl) (fun k e => by rw [e]; exact HZ.out.2.2.1.lt)
    (scale_seq 8 (by decide) n none each least Bn Bo Be Bl HN.out HNE.out wz HZ.out.2.1 HZ.out.2.2.1) kpS_t (kpS_b0 (w := wz)) (Below.refl _ _) (fun _ => rfl)
    (fun pre W => CoI w (w.heap.size + 1) Bl none each least n pre W) (fun _ _ _ => False) ?own (fun _ _ _ _ _ hs _ _ => hs) HZ.out.1 _ ?assign ?body ?done ?stop
  case own =>
    rintro pre X Y row ⟨va, vb, oa, ob, h1, h2, h3, h4, h5⟩ hg hr
    have ht : Touch (fun k => row = some k) X Y := (Touch.refl _ X).grown hg (fun k e => Or.inl e)
    have hno : ∀ (k : Nat) (o : Obj), X.heap[k]? = some o → o.isCells = true → k ≠ Bl → ¬ row = some k := fun k o ho hc hne e => by
      rcases hr k e with h | ⟨_, o2, ho2, hc2⟩
      · exact hne h
      · rw [ho] at ho2; cases ho2; rw [hc] at hc2; cases hc2
    have hBl := HZ.out.2.2.2.1
    refine ⟨va, vb, oa, ob, h1.keep ht (hno _ _ h1.box rfl (by omega)) (fun g e => ?_) (fun g e => ?_), h2, h3, h4.grown hg (fun k e => ?_), ht.keep h5 (hno _ _ h5 rfl (by omega))⟩
    · obtain ⟨o, ho⟩ : ∃ o, X.heap[g]? = some o := ⟨_, Array.getElem?_eq_getElem (h1.oA.lt g e)⟩
      exact hno g o ho (h1.oA.isCellsT e ho) (by have := h2 g e; omega)
    · obtain ⟨o, ho⟩ : ∃ o, X.heap[g]? = some o := ⟨_, Array.getElem?_eq_getElem (h1.oB.lt g e)⟩
      exact hno g o ho (h1.oB.isCellsT e ho) (by have := h3 g e; omega)
    · rcases hr k e with h | ⟨h, _⟩
      · exact Or.inl h
      · exact Or.inr (by have := HZ.out.2.2.2.2; omega)
  case assign =>
    intro l x W K hK
    gi_wp2
    exact hK
  case stop =>
    rintro D c pre W _ _ h _
    exact h.elim
  case done =>
    rintro D ys W hD hys ⟨va, vb, oa, ob, h1, h2, h3, h4, h5⟩ hK
    have e1 : (ys.map fun x : SIx n => Value.int .i64 (scL none each least x.1)) = (List.range n).map fun k => .int .i64 (scL none each least k) := by rw [← hys, List.map_map]; rfl
    have e2 : (ys.map fun x : SIx n => Value.int .i64 (scB none each x.1)) = (List.range n).map fun k => .int .i64 (scB none each k) := by rw [← hys, List.map_map]; rfl
    rw [e1, e2] at h1
    have hA := h1.oA
    have hB := h1.oB
    rw [List.length_map, List.length_range] at hA hB
    have hc := h1.cells
    have c0 := hc.1
    have c1 := hc.2.1
    have hbx := h1.box
    have cr0 : W.cell? ⟨w.heap.size, 0, Option.none⟩ = some (.slice Option.none 0 0) := by simp [World.cell?, show W.heap[w.heap.size]? = _ from h5]
    have cr1 : W.cell? ⟨w.heap.size, 1, Option.none⟩ = some (.slice Option.none 0 0) := by simp [World.cell?, show W.heap[w.heap.size]? = _ from h5]
    have fr0 : W.frozen? ⟨w.heap.size, 0, Option.none⟩ = false := by simp [World.frozen?, show W.heap[w.heap.size]? = _ from h5]
    have fr1 : W.frozen? ⟨w.heap.size, 1, Option.none⟩ = false := by simp [World.frozen?, show W.heap[w.heap.size]? = _ from h5]
    have ht5 : Touch (fun k => k = w.heap.size) W ((W.setCell ⟨w.heap.size, 0, Option.none⟩ va).setCell ⟨w.heap.size, 1, Option.none⟩ vb) := ((Touch.refl (fun k => k = w.heap.size) W).setCell (Or.inl rfl) _).setCell (Or.inl rfl) _
    have hA5 := hA.keep ht5 (fun g e f => by have := h2 g e; omega)
    have hB5 := hB.keep ht5 (fun g e f => by have := h3 g e; omega)
    have hT5 : Touch (fun k => k = Bl) w ((W.setCell ⟨w.heap.size, 0, Option.none⟩ va).setCell ⟨w.heap.size, 1, Option.none⟩ vb) := h4.trans ht5 (fun k hk e => by omega)
    have hK5 : ((W.setCell ⟨w.heap.size, 0, Option.none⟩ va).setCell ⟨w.heap.size, 1, Option.none⟩ vb).heap[D]? = some (Obj.deferred (some [])) := ht5.keep hK (by have := HZ.out.2.2.2.2; omega)
    obtain ⟨W5, hW5⟩ : ∃ W5, W5 = (W.setCell ⟨w.heap.size, 0, Option.none⟩ va).setCell ⟨w.heap.size, 1, Option.none⟩ vb := ⟨_, rfl⟩
    have hb5 : W5.heap[w.heap.size]? = some (.cells #[va, vb] 159 (0, 0)) := by
      have b1 := heap_setCell_at (a := ⟨w.heap.size, 0, Option.none⟩) (u := va) (show W.heap[w.heap.size]? = _ from h5) rfl
      have b2 := heap_setCell_at (a := ⟨w.heap.size, 1, Option.none⟩) (u := vb) b1 rfl
      rw [hW5]; exact b2
    rw [← hW5] at hA5 hB5 hT5 hK5
    have HD : Hid (w.heap.size + 2 ≤ D) := Lib.hid (by have := HZ.out.2.2.2.2; omega)
    have HFIN := Lib.hid (And.intro hA5 (And.intro hB5 (And.intro h2 (And.intro h3 hT5))))
    have HK := Lib.hid hK5
    have HW5 := Lib.hid hW5
    have HB5 := Lib.hid hb5
    obtain ⟨va0, vac, eva⟩ := hA.shape
    obtain ⟨vb0, vbc, evb⟩ := hB.shape
    clear hA hB h1 h2 h3 h4 h5 e1 e2 hys hK hc ht5 hA5 hB5 hT5 hK5 hW5 hb5
    subst eva evb
    gi_wp2
    rw [← HW5.out]
    refine ⟨by simp, .inl ⟨_, _, rfl, run_takeDeferred HK.out, ?_⟩⟩
    have hD2 := HD.out
    have hf := HFIN.out
    have hp := grownBy_putObj' W5 D (.deferred Option.none)
    have hb6 : (W5.putObj D (.deferred Option.none)).heap[w.heap.size]? = _ := (World.putObj_heap_other (by omega)).trans HB5.out
    refine ⟨.agg #[.slice va0 n vac, .slice vb0 n vbc], ?_, ?_⟩
    · simp only [results, show Tryz.f128.results = #[.cell 2 159] from by kernel_rfl]
      have k0 : (W5.putObj D (.deferred Option.none)).cell? ⟨w.heap.size, 0, Option.none⟩ = some (.slice va0 n vac) := by simp [World.cell?, hb6]
      have k1 : (W5.putObj D (.deferred Option.none)).cell? ⟨w.heap.size, 1, Option.none⟩ = some (.slice vb0 n vbc) := by simp [World.cell?, hb6]
      clear hf hp hb6
      go_simp
    · have ht6 : Touch (fun k => k = D) W5 (W5.putObj D (.deferred Option.none)) := (Touch.refl _ W5).grown hp (fun k e => by cases e; exact Or.inl rfl)
      refine ⟨_, _, oa, ob, rfl, hf.1.keep ht6 (fun g e e2 => ?_), hf.2.1.keep ht6 (fun g e e2 => ?_), fun g e => by have := hf.2.2.1 g e; omega, fun g e => by have := hf.2.2.2.1 g e; omega, hf.2.2.2.2.grown hp (fun k e => Or.inr (by cases e; omega))⟩
      · have h := hf.1.isCellsT e (show W5.heap[g]? = some (.deferred (some [])) by rw [e2]; exact HK.out)
        cases h
      · have h := hf.2.1.isCellsT e (show W5.heap[g]? = some (.deferred (some [])) by rw [e2]; exact HK.out)
        cases h
  case body =>
    rintro l pre ⟨x0, hx0⟩ W ⟨a, b, oa0, ob0, hr0, hf2, hf3, hf4, hf5⟩ hlt hnx
    have hnp : pre.length < n := hlt
    have hn30 := HN.out.1
    obtain ⟨R, hR⟩ : ∃ R, R = w.heap.size + 1 := ⟨_, rfl⟩
    obtain ⟨X, hX⟩ : ∃ X : Int, X = (scL none each least x0 : Nat) := ⟨_, rfl⟩
    obtain ⟨Y, hY⟩ : ∃ Y : Int, Y = (scB none each x0 : Nat) := ⟨_, rfl⟩
    have h1cx : (Value.int .i64 X).oneCell' = true := rfl
    have h1cy : (Value.int .i64 Y).oneCell' = true := rfl
    obtain ⟨As, hAs⟩ : ∃ As, As = pre.map fun x : SIx n => Value.int .i64 (scL none each least x.1) := ⟨_, rfl⟩
    obtain ⟨Bs, hBs⟩ : ∃ Bs, Bs = pre.map fun x : SIx n => Value.int .i64 (scB none each x.1) := ⟨_, rfl⟩
    have hAl : As.length ≤ 30 := by rw [hAs, List.length_map]; omega
    have hBl : Bs.length ≤ 30 := by rw [hBs, List.length_map]; omega
    rw [← hAs, ← hBs, ← hR] at hr0
    try dsimp only
    rw [← hX, ← hY, ← hR]
    have hga : ∀ g, oa0 = some g → g < W.heap.size := hr0.oA.lt
    have HX := Lib.hid (show R = w.heap.size + 1 ∧ X = (scL none each least x0 : Nat) ∧ Y = (scB none each x0 : Nat) ∧ As = (pre.map fun x : SIx n => Value.int .i64 (scL none each least x.1)) ∧ Bs = (pre.map fun x : SIx n => Value.int .i64 (scB none each x.1)) from ⟨hR, hX, hY, hAs, hBs⟩)
    clear hR hX hY hAs hBs hnx
    gi_wp2_with fail
    refine wpIn_region_round (by kernel_rfl) (by kernel_rfl) (any_region_inv 22 (CMM W R a b (.int .i64 X) (.int .i64 Y) oa0 ob0 As Bs) (by kernel_rfl) rfl ?h0 ⟨?_, ?_, ?_, ?_, ?_, ?_, ?_, ?_, ?_, ?_, ?_, ?_, ?_, ?_, trivial⟩ ?fin)
    case h0 => exact ⟨⟨a, b, oa0, ob0, ⟨hr0.ext ((Ext.refl W).drew), ⟨rfl, rfl⟩, ⟨rfl, rfl⟩, Or.inl rfl, Or.inl rfl, (Touch.refl _ W).drew, (fun h => by cases h), (fun h => by cases h)⟩⟩, ⟨rfl, rfl, rfl⟩, (fun p _ h => by cases h)⟩
    · refine StepI.of 0 rfl (fun L V wx ev hE hV hi ha hcl hM => ?_)
      obtain ⟨hc, hf, hg⟩ := hE
      obtain ⟨⟨va, vb, oa, ob, hm⟩, hb, hs⟩ := hM
      have h0 : ev (.tmp 3) = .pointer (some ⟨R, 0, Option.none⟩) := (hV 3).trans hb.1
      clear hV
      exact ⟨rfl, runsTo_val (.pointer (some ⟨R, 0, Option.none⟩)) (by go_simp) ⟨⟨va, vb, oa, ob, ⟨hm.rule, hm.sA, hm.sB, hm.nA, hm.nB, hm.touch, hm.x3, hm.y8⟩⟩, hb, hs.put (by intro p hp; simp only [cF, List.mem_cons, List.not_mem_nil, or_false] at hp; rcases hp with rfl | rfl | rfl | rfl | rfl | rfl | rfl | rfl <;> simp)⟩⟩
    · refine StepI.of 1 rfl (fun L V wx ev hE hV hi ha hcl hM => ?_)
      obtain ⟨hc, hf, hg⟩ := hE
      obtain ⟨⟨va, vb, oa, ob, hm⟩, hb, hs⟩ := hM
      have n11 : L 11 = false := by
        cases h : L 11 with
        | false => rfl
        | true => exact absurd (hcl 11 1 (by kernel_rfl) h) (by rw [hi]; decide)
      have p0 : L 0 = true := ha 0 (by kernel_rfl)
      have h0 : ev (.tmp 9) = .pointer (some ⟨R, 0, Option.none⟩) := (hV 9).trans (hs (0, 9, _) (by simp [cF]) p0)
      have hc1 := hm.rule.cells.1
      rw [n11] at hc1
      simp only [Bool.false_eq_true, if_false] at hc1
      clear hV
      exact ⟨rfl, runsTo_val (a) (by go_simp) ⟨⟨va, vb, oa, ob, ⟨hm.rule, hm.sA, hm.sB, hm.nA, hm.nB, hm.touch, hm.x3, hm.y8⟩⟩, hb, hs.put (by intro p hp; simp only [cF, List.mem_cons, List.not_mem_nil, or_false] at hp; rcases hp with rfl | rfl | rfl | rfl | rfl | rfl | rfl | rfl <;> simp)⟩⟩
    · refine StepI.of 2 rfl (fun L V wx ev hE hV hi ha hcl hM => ?_)
      obtain ⟨hc, hf, hg⟩ := hE
      obtain ⟨⟨va, vb, oa, ob, hm⟩, hb, hs⟩ := hM
      have h0 : ev (.tmp 4) = .int .i64 X := (hV 4).trans hb.2.1
      clear hV
      exact ⟨rfl, runsTo_val (.int .i64 X) (by go_simp) ⟨⟨va, vb, oa, ob, ⟨hm.rule, hm.sA, hm.sB, hm.nA, hm.nB, hm.touch, hm.x3, hm.y8⟩⟩, hb, hs.put (by intro p hp; simp only [cF, List.mem_cons, List.not_mem_nil, or_false] at hp; rcases hp with rfl | rfl | rfl | rfl | rfl | rfl | rfl | rfl <;> simp)⟩⟩
    · refine StepI.of 3 rfl (fun L V wx ev hE hV hi ha hcl hM => ?_)
      obtain ⟨hc, hf, hg⟩ := hE
      obtain ⟨⟨va, vb, oa, ob, hm⟩, hb, hs⟩ := hM
      have p2 : L 2 = true := ha 2 (by kernel_rfl)
      have h0 : ev (.tmp 11) = .int .i64 X := (hV 11).trans (hs (2, 11, _) (by simp [cF]) p2)
      clear hV
      refine ⟨rfl, runsTo_val (.slice (some ⟨wx.heap.size, 0, Option.none⟩) 1 1) (w' := wx.alloc (.cells #[.int .i64 X] 3)) (by go_simp) ⟨⟨va, vb, oa, ob, ⟨hm.rule.ext ((Ext.refl wx).alloc _), hm.sA, hm.sB, hm.nA, hm.nB, hm.touch.alloc _, (fun _ _ => ⟨wx.heap.size, rfl, hm.touch.size, by simp, by rw [World.cell?, World.alloc_heap_new]; rfl⟩), (fun h3 h4 => by obtain ⟨blk, k1, k2, k3, k4⟩ := hm.y8 h3 h4; exact ⟨blk, k1, k2, by simp; omega, by rw [World.cell?_of_block (w := wx) (Below.heap_alloc _ _ _ k3)]; exact k4⟩)⟩⟩, hb, hs.put (by intro p hp; simp only [cF, List.mem_cons, List.not_mem_nil, or_false] at hp; rcases hp with rfl | rfl | rfl | rfl | rfl | rfl | rfl | rfl <;> simp)⟩⟩
    · refine StepI.of 4 rfl (fun L V wx ev hE hV hi ha hcl hM => ?_)
      obtain ⟨hc, hf, hg⟩ := hE
      obtain ⟨⟨va, vb, oa, ob, hm⟩, hb, hs⟩ := hM
      have n9 : L 9 = false := by
        cases h : L 9 with
        | false => rfl
        | true => exact absurd (hcl 9 4 (by kernel_rfl) h) (by rw [hi]; decide)
      have n11 : L 11 = false := by
        cases h : L 11 with
        | false => rfl
        | true => exact absurd (hcl 11 9 (by kernel_rfl) h) (by rw [n9]; decide)
      have n13 : L 13 = false := by
        cases h : L 13 with
        | false => rfl
        | true => exact absurd (hcl 13 9 (by kernel_rfl) h) (by rw [n9]; decide)
      have p1 : L 1 = true := ha 1 (by kernel_rfl)
      have p3 : L 3 = true := ha 3 (by kernel_rfl)
      have h0 : ev (.tmp 10) = a := (hV 10).trans (hs (1, 10, _) (by simp [cF]) p1)
      obtain ⟨blk, k1, k2, k3, k4⟩ := hm.x3 p3 hi
      have h1 : ev (.tmp 12) = .slice (some ⟨blk, 0, Option.none⟩) 1 1 := (hV 12).trans k1
      have hr := hm.rule
      have hq := hm.sA
      rw [hi] at hr hq
      simp only [Bool.false_eq_true, if_false] at hr hq
      obtain ⟨rfl, rfl⟩ := hq
      have hview : ViewL wx (ev (.tmp 12)) [.int .i64 X] := by
        rw [h1]
        exact ⟨_, 1, rfl, Nat.le_refl _, (fun h => (by cases h)), fun _ => ⟨blk, 0, rfl, fun j u hu => by
          cases j with
          | zero => simp at hu; subst hu; exact k4
          | succ j => simp at hu⟩⟩
      obtain ⟨v', w2, r1, r2, r3, r4⟩ := run_append_view (P := Tryz.prog) wx 0 96 96 3 i0 (.int .i64 0) 8 Tryz.underlying96 hi0 hz0 hz1 hz2 rfl va As.length As hr.oA.1 (ev (.tmp 12)) [.int .i64 X] hview (by intro u hu; simp at hu; subst hu; exact h1cx) (by unfold maxLen; simp only [List.length_singleton]; omega) (by simp only [List.length_singleton]; omega) (Nat.zero_le _)
      have hg2 := hr.growA r2 r3 r4
      have eo : va.ownBlock = oa := hr.oA.2
      rw [eo] at r3 r4
      have ht : Touch (fun k => k = R ∨ oa = some k ∨ ob0 = some k) W w2 := hm.touch.grown r3 (fun k e => Or.inl (Or.inr (Or.inl e)))
      have hnr : Near oa v'.ownBlock W := by
        rcases r4 with r4 | r4
        · exact Or.inl r4
        · exact Or.inr ⟨_, r4, hm.touch.size⟩
      refine ⟨rfl, runsTo_val v' (w' := w2) (by simp [execOp, resolve, invoke, builtin, h0, r1, Result.andThen]) ⟨⟨v', vb, v'.ownBlock, ob, ⟨?_, rfl, hm.sB, hnr, hm.nB, ht, (fun _ h => by cases h), fun h8 h9 => ?_⟩⟩, hb, hs.put (by intro p hp; simp only [cF, List.mem_cons, List.not_mem_nil, or_false] at hp; rcases hp with rfl | rfl | rfl | rfl | rfl | rfl | rfl | rfl <;> simp)⟩⟩
      · have e11 : onL L 4 11 = false := n11
        have e13 : onL L 4 13 = false := n13
        have e9 : onL L 4 9 = false := n9
        have e4 : onL L 4 4 = true := rfl
        rw [n11, n13, n9] at hg2
        rw [e11, e13, e9, e4]
        simpa using hg2
      · obtain ⟨blk8, j1, j2, j3, j4⟩ := hm.y8 h8 h9
        have hoa := hga blk8
        have hkeep : w2.heap[blk8]? = wx.heap[blk8]? := r3.block _ j3 (fun e => by have := hoa e.symm; omega)
        exact ⟨blk8, j1, j2, Nat.lt_of_lt_of_le j3 r3.size, by rw [World.cell?_of_block (w := wx) hkeep]; exact j4⟩
    · refine StepI.of 5 rfl (fun L V wx ev hE hV hi ha hcl hM => ?_)
      obtain ⟨hc, hf, hg⟩ := hE
      obtain ⟨⟨va, vb, oa, ob, hm⟩, hb, hs⟩ := hM
      have h0 : ev (.tmp 3) = .pointer (some ⟨R, 0, Option.none⟩) := (hV 3).trans hb.1
      clear hV
      exact ⟨rfl, runsTo_val (.pointer (some ⟨R, 1, Option.none⟩)) (by go_simp) ⟨⟨va, vb, oa, ob, ⟨hm.rule, hm.sA, hm.sB, hm.nA, hm.nB, hm.touch, hm.x3, hm.y8⟩⟩, hb, hs.put (by intro p hp; simp only [cF, List.mem_cons, List.not_mem_nil, or_false] at hp; rcases hp with rfl | rfl | rfl | rfl | rfl | rfl | rfl | rfl <;> simp)⟩⟩
    · refine StepI.of 6 rfl (fun L V wx ev hE hV hi ha hcl hM => ?_)
      obtain ⟨hc, hf, hg⟩ := hE
      obtain ⟨⟨va, vb, oa, ob, hm⟩, hb, hs⟩ := hM
      have n13 : L 13 = false := by
        cases h : L 13 with
        | false => rfl
        | true => exact absurd (hcl 13 6 (by kernel_rfl) h) (by rw [hi]; decide)
      have p5 : L 5 = true := ha 5 (by kernel_rfl)
      have h0 : ev (.tmp 14) = .pointer (some ⟨R, 1, Option.none⟩) := (hV 14).trans (hs (5, 14, _) (by simp [cF]) p5)
      have hc1 := hm.rule.cells.2.1
      rw [n13] at hc1
      simp only [Bool.false_eq_true, if_false] at hc1
      clear hV
      exact ⟨rfl, runsTo_val (b) (by go_simp) ⟨⟨va, vb, oa, ob, ⟨hm.rule, hm.sA, hm.sB, hm.nA, hm.nB, hm.touch, hm.x3, hm.y8⟩⟩, hb, hs.put (by intro p hp; simp only [cF, List.mem_cons, List.not_mem_nil, or_false] at hp; rcases hp with rfl | rfl | rfl | rfl | rfl | rfl | rfl | rfl <;> simp)⟩⟩
    · refine StepI.of 7 rfl (fun L V wx ev hE hV hi ha hcl hM => ?_)
      obtain ⟨hc, hf, hg⟩ := hE
      obtain ⟨⟨va, vb, oa, ob, hm⟩, hb, hs⟩ := hM
      have h0 : ev (.tmp 5) = .int .i64 Y := (hV 5).trans hb.2.2
      clear hV
      exact ⟨rfl, runsTo_val (.int .i64 Y) (by go_simp) ⟨⟨va, vb, oa, ob, ⟨hm.rule, hm.sA, hm.sB, hm.nA, hm.nB, hm.touch, hm.x3, hm.y8⟩⟩, hb, hs.put (by intro p hp; simp only [cF, List.mem_cons, List.not_mem_nil, or_false] at hp; rcases hp with rfl | rfl | rfl | rfl | rfl | rfl | rfl | rfl <;> simp)⟩⟩
    · refine StepI.of 8 rfl (fun L V wx ev hE hV hi ha hcl hM => ?_)
      obtain ⟨hc, hf, hg⟩ := hE
      obtain ⟨⟨va, vb, oa, ob, hm⟩, hb, hs⟩ := hM
      have p7 : L 7 = true := ha 7 (by kernel_rfl)
      have h0 : ev (.tmp 16) = .int .i64 Y := (hV 16).trans (hs (7, 16, _) (by simp [cF]) p7)
      clear hV
      refine ⟨rfl, runsTo_val (.slice (some ⟨wx.heap.size, 0, Option.none⟩) 1 1) (w' := wx.alloc (.cells #[.int .i64 Y] 3)) (by go_simp) ⟨⟨va, vb, oa, ob, ⟨hm.rule.ext ((Ext.refl wx).alloc _), hm.sA, hm.sB, hm.nA, hm.nB, hm.touch.alloc _, (fun h3 h4 => by obtain ⟨blk, k1, k2, k3, k4⟩ := hm.x3 h3 h4; exact ⟨blk, k1, k2, by simp; omega, by rw [World.cell?_of_block (w := wx) (Below.heap_alloc _ _ _ k3)]; exact k4⟩), (fun _ _ => ⟨wx.heap.size, rfl, hm.touch.size, by simp, by rw [World.cell?, World.alloc_heap_new]; rfl⟩)⟩⟩, hb, hs.put (by intro p hp; simp only [cF, List.mem_cons, List.not_mem_nil, or_false] at hp; rcases hp with rfl | rfl | rfl | rfl | rfl | rfl | rfl | rfl <;> simp)⟩⟩
    · refine StepI.of 9 rfl (fun L V wx ev hE hV hi ha hcl hM => ?_)
      obtain ⟨hc, hf, hg⟩ := hE
      obtain ⟨⟨va, vb, oa, ob, hm⟩, hb, hs⟩ := hM
      have n11 : L 11 = false := by
        cases h : L 11 with
        | false => rfl
        | true => exact absurd (hcl 11 9 (by kernel_rfl) h) (by rw [hi]; decide)
      have n13 : L 13 = false := by
        cases h : L 13 with
        | false => rfl
        | true => exact absurd (hcl 13 11 (by kernel_rfl) h) (by rw [n11]; decide)
      have p6 : L 6 = true := ha 6 (by kernel_rfl)
      have p8 : L 8 = true := ha 8 (by kernel_rfl)
      have p4 : L 4 = true := ha 4 (by kernel_rfl)
      have h0 : ev (.tmp 15) = b := (hV 15).trans (hs (6, 15, _) (by simp [cF]) p6)
      obtain ⟨blk, k1, k2, k3, k4⟩ := hm.y8 p8 hi
      have h1 : ev (.tmp 17) = .slice (some ⟨blk, 0, Option.none⟩) 1 1 := (hV 17).trans k1
      have hr := hm.rule
      have hq := hm.sB
      rw [hi] at hr hq
      simp only [Bool.false_eq_true, if_false] at hr hq
      obtain ⟨rfl, rfl⟩ := hq
      have hview : ViewL wx (ev (.tmp 17)) [.int .i64 Y] := by
        rw [h1]
        exact ⟨_, 1, rfl, Nat.le_refl _, (fun h => (by cases h)), fun _ => ⟨blk, 0, rfl, fun j u hu => by
          cases j with
          | zero => simp at hu; subst hu; exact k4
          | succ j => simp at hu⟩⟩
      obtain ⟨v', w2, r1, r2, r3, r4⟩ := run_append_view (P := Tryz.prog) wx 0 96 96 3 i0 (.int .i64 0) 8 Tryz.underlying96 hi0 hz0 hz1 hz2 rfl vb Bs.length Bs hr.oB.1 (ev (.tmp 17)) [.int .i64 Y] hview (by intro u hu; simp at hu; subst hu; exact h1cy) (by unfold maxLen; simp only [List.length_singleton]; omega) (by simp only [List.length_singleton]; omega) (Nat.zero_le _)
      have hg2 := hr.growB r2 r3 r4
      have eo : vb.ownBlock = ob := hr.oB.2
      rw [eo] at r3 r4
      have ht : Touch (fun k => k = R ∨ oa0 = some k ∨ ob = some k) W w2 := hm.touch.grown r3 (fun k e => Or.inl (Or.inr (Or.inr e)))
      have hnr : Near ob v'.ownBlock W := by
        rcases r4 with r4 | r4
        · exact Or.inl r4
        · exact Or.inr ⟨_, r4, hm.touch.size⟩
      refine ⟨rfl, runsTo_val v' (w' := w2) (by simp [execOp, resolve, invoke, builtin, h0, r1, Result.andThen]) ⟨⟨va, v', oa, v'.ownBlock, ⟨?_, hm.sA, rfl, hm.nA, hnr, ht, (fun _ h => absurd (show L 4 = false from h) (by rw [p4]; decide)), (fun _ h => by cases h)⟩⟩, hb, hs.put (by intro p hp; simp only [cF, List.mem_cons, List.not_mem_nil, or_false] at hp; rcases hp with rfl | rfl | rfl | rfl | rfl | rfl | rfl | rfl <;> simp)⟩⟩
      · have e11 : onL L 9 11 = false := n11
        have e13 : onL L 9 13 = false := n13
        have e4 : onL L 9 4 = true := p4
        have e9 : onL L 9 9 = true := rfl
        rw [n11, n13, p4] at hg2
        rw [e11, e13, e9, e4]
        simpa using hg2
    · refine StepI.of 10 rfl (fun L V wx ev hE hV hi ha hcl hM => ?_)
      obtain ⟨hc, hf, hg⟩ := hE
      obtain ⟨⟨va, vb, oa, ob, hm⟩, hb, hs⟩ := hM
      have h0 : ev (.tmp 3) = .pointer (some ⟨R, 0, Option.none⟩) := (hV 3).trans hb.1
      clear hV
      exact ⟨rfl, runsTo_val (.pointer (some ⟨R, 0, Option.none⟩)) (by go_simp) ⟨⟨va, vb, oa, ob, ⟨hm.rule, hm.sA, hm.sB, hm.nA, hm.nB, hm.touch, hm.x3, hm.y8⟩⟩, hb, hs.put (by intro p hp; simp only [cF, List.mem_cons, List.not_mem_nil, or_false] at hp; rcases hp with rfl | rfl | rfl | rfl | rfl | rfl | rfl | rfl <;> simp)⟩⟩
    · refine StepI.of 11 rfl (fun L V wx ev hE hV hi ha hcl hM => ?_)
      obtain ⟨hc, hf, hg⟩ := hE
      obtain ⟨⟨va, vb, oa, ob, hm⟩, hb, hs⟩ := hM
      have n13 : L 13 = false := by
        cases h : L 13 with
        | false => rfl
        | true => exact absurd (hcl 13 11 (by kernel_rfl) h) (by rw [hi]; decide)
      have p4 : L 4 = true := ha 4 (by kernel_rfl)
      have p9 : L 9 = true := ha 9 (by kernel_rfl)
      have p10 : L 10 = true := ha 10 (by kernel_rfl)
      have h0 : ev (.tmp 19) = .pointer (some ⟨R, 0, Option.none⟩) := (hV 19).trans (hs (10, 19, _) (by simp [cF]) p10)
      have hq := hm.sA
      rw [p4] at hq
      simp only [if_true] at hq
      have h1 : ev (.tmp 13) = va := (hV 13).trans hq
      have hfz := hm.rule.cells
      obtain ⟨vaa, vac, eva⟩ := hm.rule.oA.shape
      rw [eva] at h1
      have f0 := hfz.2.2.1
      have c0 := hfz.1
      clear hfz hV hq
      refine ⟨rfl, runsTo_skip (w' := wx.setCell ⟨R, 0, Option.none⟩ va) (by rw [eva]; go_simp) ⟨⟨va, vb, oa, ob, ⟨?_, hm.sA, hm.sB, hm.nA, hm.nB, hm.touch.setCell (Or.inl (Or.inl rfl)) _, (fun _ h => absurd (show L 4 = false from h) (by rw [p4]; decide)), fun _ h => absurd (show L 9 = false from h) (by rw [p9]; decide)⟩⟩, hb, hs.on (by intro p hp; simp only [cF, List.mem_cons, List.not_mem_nil, or_false] at hp; rcases hp with rfl | rfl | rfl | rfl | rfl | rfl | rfl | rfl <;> simp)⟩⟩
      have hr := hm.rule.setA va
      have e11 : onL L 11 11 = true := rfl
      have e13 : onL L 11 13 = false := n13
      have e4 : onL L 11 4 = true := p4
      have e9 : onL L 11 9 = true := p9
      rw [n13, p4, p9] at hr
      rw [e11, e13, e4, e9]
      simpa using hr
    · refine StepI.of 12 rfl (fun L V wx ev hE hV hi ha hcl hM => ?_)
      obtain ⟨hc, hf, hg⟩ := hE
      obtain ⟨⟨va, vb, oa, ob, hm⟩, hb, hs⟩ := hM
      have h0 : ev (.tmp 3) = .pointer (some ⟨R, 0, Option.none⟩) := (hV 3).trans hb.1
      clear hV
      exact ⟨rfl, runsTo_val (.pointer (some ⟨R, 1, Option.none⟩)) (by go_simp) ⟨⟨va, vb, oa, ob, ⟨hm.rule, hm.sA, hm.sB, hm.nA, hm.nB, hm.touch, hm.x3, hm.y8⟩⟩, hb, hs.put (by intro p hp; simp only [cF, List.mem_cons, List.not_mem_nil, or_false] at hp; rcases hp with rfl | rfl | rfl | rfl | rfl | rfl | rfl | rfl <;> simp)⟩⟩
    · refine StepI.of 13 rfl (fun L V wx ev hE hV hi ha hcl hM => ?_)
      obtain ⟨hc, hf, hg⟩ := hE
      obtain ⟨⟨va, vb, oa, ob, hm⟩, hb, hs⟩ := hM
      have p4 : L 4 = true := ha 4 (by kernel_rfl)
      have p9 : L 9 = true := ha 9 (by kernel_rfl)
      have p12 : L 12 = true := ha 12 (by kernel_rfl)
      have p11 : L 11 = true := ha 11 (by kernel_rfl)
      have h0 : ev (.tmp 20) = .pointer (some ⟨R, 1, Option.none⟩) := (hV 20).trans (hs (12, 20, _) (by simp [cF]) p12)
      have hq := hm.sB
      rw [p9] at hq
      simp only [if_true] at hq
      have h1 : ev (.tmp 18) = vb := (hV 18).trans hq
      have hfz := hm.rule.cells
      obtain ⟨vba, vbc, evb⟩ := hm.rule.oB.shape
      rw [evb] at h1
      have f0 := hfz.2.2.2
      have c0 := hfz.2.1
      clear hfz hV hq
      refine ⟨rfl, runsTo_skip (w' := wx.setCell ⟨R, 1, Option.none⟩ vb) (by rw [evb]; go_simp) ⟨⟨va, vb, oa, ob, ⟨?_, hm.sA, hm.sB, hm.nA, hm.nB, hm.touch.setCell (Or.inl (Or.inl rfl)) _, (fun _ h => absurd (show L 4 = false from h) (by rw [p4]; decide)), fun _ h => absurd (show L 9 = false from h) (by rw [p9]; decide)⟩⟩, hb, hs.on (by intro p hp; simp only [cF, List.mem_cons, List.not_mem_nil, or_false] at hp; rcases hp with rfl | rfl | rfl | rfl | rfl | rfl | rfl | rfl <;> simp)⟩⟩
      have hr := hm.rule.setB vb
      have e11 : onL L 13 11 = true := p11
      have e13 : onL L 13 13 = true := rfl
      have e4 : onL L 13 4 = true := p4
      have e9 : onL L 13 9 = true := p9
      rw [p11, p4, p9] at hr
      rw [e11, e13, e4, e9]
      simpa using hr
    case fin =>
      rintro V w5 L hL ⟨⟨va, vb, oa, ob, hm⟩, _, _⟩
      have p4 : L 4 = true := hL 4 (by decide)
      have p9 : L 9 = true := hL 9 (by decide)
      have p11 : L 11 = true := hL 11 (by decide)
      have p13 : L 13 = true := hL 13 (by decide)
      have hr := hm.rule
      rw [p4, p9, p11, p13] at hr
      simp only [if_true] at hr
      have hX := HX.out
      have hWs := block_lt hr0.box
      have hlow : ∀ k, k < w.heap.size + 1 → ¬ (k = R ∨ oa0 = some k ∨ ob0 = some k) := fun k hk h => by
        rcases h with h | h | h
        · omega
        · have := hf2 k h; omega
        · have := hf3 k h; omega
      refine ⟨rfl, hm.touch.keepsFrom' (fun k o h hk => ?_) _, fun k v hk hv => hm.touch.keep hv (hlow k ?_), va, vb, oa, ob, ?_, fun g e => ?_, fun g e => ?_, hf4.trans hm.touch (fun k hk h => absurd h (hlow k (Nat.lt_succ_of_lt hk))), hm.touch.keep hf5 (hlow _ (Nat.lt_succ_self _))⟩
      · rcases h with h | h | h
        · rw [h, hr0.box] at hk; cases hk; rfl
        · exact hr0.oA.isCellsT h hk
        · exact hr0.oB.isCellsT h hk
      · rcases hk with rfl | rfl | rfl | rfl
        · exact Nat.lt_succ_of_lt HBX.out.1.lt
        · exact Nat.lt_succ_of_lt HBX.out.2.1.lt
        · exact Nat.lt_succ_of_lt HBX.out.2.2.lt
        · exact Nat.lt_succ_of_lt HBL.out.lt
      · rw [List.map_append, List.map_append]
        simp only [List.map_cons, List.map_nil]
        rw [← hX.2.1, ← hX.2.2.1, ← hX.2.2.2.1, ← hX.2.2.2.2]
        exact hr
      · rcases hm.nA with h | ⟨g2, h, hg⟩
        · exact hf2 g (by rw [← h]; exact e)
        · rw [h] at e; cases e; omega
      · rcases hm.nB with h | ⟨g2, h, hg⟩
        · exact hf3 g (by rw [← h]; exact e)
        · rw [h] at e; cases e; omega
end Go.Proofs.YtbbcphloafmldaaGreat
