/- A stream's block with codes of its own, and the block that is none: their walks. inflate.Inflate's deferred closure; the ways out of inflate.Inflate. -/
import Derived.Test.YtbbcphloafmldaaGreatHdrGetZ
import Derived.Test.YtbbcphloafmldaaGreatInfFixZ
import Derived.Defers
import Derived.Recover
import Derived.Test.YtbbcphloafmldaaGreatBnd12
/-! A stream's block with codes of its own, and the block that is none: their walks. -/
namespace Go.Proofs.YtbbcphloafmldaaGreat
open Go.RowKit
set_option linter.unusedVariables false

theorem wlF_le : ∀ (n i : Nat) (acc : List Nat) (p : Nat) {bits : List Bool} {q : Nat} {L : List Nat}, wlF bits n i acc p = some (q, L) → p ≤ bits.length → p ≤ q ∧ q ≤ bits.length
  | 0, i, acc, p, bits, q, L, h, hp => by rw [wlF] at h; cases h; exact ⟨Nat.le_refl _, hp⟩
  | n + 1, i, acc, p, bits, q, L, h, hp => by
    rw [wlF] at h
    split at h
    · cases h
    · rename_i x q1 hr
      have h1 := rd_fit hr
      have h2 := wlF_le n (i + 1) _ q1 h h1.2.2
      omega
theorem sgF_le {L : List Nat} {bits : List Bool} {n : Nat} : ∀ (k said : Nat) (acc : List (Nat × Nat)) (p : Nat) {q : Nat} {l : List (Nat × Nat)}, bits.length - p ≤ k → sgF L bits n said acc p = some (q, l) → p ≤ bits.length → p ≤ q ∧ q ≤ bits.length
  | 0, said, acc, p, q, l, hk, h, hp => by
    by_cases hn : n ≤ said
    · rw [sgF_end hn] at h; cases h; exact ⟨Nat.le_refl _, hp⟩
    · cases hd : decS L bits p with
      | none => rw [sgF_b1 (by omega) hd] at h; cases h
      | some x =>
        obtain ⟨c, q1⟩ := x
        have := decS_lt hd
        omega
  | k + 1, said, acc, p, q, l, hk, h, hp => by
    by_cases hn : n ≤ said
    · rw [sgF_end hn] at h; cases h; exact ⟨Nat.le_refl _, hp⟩
    · cases hd : decS L bits p with
      | none => rw [sgF_b1 (by omega) hd] at h; cases h
      | some x =>
        obtain ⟨c, q1⟩ := x
        have h1 := decS_lt hd
        cases hr : rd bits q1 (exbH c) with
        | none => rw [sgF_b2 (by omega) hd hr] at h; cases h
        | some y =>
          obtain ⟨v, q2⟩ := y
          have h2 := rd_fit hr
          rw [sgF_go (by omega) hd hr] at h
          have h3 := sgF_le k _ _ q2 (by omega) h h2.2.2
          omega
theorem weight_one (l : List Nat) (h : ∀ n ∈ l, n ≤ 1) : weightL l = l.sum * 2 ^ 19 := by
  induction l with
  | nil => rfl
  | cons n l ih =>
    have h1 := ih (fun m hm => h m (List.mem_cons_of_mem _ hm))
    have h2 := h n (List.mem_cons_self ..)
    unfold weightL at h1 ⊢
    rw [List.map_cons, List.sum_cons, List.sum_cons, h1, Nat.add_mul]
    rcases (by omega : n = 0 ∨ n = 1) with rfl | rfl
    · simp
    · simp
theorem single_good {l : List Nat} (h : singleL l = true) (hl : l.length ≤ 512) : Good l := by
  rw [singleL, Bool.and_eq_true, List.all_eq_true, decide_eq_true_eq] at h
  have h1 : ∀ n ∈ l, n ≤ 1 := fun n hn => by simpa using h.1 n hn
  exact ⟨fun b hb => by have := h1 b hb; omega, hl, by rw [weight_one l h1, h.2]; decide⟩
theorem class_good {l : List Nat} (h : classL l = 2 ∨ classL l = 0) (hk : okLens l = true) (hl : l.length ≤ 512) : Good l := by
  refine ⟨fun b hb => by have := List.all_eq_true.1 hk b hb; simp at this; omega, hl, ?_⟩
  unfold classL at h
  split at h
  · omega
  · split at h
    · omega
    · split at h
      · omega
      · rcases h with h | h <;> cases h
theorem mayH_good {a b : List Nat} (h : mayH a b = true) : Good a ∧ Good b := by
  rw [mayH_parts] at h
  simp only [mayH1, Bool.and_eq_true, Bool.or_eq_true, decide_eq_true_eq] at h
  obtain ⟨⟨⟨⟨⟨⟨⟨⟨c1, c2⟩, c3⟩, c4⟩, c5⟩, c6⟩, c7⟩, h1⟩, h2⟩ := h
  refine ⟨?_, ?_⟩
  · rcases h1 with h1 | h1
    · exact class_good (Or.inl h1) c6 (by omega)
    · exact single_good h1 (by omega)
  · rcases h2 with (h2 | h2) | h2
    · exact class_good (Or.inl h2) c7 (by omega)
    · exact class_good (Or.inr h2) c7 (by omega)
    · exact single_good h2 (by omega)
theorem hdrF_fit {bits : List Bool} {p q : Nat} {a b : List Nat} (h : hdrF bits p = some (a, b, q)) : p ≤ q ∧ q ≤ bits.length ∧ mayH a b = true := by
  unfold hdrF at h
  split at h
  · cases h
  · rename_i x p1 h1
    have k1 := rd_fit h1
    split at h
    · cases h
    · rename_i y p2 h2
      have k2 := rd_fit h2
      split at h
      · cases h
      · rename_i z p3 h3
        have k3 := rd_fit h3
        split at h
        · cases h
        · rename_i p4 lens h4
          have k4 := wlF_le _ _ _ _ h4 k3.2.2
          split at h
          · cases h
          · split at h
            · cases h
            · rename_i p5 l h5
              have k5 := sgF_le _ _ _ _ (Nat.le_refl _) h5 k4.2
              split at h
              · cases h
              · split at h
                · rename_i hm
                  cases h
                  exact ⟨by omega, k5.2, hm⟩
                · cases h
set_option maxRecDepth 100000 in
set_option maxHeartbeats 1000000 in
theorem inf_dynamic (B R : Nat) (og : Option Nat) (bs : List Nat) (p : Nat) (oo : Option Nat) (full : List Nat) (kp : Nat) (w : World) (h : ISt w B R og bs p oo full kp) (hl : bs.length ≤ 2 ^ 30) (hb : ∀ b ∈ bs, b < 256) (hp : p ≤ 8 * bs.length) (hf : full.length ≤ 258 * p) :
    Calls Tryz.prog 58 #[.pointer (some ⟨B, 0, none⟩)] w (InfE w B R og bs oo kp (dynF (ofBits false bs) p full)) := by
  obtain ⟨r, hr⟩ : ∃ r, r = dynF (ofBits false bs) p full := ⟨_, rfl⟩
  rw [← hr]
  have HH := Lib.hid (show ISt w B R og bs p oo full kp ∧ bs.length ≤ 2 ^ 30 ∧ (∀ b ∈ bs, b < 256) ∧ p ≤ 8 * bs.length ∧ full.length ≤ 258 * p ∧ r = dynF (ofBits false bs) p full from ⟨h, hl, hb, hp, hf, hr⟩)
  have c0 := h.cells.1
  clear h hl hb hp hf hr
  go_enter Tryz.func58, Tryz.ntmps58
  go_wp2_with fail
  refine (hdr_get R og bs p w HH.out.1.rdr HH.out.2.1 HH.out.2.2.1 HH.out.2.2.2.1).mono ?_
  rintro e w1 (⟨a, b, q, v1, v2, hh, rfl, hv1, hv2, hr1⟩ | ⟨hh, rfl, ht⟩)
  rotate_left
  · have HX := Lib.hid (show r = none ∧ Touch (FPI B R oo) w w1 from ⟨by rw [HH.out.2.2.2.2.2, dynF, hh], ht.mono (fun k _ e => Or.inr (Or.inl e))⟩)
    clear hh ht
    go_wp2_with fail
    refine (inf_must_i_bad _ _ w1 (by decide)).mono ?_
    rintro e w2 ⟨rfl, rfl⟩
    go_wp2_with fail
    exact ⟨rfl, InfE.bad HX.out.1 (Ext.refl w) HX.out.2⟩
  have hfit := hdrF_fit hh
  rw [length_ofBits] at hfit
  have hgood := mayH_good hfit.2.2
  obtain ⟨o1, k1, k2, k3⟩ := HH.out.1.reader hr1
  have H1 := Lib.hid (show ISt w1 B R og bs q o1 full kp ∧ Near oo o1 w ∧ Touch (FPI B R oo) w w1 ∧ Vw w1 v1 a ∧ Vw w1 v2 b ∧ Good a ∧ Good b ∧ p ≤ q ∧ q ≤ 8 * bs.length ∧ r = symF a b (ofBits false bs) q full from ⟨k1, k2, k3, hv1, hv2, hgood.1, hgood.2, hfit.1, hfit.2.1, by rw [HH.out.2.2.2.2.2, dynF, hh]⟩)
  clear hh hr1 hfit hgood k1 k2 k3 hv1 hv2 c0
  go_wp2_with fail
  refine (inf_must_i _ w1).mono ?_
  rintro e w2 ⟨rfl, hw2⟩
  obtain rfl := hw2.symm
  clear hw2
  go_wp2_with fail
  refine (inf_symbols B R og bs q o1 full kp v1 v2 a b w1 H1.out.1 HH.out.2.1 HH.out.2.2.1 H1.out.2.2.2.2.2.2.2.2.1 (by have := HH.out; have := H1.out; omega) H1.out.2.2.2.1 H1.out.2.2.2.2.1 H1.out.2.2.2.2.2.1 H1.out.2.2.2.2.2.2.1).mono ?_
  rw [← H1.out.2.2.2.2.2.2.2.2.2]
  rintro e w8 (⟨q2, o, h1, rfl, h2⟩ | ⟨h1, rfl, h2⟩)
  · have HF := Lib.hid (show InfE w B R og bs oo kp r (.returned (.tuple #[])) w8 from Or.inl ⟨q2, o, h1, rfl, h2.go H1.out.2.1 H1.out.2.2.1⟩)
    clear h1 h2
    go_wp2_with fail
    go_end0
    exact HF.out
  · exact ⟨rfl, Or.inr ⟨h1, rfl, near_touch H1.out.2.1 H1.out.2.2.1 h2⟩⟩
set_option maxRecDepth 100000 in
theorem inf_none (v : Value) (w : World) : Calls Tryz.prog 59 #[v] w fun e w' => e = .panicked [formF] ∧ w' = w := by
  go_enter Tryz.func59, Tryz.ntmps59
  go_wp2_with fail
  exact ⟨rfl, rfl, rfl⟩
end Go.Proofs.YtbbcphloafmldaaGreat

/-! inflate.Inflate's deferred closure; the ways out of inflate.Inflate. -/
namespace Go.Proofs.YtbbcphloafmldaaGreat
open Go.RowKit
set_option linter.unusedVariables false
set_option linter.unusedSimpArgs false

theorem inf_assert (w : World) : (Instr.typeAssert (.iface 25 (.int .i64 2)) 20 25 true).run Tryz.prog w = .ok (.tuple #[.int .i64 2, .bool true]) w := by kernel_rfl
theorem inf_assert_nil (w : World) : (Instr.typeAssert .nilIface 20 25 true).run Tryz.prog w = .ok (.tuple #[.int .i64 0, .bool false]) w := by kernel_rfl
set_option maxRecDepth 100000 in
set_option maxHeartbeats 1000000 in
theorem inf_idle (p s : Addr) (w : World) :
    CallsD Tryz.prog 55 #[.pointer (some p), .pointer (some s)] .returning w fun e u' w' => e = .returned (.tuple #[]) ∧ u' = .returning ∧ w' = w := by
  refine callsD_of_wpS Tryz.func55 rfl fun c₀ cs hu => ?_
  have ha := inf_assert_nil
  simp only [Tryz.ntmps55, List.size_toArray, List.length_cons, List.length_nil, Nat.reduceAdd, Nat.reduceSub, Array.replicate_succ, Array.replicate_zero, List.push_toArray, List.append_toArray, List.nil_append, List.cons_append]
  apply wpS_seq
  apply wpS_region
  simp [wpOpsS, go_sem, recoverD, hu, ha, Exit.thenS]
  apply wpS_seq
  apply wpS_region
  simp [wpOpsS, go_sem, Exit.thenS]
  refine wpS_cond (t := false) (by simp [Act.eval]) ?_
  simp only [Bool.false_eq_true, if_false]
  refine wpS_of_wp (wp_skip ?_)
  cases c₀
  simp_all [bodyPostS, results, Tryz.results55]
/-- the results' boxes. -/
structure FBx (w : World) (p s : Nat) (v : Value) (a b : Int) (c : Bool) (x : Int) : Prop where
  hp : w.heap[p]? = some (.cells #[v, .int .i64 a, .int .i64 b, .bool c] 24 (0, 0))
  hs : w.heap[s]? = some (.cells #[.int .i64 x] 25 (0, 0))
theorem FBx.cells {w : World} {p s : Nat} {v : Value} {a b : Int} {c : Bool} {x : Int} (h : FBx w p s v a b c x) :
    (w.cell? ⟨p, 0, none⟩ = some v ∧ w.cell? ⟨p, 1, none⟩ = some (.int .i64 a) ∧ w.cell? ⟨p, 2, none⟩ = some (.int .i64 b) ∧ w.cell? ⟨p, 3, none⟩ = some (.bool c) ∧ w.cell? ⟨s, 0, none⟩ = some (.int .i64 x)) ∧ (∀ i, w.frozen? ⟨p, i, none⟩ = false) ∧ w.frozen? ⟨s, 0, none⟩ = false :=
  ⟨⟨by simp [World.cell?, h.hp], by simp [World.cell?, h.hp], by simp [World.cell?, h.hp], by simp [World.cell?, h.hp], by simp [World.cell?, h.hs]⟩, fun i => Lib.frozen_of_heap h.hp _, Lib.frozen_of_heap h.hs _⟩
theorem FBx.keep {S : Nat → Prop} {w w' : World} {p s : Nat} {v : Value} {a b : Int} {c : Bool} {x : Int} (h : FBx w p s v a b c x) (ht : Touch S w w') (h1 : ¬ S p) (h2 : ¬ S s) : FBx w' p s v a b c x := ⟨ht.keep h.hp h1, ht.keep h.hs h2⟩
theorem FBx.done {w : World} {p s : Nat} {v : Value} {a b : Int} {c : Bool} {x : Int} (h : FBx w p s v a b c x) (d3 : s ≠ p) (v' : Value) (a' b' : Int) (c' : Bool) (x' : Int) :
    FBx ((((((w.setCell ⟨p, 0, none⟩ v').setCell ⟨p, 1, none⟩ (.int .i64 a')).setCell ⟨p, 2, none⟩ (.int .i64 b')).setCell ⟨p, 3, none⟩ (.bool c')).setCell ⟨s, 0, none⟩ (.int .i64 x')).drew) p s v' a' b' c' x' ∧ Touch (fun k => k = p ∨ k = s) w ((((((w.setCell ⟨p, 0, none⟩ v').setCell ⟨p, 1, none⟩ (.int .i64 a')).setCell ⟨p, 2, none⟩ (.int .i64 b')).setCell ⟨p, 3, none⟩ (.bool c')).setCell ⟨s, 0, none⟩ (.int .i64 x')).drew) := by
  have a1 := heap_setCell_at (a := ⟨p, 0, none⟩) (u := v') h.hp rfl
  have a2 := heap_setCell_at (a := ⟨p, 1, none⟩) (u := .int .i64 a') a1 rfl
  have a3 := heap_setCell_at (a := ⟨p, 2, none⟩) (u := .int .i64 b') a2 rfl
  have a4 := heap_setCell_at (a := ⟨p, 3, none⟩) (u := .bool c') a3 rfl
  have t4 : Touch (fun k => k = p) w ((((w.setCell ⟨p, 0, none⟩ v').setCell ⟨p, 1, none⟩ (.int .i64 a')).setCell ⟨p, 2, none⟩ (.int .i64 b')).setCell ⟨p, 3, none⟩ (.bool c')) := ((((Touch.refl (fun k => k = p) w).setCell (Or.inl rfl) _).setCell (Or.inl rfl) _).setCell (Or.inl rfl) _).setCell (Or.inl rfl) _
  have a5 := heap_setCell_at (a := ⟨s, 0, none⟩) (u := .int .i64 x') (t4.keep h.hs d3) rfl
  have t5 : Touch (fun k => k = s) ((((w.setCell ⟨p, 0, none⟩ v').setCell ⟨p, 1, none⟩ (.int .i64 a')).setCell ⟨p, 2, none⟩ (.int .i64 b')).setCell ⟨p, 3, none⟩ (.bool c')) (((((w.setCell ⟨p, 0, none⟩ v').setCell ⟨p, 1, none⟩ (.int .i64 a')).setCell ⟨p, 2, none⟩ (.int .i64 b')).setCell ⟨p, 3, none⟩ (.bool c')).setCell ⟨s, 0, none⟩ (.int .i64 x')) := (Touch.refl (fun k => k = s) _).setCell (Or.inl rfl) _
  have a6 := a4.trans (show _ = some (Obj.cells #[v', .int .i64 a', .int .i64 b', .bool c'] 24 (0, 0)) by simp)
  exact ⟨⟨t5.drew.keep a6 (fun e => d3 e.symm), ((Ext.refl _).drew).keep a5 (fun f => f)⟩, ((t4.mono (fun k _ e => Or.inl e)).trans t5 (fun k _ e => Or.inr e)).drew⟩
set_option maxRecDepth 100000 in
set_option maxHeartbeats 1000000 in
theorem inf_catch (p s : Nat) (v : Value) (a b : Int) (c : Bool) (x : Int) (w : World) (hb : FBx w p s v a b c x) (d3 : s ≠ p) :
    CallsD Tryz.prog 55 #[.pointer (some ⟨p, 0, none⟩), .pointer (some ⟨s, 0, none⟩)] (.panicking [formF]) w fun e u' w' =>
      e = .returned (.tuple #[]) ∧ u' = .panicking [{ formF with recovered := true }] ∧ w' = ((((w.setCell ⟨p, 0, none⟩ (.slice none 0 0)).setCell ⟨p, 1, none⟩ (.int .i64 0)).setCell ⟨p, 2, none⟩ (.int .i64 0)).setCell ⟨p, 3, none⟩ (.bool false)).setCell ⟨s, 0, none⟩ (.int .i64 2) := by
  refine callsD_of_wpS Tryz.func55 rfl fun c₀ cs hu => ?_
  unfold formF at hu
  have ha := inf_assert
  simp only [Tryz.ntmps55, List.size_toArray, List.length_cons, List.length_nil, Nat.reduceAdd, Nat.reduceSub, Array.replicate_succ, Array.replicate_zero, List.push_toArray, List.append_toArray, List.nil_append, List.cons_append]
  apply wpS_seq
  apply wpS_region
  simp [wpOpsS, go_sem, recoverD, hu, ha, Exit.thenS]
  apply wpS_seq
  apply wpS_region
  simp [wpOpsS, go_sem, Exit.thenS]
  refine wpS_cond (t := true) (by simp [Act.eval]) ?_
  simp only [if_true]
  apply wpS_region
  obtain ⟨⟨c0, c1, c2, c3, c4⟩, fz, f4⟩ := hb.cells
  have f0 := fz 0
  have f1 := fz 1
  have f2 := fz 2
  have f3 := fz 3
  simp [wpOpsS, go_sem, c0, f0, c1, f1, c2, f2, c3, f3, c4, f4, d3, bodyPostS, results, Tryz.results55, formF]
set_option maxRecDepth 100000 in
set_option maxHeartbeats 1000000 in
theorem inf_ret {R : Ending → World → Prop} {wr : World} {p s : Nat} {v : Value} {a b : Int} {c : Bool} {x : Int} {tmps : Array Value} (t4 : tmps[4]? = some (.pointer (some ⟨p, 0, none⟩))) (t5 : tmps[5]? = some (.pointer (some ⟨s, 0, none⟩)))
    (hb : FBx wr p s v a b c x) (hR : R (.returned (.tuple #[.agg #[v, .int .i64 a, .int .i64 b, .bool c], .int .i64 x])) wr) :
    bodyPostD Tryz.prog Tryz.f37 R Exit.ret { tmps := tmps, defers := [{ target := .fn (.func 55) #[.pointer (some ⟨p, 0, none⟩), .pointer (some ⟨s, 0, none⟩)], args := #[] }] } wr := by
  refine leaves_cons (f := 55) (args := #[.pointer (some ⟨p, 0, none⟩), .pointer (some ⟨s, 0, none⟩)]) (by simp) (by simp [go_sem]) ?_
  refine (inf_idle _ _ _).mono ?_
  rintro e u' w'' ⟨rfl, rfl, rfl⟩
  obtain ⟨⟨c0, c1, c2, c3, c4⟩, _⟩ := hb.cells
  simp [Leaves, settle, results, Tryz.results37, go_sem, t4, t5, c0, c1, c2, c3, c4]
  exact hR
set_option maxRecDepth 100000 in
set_option maxHeartbeats 1000000 in
theorem inf_panic {R : Ending → World → Prop} {wr : World} {p s : Nat} {v : Value} {a b : Int} {c : Bool} {x : Int} {tmps : Array Value} (t4 : tmps[4]? = some (.pointer (some ⟨p, 0, none⟩))) (t5 : tmps[5]? = some (.pointer (some ⟨s, 0, none⟩)))
    (hb : FBx wr p s v a b c x) (d3 : s ≠ p)
    (hR : ∀ w', Touch (fun k => k = p ∨ k = s) wr w' → R (.returned (.tuple #[.agg #[.slice none 0 0, .int .i64 0, .int .i64 0, .bool false], .int .i64 2])) w') :
    bodyPostD Tryz.prog Tryz.f37 R (Exit.panic [formF]) { tmps := tmps, defers := [{ target := .fn (.func 55) #[.pointer (some ⟨p, 0, none⟩), .pointer (some ⟨s, 0, none⟩)], args := #[] }] } wr := by
  refine leaves_cons (f := 55) (args := #[.pointer (some ⟨p, 0, none⟩), .pointer (some ⟨s, 0, none⟩)]) (by simp) (by simp [go_sem]) ?_
  refine (inf_catch p s v a b c x wr hb d3).mono ?_
  rintro e u' w'' ⟨rfl, rfl, rfl⟩
  obtain ⟨⟨c0, c1, c2, c3, c4⟩, _⟩ := hb.cells
  simp [Leaves, settle, results, Tryz.results37, go_sem, t4, t5, c0, c1, c2, c3, c4, d3, d3.symm]
  refine hR _ ?_
  repeat (refine Touch.setCell ?_ (Or.inl (by simp)) _)
  exact Touch.refl _ _
end Go.Proofs.YtbbcphloafmldaaGreat
