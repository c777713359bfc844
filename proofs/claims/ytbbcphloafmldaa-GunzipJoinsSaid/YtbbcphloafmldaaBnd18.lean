/- A stream's block with codes of its own, and the block that is none: their walks. inflate.Inflate's deferred closure; the ways out of inflate.Inflate. inflate.Inflate: its walk. -/
import Derived.Test.YtbbcphloafmldaaHdrGetZ
import Derived.Test.YtbbcphloafmldaaInfFixZ
import Derived.Defers
import Derived.Recover
import Derived.Test.YtbbcphloafmldaaBnd13
import Derived.BigQuiet
import Derived.Deep.LoopGhost
import Derived.Deep.RegionHeld3
import Derived.Laws.EntriesVeiled
/-! A stream's block with codes of its own, and the block that is none: their walks. -/
namespace Go.Proofs.Ytbbcphloafmldaa
open Go.RowKit
set_option linter.unusedVariables false

theorem wlF_le : ∀ (n i : Nat) (acc : List Nat) (p : Nat) {bits : List Bool} {q : Nat} {L : List Nat}, wlF bits n i acc p = some (q, L) → p ≤ bits.length → p ≤ q ∧ q ≤ bits.length
  | 0, i, acc, p, bits, q, L, h, hp => by rw [wlF] at h; cases h; exact ⟨Nat.le_refl _, hp⟩
  | n + 1, i, acc, p, bits, q, L, h, hp => by
    rw [wlF] at h
    split at h
    · cases h
    · rename_i x q1 hr
      have h1 := rd_fit hr
      have h2 := wlF_le n (i + 1) _ q1 h h1.2.2
      omega
theorem sgF_le {L : List Nat} {bits : List Bool} {n : Nat} : ∀ (k said : Nat) (acc : List (Nat × Nat)) (p : Nat) {q : Nat} {l : List (Nat × Nat)}, bits.length - p ≤ k → sgF L bits n said acc p = some (q, l) → p ≤ bits.length → p ≤ q ∧ q ≤ bits.length
  | 0, said, acc, p, q, l, hk, h, hp => by
    by_cases hn : n ≤ said
    · rw [sgF_end hn] at h; cases h; exact ⟨Nat.le_refl _, hp⟩
    · cases hd : decS L bits p with
      | none => rw [sgF_b1 (by omega) hd] at h; cases h
      | some x =>
        obtain ⟨c, q1⟩ := x
        have := decS_lt hd
        omega
  | k + 1, said, acc, p, q, l, hk, h, hp => by
    by_cases hn : n ≤ said
    · rw [sgF_end hn] at h; cases h; exact ⟨Nat.le_refl _, hp⟩
    · cases hd : decS L bits p with
      | none => rw [sgF_b1 (by omega) hd] at h; cases h
      | some x =>
        obtain ⟨c, q1⟩ := x
        have h1 := decS_lt hd
        cases hr : rd bits q1 (exbH c) with
        | none => rw [sgF_b2 (by omega) hd hr] at h; cases h
        | some y =>
          obtain ⟨v, q2⟩ := y
          have h2 := rd_fit hr
          rw [sgF_go (by omega) hd hr] at h
          have h3 := sgF_le k _ _ q2 (by omega) h h2.2.2
          omega
theorem weight_one (l : List Nat) (h : ∀ n ∈ l, n ≤ 1) : weightL l = l.sum * 2 ^ 19 := by
  induction l with
  | nil => rfl
  | cons n l ih =>
    have h1 := ih (fun m hm => h m (List.mem_cons_of_mem _ hm))
    have h2 := h n (List.mem_cons_self ..)
    unfold weightL at h1 ⊢
    rw [List.map_cons, List.sum_cons, List.sum_cons, h1, Nat.add_mul]
    rcases (by omega : n = 0 ∨ n = 1) with rfl | rfl
    · simp
    · simp
theorem single_good {l : List Nat} (h : singleL l = true) (hl : l.length ≤ 512) : Good l := by
  rw [singleL, Bool.and_eq_true, List.all_eq_true, decide_eq_true_eq] at h
  have h1 : ∀ n ∈ l, n ≤ 1 := fun n hn => by simpa using h.1 n hn
  exact ⟨fun b hb => by have := h1 b hb; omega, hl, by rw [weight_one l h1, h.2]; decide⟩
theorem class_good {l : List Nat} (h : classL l = 2 ∨ classL l = 0) (hk : okLens l = true) (hl : l.length ≤ 512) : Good l := by
  refine ⟨fun b hb => by have := List.all_eq_true.1 hk b hb; simp at this; omega, hl, ?_⟩
  unfold classL at h
  split at h
  · omega
  · split at h
    · omega
    · split at h
      · omega
      · rcases h with h | h <;> cases h
theorem mayH_good {a b : List Nat} (h : mayH a b = true) : Good a ∧ Good b := by
  rw [mayH_parts] at h
  simp only [mayH1, Bool.and_eq_true, Bool.or_eq_true, decide_eq_true_eq] at h
  obtain ⟨⟨⟨⟨⟨⟨⟨⟨c1, c2⟩, c3⟩, c4⟩, c5⟩, c6⟩, c7⟩, h1⟩, h2⟩ := h
  refine ⟨?_, ?_⟩
  · rcases h1 with h1 | h1
    · exact class_good (Or.inl h1) c6 (by omega)
    · exact single_good h1 (by omega)
  · rcases h2 with (h2 | h2) | h2
    · exact class_good (Or.inl h2) c7 (by omega)
    · exact class_good (Or.inr h2) c7 (by omega)
    · exact single_good h2 (by omega)
theorem hdrF_fit {bits : List Bool} {p q : Nat} {a b : List Nat} (h : hdrF bits p = some (a, b, q)) : p ≤ q ∧ q ≤ bits.length ∧ mayH a b = true := by
  unfold hdrF at h
  split at h
  · cases h
  · rename_i x p1 h1
    have k1 := rd_fit h1
    split at h
    · cases h
    · rename_i y p2 h2
      have k2 := rd_fit h2
      split at h
      · cases h
      · rename_i z p3 h3
        have k3 := rd_fit h3
        split at h
        · cases h
        · rename_i p4 lens h4
          have k4 := wlF_le _ _ _ _ h4 k3.2.2
          split at h
          · cases h
          · split at h
            · cases h
            · rename_i p5 l h5
              have k5 := sgF_le _ _ _ _ (Nat.le_refl _) h5 k4.2
              split at h
              · cases h
              · split at h
                · rename_i hm
                  cases h
                  exact ⟨by omega, k5.2, hm⟩
                · cases h
set_option maxRecDepth 100000 in
set_option maxHeartbeats 1000000 in
theorem inf_dynamic (B R : Nat) (og : Option Nat) (bs : List Nat) (p : Nat) (oo : Option Nat) (full : List Nat) (kp : Nat) (w : World) (h : ISt w B R og bs p oo full kp) (hl : bs.length ≤ 2 ^ 30) (hb : ∀ b ∈ bs, b < 256) (hp : p ≤ 8 * bs.length) (hf : full.length ≤ 258 * p) :
    Calls Try.prog 28 #[.pointer (some ⟨B, 0, none⟩)] w (InfE w B R og bs oo kp (dynF (ofBits false bs) p full)) := by
  obtain ⟨r, hr⟩ : ∃ r, r = dynF (ofBits false bs) p full := ⟨_, rfl⟩
  rw [← hr]
  have HH := Lib.hid (show ISt w B R og bs p oo full kp ∧ bs.length ≤ 2 ^ 30 ∧ (∀ b ∈ bs, b < 256) ∧ p ≤ 8 * bs.length ∧ full.length ≤ 258 * p ∧ r = dynF (ofBits false bs) p full from ⟨h, hl, hb, hp, hf, hr⟩)
  have c0 := h.cells.1
  clear h hl hb hp hf hr
  go_enter Try.func28, Try.ntmps28
  go_wp2_with fail
  refine (hdr_get R og bs p w HH.out.1.rdr HH.out.2.1 HH.out.2.2.1 HH.out.2.2.2.1).mono ?_
  rintro e w1 (⟨a, b, q, v1, v2, hh, rfl, hv1, hv2, hr1⟩ | ⟨hh, rfl, ht⟩)
  rotate_left
  · have HX := Lib.hid (show r = none ∧ Touch (FPI B R oo) w w1 from ⟨by rw [HH.out.2.2.2.2.2, dynF, hh], ht.mono (fun k _ e => Or.inr (Or.inl e))⟩)
    clear hh ht
    go_wp2_with fail
    refine (inf_must_i_bad _ _ w1 (by decide)).mono ?_
    rintro e w2 ⟨rfl, rfl⟩
    go_wp2_with fail
    exact ⟨rfl, InfE.bad HX.out.1 (Ext.refl w) HX.out.2⟩
  have hfit := hdrF_fit hh
  rw [length_ofBits] at hfit
  have hgood := mayH_good hfit.2.2
  obtain ⟨o1, k1, k2, k3⟩ := HH.out.1.reader hr1
  have H1 := Lib.hid (show ISt w1 B R og bs q o1 full kp ∧ Near oo o1 w ∧ Touch (FPI B R oo) w w1 ∧ Vw w1 v1 a ∧ Vw w1 v2 b ∧ Good a ∧ Good b ∧ p ≤ q ∧ q ≤ 8 * bs.length ∧ r = symF a b (ofBits false bs) q full from ⟨k1, k2, k3, hv1, hv2, hgood.1, hgood.2, hfit.1, hfit.2.1, by rw [HH.out.2.2.2.2.2, dynF, hh]⟩)
  clear hh hr1 hfit hgood k1 k2 k3 hv1 hv2 c0
  go_wp2_with fail
  refine (inf_must_i _ w1).mono ?_
  rintro e w2 ⟨rfl, hw2⟩
  obtain rfl := hw2.symm
  clear hw2
  go_wp2_with fail
  refine (inf_symbols B R og bs q o1 full kp v1 v2 a b w1 H1.out.1 HH.out.2.1 HH.out.2.2.1 H1.out.2.2.2.2.2.2.2.2.1 (by have := HH.out; have := H1.out; omega) H1.out.2.2.2.1 H1.out.2.2.2.2.1 H1.out.2.2.2.2.2.1 H1.out.2.2.2.2.2.2.1).mono ?_
  rw [← H1.out.2.2.2.2.2.2.2.2.2]
  rintro e w8 (⟨q2, o, h1, rfl, h2⟩ | ⟨h1, rfl, h2⟩)
  · have HF := Lib.hid (show InfE w B R og bs oo kp r (.returned (.tuple #[])) w8 from Or.inl ⟨q2, o, h1, rfl, h2.go H1.out.2.1 H1.out.2.2.1⟩)
    clear h1 h2
    go_wp2_with fail
    go_end0
    exact HF.out
  · exact ⟨rfl, Or.inr ⟨h1, rfl, near_touch H1.out.2.1 H1.out.2.2.1 h2⟩⟩
set_option maxRecDepth 100000 in
theorem inf_none (v : Value) (w : World) : Calls Try.prog 29 #[v] w fun e w' => e = .panicked [formF] ∧ w' = w := by
  go_enter Try.func29, Try.ntmps29
  go_wp2_with fail
  exact ⟨rfl, rfl, rfl⟩
end Go.Proofs.Ytbbcphloafmldaa

/-! inflate.Inflate's deferred closure; the ways out of inflate.Inflate. -/
namespace Go.Proofs.Ytbbcphloafmldaa
open Go.RowKit
set_option linter.unusedVariables false
set_option linter.unusedSimpArgs false

theorem inf_assert (w : World) : (Instr.typeAssert (.iface 26 (.int .i64 2)) 20 26 true).run Try.prog w = .ok (.tuple #[.int .i64 2, .bool true]) w := by kernel_rfl
theorem inf_assert_nil (w : World) : (Instr.typeAssert .nilIface 20 26 true).run Try.prog w = .ok (.tuple #[.int .i64 0, .bool false]) w := by kernel_rfl
set_option maxRecDepth 100000 in
set_option maxHeartbeats 1000000 in
theorem inf_idle (p s : Addr) (w : World) :
    CallsD Try.prog 25 #[.pointer (some p), .pointer (some s)] .returning w fun e u' w' => e = .returned (.tuple #[]) ∧ u' = .returning ∧ w' = w := by
  refine callsD_of_wpS Try.func25 rfl fun c₀ cs hu => ?_
  have ha := inf_assert_nil
  simp only [Try.ntmps25, List.size_toArray, List.length_cons, List.length_nil, Nat.reduceAdd, Nat.reduceSub, Array.replicate_succ, Array.replicate_zero, List.push_toArray, List.append_toArray, List.nil_append, List.cons_append]
  apply wpS_seq
  apply wpS_region
  simp [wpOpsS, go_sem, recoverD, hu, ha, Exit.thenS]
  apply wpS_seq
  apply wpS_region
  simp [wpOpsS, go_sem, Exit.thenS]
  refine wpS_cond (t := false) (by simp [Act.eval]) ?_
  simp only [Bool.false_eq_true, if_false]
  refine wpS_of_wp (wp_skip ?_)
  cases c₀
  simp_all [bodyPostS, results, Try.results25]
/-- the results' boxes. -/
structure FBx (w : World) (p s : Nat) (v : Value) (a b : Int) (c : Bool) (x : Int) : Prop where
  hp : w.heap[p]? = some (.cells #[v, .int .i64 a, .int .i64 b, .bool c] 25 (0, 0))
  hs : w.heap[s]? = some (.cells #[.int .i64 x] 26 (0, 0))
theorem FBx.cells {w : World} {p s : Nat} {v : Value} {a b : Int} {c : Bool} {x : Int} (h : FBx w p s v a b c x) :
    (w.cell? ⟨p, 0, none⟩ = some v ∧ w.cell? ⟨p, 1, none⟩ = some (.int .i64 a) ∧ w.cell? ⟨p, 2, none⟩ = some (.int .i64 b) ∧ w.cell? ⟨p, 3, none⟩ = some (.bool c) ∧ w.cell? ⟨s, 0, none⟩ = some (.int .i64 x)) ∧ (∀ i, w.frozen? ⟨p, i, none⟩ = false) ∧ w.frozen? ⟨s, 0, none⟩ = false :=
  ⟨⟨by simp [World.cell?, h.hp], by simp [World.cell?, h.hp], by simp [World.cell?, h.hp], by simp [World.cell?, h.hp], by simp [World.cell?, h.hs]⟩, fun i => Lib.frozen_of_heap h.hp _, Lib.frozen_of_heap h.hs _⟩
theorem FBx.keep {S : Nat → Prop} {w w' : World} {p s : Nat} {v : Value} {a b : Int} {c : Bool} {x : Int} (h : FBx w p s v a b c x) (ht : Touch S w w') (h1 : ¬ S p) (h2 : ¬ S s) : FBx w' p s v a b c x := ⟨ht.keep h.hp h1, ht.keep h.hs h2⟩
theorem FBx.done {w : World} {p s : Nat} {v : Value} {a b : Int} {c : Bool} {x : Int} (h : FBx w p s v a b c x) (d3 : s ≠ p) (v' : Value) (a' b' : Int) (c' : Bool) (x' : Int) :
    FBx ((((((w.setCell ⟨p, 0, none⟩ v').setCell ⟨p, 1, none⟩ (.int .i64 a')).setCell ⟨p, 2, none⟩ (.int .i64 b')).setCell ⟨p, 3, none⟩ (.bool c')).setCell ⟨s, 0, none⟩ (.int .i64 x')).drew) p s v' a' b' c' x' ∧ Touch (fun k => k = p ∨ k = s) w ((((((w.setCell ⟨p, 0, none⟩ v').setCell ⟨p, 1, none⟩ (.int .i64 a')).setCell ⟨p, 2, none⟩ (.int .i64 b')).setCell ⟨p, 3, none⟩ (.bool c')).setCell ⟨s, 0, none⟩ (.int .i64 x')).drew) := by
  have a1 := heap_setCell_at (a := ⟨p, 0, none⟩) (u := v') h.hp rfl
  have a2 := heap_setCell_at (a := ⟨p, 1, none⟩) (u := .int .i64 a') a1 rfl
  have a3 := heap_setCell_at (a := ⟨p, 2, none⟩) (u := .int .i64 b') a2 rfl
  have a4 := heap_setCell_at (a := ⟨p, 3, none⟩) (u := .bool c') a3 rfl
  have t4 : Touch (fun k => k = p) w ((((w.setCell ⟨p, 0, none⟩ v').setCell ⟨p, 1, none⟩ (.int .i64 a')).setCell ⟨p, 2, none⟩ (.int .i64 b')).setCell ⟨p, 3, none⟩ (.bool c')) := ((((Touch.refl (fun k => k = p) w).setCell (Or.inl rfl) _).setCell (Or.inl rfl) _).setCell (Or.inl rfl) _).setCell (Or.inl rfl) _
  have a5 := heap_setCell_at (a := ⟨s, 0, none⟩) (u := .int .i64 x') (t4.keep h.hs d3) rfl
  have t5 : Touch (fun k => k = s) ((((w.setCell ⟨p, 0, none⟩ v').setCell ⟨p, 1, none⟩ (.int .i64 a')).setCell ⟨p, 2, none⟩ (.int .i64 b')).setCell ⟨p, 3, none⟩ (.bool c')) (((((w.setCell ⟨p, 0, none⟩ v').setCell ⟨p, 1, none⟩ (.int .i64 a')).setCell ⟨p, 2, none⟩ (.int .i64 b')).setCell ⟨p, 3, none⟩ (.bool c')).setCell ⟨s, 0, none⟩ (.int .i64 x')) := (Touch.refl (fun k => k = s) _).setCell (Or.inl rfl) _
  have a6 := a4.trans (show _ = some (Obj.cells #[v', .int .i64 a', .int .i64 b', .bool c'] 25 (0, 0)) by simp)
  exact ⟨⟨t5.drew.keep a6 (fun e => d3 e.symm), ((Ext.refl _).drew).keep a5 (fun f => f)⟩, ((t4.mono (fun k _ e => Or.inl e)).trans t5 (fun k _ e => Or.inr e)).drew⟩
set_option maxRecDepth 100000 in
set_option maxHeartbeats 1000000 in
theorem inf_catch (p s : Nat) (v : Value) (a b : Int) (c : Bool) (x : Int) (w : World) (hb : FBx w p s v a b c x) (d3 : s ≠ p) :
    CallsD Try.prog 25 #[.pointer (some ⟨p, 0, none⟩), .pointer (some ⟨s, 0, none⟩)] (.panicking [formF]) w fun e u' w' =>
      e = .returned (.tuple #[]) ∧ u' = .panicking [{ formF with recovered := true }] ∧ w' = ((((w.setCell ⟨p, 0, none⟩ (.slice none 0 0)).setCell ⟨p, 1, none⟩ (.int .i64 0)).setCell ⟨p, 2, none⟩ (.int .i64 0)).setCell ⟨p, 3, none⟩ (.bool false)).setCell ⟨s, 0, none⟩ (.int .i64 2) := by
  refine callsD_of_wpS Try.func25 rfl fun c₀ cs hu => ?_
  unfold formF at hu
  have ha := inf_assert
  simp only [Try.ntmps25, List.size_toArray, List.length_cons, List.length_nil, Nat.reduceAdd, Nat.reduceSub, Array.replicate_succ, Array.replicate_zero, List.push_toArray, List.append_toArray, List.nil_append, List.cons_append]
  apply wpS_seq
  apply wpS_region
  simp [wpOpsS, go_sem, recoverD, hu, ha, Exit.thenS]
  apply wpS_seq
  apply wpS_region
  simp [wpOpsS, go_sem, Exit.thenS]
  refine wpS_cond (t := true) (by simp [Act.eval]) ?_
  simp only [if_true]
  apply wpS_region
  obtain ⟨⟨c0, c1, c2, c3, c4⟩, fz, f4⟩ := hb.cells
  have f0 := fz 0
  have f1 := fz 1
  have f2 := fz 2
  have f3 := fz 3
  simp [wpOpsS, go_sem, c0, f0, c1, f1, c2, f2, c3, f3, c4, f4, d3, bodyPostS, results, Try.results25, formF]
set_option maxRecDepth 100000 in
set_option maxHeartbeats 1000000 in
theorem inf_ret {R : Ending → World → Prop} {wr : World} {p s : Nat} {v : Value} {a b : Int} {c : Bool} {x : Int} {tmps : Array Value} (t4 : tmps[4]? = some (.pointer (some ⟨p, 0, none⟩))) (t5 : tmps[5]? = some (.pointer (some ⟨s, 0, none⟩)))
    (hb : FBx wr p s v a b c x) (hR : R (.returned (.tuple #[.agg #[v, .int .i64 a, .int .i64 b, .bool c], .int .i64 x])) wr) :
    bodyPostD Try.prog Try.f14 R Exit.ret { tmps := tmps, defers := [{ target := .fn (.func 25) #[.pointer (some ⟨p, 0, none⟩), .pointer (some ⟨s, 0, none⟩)], args := #[] }] } wr := by
  refine leaves_cons (f := 25) (args := #[.pointer (some ⟨p, 0, none⟩), .pointer (some ⟨s, 0, none⟩)]) (by simp) (by simp [go_sem]) ?_
  refine (inf_idle _ _ _).mono ?_
  rintro e u' w'' ⟨rfl, rfl, rfl⟩
  obtain ⟨⟨c0, c1, c2, c3, c4⟩, _⟩ := hb.cells
  simp [Leaves, settle, results, Try.results14, go_sem, t4, t5, c0, c1, c2, c3, c4]
  exact hR
set_option maxRecDepth 100000 in
set_option maxHeartbeats 1000000 in
theorem inf_panic {R : Ending → World → Prop} {wr : World} {p s : Nat} {v : Value} {a b : Int} {c : Bool} {x : Int} {tmps : Array Value} (t4 : tmps[4]? = some (.pointer (some ⟨p, 0, none⟩))) (t5 : tmps[5]? = some (.pointer (some ⟨s, 0, none⟩)))
    (hb : FBx wr p s v a b c x) (d3 : s ≠ p)
    (hR : ∀ w', Touch (fun k => k = p ∨ k = s) wr w' → R (.returned (.tuple #[.agg #[.slice none 0 0, .int .i64 0, .int .i64 0, .bool false], .int .i64 2])) w') :
    bodyPostD Try.prog Try.f14 R (Exit.panic [formF]) { tmps := tmps, defers := [{ target := .fn (.func 25) #[.pointer (some ⟨p, 0, none⟩), .pointer (some ⟨s, 0, none⟩)], args := #[] }] } wr := by
  refine leaves_cons (f := 25) (args := #[.pointer (some ⟨p, 0, none⟩), .pointer (some ⟨s, 0, none⟩)]) (by simp) (by simp [go_sem]) ?_
  refine (inf_catch p s v a b c x wr hb d3).mono ?_
  rintro e u' w'' ⟨rfl, rfl, rfl⟩
  obtain ⟨⟨c0, c1, c2, c3, c4⟩, _⟩ := hb.cells
  simp [Leaves, settle, results, Try.results14, go_sem, t4, t5, c0, c1, c2, c3, c4, d3, d3.symm]
  refine hR _ ?_
  repeat (refine Touch.setCell ?_ (Or.inl (by simp)) _)
  exact Touch.refl _ _
end Go.Proofs.Ytbbcphloafmldaa

/-! inflate.Inflate: its walk. -/
namespace Go.Proofs.Ytbbcphloafmldaa
open Go.RowKit
set_option linter.unusedVariables false

theorem symF_fit {L1 L2 : List Nat} {bits : List Bool} : ∀ (k p : Nat) (out : List Nat) {q : Nat} {o : List Nat}, bits.length - p ≤ k → symF L1 L2 bits p out = some (q, o) → p ≤ bits.length → p ≤ q ∧ q ≤ bits.length ∧ o.length + 258 * p ≤ out.length + 258 * q := by
  intro k
  induction k with
  | zero =>
    intro p out q o hk h hp
    cases hs : symS L1 L2 bits p out with
    | bad => rw [symF_bad hs] at h; cases h
    | stop q1 =>
      rw [symF_stop hs] at h; cases h
      unfold symS at hs
      split at hs
      · cases hs
      · rename_i c q0 hd
        have := decS_lt hd
        omega
    | go q1 o1 => have := symS_go hs; omega
  | succ k ih =>
    intro p out q o hk h hp
    cases hs : symS L1 L2 bits p out with
    | bad => rw [symF_bad hs] at h; cases h
    | stop q1 =>
      rw [symF_stop hs] at h; cases h
      unfold symS at hs
      split at hs
      · cases hs
      · rename_i c q0 hd
        have h1 := decS_lt hd
        split at hs
        · cases hs
        · split at hs
          · cases hs; omega
          · split at hs
            · cases hs
            · split at hs
              · cases hs
              · split at hs
                · cases hs
                · split at hs
                  · cases hs
                  · split at hs
                    · cases hs
                    · split at hs <;> cases hs
    | go q1 o1 =>
      rw [symF_go hs] at h
      have h1 := symS_go hs
      have h2 := symS_len hs
      have h3 := ih q1 o1 (by omega) h (by omega)
      omega
theorem storedF_fit {bits : List Bool} {p : Nat} {out : List Nat} {q : Nat} {o : List Nat} (h : storedF bits p out = some (q, o)) (hp : p ≤ bits.length) (h8 : 8 ∣ bits.length) : p ≤ q ∧ q ≤ bits.length ∧ o.length + 258 * p ≤ out.length + 258 * q := by
  unfold storedF at h
  split at h
  · cases h
  · rename_i n q1 h1
    have k1 := rd_fit h1
    split at h
    · cases h
    · rename_i m q2 h2
      have k2 := rd_fit h2
      split at h
      · cases h
      · split at h
        · cases h
          rw [List.length_append, List.length_map, List.length_range]
          have hc : p ≤ (p + 7) / 8 * 8 := by omega
          omega
        · cases h
theorem kindF_fit {k : Nat} {bits : List Bool} {p : Nat} {out : List Nat} {q : Nat} {o : List Nat} (h : kindF k bits p out = some (q, o)) (hp : p ≤ bits.length) (h8 : 8 ∣ bits.length) : p ≤ q ∧ q ≤ bits.length ∧ o.length + 258 * p ≤ out.length + 258 * q := by
  unfold kindF at h
  split at h
  · exact storedF_fit h hp h8
  · split at h
    · exact symF_fit _ p out (Nat.le_refl _) h hp
    · split at h
      · unfold dynF at h
        split at h
        · cases h
        · rename_i a b q1 h1
          have k1 := hdrF_fit h1
          have k2 := symF_fit _ q1 out (Nat.le_refl _) h k1.2.1
          omega
      · cases h
theorem inflF_b1 {bits : List Bool} {p : Nat} {out : List Nat} (h : rd bits p 1 = none) : inflF bits p out = none := by rw [inflF, h]
theorem inflF_b2 {bits : List Bool} {p : Nat} {out : List Nat} {l p1 : Nat} (h : rd bits p 1 = some (l, p1)) (h2 : rd bits p1 2 = none) : inflF bits p out = none := by rw [inflF, h]; simp only; rw [h2]
theorem inflF_b3 {bits : List Bool} {p : Nat} {out : List Nat} {l p1 k p2 : Nat} (h : rd bits p 1 = some (l, p1)) (h2 : rd bits p1 2 = some (k, p2)) (h3 : kindF k bits p2 out = none) : inflF bits p out = none := by rw [inflF, h]; simp only; rw [h2]; simp only; rw [h3]
theorem inflF_go {bits : List Bool} {p : Nat} {out : List Nat} {l p1 k p2 q : Nat} {o : List Nat} (h : rd bits p 1 = some (l, p1)) (h2 : rd bits p1 2 = some (k, p2)) (h3 : kindF k bits p2 out = some (q, o)) (h8 : 8 ∣ bits.length) : inflF bits p out = if l ≠ 0 then some (q, o) else inflF bits q o := by
  have k1 := rd_fit h
  have k2 := rd_fit h2
  have k3 := kindF_fit h3 k2.2.2 h8
  rw [inflF, h]; simp only; rw [h2]; simp only; rw [h3]; simp only
  split
  · rfl
  · rw [if_pos (by omega)]
/-- a stream's fate, at any kind of block. -/
theorem kind_at (k : Nat) (hk : k < 4) {w0 w : World} {B R : Nat} {og : Option Nat} {bs : List Nat} {p : Nat} {oo : Option Nat} {full : List Nat} {kp : Nat} (h : IPost w0 B R og bs p oo full kp w) (hB : bs.length ≤ 2 ^ 30 ∧ ∀ b ∈ bs, b < 256) (hp : p ≤ 8 * bs.length) (hf : full.length ≤ 258 * p) :
    Calls Try.prog (if k = 0 then 26 else if k = 1 then 27 else if k = 2 then 28 else 29) #[.pointer (some ⟨B, 0, none⟩)] w (InfE w0 B R og bs oo kp (kindF k (ofBits false bs) p full)) := by
  obtain ⟨o1, k1, k2, k3⟩ := h
  have lift : ∀ {r : Option (Nat × List Nat)} {e : Ending} {w' : World}, InfE w B R og bs o1 kp r e w' → InfE w0 B R og bs oo kp r e w' := by
    rintro r e w' (⟨q, o, h1, h2, h3⟩ | ⟨h1, h2, h3⟩)
    · exact Or.inl ⟨q, o, h1, h2, h3.go k2 k3⟩
    · exact Or.inr ⟨h1, h2, near_touch k2 k3 h3⟩
  have hf44 : full.length ≤ 2 ^ 44 := by have := hB.1; omega
  rcases (by omega : k = 0 ∨ k = 1 ∨ k = 2 ∨ k = 3) with rfl | rfl | rfl | rfl
  · exact (inf_stored B R og bs p o1 full kp w k1 hB.1 hB.2 hp hf44).mono fun e w' h => lift h
  · exact (inf_fixed B R og bs p o1 full kp w k1 hB.1 hB.2 hp hf).mono fun e w' h => lift h
  · exact (inf_dynamic B R og bs p o1 full kp w k1 hB.1 hB.2 hp hf).mono fun e w' h => lift h
  · exact (inf_none _ w).mono fun e w' ⟨h1, h2⟩ => Or.inr ⟨rfl, h1, by rw [h2]; exact k3⟩
end Go.Proofs.Ytbbcphloafmldaa
