/- pressworkref23.Row: its walk. -/
import Derived.Test.YteabjmebnbaonaaPickPlain
import Derived.Test.YteabjmebnbaonaaPickRises
import Derived.Test.YteabjmebnbaonaaAppend
import Derived.Test.YteabjmebnbaonaaMsbRefBits
namespace Go.Proofs.Yteabjmebnbaonaa
open Go.RowKit
set_option linter.unusedVariables false

/-- three rows of bits, each in new memory of its own. -/
def RW3 (w : World) (a b c : List Bool) (va vb vc : Value) (wr : World) : Prop := ∃ oa ob oc : Option Nat,
  Owns wr 4 1 va oa a.length (bls a) ∧ Owns wr 4 1 vb ob b.length (bls b) ∧ Owns wr 4 1 vc oc c.length (bls c) ∧
  (∀ g, oa = some g ∨ ob = some g ∨ oc = some g → w.heap.size ≤ g) ∧ (∀ g, oa = some g → ob ≠ some g) ∧ (∀ g, oa = some g → oc ≠ some g) ∧ (∀ g, ob = some g → oc ≠ some g) ∧ Ext w wr
theorem RW3.s12 {w wr : World} {a b c : List Bool} {va vb vc : Value} (h : RW3 w a b c va vb vc wr) : RW3 w b a c vb va vc wr := by
  obtain ⟨oa, ob, oc, h1, h2, h3, h4, h5, h6, h7, h8⟩ := h
  exact ⟨ob, oa, oc, h2, h1, h3, fun g e => h4 g (by rcases e with e | e | e <;> simp [e]), fun g e f => h5 g f e, h7, h6, h8⟩
theorem RW3.s13 {w wr : World} {a b c : List Bool} {va vb vc : Value} (h : RW3 w a b c va vb vc wr) : RW3 w c b a vc vb va wr := by
  obtain ⟨oa, ob, oc, h1, h2, h3, h4, h5, h6, h7, h8⟩ := h
  exact ⟨oc, ob, oa, h3, h2, h1, fun g e => h4 g (by rcases e with e | e | e <;> simp [e]), fun g e f => h7 g f e, fun g e f => h6 g f e, fun g e f => h5 g f e, h8⟩
theorem RW3.drop3 {w wr : World} {a b c : List Bool} {va vb vc : Value} (h : RW3 w a b c va vb vc wr) : RW3 w a b [] va vb (.slice none 0 0) wr := by
  obtain ⟨oa, ob, oc, h1, h2, h3, h4, h5, h6, h7, h8⟩ := h
  exact ⟨oa, ob, none, h1, h2, Owns.nil _ _ _, fun g e => h4 g (by rcases e with e | e | e <;> simp_all), h5, fun g e f => (by cases f), fun g e f => (by cases f), h8⟩
theorem RW3.grow {w w1 w2 : World} {a b c xs : List Bool} {va vb vc v' : Value} (h : RW3 w a b c va vb vc w1) (hown : w2.ownsRow 0 4 1 v' (a ++ xs).length (bls (a ++ xs))) (ht : Touch (fun k => va.ownBlock = some k) w1 w2)
    (hat : v'.ownBlock = va.ownBlock ∨ ∃ g, v'.ownBlock = some g ∧ w1.heap.size ≤ g) : RW3 w (a ++ xs) b c v' vb vc w2 := by
  obtain ⟨oa, ob, oc, h1, h2, h3, h4, h5, h6, h7, h8⟩ := h
  have hs := h8.size
  have e1 := h1.2
  rw [e1] at ht hat
  have lb := h2.lt
  have lc := h3.lt
  refine ⟨v'.ownBlock, ob, oc, ⟨hown, rfl⟩, h2.keep ht (fun g e f => h5 g f e), h3.keep ht (fun g e f => h6 g f e), fun g e => ?_, fun g e f => ?_, fun g e f => ?_, h7, h8.touch ht (fun i hi e => by have := h4 i (Or.inl e); omega)⟩
  · rcases e with e | e
    · rcases hat with hat | ⟨g', hat, hg'⟩
      · exact h4 g (Or.inl (hat ▸ e))
      · rw [hat] at e; cases e; omega
    · exact h4 g (Or.inr e)
  · rcases hat with hat | ⟨g', hat, hg'⟩
    · exact h5 g (hat ▸ e) f
    · rw [hat] at e; cases e; have := lb _ f; omega
  · rcases hat with hat | ⟨g', hat, hg'⟩
    · exact h6 g (hat ▸ e) f
    · rw [hat] at e; cases e; have := lc _ f; omega
theorem RW3.own1 {w wr : World} {a b c : List Bool} {va vb vc : Value} (h : RW3 w a b c va vb vc wr) : wr.ownsRow 0 4 1 va a.length (bls a) := h.choose_spec.choose_spec.choose_spec.1.1
theorem RW3.ext {w wr w' : World} {a b c : List Bool} {va vb vc : Value} (h : RW3 w a b c va vb vc wr) (hx : Ext wr w') : RW3 w a b c va vb vc w' := by
  obtain ⟨oa, ob, oc, h1, h2, h3, h4, h5, h6, h7, h8⟩ := h
  exact ⟨oa, ob, oc, h1.ext' hx, h2.ext' hx, h3.ext' hx, h4, h5, h6, h7, h8.trans hx⟩
theorem RW3.toExt {w wr : World} {a b c : List Bool} {va vb vc : Value} (h : RW3 w a b c va vb vc wr) : Ext w wr := h.choose_spec.choose_spec.choose_spec.2.2.2.2.2.2.2
theorem RW3.view1 {w wr : World} {a b c : List Bool} {va vb vc : Value} (h : RW3 w a b c va vb vc wr) : ViewL wr va (bls a) := h.choose_spec.choose_spec.choose_spec.1.viewL
theorem RW3.row {w wr : World} {a b c : List Bool} {va vb vc : Value} (h : RW3 w a b c va vb vc wr) : NewRow w a (.returned va) wr := by
  obtain ⟨oa, ob, oc, h1, h2, h3, h4, h5, h6, h7, h8⟩ := h
  exact ⟨va, oa, rfl, h1, fun g e => h4 g (Or.inl e), h8⟩
def topL (us : List Nat) (g : Nat) : List Bool := (List.range g).map fun g => decide (grpN us g ≠ 0)
def restG (us : List Nat) (g : Nat) : List Bool := restOf ((List.range' 0 g).map fun g => (g, grpN us g))
theorem topL_succ (us : List Nat) (g : Nat) : topL us (g + 1) = topL us g ++ [decide (grpN us g ≠ 0)] := by simp [topL, List.range_succ]
theorem topL_len (us : List Nat) (g : Nat) : (topL us g).length = g := by simp [topL]
theorem restG_succ (us : List Nat) (g : Nat) : restG us (g + 1) = restG us g ++ if grpN us g = 0 then [] else grpB us g 16 := by
  rw [restG, List.range'_concat, List.map_append, restOf_app]
  simp [restOf, restG, grpBits]
theorem restG_len (us : List Nat) (g : Nat) (hg : g ≤ 16) : (restG us g).length ≤ 256 := by
  have := restOf_len ((List.range' 0 g).map fun g => (g, grpN us g))
  rw [List.length_map, List.length_range'] at this
  rw [restG]; omega
theorem putOf_rows (us : List Nat) : putOf us = topL us 16 ++ restG us 16 := by rw [putOf, topBits]; rfl
theorem grpB_any (us : List Nat) (g : Nat) : (grpB us g 16).any id = decide (grpN us g ≠ 0) := by
  rw [Bool.eq_iff_iff]
  simp only [grpB, List.any_map, List.any_eq_true, List.mem_range, Function.comp, id, decide_eq_true_eq]
  constructor
  · rintro ⟨k, hk, hm⟩ h0
    exact (grpN_zero us g).1 h0 k hk hm
  · intro h
    exact Classical.byContradiction fun hn => h ((grpN_zero us g).2 fun k hk hm => hn ⟨k, hk, hm⟩)
set_option maxHeartbeats 4000000 in
set_option maxRecDepth 100000 in
theorem pick_ref_row (v : Value) (us : List Nat) (w : World) (hv : ViewL w v (u8s us)) (hl : us.length ≤ 2 ^ 40) (hb : ∀ x ∈ us, x < 256) :
    Calls Try.prog 22 #[v] w (NewRow w (putOf us)) := by
  obtain ⟨i0, hi1, hz0, hz1, hz2⟩ := info_parts msb_infoB
  obtain ⟨ao, cap, rfl⟩ := hv.shape
  rw [length_u8s] at *
  have HV := Lib.hid hv
  have HB := Lib.hid hb
  clear hv hb
  go_enter Try.func22, Try.ntmps22
  go_wp2_with fail
  go_loopw [3, 4, 5] (fun fv rv gv wr => ∃ g : Nat, gv = .int .i64 g ∧ g ≤ 16 ∧ RW3 w (topL us g) (restG us g) [] fv rv (.slice none 0 0) wr) (fun _ _ gv _ => 16 - (intOf gv).toNat)
  case atStart => exact ⟨0, rfl, Nat.zero_le _, none, none, none, Owns.nil _ _ _, Owns.nil _ _ _, Owns.nil _ _ _, fun g e => (by rcases e with e | e | e <;> cases e), fun g e => (by cases e), fun g e => (by cases e), fun g e => (by cases e), Ext.refl w⟩
  case round =>
    obtain ⟨g, rfl, hg, hrw⟩ := hrel
    have HRW := Lib.hid hrw
    clear hrw
    by_cases hlt : g < 16
    · have hlti : (g : Int) < 16 := by omega
      go_wp2_with fail
      go_loopw [6, 7, 8] (fun bv sv kv wr => ∃ (k : Nat) (s : Bool), kv = .int .i64 k ∧ k ≤ 16 ∧ sv = .bool s ∧ s = (grpB us g k).any id ∧ RW3 w (topL us g) (restG us g) (grpB us g k) u3 u4 bv wr) (fun _ _ kv _ => 16 - (intOf kv).toNat)
      case atStart => exact ⟨0, false, rfl, Nat.zero_le _, rfl, rfl, HRW.out⟩
      case round =>
        obtain ⟨k, s, rfl, hk, rfl, hs, hrw⟩ := hrel
        have HRW2 := Lib.hid hrw
        have HS := Lib.hid hs
        clear hrw hs
        by_cases hk16 : k < 16
        · have hki : (k : Int) < 16 := by omega
          obtain ⟨c, hc⟩ : ∃ c, c = 16 * g + k := ⟨_, rfl⟩
          have HC := Lib.hid hc
          have k1 : 16 * (g : Int) + (k : Int) = (c : Int) := by omega
          have k2 : IntKind.i64.wrap (16 * (g : Int)) = 16 * (g : Int) := IntWalk.i64_in _ (by omega)
          have k3 : IntKind.i64.wrap (c : Int) = (c : Int) := IntWalk.i64_in _ (by omega)
          have hc256 : c < 256 := by omega
          clear hc
          go_wp2_with fail
          refine (pick_ref_has _ us c _ (HV.out.ext HRW2.out.toExt) hl HB.out).mono ?_
          obtain ⟨d, hd⟩ : ∃ d, d = decide (c ∈ us) := ⟨_, rfl⟩
          rw [← hd]
          have HD := Lib.hid hd.symm
          clear hd
          rintro e w' ⟨rfl, rfl⟩
          cases s with
          | true =>
            go_wp2_with (at_builtin; go_must (refine wpList_append_own_at _ rfl (.tmp 28) (.tmp 30) 38 rfl 0 4 i0 (.bool false) 1 1 Try.underlying38 hi1 hz0 hz1 hz2 rfl (by decide) _ (grpB us g k).length (bls (grpB us g k)) rfl (HRW2.out.s13.own1.alloc _) ⟨wr.heap.size, 0, none⟩ 1 1 [.bool d] rfl rfl (cell_one_new _ _ _) (by simp [Value.oneCell']) (by rw [length_grpB]; unfold maxLen; omega) (by rw [length_grpB]; omega) (Nat.zero_le _) ?_))
            intro v' w2 hown' hgrow _ hat
            have hR2 := HRW2.out.s13.grow (xs := [d]) (by rw [bls_append, List.length_append]; exact hown') (Touch.grown (((Ext.refl wr).alloc _).mono (fun _ _ f => f.elim)) hgrow (fun k e => Or.inl e)) (hat.imp id (fun h => ⟨_, h, by omega⟩))
            have HR2 := Lib.hid hR2.s13
            clear hR2 hown' hgrow hat
            go_wp2_with fail
            go_roundw
            case rel => exact ⟨k + 1, true, by go_num, by omega, rfl, by rw [grpB_succ, List.any_append, ← HS.out, ← HC.out, HD.out]; simp, by rw [grpB_succ, ← HC.out, HD.out]; exact HR2.out⟩
            case measure => simp [intOf]; omega
          | false =>
            go_wp2_with (at_builtin; go_must (refine wpList_append_own_at _ rfl (.tmp 28) (.tmp 30) 38 rfl 0 4 i0 (.bool false) 1 1 Try.underlying38 hi1 hz0 hz1 hz2 rfl (by decide) _ (grpB us g k).length (bls (grpB us g k)) rfl (HRW2.out.s13.own1.alloc _) ⟨wr.heap.size, 0, none⟩ 1 1 [.bool d] rfl rfl (cell_one_new _ _ _) (by simp [Value.oneCell']) (by rw [length_grpB]; unfold maxLen; omega) (by rw [length_grpB]; omega) (Nat.zero_le _) ?_))
            intro v' w2 hown' hgrow _ hat
            have hR2 := HRW2.out.s13.grow (xs := [d]) (by rw [bls_append, List.length_append]; exact hown') (Touch.grown (((Ext.refl wr).alloc _).mono (fun _ _ f => f.elim)) hgrow (fun k e => Or.inl e)) (hat.imp id (fun h => ⟨_, h, by omega⟩))
            have HR2 := Lib.hid hR2.s13
            clear hR2 hown' hgrow hat
            go_wp2_with fail
            go_roundw
            case rel => exact ⟨k + 1, d, by go_num, by omega, rfl, by rw [grpB_succ, List.any_append, ← HS.out, ← HC.out, HD.out]; simp, by rw [grpB_succ, ← HC.out, HD.out]; exact HR2.out⟩
            case measure => simp [intOf]; omega
        · obtain rfl : k = 16 := by omega
          rw [grpB_any] at HS
          have htl := topL_len us g
          have hrl := restG_len us g hg
          have hgl := length_grpB us g 16
          go_wp2_with (at_builtin; go_must (refine wpList_append_own_at _ rfl (.tmp 32) (.tmp 34) 38 rfl 0 4 i0 (.bool false) 1 1 Try.underlying38 hi1 hz0 hz1 hz2 rfl (by decide) _ (topL us g).length (bls (topL us g)) rfl (HRW2.out.own1.alloc _) ⟨wr.heap.size, 0, none⟩ 1 1 [.bool s] rfl rfl (cell_one_new _ _ _) (by simp [Value.oneCell']) (by rw [topL_len]; unfold maxLen; omega) (by rw [topL_len]; omega) (Nat.zero_le _) ?_))
          intro v' w2 hown' hgrow _ hat
          have hR2 := HRW2.out.grow (xs := [s]) (by rw [bls_append, List.length_append, topL_len]; exact hown') (Touch.grown (((Ext.refl wr).alloc _).mono (fun _ _ f => f.elim)) hgrow (fun k e => Or.inl e)) (hat.imp id (fun h => ⟨_, h, by omega⟩))
          have HR2 := Lib.hid hR2
          clear hR2 hown' hgrow hat
          cases s with
          | true =>
            have hz : ¬ grpN us g = 0 := by have := HS.out; simpa using this.symm
            go_wp2_with (at_builtin; go_must (refine wpList_append_view _ rfl (.tmp 37) (.tmp 38) 38 rfl 0 4 i0 (.bool false) 1 Try.underlying38 hi1 hz0 hz1 hz2 rfl _ (restG us g).length (bls (restG us g)) rfl HR2.out.s12.own1 _ (bls (grpB us g 16)) rfl HR2.out.s13.view1 (bls_one _) (by rw [length_bls, length_grpB]; unfold maxLen; omega) (by rw [length_bls, length_grpB]; omega) (Nat.zero_le _) ?_))
            intro v3 w3 hown3 hgrow3 hat3
            have hR3 := HR2.out.s12.grow (xs := grpB us g 16) (by rw [bls_append, List.length_append]; rw [length_bls] at hown3; exact hown3) (Touch.grown (Touch.refl _ _) hgrow3 (fun k e => Or.inl e)) (hat3.imp id (fun h => ⟨_, h, by omega⟩))
            have HR3 := Lib.hid hR3.s12.drop3
            have HZ := Lib.hid hz
            clear hR3 hown3 hgrow3 hat3 hz
            go_wp2_with fail
            go_roundw
            case rel => exact ⟨g + 1, by go_num, by omega, by rw [topL_succ, restG_succ, if_neg HZ.out, ← HS.out]; exact HR3.out⟩
            case measure => simp [intOf]; omega
          | false =>
            have hz : grpN us g = 0 := by have := HS.out; simpa using this.symm
            have HZ := Lib.hid hz
            clear hz
            go_wp2_with fail
            go_roundw
            case rel => exact ⟨g + 1, by go_num, by omega, by rw [topL_succ, restG_succ, if_pos HZ.out, ← HS.out, List.append_nil]; exact HR2.out.drop3⟩
            case measure => simp [intOf]; omega
    · obtain rfl : g = 16 := by omega
      have htl := topL_len us 16
      have hrl := restG_len us 16 (by omega)
      go_wp2_with (at_builtin; go_must (refine wpList_append_view _ rfl (.tmp 40) (.tmp 41) 38 rfl 0 4 i0 (.bool false) 1 Try.underlying38 hi1 hz0 hz1 hz2 rfl _ (topL us 16).length (bls (topL us 16)) rfl HRW.out.own1 _ (bls (restG us 16)) rfl HRW.out.s12.view1 (bls_one _) (by rw [length_bls]; unfold maxLen; omega) (by rw [length_bls]; omega) (Nat.zero_le _) ?_))
      intro v3 w3 hown3 hgrow3 hat3
      have hR3 := HRW.out.grow (xs := restG us 16) (by rw [bls_append, List.length_append]; rw [length_bls] at hown3; exact hown3) (Touch.grown (Touch.refl _ _) hgrow3 (fun k e => Or.inl e)) (hat3.imp id (fun h => ⟨_, h, by omega⟩))
      have HR3 := Lib.hid hR3.row
      clear hR3 hown3 hgrow3 hat3
      go_wp2_with fail
      go_ret
      rw [putOf_rows]
      exact HR3.out
end Go.Proofs.Yteabjmebnbaonaa
