/- A stream's block of the fixed codes: slices.Grow of nil, slices.Concat, and the walk. -/
import Derived.BigQuiet
import Derived.Lib.AppendZerosOnto
import Derived.Test.YtbbcphloafmldaaGreatInfSymZ
import Derived.Test.YtbbcphloafmldaaGreatRepUnpackZ
import Derived.Test.YtbbcphloafmldaaGreatBnd18
namespace Go.Proofs.YtbbcphloafmldaaGreat
open Go.RowKit Go.Lib
set_option linter.unusedVariables false

theorem viewL_viewF {w : World} {v : Value} {bs : List Nat} (h : ViewL w v (u8s bs)) : View w v bs := by
  obtain ⟨ao, cap, rfl, hcap, hnil, hc⟩ := h
  rw [length_u8s] at *
  cases ao with
  | none =>
    have := hnil rfl
    subst this
    obtain rfl : bs = [] := List.eq_nil_of_length_eq_zero (by omega)
    exact Or.inl ⟨rfl, rfl⟩
  | some ad =>
    refine Or.inr ⟨ad, cap, rfl, fun j u hu => ?_⟩
    have hj : j < bs.length := by have := (List.getElem?_eq_some_iff.1 hu).1; rwa [length_u8s] at this
    obtain ⟨b, o, e, hcx⟩ := hc (by omega)
    cases e
    have e2 : (⟨b, o, none⟩ : Addr).add j = ⟨b, o + j, none⟩ := by unfold Addr.add; split <;> simp_all
    rw [e2]; exact hcx j u hu
/-- bytes in new memory. -/
def NewB (w : World) (l : List Nat) (e : Ending) (w' : World) : Prop := ∃ v og, e = .returned v ∧ Owns w' 5 1 v og l.length (u8s l) ∧ (∀ g, og = some g → w.heap.size ≤ g) ∧ Ext w w'
set_option maxRecDepth 100000 in
theorem sl_grow_nil (n : Nat) (h0 : 0 < n) (hn : n ≤ 2 ^ 40) (w : World) : Calls Tryz.prog 108 #[.slice none 0 0, .int .i64 n] w (NewB w []) := by
  obtain ⟨i0, hi0, hz0, hz1, hz2⟩ := info_parts info_u8
  have h1 : ¬ ((n : Int) < 0) := by omega
  have h4 : (n : Int) > 0 := by omega
  have hold : (Builtin.firstCells i0.size 0 (.slice none 0 0)).run Tryz.prog w.drew = .ok #[] w.drew := run_firstCells_none w.drew i0.size 0 0 0
  have hrz : ∀ ty, (Builtin.append_ #[22, 3] ty #[.slice none 0 0, .int .i64 (n : Int)]).run Tryz.prog w =
      .ok (.slice (some ⟨w.heap.size, 0, none⟩) n (grownCap w n 0 5)) (w.drew.alloc (.cells (Builtin.zeroCells (Value.int .u8 0).cells n ++ Builtin.zeroCells (Value.int .u8 0).cells (grownCap w n 0 5 - n)) 5)) := fun ty => by
    have h := Lib.run_append_grow_zeros w 22 3 ty 5 i0 (.int .u8 0) .i64 .i64 Tryz.underlying22 Tryz.underlying3 hi0 hz0 none 0 0 [] hold n h0 (by omega) (by omega) (by omega) (by rw [hz2]; omega)
      (by rw [Nat.zero_add]; exact growslice_fits h0 (by rw [hz2]; omega))
    simpa using h
  have hGn : n ≤ grownCap w n 0 5 := grownCap_ge w _ _ _
  have hG63' := grownCap_le_maxLen w n 0 5 (by unfold maxLen; omega)
  obtain ⟨G, hG⟩ : ∃ G, G = grownCap w n 0 5 := ⟨_, rfl⟩
  rw [← hG] at hrz hGn hG63'
  obtain ⟨w5, hw5⟩ : ∃ w5, w5 = w.drew.alloc (.cells (Builtin.zeroCells (Value.int .u8 0).cells n ++ Builtin.zeroCells (Value.int .u8 0).cells (G - n)) 5) := ⟨_, rfl⟩
  have hown : Owns w5 5 1 (.slice (some ⟨w.heap.size, 0, none⟩) 0 G) (some w.heap.size) 0 [] := by
    refine ⟨⟨rfl, Or.inr ⟨w.heap.size, G, Builtin.zeroCells (Value.int .u8 0).cells n ++ Builtin.zeroCells (Value.int .u8 0).cells (G - n), rfl, Nat.zero_le _, ?_, Nat.zero_le _, hG63', ?_, ?_⟩⟩, rfl⟩
    · rw [hw5]; exact heap_alloc_new w.drew _
    · rw [Array.size_append, size_zeroCells, size_zeroCells]; show n * 1 + (G - n) * 1 = _; omega
    · simp
  have hx5 : Ext w w5 := by rw [hw5]; exact ((Ext.refl w).drew).alloc _
  have HF := Lib.hid (And.intro hown hx5)
  rw [← hw5] at hrz
  have hGz : (G : Int) ≤ 9223372036854775807 := by unfold maxLen at hG63'; omega
  clear hold hG hown hx5 hw5 hG63' hi0 hz0 hz1 hz2 h0
  go_enter Tryz.func108, Tryz.ntmps108
  go_wp2_with (at_builtin; refine Lib.wpList_append_run _ rfl _ _ _ _ rfl _ _ rfl rfl _ _ (hrz _) ?_)
  all_goals (go_ret; exact ⟨_, some w.heap.size, rfl, HF.out.1, (fun g e => by cases e; exact Nat.le_refl _), HF.out.2⟩)
/-- a row of rows, just laid. -/
structure RowsI (w : World) (X : Nat) (vs : List Value) (Ls : List (List Nat)) : Prop where
  box : w.heap[X]? = some (.cells vs.toArray 22 (0, 0))
  len : vs.length = Ls.length
  view : ∀ (i : Nat) (v : Value) (L : List Nat), vs[i]? = some v → Ls[i]? = some L → ViewL w v (u8s L)
theorem RowsI.ext {w w' : World} {X : Nat} {vs : List Value} {Ls : List (List Nat)} (h : RowsI w X vs Ls) (hx : Ext w w') : RowsI w' X vs Ls := ⟨hx.keep h.box (fun f => f), h.len, fun i v L h1 h2 => (h.view i v L h1 h2).ext hx⟩
theorem RowsI.at {w : World} {X : Nat} {vs : List Value} {Ls : List (List Nat)} (h : RowsI w X vs Ls) {i : Nat} {L : List Nat} (hL : Ls[i]? = some L) : ∃ a c, w.cell? ⟨X, i, none⟩ = some (.slice a L.length c) ∧ ViewL w (.slice a L.length c) (u8s L) := by
  have hi := (List.getElem?_eq_some_iff.1 hL).1
  obtain ⟨v, hv⟩ : ∃ v, vs[i]? = some v := ⟨_, List.getElem?_eq_getElem (by rw [h.len]; exact hi)⟩
  have hvw := h.view i v L hv hL
  obtain ⟨a, c, rfl⟩ := hvw.shape
  rw [length_u8s] at hvw hv
  refine ⟨a, c, ?_, hvw⟩
  simp only [World.cell?, h.box]
  simpa using hv
theorem take_flat {Ls : List (List Nat)} {i : Nat} {L : List Nat} (h : Ls[i]? = some L) : (Ls.take (i + 1)).flatten = (Ls.take i).flatten ++ L := by
  rw [List.take_add_one, h]; simp
theorem take_flat_le (Ls : List (List Nat)) (i : Nat) : ((Ls.take i).flatten).length ≤ Ls.flatten.length := by
  have h : Ls.flatten = (Ls.take i).flatten ++ (Ls.drop i).flatten := by rw [← List.flatten_append, List.take_append_drop]
  rw [h, List.length_append]; omega
def CcS (w : World) (Ls : List (List Nat)) (N : Nat) (sv iv : Value) (wr : World) : Prop := ∃ i : Nat, iv = .int .i64 i ∧ i ≤ N ∧ sv = .int .i64 (((Ls.take i).flatten).length : Nat) ∧ wr = w
def CcA (w : World) (Ls : List (List Nat)) (N : Nat) (nv iv : Value) (wr : World) : Prop := ∃ (i : Nat) (og : Option Nat), iv = .int .i64 i ∧ i ≤ N ∧ Owns wr 5 1 nv og ((Ls.take i).flatten).length (u8s (Ls.take i).flatten) ∧ (∀ g, og = some g → w.heap.size ≤ g) ∧ Ext w wr
set_option maxRecDepth 100000 in
set_option maxHeartbeats 1000000 in
theorem sl_concat (X N : Nat) (vs : List Value) (Ls : List (List Nat)) (w : World) (hr : RowsI w X vs Ls) (hN : N = Ls.length) (hN2 : N ≤ 100) (h0 : 0 < Ls.flatten.length) (hF : Ls.flatten.length ≤ 2 ^ 20) :
    Calls Tryz.prog 85 #[.slice (some ⟨X, 0, none⟩) N N] w (NewB w Ls.flatten) := by
  obtain ⟨i0, hi, hz0, hz1, hz2⟩ := info_parts info_u8
  have HR := Lib.hid hr
  have HN := Lib.hid (show N = Ls.length ∧ 0 < Ls.flatten.length ∧ Ls.flatten.length ≤ 2 ^ 20 from ⟨hN, h0, hF⟩)
  clear hr hN h0 hF
  go_enter Tryz.func85, Tryz.ntmps85
  go_wp2_with fail
  go_loopw [3, 11] (fun sv iv wr => CcS w Ls N sv iv wr) (fun _ iv _ => N - (intOf iv).toNat)
  case atStart => exact ⟨0, rfl, Nat.zero_le _, rfl, rfl⟩
  case round =>
    obtain ⟨i, rfl, hin, rfl, hw⟩ := hrel
    obtain rfl := hw.symm
    clear hw
    obtain ⟨S, hS⟩ : ∃ S, S = ((Ls.take i).flatten).length := ⟨_, rfl⟩
    have hSb := take_flat_le Ls i
    rw [← hS] at hSb ⊢
    have hSz : (S : Int) ≤ 1048576 := by have := HN.out; omega
    have HS := Lib.hid hS
    clear hS hSb
    by_cases hlt : i < N
    · have hltz : (i : Int) < (N : Int) := by omega
      obtain ⟨L, hL⟩ : ∃ L, Ls[i]? = some L := ⟨_, List.getElem?_eq_getElem (by rw [← HN.out.1]; exact hlt)⟩
      obtain ⟨a, c, hcell, _⟩ := HR.out.at hL
      obtain ⟨m, hm⟩ : ∃ m, m = L.length := ⟨_, rfl⟩
      rw [← hm] at hcell
      have hS1 : S + m = ((Ls.take (i + 1)).flatten).length := by rw [take_flat hL, List.length_append, ← HS.out, ← hm]
      have hmz : (m : Int) ≤ 1048576 := by have := take_flat_le Ls (i + 1); have := HN.out; omega
      have HS1 := Lib.hid (show (S : Int) + (m : Int) = (((Ls.take (i + 1)).flatten).length : Nat) from by omega)
      clear hL hm hS1
      go_wp2_with fail
      go_roundw
      case rel => exact ⟨i + 1, by go_num, by omega, by rw [HS1.out], rfl⟩
      case measure => simp [intOf]; omega
    · obtain rfl : i = N := by omega
      have HSN := Lib.hid (show S = Ls.flatten.length from by rw [HS.out, HN.out.1, List.take_length])
      have hltz : ¬ (i : Int) < (i : Int) := by omega
      have HGW := Lib.hid (sl_grow_nil S (by have := HSN.out; have := HN.out; omega) (by have := HSN.out; have := HN.out; omega) w)
      clear hlt hin
      go_wp2_with fail
      refine HGW.out.mono ?_
      rintro e w2 ⟨gv, og, rfl, ho, hg, hx⟩
      have H2 := Lib.hid (show CcA w Ls i gv (.int .i64 ((0 : Nat) : Int)) w2 from ⟨0, og, rfl, Nat.zero_le _, by simpa [u8s] using ho, hg, hx⟩)
      clear ho hg hx
      go_wp2_with fail
      go_loopw [6, 27] (fun nv iv wx => CcA w Ls i nv iv wx) (fun _ iv _ => i - (intOf iv).toNat)
      case atStart => exact H2.out
      case round =>
        obtain ⟨j, oj, rfl, hjn, ho, hg, hx⟩ := hrel
        obtain ⟨l, hl⟩ : ∃ l, l = (Ls.take j).flatten := ⟨_, rfl⟩
        have hlb := take_flat_le Ls j
        rw [← hl] at hlb ho
        have hl20 : l.length ≤ 2 ^ 20 := by have := HN.out; omega
        have HJ := Lib.hid (show Owns wr 5 1 u6 oj l.length (u8s l) ∧ (∀ g, oj = some g → w.heap.size ≤ g) ∧ Ext w wr ∧ l = (Ls.take j).flatten from ⟨ho, hg, hx, hl⟩)
        clear ho hg hl hlb
        by_cases hlt : j < i
        · have hltz : (j : Int) < (i : Int) := by omega
          obtain ⟨L, hL⟩ : ∃ L, Ls[j]? = some L := ⟨_, List.getElem?_eq_getElem (by rw [← HN.out.1]; exact hlt)⟩
          obtain ⟨a, c, hcell, hvw⟩ := (HR.out.ext hx).at hL
          have hLb : L.length ≤ 2 ^ 20 := by
            have h1 := take_flat_le Ls (j + 1)
            rw [take_flat hL, List.length_append] at h1
            have := HN.out; omega
          have HL := Lib.hid (And.intro hL hvw)
          obtain ⟨m, hm⟩ : ∃ m, m = L.length := ⟨_, rfl⟩
          have HM := Lib.hid hm
          rw [← hm] at hcell hLb
          clear hL hvw hx hm
          go_wp2_with (at_builtin; go_must (refine wpList_append_view _ rfl (.tmp 31) (.tmp 32) 22 rfl 0 5 i0 (.int .u8 0) 1 Tryz.underlying22 hi hz0 hz1 hz2 rfl _ l.length (u8s l) rfl HJ.out.1.1 _ (u8s L) rfl (by rw [HM.out]; exact HL.out.2) (u8s_one _) (by rw [length_u8s, ← HM.out]; unfold maxLen; omega) (by rw [length_u8s, ← HM.out]; omega) (Nat.zero_le _) ?_))
          intro v' w5 hown hgrow hat
          have HA := Lib.hid (show CcA w Ls i v' (.int .i64 ((j + 1 : Nat) : Int)) w5 from by
            have h := HJ.out
            refine ⟨j + 1, v'.ownBlock, rfl, hlt, ⟨by rw [take_flat HL.out.1, ← h.2.2.2, u8s_append, List.length_append]; rw [length_u8s] at hown; exact hown, rfl⟩, fun g e => ?_, h.2.2.1.touch ((Touch.refl (fun k => oj = some k) wr).grown hgrow (fun k e => Or.inl (by rw [← h.1.2]; exact e))) (fun k hk e => by have := h.2.1 k e; omega)⟩
            rcases hat with hat | hat
            · exact h.2.1 g (by rw [← h.1.2, ← hat]; exact e)
            · rw [hat] at e; cases e; exact h.2.2.1.size)
          have HLT := Lib.hid hlt
          clear hown hgrow hat hcell hi hz0 hz1 hz2 hlt hjn
          go_wp2_with fail
          go_roundw
          case rel => exact HA.out
          case measure => simp [intOf]; have := HLT.out; omega
        · obtain rfl : j = i := by omega
          clear hlt hjn hx hi hz0 hz1 hz2
          go_wp2_with fail
          go_ret
          have h := HJ.out
          have e1 : l = Ls.flatten := by rw [h.2.2.2, HN.out.1, List.take_length]
          rw [e1] at h
          exact ⟨_, _, rfl, h.1, h.2.1, h.2.2.1⟩
set_option maxRecDepth 100000 in
theorem inf_many (n k : Nat) (h0 : 0 < n) (hn : n ≤ 1000) (w : World) : Calls Tryz.prog 82 #[.int .i64 n, .int .u8 k] w (NewB w (List.replicate n k)) := by
  have hnz : (n : Int) ≤ 1000 := by omega
  have HR := Lib.hid (rep_repeat w.heap.size k n (w.alloc (.cells #[.int .u8 k] 5)) (heap_alloc_new _ _) h0 hn)
  clear h0 hn
  go_enter Tryz.func82, Tryz.ntmps82
  go_wp2_with fail
  refine HR.out.mono ?_
  rintro e w' ⟨v, og, rfl, h1, h2, h3⟩
  have HF := Lib.hid (show NewB w (List.replicate n k) (.returned v) w' from ⟨v, og, rfl, by rw [List.length_replicate]; exact h1, fun g e => by have := h2 g e; simp at this; omega, ((Ext.refl w).alloc _).trans' h3⟩)
  clear h1 h2 h3
  go_wp2_with fail
  go_ret
  exact HF.out
theorem good_fixedA : Good fixedA := by
  refine ⟨fun b hb => ?_, by decide +kernel, by decide +kernel⟩
  simp only [fixedA, List.mem_append] at hb
  rcases hb with ((hb | hb) | hb) | hb <;> (rw [List.eq_of_mem_replicate hb]; decide)
theorem good_fixedB : Good fixedB := by
  refine ⟨fun b hb => ?_, by decide, by decide⟩
  rw [List.eq_of_mem_replicate hb]; decide
set_option maxRecDepth 100000 in
set_option maxHeartbeats 2000000 in
theorem inf_fixed (B R : Nat) (og : Option Nat) (bs : List Nat) (p : Nat) (oo : Option Nat) (full : List Nat) (kp : Nat) (w : World) (h : ISt w B R og bs p oo full kp) (hl : bs.length ≤ 2 ^ 30) (hb : ∀ b ∈ bs, b < 256) (hp : p ≤ 8 * bs.length) (hf : full.length ≤ 258 * p) :
    Calls Tryz.prog 57 #[.pointer (some ⟨B, 0, none⟩)] w (InfE w B R og bs oo kp (symF fixedA fixedB (ofBits false bs) p full)) := by
  obtain ⟨r, hr⟩ : ∃ r, r = symF fixedA fixedB (ofBits false bs) p full := ⟨_, rfl⟩
  rw [← hr]
  have HH := Lib.hid (show ISt w B R og bs p oo full kp ∧ bs.length ≤ 2 ^ 30 ∧ (∀ b ∈ bs, b < 256) ∧ p ≤ 8 * bs.length ∧ full.length ≤ 258 * p ∧ r = symF fixedA fixedB (ofBits false bs) p full from ⟨h, hl, hb, hp, hf, hr⟩)
  clear h hl hb hp hf hr
  go_enter Tryz.func57, Tryz.ntmps57
  go_wp2_with fail
  refine (inf_many 144 8 (by decide) (by decide) w).mono ?_
  rintro e w1 ⟨v1, og1, rfl, ho, _, hx⟩
  obtain ⟨a1, c1, rfl⟩ := ho.shape
  rw [List.length_replicate] at ho ⊢
  have H1 := Lib.hid (show Vw w1 (.slice a1 144 c1) (List.replicate 144 8) ∧ True ∧ Ext w w1 from ⟨⟨viewL_viewF ho.viewL, ho.viewL⟩, trivial, hx⟩)
  clear ho hx
  go_wp2_with fail
  refine (inf_many 112 9 (by decide) (by decide) w1).mono ?_
  rintro e w2 ⟨v2, og2, rfl, ho, _, hx⟩
  obtain ⟨a2, c2, rfl⟩ := ho.shape
  rw [List.length_replicate] at ho ⊢
  have H2 := Lib.hid (show Vw w2 (.slice a2 112 c2) (List.replicate 112 9) ∧ True ∧ Ext w w2 from ⟨⟨viewL_viewF ho.viewL, ho.viewL⟩, trivial, (H1.out.2.2.trans hx)⟩)
  have X2 := Lib.hid hx
  clear ho hx
  go_wp2_with fail
  refine (inf_many 24 7 (by decide) (by decide) w2).mono ?_
  rintro e w3 ⟨v3, og3, rfl, ho, _, hx⟩
  obtain ⟨a3, c3, rfl⟩ := ho.shape
  rw [List.length_replicate] at ho ⊢
  have H3 := Lib.hid (show Vw w3 (.slice a3 24 c3) (List.replicate 24 7) ∧ True ∧ Ext w w3 from ⟨⟨viewL_viewF ho.viewL, ho.viewL⟩, trivial, (H2.out.2.2.trans hx)⟩)
  have X3 := Lib.hid hx
  clear ho hx
  go_wp2_with fail
  refine (inf_many 8 8 (by decide) (by decide) w3).mono ?_
  rintro e w4 ⟨v4, og4, rfl, ho, _, hx⟩
  obtain ⟨a4, c4, rfl⟩ := ho.shape
  rw [List.length_replicate] at ho ⊢
  have H4 := Lib.hid (show Vw w4 (.slice a4 8 c4) (List.replicate 8 8) ∧ True ∧ Ext w w4 from ⟨⟨viewL_viewF ho.viewL, ho.viewL⟩, trivial, (H3.out.2.2.trans hx)⟩)
  have X4 := Lib.hid hx
  clear ho hx
  go_wp2_with fail
  obtain ⟨w5, hw5⟩ : ∃ w5, w5 = w4.alloc (.cells #[.slice a1 144 c1, .slice a2 112 c2, .slice a3 24 c3, .slice a4 8 c4] 22) := ⟨_, rfl⟩
  have hx5 : Ext w4 w5 := by rw [hw5]; exact (Ext.refl _).alloc _
  have hrow : RowsI w5 w4.heap.size [.slice a1 144 c1, .slice a2 112 c2, .slice a3 24 c3, .slice a4 8 c4] [List.replicate 144 8, List.replicate 112 9, List.replicate 24 7, List.replicate 8 8] := by
    refine ⟨by rw [hw5]; exact heap_alloc_new _ _, rfl, fun i v L h1 h2 => ?_⟩
    have x3 := X3.out
    have x4 := X4.out
    match i, h1, h2 with
    | 0, h1, h2 => cases h1; cases h2; exact (((H1.out.1.vl.ext X2.out).ext x3).ext x4).ext hx5
    | 1, h1, h2 => cases h1; cases h2; exact ((H2.out.1.vl.ext x3).ext x4).ext hx5
    | 2, h1, h2 => cases h1; cases h2; exact (H3.out.1.vl.ext x4).ext hx5
    | 3, h1, h2 => cases h1; cases h2; exact H4.out.1.vl.ext hx5
    | i + 4, h1, h2 => simp at h1
  have hcat := sl_concat w4.heap.size 4 _ _ w5 hrow rfl (by decide) (by decide +kernel) (by decide +kernel)
  rw [show [List.replicate 144 8, List.replicate 112 9, List.replicate 24 7, List.replicate 8 8].flatten = fixedA by simp [fixedA]] at hcat
  have HC := Lib.hid hcat
  have HX5 := Lib.hid (H4.out.2.2.trans hx5)
  rw [← hw5]
  clear hx5 hrow hcat hw5
  refine HC.out.mono ?_
  rintro e w6 ⟨v6, og6, rfl, ho, _, hx⟩
  obtain ⟨a6, c6, rfl⟩ := ho.shape
  obtain ⟨N6, hN6⟩ : ∃ N6, N6 = fixedA.length := ⟨_, rfl⟩
  have H6 := Lib.hid (show Vw w6 (.slice a6 N6 c6) fixedA ∧ True ∧ Ext w w6 from ⟨by rw [hN6]; exact ⟨viewL_viewF ho.viewL, ho.viewL⟩, trivial, HX5.out.trans hx⟩)
  rw [← hN6]
  clear ho hx hN6
  go_wp2_with fail
  refine (inf_many 32 5 (by decide) (by decide) w6).mono ?_
  rintro e w7 ⟨v7, og7, rfl, ho, _, hx⟩
  obtain ⟨a7, c7, rfl⟩ := ho.shape
  rw [List.length_replicate] at ho ⊢
  have H7 := Lib.hid (show Vw w7 (.slice a7 32 c7) (List.replicate 32 5) ∧ True ∧ Ext w w7 from ⟨⟨viewL_viewF ho.viewL, ho.viewL⟩, trivial, (H6.out.2.2.trans hx)⟩)
  have X7 := Lib.hid hx
  clear ho hx
  go_wp2_with fail
  refine (inf_symbols B R og bs p oo full kp _ _ fixedA fixedB w7 (HH.out.1.ext H7.out.2.2) HH.out.2.1 HH.out.2.2.1 HH.out.2.2.2.1 HH.out.2.2.2.2.1 (H6.out.1.ext X7.out) H7.out.1 good_fixedA good_fixedB).mono ?_
  rw [← HH.out.2.2.2.2.2]
  rintro e w8 (⟨q, o, h1, rfl, h2⟩ | ⟨h1, rfl, h2⟩)
  · have HF := Lib.hid (show InfE w B R og bs oo kp r (.returned (.tuple #[])) w8 from Or.inl ⟨q, o, h1, rfl, h2.pre H7.out.2.2⟩)
    clear h1 h2
    go_wp2_with fail
    go_end0
    exact HF.out
  · exact ⟨rfl, InfE.bad h1 H7.out.2.2 h2⟩
end Go.Proofs.YtbbcphloafmldaaGreat
