/- repeat.Pack: its walk. -/
import Derived.Test.YtclnmddlcjgfbaaRepRuns
import Derived.Test.YtclnmddlcjgfbaaRepHas
import Derived.Maps.OwnIn
namespace Go.Proofs.Ytclnmddlcjgfbaa
open Go.RowKit Go.Shelf
set_option linter.unusedVariables false
attribute [local go_sem] Oper.semAt_some

theorem rep_news (w : World) (cs : List Value) (e : TypeId) (fr : Nat × Nat) : ∀ j u, cs[j]? = some u → (w.alloc (.cells cs.toArray e fr)).cell? ((⟨w.heap.size, 0, none⟩ : Addr).add j) = some u := by
  intro j u hu
  rw [add_lit, World.cell?, heap_alloc_new]
  simpa using hu
/-- cells laid behind a block. -/
theorem rep_news2 (w : World) (o : Obj) (cs : List Value) (e : TypeId) (fr : Nat × Nat) : ∀ j u, cs[j]? = some u → ((w.alloc o).alloc (.cells cs.toArray e fr)).cell? ((⟨w.heap.size + 1, 0, none⟩ : Addr).add j) = some u := by
  have := rep_news (w.alloc o) cs e fr
  rwa [World.size_alloc] at this
def sg (l : List Run) : List (Nat × Nat) := l.flatMap fun r => signsOf r.1.1 r.1.2
theorem sg_snoc (l : List Run) (r : Run) : sg (l ++ [r]) = sg l ++ signsOf r.1.1 r.1.2 := by simp [sg]
theorem sg_len (l : List Run) : (sg l).length ≤ 10000 * l.length := by
  induction l with
  | nil => simp [sg]
  | cons r l ih =>
    have h1 := len_signs r.2.1 r.2.2.1
    have h2 := r.2.2.2
    simp only [sg, List.flatMap_cons, List.length_append, List.length_cons] at *
    omega
theorem sg_runs (xs : List Run) (bs : List Nat) (h : xs.map (·.1) = runsL bs) : sg xs = packL bs := by
  rw [packL, ← h, List.flatMap_map]; rfl
theorem runsL_len : ∀ (n : Nat) (l : List Nat), l.length ≤ n → (runsL l).length ≤ l.length := by
  intro n
  induction n with
  | zero =>
    intro l h
    obtain rfl := List.eq_nil_of_length_eq_zero (show l.length = 0 by omega)
    rw [runsL_nil]; exact Nat.le_refl _
  | succ n ih =>
    intro l h
    cases l with
    | nil => rw [runsL_nil]; exact Nat.le_refl _
    | cons k t =>
      have := ih (t.drop (lead k t)) (by simp at h ⊢; omega)
      rw [runsL_cons]
      simp at this ⊢; omega
/-- the runs of such lengths are runs. -/
theorem runs_are : ∀ (n : Nat) (l : List Nat), l.length ≤ n → l.length ≤ 10000 → okLens l = true → ∃ xs : List Run, xs.map (·.1) = runsL l := by
  intro n
  induction n with
  | zero =>
    intro l h _ _
    obtain rfl := List.eq_nil_of_length_eq_zero (show l.length = 0 by omega)
    exact ⟨[], by rw [runsL_nil]; rfl⟩
  | succ n ih =>
    intro l h h2 hok
    cases l with
    | nil => exact ⟨[], by rw [runsL_nil]; rfl⟩
    | cons k t =>
      simp only [okLens, List.all_cons, Bool.and_eq_true, decide_eq_true_eq] at hok
      have h3 : okLens (t.drop (lead k t)) = true := by
        rw [okLens, List.all_eq_true]
        intro x hx
        exact List.all_eq_true.1 hok.2 x (List.mem_of_mem_drop hx)
      have h4 := lead_le k t
      obtain ⟨xs, hxs⟩ := ih (t.drop (lead k t)) (by simp at h ⊢; omega) (by simp at h2 ⊢; omega) h3
      exact ⟨⟨(k, lead k t + 1), hok.1, by simp, by simp at h2 ⊢; omega⟩ :: xs, by rw [runsL_cons, List.map_cons, hxs]⟩
def scells (l : List (Nat × Nat)) : List Value := l.flatMap fun s => [.int .u8 s.1, .int .u8 s.2]
theorem length_scells (l : List (Nat × Nat)) : (scells l).length = l.length * 2 := by
  induction l with
  | nil => rfl
  | cons s l ih => simp only [scells, List.flatMap_cons, List.length_append, List.length_cons] at *; rw [ih]; simp; omega
theorem scells_append (a b : List (Nat × Nat)) : scells (a ++ b) = scells a ++ scells b := by simp [scells]
theorem rep_infoS : (Try.prog.info? 31).map (fun i => (i.zero, i.size, i.bytes)) = some (some (.agg #[.int .u8 0, .int .u8 0]), 2, 2) := by kernel_rfl

/-- what a part of a round keeps. -/
def RelB (n₀ Bn : Nat) (sv : Value) (W W' : World) : Prop := KeepsOthers W W' ∧ KpB n₀ Bn sv W W'
theorem RelB.trans {n₀ Bn : Nat} {sv : Value} {A B C : World} (h : RelB n₀ Bn sv A B) (k : RelB n₀ Bn sv B C) : RelB n₀ Bn sv A C := ⟨h.1.trans k.1, kpB_t h.2 k.2⟩
theorem RelB.refl (n₀ Bn : Nat) (sv : Value) (A : World) : RelB n₀ Bn sv A A := ⟨KeepsOthers.refl _, Below.refl _ _, fun h => h⟩
theorem Ext.grownBy {W W' : World} (h : Ext W W') : W.grownBy W' none := ⟨h.os, h.tape, h.output, h.size, fun k hk _ => h.block k hk (fun f => f)⟩
theorem RelB.ext {n₀ Bn : Nat} {sv : Value} {A B C : World} (h : RelB n₀ Bn sv A B) (k : Ext B C) (hn : n₀ ≤ B.heap.size) : RelB n₀ Bn sv A C :=
  h.trans ⟨KeepsOthers.of_grownBy k.grownBy (fun j o e => by cases e), (Below.refl n₀ B).grown k.grownBy hn (fun _ e => by cases e), fun hb => hb.kept k.grownBy (by simp)⟩
/-- the slice that is being made, in its box. -/
def Out (n₀ B0 : Nat) (l : List (Nat × Nat)) (W : World) : Prop := ∃ v, Boxed W B0 23 v ∧ W.ownsRow n₀ 31 2 v l.length (scells l)
theorem out_own (n₀ B0 : Nat) : Own (fun (pre : List Run) W => Out n₀ B0 (sg pre) W) := by
  have := holdsRow_own n₀ B0 23 31 2 (fun pre : List Run => (sg pre).length) (fun pre => scells (sg pre)) (fun _ _ => True)
  intro s A B row hs hg hr
  obtain ⟨v, h1, h2⟩ := hs
  obtain ⟨v', h1', h2', _⟩ := this s A B row ⟨v, h1, h2, trivial⟩ hg hr
  exact ⟨v', h1', h2'⟩
theorem Out.ext {n₀ B0 : Nat} {l : List (Nat × Nat)} {W W' : World} (h : Out n₀ B0 l W) (k : Ext W W') : Out n₀ B0 l W' := by
  obtain ⟨v, h1, h2⟩ := h
  exact ⟨v, h1.kept k.grownBy (by simp), h2.kept k.grownBy (by cases h : v.ownBlock with
    | none => exact .inl rfl
    | some g => exact .inr (by simp))⟩
theorem out_step {n₀ B0 Bn : Nat} {sv v v' : Value} {l : List (Nat × Nat)} {s : Nat × Nat} {W w1 : World} {tmp : Obj} (hv : Boxed W B0 23 v) (hrow : W.ownsRow n₀ 31 2 v l.length (scells l)) (hn₀ : n₀ ≤ W.heap.size) (hB : n₀ ≤ B0)
    {cs : List Value} (hown' : w1.ownsRow n₀ 31 2 v' (l.length + 1) (scells l ++ cs)) (hcs : cs = [.int .u8 s.1, .int .u8 s.2]) (hgrow : (W.alloc tmp).grownBy w1 v.ownBlock) (hne : B0 ≠ Bn) :
    Out n₀ B0 (l ++ [s]) (w1.setCell ⟨B0, 0, none⟩ v') ∧ RelB n₀ Bn sv W (w1.setCell ⟨B0, 0, none⟩ v') := by
  subst hcs
  obtain ⟨h1, h2, h3, h4, h5⟩ := hv.appended (by decide) hrow hn₀ hB hown' hgrow
  refine ⟨⟨v', h2, by rw [scells_append, List.length_append]; exact h3⟩, h4, h5, fun hb => ?_⟩
  exact ((hb.alloc tmp).kept hgrow (hb.not_row (by decide) hrow)).kept (grownBy_setCell' w1 B0 v') (by simp; omega)

theorem box_kept {n₀ B0 : Nat} {v a b : Value} {l : List (Nat × Nat)} {wr w1 : World} {o : Obj} (hv : Boxed wr B0 23 v) (hrow : wr.ownsRow n₀ 31 2 v l.length (scells l))
    (hgrow : ((wr.alloc (.cells #[a, b] 31)).alloc o).grownBy w1 v.ownBlock) (v' : Value) :
    w1.cell? ⟨B0, 0, none⟩ = some v ∧ w1.frozen? ⟨B0, 0, none⟩ = false ∧ (w1.setCell ⟨B0, 0, none⟩ v').cell? ⟨wr.heap.size, 0, none⟩ = some a ∧ (w1.setCell ⟨B0, 0, none⟩ v').cell? ⟨wr.heap.size, 1, none⟩ = some b := by
  have h1 := ((hv.alloc (.cells #[a, b] 31)).alloc o).kept hgrow (((hv.alloc (.cells #[a, b] 31)).alloc o).not_row (by decide) ((hrow.alloc (.cells #[a, b] 31)).alloc o))
  have hB := hv.lt
  have h2 : (w1.setCell ⟨B0, 0, none⟩ v').heap[wr.heap.size]? = some (.cells #[a, b] 31) := by
    rw [Below.heap_setCell _ _ _ _ (by simp; omega), hgrow.block _ (by simp; omega) (fun e => by have := (hrow.lt _ e.symm).2; omega), Below.heap_alloc _ _ _ (by simp)]
    exact World.alloc_heap_new wr _
  exact ⟨h1.cell, h1.frozen, by simp [World.cell?, h2], by simp [World.cell?, h2]⟩

set_option maxRecDepth 100000 in
set_option maxHeartbeats 4000000 in
theorem rep_pack_ok (sv : Value) (bs : List Nat) (w : World) (hv : ViewL w sv (u8s bs)) (h256 : ∀ b ∈ bs, b < 256) (hlen : bs.length ≤ 10000) (hok : okLens bs = true) (xs : List Run) (hxs : xs.map (·.1) = runsL bs) :
    Calls Try.prog 9 #[sv] w fun e w' => ∃ v, e = .returned (.tuple #[v, .int .i64 0]) ∧ w'.ownsRow w.heap.size 31 2 v (packL bs).length (scells (packL bs)) ∧ Below w.heap.size w w' := by
  obtain ⟨ao, cap, rfl⟩ := hv.shape
  rw [length_u8s] at *
  obtain ⟨i0, hi, hz0, hz1, hz2⟩ := info_parts rep_infoS
  have HV := Lib.hid hv
  have H256 := Lib.hid h256
  have HOK := Lib.hid hok
  have HXS := Lib.hid hxs
  clear hv h256 hok hxs
  refine (callsIn_wide (n := 9)).1 ?_
  refine callsIn_of_wp_marks Try.func9 rfl trivial ?_ rfl
  simp only [Try.ntmps9, List.size_toArray, List.length_cons, List.length_nil, Nat.reduceAdd, Nat.reduceSub, Array.replicate_succ, Array.replicate_zero, List.push_toArray, List.append_toArray, List.nil_append, List.cons_append]
  gi_wp2_with fail
  refine ⟨trivial, (callsIn_wide.2 (rep_contains _ bs _ HV.out H256.out (by omega))).mono ?_⟩
  rw [HOK.out]
  rintro e w' ⟨rfl, rfl⟩
  gi_wp2_with fail
  refine ⟨trivial, (callsIn_wide.2 (rep_runs ao _ cap _)).mono ?_⟩
  rintro e w' ⟨rfl, rfl⟩
  gi_wp2_with fail
  have hB0 : Below w.heap.size w ((w.alloc (.cells #[.slice none 0 0] 23)).alloc (.cells #[.slice ao bs.length cap] 22)) := ((Below.refl _ w).alloc (Nat.le_refl _) _).alloc (by simp) _
  have bO := Boxed.new w 23 (.slice none 0 0)
  have bN := Boxed.new (w.alloc (.cells #[.slice none 0 0] 23)) 22 (.slice ao bs.length cap)
  rw [World.size_alloc] at bN
  have hxl : xs.length ≤ 10000 := by
    have h1 := runsL_len _ bs (Nat.le_refl _)
    rw [← HXS.out, List.length_map] at h1; omega
  refine wpIn_rangeFunc_ownG rfl (by decide) (gf := 23) (lb := #[.pointer (some ⟨w.heap.size + 1, 0, none⟩)]) rfl trivial (enters_of Try.func23 (by kernel_rfl) rfl)
    (runs_stops 8 (by decide) (w.heap.size + 1) w.heap.size (.slice ao bs.length cap) bs H256.out hlen xs HXS.out _ (by simp; omega) bN ((HV.out.vb).below hB0)) kpB_t (kpB_b (by simp; omega)) (Below.refl _ _) (fun _ => rfl)
    (fun pre W => Out w.heap.size w.heap.size (sg pre) W ∧ Below w.heap.size w W)
    (fun _ _ _ => False)
    (OwnFrom.and (Own.from (out_own w.heap.size w.heap.size) _) (ownFrom_below (Nat.le_refl _) (by simp; omega)))
    (fun _ _ _ _ _ hs _ _ => hs)
    ⟨⟨_, bO.alloc _, World.ownsRow_nil _ _ _ _⟩, hB0⟩
    (fun x => { tmps := #[.slice ao bs.length cap, undef, .slice none 0 0, .int .i64 0, .pointer (some ⟨w.heap.size, 0, none⟩), .int .u8 x.1.1, .int .i64 x.1.2, undef, .slice ao bs.length cap, .bool false, .slice ao bs.length cap, .func (.func 23) #[] #[.pointer (some ⟨w.heap.size + 1, 0, none⟩)], .int .u8 x.1.1, .int .i64 x.1.2,
      undef, undef, undef, undef, undef, undef, undef, undef, undef, undef, undef, undef, undef, undef, undef, undef, undef, undef, undef, undef, undef, undef, undef, undef, undef, undef, undef, undef, undef, undef, undef, undef, undef, undef, undef, undef, undef, undef, undef, undef, undef, undef, undef, undef, undef, undef, undef, undef, undef, undef, undef, undef, undef], defers := [] }) ?assign ?body ?done ?stop
  case assign =>
    intro l x W K hK
    gi_wp2
    exact hK
  case body =>
    rintro l pre ⟨⟨k, n⟩, hk15, hn0, hn⟩ W ⟨hout, hB⟩ hlt
    simp only at hk15 hn0 hn hlt
    have hsl := sg_len pre
    have hsn : (signsOf k n).length ≤ n := len_signs hk15 hn0
    have hWs : w.heap.size ≤ W.heap.size := hB.size
    have HB := Lib.hid hB
    have hsg := sg_snoc pre ⟨(k, n), hk15, hn0, hn⟩
    simp only at hsg
    -- what is left when the first sign has been told
    obtain ⟨T, hT⟩ : ∃ T, T = sg pre ++ signsOf k n := ⟨_, rfl⟩
    have hTl : T.length ≤ 100010000 := by rw [hT, List.length_append]; omega
    rw [← hT] at hsg
    have HSG := Lib.hid hsg
    clear hB hsg
    by_cases h0 : k = 0
    · subst h0
      have hst : Hid (sg pre ++ restOf 0 n = T) := Lib.hid (by rw [hT]; rfl)
      clear hT hsl hsn
      gi_wp2_with fail
      have OUT0 := Lib.hid hout
      have REL0 := Lib.hid (RelB.refl w.heap.size (w.heap.size + 1) (.slice ao bs.length cap) W)
      obtain ⟨N0, hN0⟩ : ∃ N0, N0 = n := ⟨_, rfl⟩
      have HT : Hid (sg pre ++ restOf 0 N0 = T) := Lib.hid (by rw [hN0]; exact hst.out)
      clear hst hout
      gi_loopw [6, 7] (fun nv _ wr => ∃ (m : Nat) (l' : List (Nat × Nat)), nv = .int .i64 m ∧ m ≤ 10000 ∧ l' ++ restOf 0 m = T ∧ Out w.heap.size w.heap.size l' wr ∧ RelB w.heap.size (w.heap.size + 1) (.slice ao bs.length cap) W wr) (fun nv _ _ => (intOf nv).toNat)
      case atStart => exact ⟨N0, _, by go_num, by omega, HT.out, OUT0.out, REL0.out⟩
      case round =>
        obtain ⟨m, l', rfl, hm, hT', hout2, hrel2⟩ := hrel
        have hwr : w.heap.size ≤ wr.heap.size := Nat.le_trans hWs hrel2.2.1.size
        by_cases hm0 : 0 < m
        · have hmi : (0 : Int) < (m : Int) := by omega
          have htt := times_signAt hk15 hm0
          rw [restOf_step hk15 hm0] at hT'
          have hl' : l'.length ≤ 100010000 := by rw [← hT'] at hTl; simp at hTl; omega
          obtain ⟨v2, hv2, hrow2⟩ := hout2
          have hc2 := hv2.cell
          have HROW2 := Lib.hid hrow2
          have HBX2 := Lib.hid hv2
          have HREL2 := Lib.hid hrel2
          have HT2 := Lib.hid hT'
          have HTT := Lib.hid htt
          clear hv2 hrow2 hrel2 hT' htt
          by_cases hb : 11 ≤ m
          · have hbi : (11 : Int) ≤ (m : Int) := by omega
            by_cases hbb : 138 < m
            · have hbbi : ¬ (m : Int) ≤ 138 := by omega
              have hs : signAt 0 m = (18, 127) := by unfold signAt; rw [if_pos ⟨rfl, hb⟩, show min m 138 = 138 by omega]
              rw [hs] at HT2 HTT
              clear hs
              have hcA : (wr.alloc (.cells #[.int .u8 18, .int .u8 127] 31)).cell? ⟨w.heap.size, 0, none⟩ = some v2 := (HBX2.out.alloc _).cell
              gi_wp2_with (gi_at_builtin; refine wpListIn_append_own_at _ rfl (.tmp 58) (.tmp 60) 23 rfl w.heap.size 31 i0 (.agg #[.int .u8 0, .int .u8 0]) 2 2 Try.underlying23 hi hz0 hz1 hz2 rfl (by decide) _ _ _ rfl ((HROW2.out.alloc _).alloc _) ⟨wr.heap.size + 1, 0, none⟩ 1 1 [.int .u8 18, .int .u8 127] rfl rfl (rep_news2 _ _ _ _ _) (by simp [Value.oneCell']) (by unfold maxLen; omega) (by omega) (by simp; omega) ?_)
              intro v' w1 hown' hgrow _ hat
              obtain ⟨g', cap', rfl⟩ := ownsRow_succ hown'
              obtain ⟨o1, r1⟩ := out_step (s := (18, 127)) (Bn := w.heap.size + 1) (sv := .slice ao bs.length cap) (HBX2.out.alloc _) (HROW2.out.alloc _) (by simp; omega) (Nat.le_refl _) hown' (rfl) hgrow (by omega)
              obtain ⟨hcb, hfb, hs0, hs1⟩ := box_kept HBX2.out HROW2.out hgrow (.slice (some ⟨g', 0, none⟩) (l'.length + 1) cap')
              have OUT3 := Lib.hid o1
              have REL3 := Lib.hid ((HREL2.out.ext ((Ext.refl wr).alloc (.cells #[.int .u8 18, .int .u8 127] 31)) hwr).trans r1)
              clear o1 r1 hown' hgrow hat hcA hc2
              gi_wp2_with fail
              refine ⟨trivial, (CallsIn.inRound l (callsIn_wide.2 (rep_times 18 127 _ (by omega) (by omega)))).mono ?_⟩
              rintro e w3 ⟨rfl, hx3⟩
              have OUT4 := Lib.hid (OUT3.out.ext hx3)
              have REL4 := Lib.hid (REL3.out.ext hx3 (Nat.le_trans hWs REL3.out.2.1.size))
              obtain ⟨t, ht⟩ : ∃ t, t = timesOf (18, 127) := ⟨_, rfl⟩
              rw [← ht] at HTT HT2 ⊢
              have htt := HTT.out
              have hsub : (m : Int) - (t : Int) = ((m - t : Nat) : Int) := by omega
              clear hx3 hcb hfb hs0 hs1 ht
              gi_wp2_with fail
              go_roundw
              case rel => exact ⟨m - t, l' ++ [(18, 127)], by go_num, by omega, by have := HT2.out; rw [← this]; simp, OUT4.out, REL4.out⟩
              case measure => simp [intOf]; omega
            · obtain ⟨X, hX⟩ : ∃ X, X = m - 11 := ⟨_, rfl⟩
              have hbbi : (m : Int) ≤ 138 := by omega
              have hs : signAt 0 m = (18, X) := by unfold signAt; rw [if_pos ⟨rfl, hb⟩, show min m 138 = m by omega, hX]
              have hXi : (m : Int) - 11 = (X : Int) := by omega
              have hXb : X < 256 := by omega
              have hX8 : IntKind.u8.wrap (X : Int) = (X : Int) := IntWalk.u8_in _ (by omega)
              rw [hs] at HT2 HTT
              clear hs hX
              have hcA : (wr.alloc (.cells #[.int .u8 18, .int .u8 X] 31)).cell? ⟨w.heap.size, 0, none⟩ = some v2 := (HBX2.out.alloc _).cell
              gi_wp2_with (gi_at_builtin; refine wpListIn_append_own_at _ rfl (.tmp 58) (.tmp 60) 23 rfl w.heap.size 31 i0 (.agg #[.int .u8 0, .int .u8 0]) 2 2 Try.underlying23 hi hz0 hz1 hz2 rfl (by decide) _ _ _ rfl ((HROW2.out.alloc _).alloc _) ⟨wr.heap.size + 1, 0, none⟩ 1 1 [.int .u8 18, .int .u8 X] rfl rfl (rep_news2 _ _ _ _ _) (by simp [Value.oneCell']) (by unfold maxLen; omega) (by omega) (by simp; omega) ?_)
              intro v' w1 hown' hgrow _ hat
              obtain ⟨g', cap', rfl⟩ := ownsRow_succ hown'
              obtain ⟨o1, r1⟩ := out_step (s := (18, X)) (Bn := w.heap.size + 1) (sv := .slice ao bs.length cap) (HBX2.out.alloc _) (HROW2.out.alloc _) (by simp; omega) (Nat.le_refl _) hown' (rfl) hgrow (by omega)
              obtain ⟨hcb, hfb, hs0, hs1⟩ := box_kept HBX2.out HROW2.out hgrow (.slice (some ⟨g', 0, none⟩) (l'.length + 1) cap')
              have OUT3 := Lib.hid o1
              have REL3 := Lib.hid ((HREL2.out.ext ((Ext.refl wr).alloc (.cells #[.int .u8 18, .int .u8 X] 31)) hwr).trans r1)
              clear o1 r1 hown' hgrow hat hcA hc2
              gi_wp2_with fail
              refine ⟨trivial, (CallsIn.inRound l (callsIn_wide.2 (rep_times 18 X _ (by omega) (by omega)))).mono ?_⟩
              rintro e w3 ⟨rfl, hx3⟩
              have OUT4 := Lib.hid (OUT3.out.ext hx3)
              have REL4 := Lib.hid (REL3.out.ext hx3 (Nat.le_trans hWs REL3.out.2.1.size))
              obtain ⟨t, ht⟩ : ∃ t, t = timesOf (18, X) := ⟨_, rfl⟩
              rw [← ht] at HTT HT2 ⊢
              have htt := HTT.out
              have hsub : (m : Int) - (t : Int) = ((m - t : Nat) : Int) := by omega
              clear hx3 hcb hfb hs0 hs1 ht
              gi_wp2_with fail
              go_roundw
              case rel => exact ⟨m - t, l' ++ [(18, X)], by go_num, by omega, by have := HT2.out; rw [← this]; simp, OUT4.out, REL4.out⟩
              case measure => simp [intOf]; omega
          · have hbi : ¬ (11 : Int) ≤ (m : Int) := by omega
            by_cases hbb : 3 ≤ m
            · obtain ⟨X, hX⟩ : ∃ X, X = m - 3 := ⟨_, rfl⟩
              have hbbi : (3 : Int) ≤ (m : Int) := by omega
              have hs : signAt 0 m = (17, X) := by unfold signAt; rw [if_neg (by omega), if_pos ⟨rfl, hbb⟩, hX]
              have hXi : (m : Int) - 3 = (X : Int) := by omega
              have hXb : X < 256 := by omega
              have hX8 : IntKind.u8.wrap (X : Int) = (X : Int) := IntWalk.u8_in _ (by omega)
              rw [hs] at HT2 HTT
              clear hs hX
              have hcA : (wr.alloc (.cells #[.int .u8 17, .int .u8 X] 31)).cell? ⟨w.heap.size, 0, none⟩ = some v2 := (HBX2.out.alloc _).cell
              gi_wp2_with (gi_at_builtin; refine wpListIn_append_own_at _ rfl (.tmp 58) (.tmp 60) 23 rfl w.heap.size 31 i0 (.agg #[.int .u8 0, .int .u8 0]) 2 2 Try.underlying23 hi hz0 hz1 hz2 rfl (by decide) _ _ _ rfl ((HROW2.out.alloc _).alloc _) ⟨wr.heap.size + 1, 0, none⟩ 1 1 [.int .u8 17, .int .u8 X] rfl rfl (rep_news2 _ _ _ _ _) (by simp [Value.oneCell']) (by unfold maxLen; omega) (by omega) (by simp; omega) ?_)
              intro v' w1 hown' hgrow _ hat
              obtain ⟨g', cap', rfl⟩ := ownsRow_succ hown'
              obtain ⟨o1, r1⟩ := out_step (s := (17, X)) (Bn := w.heap.size + 1) (sv := .slice ao bs.length cap) (HBX2.out.alloc _) (HROW2.out.alloc _) (by simp; omega) (Nat.le_refl _) hown' (rfl) hgrow (by omega)
              obtain ⟨hcb, hfb, hs0, hs1⟩ := box_kept HBX2.out HROW2.out hgrow (.slice (some ⟨g', 0, none⟩) (l'.length + 1) cap')
              have OUT3 := Lib.hid o1
              have REL3 := Lib.hid ((HREL2.out.ext ((Ext.refl wr).alloc (.cells #[.int .u8 17, .int .u8 X] 31)) hwr).trans r1)
              clear o1 r1 hown' hgrow hat hcA hc2
              gi_wp2_with fail
              refine ⟨trivial, (CallsIn.inRound l (callsIn_wide.2 (rep_times 17 X _ (by omega) (by omega)))).mono ?_⟩
              rintro e w3 ⟨rfl, hx3⟩
              have OUT4 := Lib.hid (OUT3.out.ext hx3)
              have REL4 := Lib.hid (REL3.out.ext hx3 (Nat.le_trans hWs REL3.out.2.1.size))
              obtain ⟨t, ht⟩ : ∃ t, t = timesOf (17, X) := ⟨_, rfl⟩
              rw [← ht] at HTT HT2 ⊢
              have htt := HTT.out
              have hsub : (m : Int) - (t : Int) = ((m - t : Nat) : Int) := by omega
              clear hx3 hcb hfb hs0 hs1 ht
              gi_wp2_with fail
              go_roundw
              case rel => exact ⟨m - t, l' ++ [(17, X)], by go_num, by omega, by have := HT2.out; rw [← this]; simp, OUT4.out, REL4.out⟩
              case measure => simp [intOf]; omega
            · have hbbi : ¬ (3 : Int) ≤ (m : Int) := by omega
              have hs : signAt 0 m = (0, 0) := by unfold signAt; rw [if_neg (by omega), if_neg (by omega), if_neg (by omega)]
              rw [hs] at HT2 HTT
              clear hs
              have hcA : (wr.alloc (.cells #[.int .u8 0, .int .u8 0] 31)).cell? ⟨w.heap.size, 0, none⟩ = some v2 := (HBX2.out.alloc _).cell
              gi_wp2_with (gi_at_builtin; refine wpListIn_append_own_at _ rfl (.tmp 58) (.tmp 60) 23 rfl w.heap.size 31 i0 (.agg #[.int .u8 0, .int .u8 0]) 2 2 Try.underlying23 hi hz0 hz1 hz2 rfl (by decide) _ _ _ rfl ((HROW2.out.alloc _).alloc _) ⟨wr.heap.size + 1, 0, none⟩ 1 1 [.int .u8 0, .int .u8 0] rfl rfl (rep_news2 _ _ _ _ _) (by simp [Value.oneCell']) (by unfold maxLen; omega) (by omega) (by simp; omega) ?_)
              intro v' w1 hown' hgrow _ hat
              obtain ⟨g', cap', rfl⟩ := ownsRow_succ hown'
              obtain ⟨o1, r1⟩ := out_step (s := (0, 0)) (Bn := w.heap.size + 1) (sv := .slice ao bs.length cap) (HBX2.out.alloc _) (HROW2.out.alloc _) (by simp; omega) (Nat.le_refl _) hown' (rfl) hgrow (by omega)
              obtain ⟨hcb, hfb, hs0, hs1⟩ := box_kept HBX2.out HROW2.out hgrow (.slice (some ⟨g', 0, none⟩) (l'.length + 1) cap')
              have OUT3 := Lib.hid o1
              have REL3 := Lib.hid ((HREL2.out.ext ((Ext.refl wr).alloc (.cells #[.int .u8 0, .int .u8 0] 31)) hwr).trans r1)
              clear o1 r1 hown' hgrow hat hcA hc2
              gi_wp2_with fail
              refine ⟨trivial, (CallsIn.inRound l (callsIn_wide.2 (rep_times 0 0 _ (by omega) (by omega)))).mono ?_⟩
              rintro e w3 ⟨rfl, hx3⟩
              have OUT4 := Lib.hid (OUT3.out.ext hx3)
              have REL4 := Lib.hid (REL3.out.ext hx3 (Nat.le_trans hWs REL3.out.2.1.size))
              obtain ⟨t, ht⟩ : ∃ t, t = timesOf (0, 0) := ⟨_, rfl⟩
              rw [← ht] at HTT HT2 ⊢
              have htt := HTT.out
              have hsub : (m : Int) - (t : Int) = ((m - t : Nat) : Int) := by omega
              clear hx3 hcb hfb hs0 hs1 ht
              gi_wp2_with fail
              go_roundw
              case rel => exact ⟨m - t, l' ++ [(0, 0)], by go_num, by omega, by have := HT2.out; rw [← this]; simp, OUT4.out, REL4.out⟩
              case measure => simp [intOf]; omega
        · obtain rfl : m = 0 := by omega
          rw [restOf_zero, List.append_nil] at hT'
          subst hT'
          gi_wp2_with fail
          exact ⟨hrel2.1.from _, hrel2.2, by rw [HSG.out]; exact hout2, HB.out.trans hrel2.2.1⟩
    · have hki : (0 : Int) < (k : Int) := by omega
      have hst : Hid ((sg pre ++ [(k, 0)]) ++ restOf k (n - 1) = T) := Lib.hid (by rw [hT, signsOf, if_neg h0]; simp)
      obtain ⟨v, hv, hrow⟩ := hout
      have hc := hv.cell
      have HROW := Lib.hid hrow
      have HBX := Lib.hid hv
      clear hv hrow hT
      gi_wp2_with (gi_at_builtin; refine wpListIn_append_own_at _ rfl (.tmp 16) (.tmp 19) 23 rfl w.heap.size 31 i0 (.agg #[.int .u8 0, .int .u8 0]) 2 2 Try.underlying23 hi hz0 hz1 hz2 rfl (by decide) _ _ _ rfl (HROW.out.alloc _) ⟨W.heap.size, 0, none⟩ 1 1 [.int .u8 k, .int .u8 0] rfl rfl (rep_news _ _ _ _) (by simp [Value.oneCell']) (by unfold maxLen; omega) (by omega) (by simp; omega) ?_)
      intro v' w1 hown' hgrow _ hat
      obtain ⟨g', cap', rfl⟩ := ownsRow_succ hown'
      obtain ⟨o1, r1⟩ := out_step (s := (k, 0)) (Bn := w.heap.size + 1) (sv := .slice ao bs.length cap) HBX.out HROW.out hWs (Nat.le_refl _) hown' rfl hgrow (by omega)
      have hb1 := (HBX.out.alloc _).kept hgrow (HBX.out.not_row (by decide) HROW.out)
      have hcb := hb1.cell
      have hfb := hb1.frozen
      have OUT0 := Lib.hid o1
      have REL0 := Lib.hid r1
      obtain ⟨N0, hN0⟩ : ∃ N0, N0 = n - 1 := ⟨_, rfl⟩
      have HT : Hid (sg pre ++ [(k, 0)] ++ restOf k N0 = T) := Lib.hid (by rw [hN0]; exact hst.out)
      have hsub : (n : Int) - 1 = (N0 : Int) := by omega
      clear o1 r1 hb1 hst hown' hgrow hat
      gi_wp2_with fail
      gi_loopw [6, 7] (fun nv _ wr => ∃ (m : Nat) (l' : List (Nat × Nat)), nv = .int .i64 m ∧ m ≤ 10000 ∧ l' ++ restOf k m = T ∧ Out w.heap.size w.heap.size l' wr ∧ RelB w.heap.size (w.heap.size + 1) (.slice ao bs.length cap) W wr) (fun nv _ _ => (intOf nv).toNat)
      case atStart => exact ⟨N0, _, by go_num, by omega, HT.out, OUT0.out, REL0.out⟩
      case round =>
        obtain ⟨m, l', rfl, hm, hT', hout2, hrel2⟩ := hrel
        have hwr : w.heap.size ≤ wr.heap.size := Nat.le_trans hWs hrel2.2.1.size
        by_cases hm0 : 0 < m
        · have hmi : (0 : Int) < (m : Int) := by omega
          have htt := times_signAt hk15 hm0
          rw [restOf_step hk15 hm0] at hT'
          have hl' : l'.length ≤ 100010000 := by rw [← hT'] at hTl; simp at hTl; omega
          obtain ⟨v2, hv2, hrow2⟩ := hout2
          have hc2 := hv2.cell
          have HROW2 := Lib.hid hrow2
          have HBX2 := Lib.hid hv2
          have HREL2 := Lib.hid hrel2
          have HT2 := Lib.hid hT'
          have HTT := Lib.hid htt
          clear hv2 hrow2 hrel2 hT' htt
          have hkz : ((k : Int) == 0) = false := by rw [beq_eq_false_iff_ne]; omega
          have hkz2 : ¬ (k : Int) = 0 := by omega
          by_cases hb : 3 ≤ m
          · have hbi : (3 : Int) ≤ (m : Int) := by omega
            by_cases hbb : 6 < m
            · have hbbi : ¬ (m : Int) ≤ 6 := by omega
              have hs : signAt k m = (16, 3) := by unfold signAt; rw [if_neg (by omega), if_neg (by omega), if_pos hb, show min m 6 = 6 by omega]
              rw [hs] at HT2 HTT
              clear hs
              have hcA : (wr.alloc (.cells #[.int .u8 16, .int .u8 3] 31)).cell? ⟨w.heap.size, 0, none⟩ = some v2 := (HBX2.out.alloc _).cell
              gi_wp2_with (gi_at_builtin; refine wpListIn_append_own_at _ rfl (.tmp 58) (.tmp 60) 23 rfl w.heap.size 31 i0 (.agg #[.int .u8 0, .int .u8 0]) 2 2 Try.underlying23 hi hz0 hz1 hz2 rfl (by decide) _ _ _ rfl ((HROW2.out.alloc _).alloc _) ⟨wr.heap.size + 1, 0, none⟩ 1 1 [.int .u8 16, .int .u8 3] rfl rfl (rep_news2 _ _ _ _ _) (by simp [Value.oneCell']) (by unfold maxLen; omega) (by omega) (by simp; omega) ?_)
              intro v' w1 hown' hgrow _ hat
              obtain ⟨g', cap', rfl⟩ := ownsRow_succ hown'
              obtain ⟨o1, r1⟩ := out_step (s := (16, 3)) (Bn := w.heap.size + 1) (sv := .slice ao bs.length cap) (HBX2.out.alloc _) (HROW2.out.alloc _) (by simp; omega) (Nat.le_refl _) hown' (rfl) hgrow (by omega)
              obtain ⟨hcb, hfb, hs0, hs1⟩ := box_kept HBX2.out HROW2.out hgrow (.slice (some ⟨g', 0, none⟩) (l'.length + 1) cap')
              have OUT3 := Lib.hid o1
              have REL3 := Lib.hid ((HREL2.out.ext ((Ext.refl wr).alloc (.cells #[.int .u8 16, .int .u8 3] 31)) hwr).trans r1)
              clear o1 r1 hown' hgrow hat hcA hc2
              gi_wp2_with fail
              refine ⟨trivial, (CallsIn.inRound l (callsIn_wide.2 (rep_times 16 3 _ (by omega) (by omega)))).mono ?_⟩
              rintro e w3 ⟨rfl, hx3⟩
              have OUT4 := Lib.hid (OUT3.out.ext hx3)
              have REL4 := Lib.hid (REL3.out.ext hx3 (Nat.le_trans hWs REL3.out.2.1.size))
              obtain ⟨t, ht⟩ : ∃ t, t = timesOf (16, 3) := ⟨_, rfl⟩
              rw [← ht] at HTT HT2 ⊢
              have htt := HTT.out
              have hsub : (m : Int) - (t : Int) = ((m - t : Nat) : Int) := by omega
              clear hx3 hcb hfb hs0 hs1 ht
              gi_wp2_with fail
              go_roundw
              case rel => exact ⟨m - t, l' ++ [(16, 3)], by go_num, by omega, by have := HT2.out; rw [← this]; simp, OUT4.out, REL4.out⟩
              case measure => simp [intOf]; omega
            · obtain ⟨X, hX⟩ : ∃ X, X = m - 3 := ⟨_, rfl⟩
              have hbbi : (m : Int) ≤ 6 := by omega
              have hs : signAt k m = (16, X) := by unfold signAt; rw [if_neg (by omega), if_neg (by omega), if_pos hb, show min m 6 = m by omega, hX]
              have hXi : (m : Int) - 3 = (X : Int) := by omega
              have hXb : X < 256 := by omega
              have hX8 : IntKind.u8.wrap (X : Int) = (X : Int) := IntWalk.u8_in _ (by omega)
              rw [hs] at HT2 HTT
              clear hs hX
              have hcA : (wr.alloc (.cells #[.int .u8 16, .int .u8 X] 31)).cell? ⟨w.heap.size, 0, none⟩ = some v2 := (HBX2.out.alloc _).cell
              gi_wp2_with (gi_at_builtin; refine wpListIn_append_own_at _ rfl (.tmp 58) (.tmp 60) 23 rfl w.heap.size 31 i0 (.agg #[.int .u8 0, .int .u8 0]) 2 2 Try.underlying23 hi hz0 hz1 hz2 rfl (by decide) _ _ _ rfl ((HROW2.out.alloc _).alloc _) ⟨wr.heap.size + 1, 0, none⟩ 1 1 [.int .u8 16, .int .u8 X] rfl rfl (rep_news2 _ _ _ _ _) (by simp [Value.oneCell']) (by unfold maxLen; omega) (by omega) (by simp; omega) ?_)
              intro v' w1 hown' hgrow _ hat
              obtain ⟨g', cap', rfl⟩ := ownsRow_succ hown'
              obtain ⟨o1, r1⟩ := out_step (s := (16, X)) (Bn := w.heap.size + 1) (sv := .slice ao bs.length cap) (HBX2.out.alloc _) (HROW2.out.alloc _) (by simp; omega) (Nat.le_refl _) hown' (rfl) hgrow (by omega)
              obtain ⟨hcb, hfb, hs0, hs1⟩ := box_kept HBX2.out HROW2.out hgrow (.slice (some ⟨g', 0, none⟩) (l'.length + 1) cap')
              have OUT3 := Lib.hid o1
              have REL3 := Lib.hid ((HREL2.out.ext ((Ext.refl wr).alloc (.cells #[.int .u8 16, .int .u8 X] 31)) hwr).trans r1)
              clear o1 r1 hown' hgrow hat hcA hc2
              gi_wp2_with fail
              refine ⟨trivial, (CallsIn.inRound l (callsIn_wide.2 (rep_times 16 X _ (by omega) (by omega)))).mono ?_⟩
              rintro e w3 ⟨rfl, hx3⟩
              have OUT4 := Lib.hid (OUT3.out.ext hx3)
              have REL4 := Lib.hid (REL3.out.ext hx3 (Nat.le_trans hWs REL3.out.2.1.size))
              obtain ⟨t, ht⟩ : ∃ t, t = timesOf (16, X) := ⟨_, rfl⟩
              rw [← ht] at HTT HT2 ⊢
              have htt := HTT.out
              have hsub : (m : Int) - (t : Int) = ((m - t : Nat) : Int) := by omega
              clear hx3 hcb hfb hs0 hs1 ht
              gi_wp2_with fail
              go_roundw
              case rel => exact ⟨m - t, l' ++ [(16, X)], by go_num, by omega, by have := HT2.out; rw [← this]; simp, OUT4.out, REL4.out⟩
              case measure => simp [intOf]; omega
          · have hbi : ¬ (3 : Int) ≤ (m : Int) := by omega
            have hs : signAt k m = (k, 0) := by unfold signAt; rw [if_neg (by omega), if_neg (by omega), if_neg (by omega)]
            rw [hs] at HT2 HTT
            clear hs
            have hcA : (wr.alloc (.cells #[.int .u8 k, .int .u8 0] 31)).cell? ⟨w.heap.size, 0, none⟩ = some v2 := (HBX2.out.alloc _).cell
            gi_wp2_with (gi_at_builtin; refine wpListIn_append_own_at _ rfl (.tmp 58) (.tmp 60) 23 rfl w.heap.size 31 i0 (.agg #[.int .u8 0, .int .u8 0]) 2 2 Try.underlying23 hi hz0 hz1 hz2 rfl (by decide) _ _ _ rfl ((HROW2.out.alloc _).alloc _) ⟨wr.heap.size + 1, 0, none⟩ 1 1 [.int .u8 k, .int .u8 0] rfl rfl (rep_news2 _ _ _ _ _) (by simp [Value.oneCell']) (by unfold maxLen; omega) (by omega) (by simp; omega) ?_)
            intro v' w1 hown' hgrow _ hat
            obtain ⟨g', cap', rfl⟩ := ownsRow_succ hown'
            obtain ⟨o1, r1⟩ := out_step (s := (k, 0)) (Bn := w.heap.size + 1) (sv := .slice ao bs.length cap) (HBX2.out.alloc _) (HROW2.out.alloc _) (by simp; omega) (Nat.le_refl _) hown' (rfl) hgrow (by omega)
            obtain ⟨hcb, hfb, hs0, hs1⟩ := box_kept HBX2.out HROW2.out hgrow (.slice (some ⟨g', 0, none⟩) (l'.length + 1) cap')
            have OUT3 := Lib.hid o1
            have REL3 := Lib.hid ((HREL2.out.ext ((Ext.refl wr).alloc (.cells #[.int .u8 k, .int .u8 0] 31)) hwr).trans r1)
            clear o1 r1 hown' hgrow hat hcA hc2
            gi_wp2_with fail
            refine ⟨trivial, (CallsIn.inRound l (callsIn_wide.2 (rep_times k 0 _ (by omega) (by omega)))).mono ?_⟩
            rintro e w3 ⟨rfl, hx3⟩
            have OUT4 := Lib.hid (OUT3.out.ext hx3)
            have REL4 := Lib.hid (REL3.out.ext hx3 (Nat.le_trans hWs REL3.out.2.1.size))
            obtain ⟨t, ht⟩ : ∃ t, t = timesOf (k, 0) := ⟨_, rfl⟩
            rw [← ht] at HTT HT2 ⊢
            have htt := HTT.out
            have hsub : (m : Int) - (t : Int) = ((m - t : Nat) : Int) := by omega
            clear hx3 hcb hfb hs0 hs1 ht
            gi_wp2_with fail
            go_roundw
            case rel => exact ⟨m - t, l' ++ [(k, 0)], by go_num, by omega, by have := HT2.out; rw [← this]; simp, OUT4.out, REL4.out⟩
            case measure => simp [intOf]; omega
        · obtain rfl : m = 0 := by omega
          rw [restOf_zero, List.append_nil] at hT'
          subst hT'
          gi_wp2_with fail
          exact ⟨hrel2.1.from _, hrel2.2, by rw [HSG.out]; exact hout2, HB.out.trans hrel2.2.1⟩
  case done =>
    rintro D ys W hD rfl ⟨⟨v, hv, hrow⟩, hB⟩ hK
    have hc := hv.cell
    gi_wp2
    refine ⟨by simp, .inl ⟨_, _, rfl, run_takeDeferred hK, ?_⟩⟩
    rw [sg_runs _ _ HXS.out] at hrow
    exact ⟨_, results_tmp2 rfl _ _ _, v, rfl, ownsRow_putObj hrow _ hK rfl, hB.trans (belowK_b (w := w) (Nat.le_refl _) W D _ _ (by simp at hD; omega) hK rfl rfl)⟩
  case stop =>
    rintro D c pre W _ _ h _
    exact h.elim
end Go.Proofs.Ytclnmddlcjgfbaa
