/- pressworkref06.Rows: its walk; rows of rows in memory. -/
import Derived.StillTailTactics
import Derived.Test.YtomnhfcckalkiaaPreRefBits
import Derived.Test.YtomnhfcckalkiaaGrowRe
import Derived.Test.YtomnhfcckalkiaaSt
namespace Go.Proofs.Ytomnhfcckalkiaa
open Go.RowKit
set_option linter.unusedVariables false

/-- v is a row of rows: its own block og, the others in In. -/
structure RowsB (w : World) (og : Option Nat) (In : Nat → Prop) (v : Value) (rows : List (List Nat)) : Prop where
  is : ∃ vs : List Value, Owns w 22 1 v og rows.length vs ∧ ∀ (i : Nat) (r : List Nat), rows[i]? = some r → ∃ (u : Value) (gi : Option Nat), (vs : List Value)[i]? = some u ∧ Owns w 5 1 u gi r.length (u8s r) ∧ ∀ g, gi = some g → In g
  off : ∀ g, In g → og ≠ some g
  lt : ∀ g, In g → g < w.heap.size
theorem RowsB.keep {w w' : World} {og : Option Nat} {In S : Nat → Prop} {v : Value} {rows : List (List Nat)} (h : RowsB w og In v rows) (t : Touch S w w') (h1 : ∀ g, og = some g → ¬ S g) (h2 : ∀ g, In g → ¬ S g) : RowsB w' og In v rows := by
  obtain ⟨⟨vs, o, hi⟩, h3, h4⟩ := h
  refine ⟨⟨vs, o.keep t h1, fun i r hr => ?_⟩, h3, fun g hg => Nat.lt_of_lt_of_le (h4 g hg) t.size⟩
  obtain ⟨u, gi, k1, k2, k3⟩ := hi i r hr
  exact ⟨u, gi, k1, k2.keep t (fun g e => h2 g (k3 g e)), k3⟩
theorem RowsB.glt {w : World} {og : Option Nat} {In : Nat → Prop} {v : Value} {rows : List (List Nat)} (h : RowsB w og In v rows) : ∀ g, og = some g → g < w.heap.size := h.is.choose_spec.1.lt
/-- rows of rows in new memory, ahead of block N. -/
def RRb (N : Nat) (w : World) (rows : List (List Nat)) (v : Value) (wr : World) : Prop := ∃ og In, RowsB wr og In v rows ∧ (∀ g, og = some g ∨ In g → w.heap.size ≤ g ∧ g < N) ∧ Ext w wr
def RRw (w : World) (rows : List (List Nat)) (v : Value) (wr : World) : Prop := RRb wr.heap.size w rows v wr
theorem rrw_nil (w : World) : RRw w [] (.slice none 0 0) w := ⟨none, fun _ => False, ⟨⟨[], Owns.nil _ _ _, by simp⟩, by simp, by simp⟩, by simp, Ext.refl w⟩
theorem RRb.keep {N : Nat} {w wr w' : World} {rows : List (List Nat)} {v : Value} (h : RRb N w rows v wr) (x : Ext wr w') : RRb N w rows v w' := by
  obtain ⟨og, In, h1, h2, h3⟩ := h
  exact ⟨og, In, h1.keep x (fun _ _ f => f) (fun _ _ f => f), h2, h3.trans x⟩
theorem RRb.toExt {N : Nat} {w wr : World} {rows : List (List Nat)} {v : Value} (h : RRb N w rows v wr) : Ext w wr := h.choose_spec.choose_spec.2.2
theorem RRb.own {N : Nat} {w wr : World} {rows : List (List Nat)} {v : Value} (h : RRb N w rows v wr) : ∃ vs, wr.ownsRow 0 22 1 v rows.length vs ∧ ∀ g, v.ownBlock = some g → g < N := by
  obtain ⟨og, In, hb, r⟩ := h
  exact ⟨hb.is.choose, hb.is.choose_spec.1.1, fun g e => (r.1 g (Or.inl (by rw [← hb.is.choose_spec.1.2]; exact e))).2⟩
theorem RRb.ge {N : Nat} {w wr : World} {rows : List (List Nat)} {v : Value} (h : RRb N w rows v wr) : ∀ g, v.ownBlock = some g → w.heap.size ≤ g := by
  obtain ⟨og, In, hb, r⟩ := h
  exact fun g e => (r.1 g (Or.inl (by rw [← hb.is.choose_spec.1.2]; exact e))).1
theorem RRb.up {N : Nat} {w wr w' : World} {rows : List (List Nat)} {v : Value} (h : RRb N w rows v wr) (x : Ext wr w') (hN : N ≤ wr.heap.size) : RRw w rows v w' := by
  obtain ⟨og, In, h1, h2, h3⟩ := h.keep x
  have := x.size
  exact ⟨og, In, h1, fun g hg => by have := h2 g hg; omega, h3⟩
/-- one more row. -/
theorem rrb_app {N : Nat} {w w2 w4 : World} {rows : List (List Nat)} {r : List Nat} {ov u v' : Value} {n : Nat} {gu : Option Nat} (h : RRb N w rows ov w2) (hn : n = rows.length) (k1 : Owns w2 5 1 u gu r.length (u8s r)) (k2 : ∀ g, gu = some g → N ≤ g) (hN : w.heap.size ≤ N)
    (h4 : ∀ vs, w2.ownsRow 0 22 1 ov n vs → w4.ownsRow 0 22 1 v' (n + 1) (vs ++ [u])) (hgrow : w2.grownBy w4 ov.ownBlock) (hat : v'.ownBlock = ov.ownBlock ∨ v'.ownBlock = some w2.heap.size) : RRw w (rows ++ [r]) v' w4 := by
  subst hn
  obtain ⟨og, In, ⟨⟨vs, ho, hi⟩, h1, h2⟩, h3, h5⟩ := h
  have hog := ho.2
  have hglt := ho.lt
  have hwa := h4 vs ho.1
  have ht : Touch (fun k => og = some k) w2 w4 := Touch.grown (Touch.refl _ w2) hgrow (fun k e => Or.inl (by rw [← hog]; exact e))
  have hs4 := ht.size
  have hult := k1.lt
  have hsz : ∀ g, v'.ownBlock = some g → g < w4.heap.size := fun g e => Owns.lt (⟨hwa, rfl⟩ : Owns w4 22 1 v' v'.ownBlock _ _) g e
  refine ⟨v'.ownBlock, fun k => In k ∨ gu = some k, ⟨⟨vs ++ [u], ⟨by rw [List.length_append]; exact hwa, rfl⟩, fun i x hx => ?_⟩, fun g hg => ?_, fun g hg => ?_⟩, fun g hg => ?_, h5.touch ht (fun k hk e => ?_)⟩
  · have hvl : vs.length = rows.length := by have := ho.1.1; simpa using this
    by_cases hl : i < rows.length
    · rw [List.getElem?_append_left hl] at hx
      obtain ⟨y, gi, q1, q2, q3⟩ := hi i x hx
      exact ⟨y, gi, by rw [List.getElem?_append_left (by omega)]; exact q1, q2.keep ht (fun g e e2 => h1 g (q3 g e) e2), fun g e => Or.inl (q3 g e)⟩
    · have hl2 := getE_lt hx
      rw [List.length_append] at hl2
      simp only [List.length_cons, List.length_nil] at hl2
      obtain rfl : i = rows.length := by omega
      rw [List.getElem?_append_right (Nat.le_refl _), Nat.sub_self] at hx
      cases hx
      refine ⟨u, gu, by rw [← hvl, List.getElem?_append_right (Nat.le_refl _), Nat.sub_self]; rfl, k1.keep ht (fun g e e2 => ?_), fun g e => Or.inr e⟩
      have := k2 g e; have := h3 g (Or.inl e2); omega
  · rcases hat with e | e
    · rw [e, hog]
      rcases hg with hg | hg
      · exact h1 g hg
      · intro e2
        have := k2 g hg; have := h3 g (Or.inl e2); omega
    · rw [e]
      intro e2
      cases e2
      rcases hg with hg | hg
      · have := h2 _ hg; omega
      · have := hult _ hg; omega
  · rcases hg with hg | hg
    · have := h2 g hg; omega
    · have := hult g hg; omega
  · have hw := h5.size
    rcases hg with hg | hg | hg
    · refine ⟨?_, hsz g hg⟩
      rcases hat with e | e
      · rw [e, hog] at hg; exact (h3 g (Or.inl hg)).1
      · rw [e] at hg; cases hg; omega
    · have := h3 g (Or.inr hg); have := h2 g hg; omega
    · have := k2 g hg; have := hult g hg; omega
  · have := h3 k (Or.inl e); omega
theorem wRun_all (N : Nat) : ∀ ps i, (wRun N ps).1.getD i 0 ≤ (wRun N ps).2 := by
  refine snoc_rec ?_ ?_
  · intro i; rw [wRun_nil]; simp [List.getD, List.getElem?_replicate]; split <;> simp
  · intro ps p ih i
    rw [wRun_snoc]
    simp only
    by_cases h : p.1 = i
    · by_cases hl : i < (wRun N ps).1.length
      · rw [h, getD_set_at _ _ _ _ hl]
        exact Nat.le_trans (Nat.div_le_self _ _) (Nat.le_add_right _ _)
      · rw [List.getD, List.getElem?_eq_none (by rw [List.length_set]; omega)]; simp
    · rw [getD_set_ne _ _ _ _ _ h]
      exact Nat.le_trans (ih i) (Nat.le_add_right _ _)
theorem words_lt32 {L : List Nat} (hg : Good L) (i : Nat) (hi : i < L.length) : (wordsL L).getD i 0 < 4294967296 := by
  have h1 := wRun_all L.length (prs L 20 L.length) i
  have h2 := at_le hg.1 20 L.length (by decide) (by decide) (Nat.le_refl _)
  have h3 := hg.2.2
  unfold wordsL
  omega
theorem ownsRow_one {w : World} {ty : TypeId} {v : Value} {n : Nat} {xs ys : List Value} (h : w.ownsRow 0 ty 1 v n xs) (k : w.ownsRow 0 ty 1 v n ys) : xs = ys := by
  rcases Owns.form (⟨h, rfl⟩ : Owns w ty 1 v v.ownBlock n xs) with ⟨h0, _, _, h1⟩ | ⟨g, cap, cur, h0, h1, h2, _, _, _, h3⟩
  · rcases Owns.form (⟨k, rfl⟩ : Owns w ty 1 v v.ownBlock n ys) with ⟨_, _, _, k1⟩ | ⟨g', cap', cur', k0, k1, k2, _, _, _, k3⟩
    · rw [h1, k1]
    · rw [k0] at h0; cases h0
  · rcases Owns.form (⟨k, rfl⟩ : Owns w ty 1 v v.ownBlock n ys) with ⟨k0, _, _, k1⟩ | ⟨g', cap', cur', k0, k1, k2, _, _, _, k3⟩
    · rw [k0] at h0; cases h0
    · rw [h0] at k0; cases k0
      rw [h2] at k2; cases k2
      rw [← h3, ← k3]
theorem owns_onecell {w : World} {ty : TypeId} {size : Nat} {v : Value} {og : Option Nat} {n : Nat} {xs : List Value} (h : Owns w ty size v og n xs) : v.oneCell' = true := by
  rcases h.form with ⟨_, rfl, _⟩ | ⟨g, cap, cur, _, rfl, _⟩ <;> rfl
theorem info_row : (Try.prog.info? 22).map (fun i => (i.zero, i.size, i.bytes)) = some (some (.slice none 0 0), 1, 24) := by kernel_rfl
/-- the rows of a code, as numbers. -/
def rowsN (L : List Nat) : List (List Nat) := (rowsL L).map bn
theorem rowsN_get (L : List Nat) (i : Nat) (h : i < L.length) : (rowsN L)[i]? = some (bn (rowOf L i)) := by rw [rowsN, List.getElem?_map, rowsL_get L i h]; rfl
theorem length_rowsN (L : List Nat) : (rowsN L).length = L.length := by rw [rowsN, List.length_map, length_rowsL]
/-- what Rows leaves. -/
def RowsP (w : World) (L : List Nat) (e : Ending) (w' : World) : Prop :=
  (errW L ≠ 0 ∧ e = .returned (.tuple #[.slice none 0 0, .int .i64 (errW L)]) ∧ Ext w w') ∨ (errW L = 0 ∧ ∃ v, e = .returned (.tuple #[v, .int .i64 0]) ∧ RRw w (rowsN L) v w')
set_option maxHeartbeats 4000000 in
set_option maxRecDepth 100000 in
theorem pre_ref_rows (v : Value) (bs : List Nat) (w : World) (hv : ViewL w v (u8s bs)) (hl : bs.length ≤ 2 ^ 40) :
    Calls Try.prog 10 #[v] w (RowsP w bs) := by
  obtain ⟨i0, hi, hz0, hz1, hz2⟩ := info_parts info_row
  obtain ⟨ao, cap, rfl⟩ := hv.shape
  rw [length_u8s] at *
  have HV := Lib.hid hv
  clear hv
  go_enter Try.func10, Try.ntmps10
  go_wp2_with fail
  refine (ref_words _ bs _ HV.out hl).mono ?_
  rintro e w1 (⟨he, rfl, rfl⟩ | ⟨he, wv, rfl, og2, o2, g2, x1⟩)
  · have HE := Lib.hid he
    have heb : (errW bs == 0) = false := beq_eq_false_iff_ne.2 he
    have hei : ¬ errW bs = 0 := he
    clear he
    go_wp2_with fail
    go_ret2
    exact Or.inl ⟨HE.out, rfl, Ext.refl _⟩
  · have HG := Lib.hid ((good_iff bs).2 he)
    have HE := Lib.hid he
    rw [length_wordsL] at o2
    obtain ⟨ao2, cap2, rfl⟩ := o2.shape
    have HO2 := Lib.hid o2
    have HX1 := Lib.hid x1
    clear o2 g2 x1 he
    have hL5 := HG.out.2.1
    go_wp2_with fail
    go_loopw [6, 7] (fun rv iv wr => ∃ i : Nat, iv = .int .i64 i ∧ i ≤ bs.length ∧ RRw w1 ((rowsN bs).take i) rv wr) (fun _ iv _ => bs.length - (intOf iv).toNat)
    case atStart => exact ⟨0, rfl, Nat.zero_le _, rrw_nil w1⟩
    case round =>
      obtain ⟨i, rfl, hi2, hp⟩ := hrel
      have HP := Lib.hid hp
      clear hp
      by_cases hin : i < bs.length
      · have hini : (i : Int) < (bs.length : Int) := by omega
        obtain ⟨X, hX⟩ : ∃ X, (wordsL bs).getD i 0 = X := ⟨_, rfl⟩
        obtain ⟨n, hn⟩ : ∃ n, bs.getD i 0 = n := ⟨_, rfl⟩
        have hxr : Ext w1 wr := HP.out.toExt
        obtain ⟨b, o, rfl, _, hc⟩ := viewL_cells ((HV.out.ext HX1.out).ext hxr) (by rw [length_u8s]; omega)
        have cB := hc i _ (getElem?_u8s bs i hin)
        obtain ⟨wg, rfl, rfl⟩ : ∃ g, og2 = some g ∧ ao2 = some ⟨g, 0, none⟩ := by
          rcases HO2.out.form with ⟨_, _, h1, _⟩ | ⟨g, cap, _, h1, h2, _⟩
          · omega
          · cases h2; exact ⟨g, h1, rfl⟩
        have cW := (HO2.out.ext' hxr).cell i _ (getElem?_u32s _ i (by rw [length_wordsL]; exact hin))
        rw [hX] at cW
        rw [hn] at cB
        have hn20 : n ≤ 20 := by
          rw [← hn, List.getD, List.getElem?_eq_getElem hin]; exact HG.out.1 _ (List.getElem_mem _)
        have HTK := Lib.hid (show (rowsN bs).take (i + 1) = (rowsN bs).take i ++ [bn (bitsOf true X n)] by
          rw [List.take_add_one, rowsN_get bs i hin, Option.toList_some, rowOf, hX, hn])
        have HL := Lib.hid (show i = ((rowsN bs).take i).length by rw [List.length_take, length_rowsN]; omega)
        have hX32 : X < 4294967296 := by rw [← hX]; exact words_lt32 HG.out i hin
        have HCB := Lib.hid cB
        have HCW := Lib.hid cW
        have HRR := Lib.hid (show RRb wr.heap.size w1 ((rowsN bs).take i) u6 wr from HP.out)
        have hw1 := hxr.size
        clear hX hn hc hxr
        go_wp2_with fail
-- REG
        have hst : Stab (Phi [(22, u6), (23, .slice (some ⟨wg, 0, none⟩) bs.length cap2), (24, .int .i64 i), (25, .pointer (some ⟨wg, i, none⟩)), (26, .int .u32 X), (27, .slice (some ⟨b, o, none⟩) bs.length cap), (28, .int .i64 i), (29, .pointer (some ⟨b, o + i, none⟩)), (30, .int .u8 n)] [(31, fun (v : Value) (w' : World) => ∃ gu, Owns w' 5 1 v gu (bn (bitsOf true X n)).length (u8s (bn (bitsOf true X n))) ∧ ∀ g, gu = some g → wr.heap.size ≤ g), (32, fun (v : Value) (w' : World) => ∃ g u gu, v = .slice (some ⟨g, 0, none⟩) 1 1 ∧ w'.heap[g]? = some (.cells #[u] 22 (0, 0)) ∧ wr.heap.size ≤ g ∧ Owns w' 5 1 u gu (bn (bitsOf true X n)).length (u8s (bn (bitsOf true X n))) ∧ ∀ g, gu = some g → wr.heap.size ≤ g), (33, fun v w' => RRw w1 ((rowsN bs).take (i + 1)) v w'), (6, fun v w' => RRw w1 ((rowsN bs).take (i + 1)) v w')]) := Phi.stable (by
            intro x hx v w1 w2 he hp
            simp only [List.mem_cons, List.not_mem_nil, or_false] at hx
            rcases hx with rfl | rfl | rfl | rfl
            · exact (let ⟨gu, h1, h2⟩ := hp; ⟨gu, h1.ext' he, h2⟩)
            · exact (let ⟨g, u, gu, e, h1, h2, h3, h4⟩ := hp; ⟨g, u, gu, e, he.keep h1 (fun f => f), h2, h3.ext' he, h4⟩)
            · exact (RRb.up hp he (Nat.le_refl _))
            · exact (RRb.up hp he (Nat.le_refl _)))
        refine wp_region_re 35 [6, 4, 7, 0] [22, 23, 24, 25, 26, 27, 28, 29, 30, 31, 32, 33, 6] 11 [0, 0, 0, 0, 0, 0, 0, 0, 0, 0, 0, 2, 1] (fun w' => RRb wr.heap.size w1 ((rowsN bs).take i) u6 w' ∧ Ext wr w') (fun w' => Ext w1 w') (by kernel_rfl) _ (Phi [(6, u6), (4, .slice (some ⟨wg, 0, none⟩) bs.length cap2), (7, .int .i64 i), (0, .slice (some ⟨b, o, none⟩) bs.length cap)] []) hst (fun _ _ h k => ⟨h.1.keep k, h.2.trans k⟩) (fun _ _ h k => h.trans k) (by kernel_rfl) rfl rfl (fun _ => ⟨rfl, rfl, rfl, rfl, trivial⟩) (⟨HRR.out, Ext.refl _⟩) ⟨?_, ?_, ?_, ?_, ?_, ?_, ?_, ?_, ?_, ?_, ?_, ?_, ?_, trivial⟩ ?fin
        · refine OblR.val (u6) (fun ev wq hI hc hev => ?_)
          obtain ⟨hc, hf, hg⟩ := hc
          have h0 : ev (.tmp 6) = u6 := at_base hev.1 (by kernel_rfl)
          exact ⟨rfl, by (clear hev; go_simp), fun d hd => by cases hd; rfl⟩
        · refine OblR.val (.slice (some ⟨wg, 0, none⟩) bs.length cap2) (fun ev wq hI hc hev => ?_)
          obtain ⟨hc, hf, hg⟩ := hc
          have h0 : ev (.tmp 4) = .slice (some ⟨wg, 0, none⟩) bs.length cap2 := at_base hev.1 (by kernel_rfl)
          exact ⟨rfl, by (clear hev; go_simp), fun d hd => by cases hd; rfl⟩
        · refine OblR.val (.int .i64 i) (fun ev wq hI hc hev => ?_)
          obtain ⟨hc, hf, hg⟩ := hc
          have h0 : ev (.tmp 7) = .int .i64 i := at_base hev.1 (by kernel_rfl)
          exact ⟨rfl, by (clear hev; go_simp), fun d hd => by cases hd; rfl⟩
        · refine OblR.val (.pointer (some ⟨wg, i, none⟩)) (fun ev wq hI hc hev => ?_)
          obtain ⟨hc, hf, hg⟩ := hc
          have h0 : ev (.tmp 23) = .slice (some ⟨wg, 0, none⟩) bs.length cap2 := at_new hev.1 (by kernel_rfl); have h1 : ev (.tmp 24) = .int .i64 i := at_new hev.2.1 (by kernel_rfl)
          exact ⟨rfl, by (clear hev; go_simp), fun d hd => by cases hd; rfl⟩
        · refine OblR.val (.int .u32 X) (fun ev wq hI hc hev => ?_)
          obtain ⟨hc, hf, hg⟩ := hc
          have h0 : ev (.tmp 25) = .pointer (some ⟨wg, i, none⟩) := at_new hev.1 (by kernel_rfl)
          clear hev
          have hI := hI.2
          have hc9 := cell_touch hI HCW.out (fun f => f)
          exact ⟨rfl, by go_simp, fun d hd => by cases hd; rfl⟩
        · refine OblR.val (.slice (some ⟨b, o, none⟩) bs.length cap) (fun ev wq hI hc hev => ?_)
          obtain ⟨hc, hf, hg⟩ := hc
          have h0 : ev (.tmp 0) = .slice (some ⟨b, o, none⟩) bs.length cap := at_base hev.1 (by kernel_rfl)
          exact ⟨rfl, by (clear hev; go_simp), fun d hd => by cases hd; rfl⟩
        · refine OblR.val (.int .i64 i) (fun ev wq hI hc hev => ?_)
          obtain ⟨hc, hf, hg⟩ := hc
          have h0 : ev (.tmp 7) = .int .i64 i := at_base hev.1 (by kernel_rfl)
          exact ⟨rfl, by (clear hev; go_simp), fun d hd => by cases hd; rfl⟩
        · refine OblR.val (.pointer (some ⟨b, o + i, none⟩)) (fun ev wq hI hc hev => ?_)
          obtain ⟨hc, hf, hg⟩ := hc
          have h0 : ev (.tmp 27) = .slice (some ⟨b, o, none⟩) bs.length cap := at_new hev.1 (by kernel_rfl); have h1 : ev (.tmp 28) = .int .i64 i := at_new hev.2.1 (by kernel_rfl)
          exact ⟨rfl, by (clear hev; go_simp), fun d hd => by cases hd; rfl⟩
        · refine OblR.val (.int .u8 n) (fun ev wq hI hc hev => ?_)
          obtain ⟨hc, hf, hg⟩ := hc
          have h0 : ev (.tmp 29) = .pointer (some ⟨b, o + i, none⟩) := at_new hev.1 (by kernel_rfl)
          clear hev
          have hI := hI.2
          have hc9 := cell_touch hI HCB.out (fun f => f)
          exact ⟨rfl, by go_simp, fun d hd => by cases hd; rfl⟩
        · refine OblR.call 31 #[.int .u32 X, .int .u8 n] (fun ev wq hI hc hev => ?_)
          obtain ⟨hc, hf, hg⟩ := hc
          have h0 : ev (.tmp 26) = .int .u32 X := at_new hev.1 (by kernel_rfl); have h1 : ev (.tmp 30) = .int .u8 n := at_new hev.2.1 (by kernel_rfl)
          refine ⟨rfl, by (clear hev; go_simp), ?_⟩
          refine (pre_ref_bits X n wq hX32 hn20).mono ?_
          rintro e w2' ⟨u, gu, rfl, k1, k2, k3⟩
          exact ⟨u, rfl, k3, fun d hd => by cases hd; exact ⟨gu, k1, fun g e => by have := k2 g e; have := hI.2.size; omega⟩⟩
        · refine OblR.mem (fun ev wq hI hc hev => ?_)
          obtain ⟨hc, hf, hg⟩ := hc
          have h0 : (fun (v : Value) (w' : World) => ∃ gu, Owns w' 5 1 v gu (bn (bitsOf true X n)).length (u8s (bn (bitsOf true X n))) ∧ ∀ g, gu = some g → wr.heap.size ≤ g) (ev (.tmp 31)) wq := at_new hev.1 (by kernel_rfl)
          clear hev
          obtain ⟨gu, k1, k2⟩ := h0
          obtain ⟨uo, uc, e31⟩ := k1.shape
          rw [e31] at k1
          have hz := hI.2.size
          exact ⟨rfl, .slice (some ⟨wq.heap.size, 0, none⟩) 1 1, wq.alloc (.cells #[.slice uo (bn (bitsOf true X n)).length uc] 22), by go_simp, (Ext.refl wq).alloc _, fun d hd => by cases hd; exact ⟨wq.heap.size, _, gu, rfl, heap_alloc_new wq _, hz, k1.ext' ((Ext.refl wq).alloc _), k2⟩⟩
        · refine OblRC.opt (fun ev wq hI hc hev => ?_)
          obtain ⟨hc, hf, hg⟩ := hc
          have h0 : ev (.tmp 22) = u6 := at_new hev.1 (by kernel_rfl); have h1 : (fun (v : Value) (w' : World) => ∃ g u gu, v = .slice (some ⟨g, 0, none⟩) 1 1 ∧ w'.heap[g]? = some (.cells #[u] 22 (0, 0)) ∧ wr.heap.size ≤ g ∧ Owns w' 5 1 u gu (bn (bitsOf true X n)).length (u8s (bn (bitsOf true X n))) ∧ ∀ g, gu = some g → wr.heap.size ≤ g) (ev (.tmp 32)) wq := at_new hev.2.1 (by kernel_rfl)
          clear hev
          obtain ⟨g, u, gu, eg, hg, hng, k1, k2⟩ := h1
          obtain ⟨vs, hown, hlt⟩ := hI.1.own
          rw [← HL.out] at hown
          obtain ⟨v', w2', hrun, hown', hgrow, _, hat⟩ := run_append_own_at (P := Try.prog) (w := wq) 0 28 28 22 i0 (.slice none 0 0) 1 24 Try.underlying28 hi hz0 hz1 hz2 rfl (by decide) u6 i vs hown ⟨g, 0, none⟩ 1 1 [u] rfl (fun j x hj => by rw [add_lit, World.cell?, hg]; simpa using hj) (by simpa using owns_onecell k1) (by unfold maxLen; omega) (by omega) (Nat.zero_le _)
          have hr := rrb_app (r := bn (bitsOf true X n)) hI.1 HL.out k1 k2 hw1 (fun vs' ho => by rw [ownsRow_one ho hown]; exact hown') hgrow hat
          rw [← HTK.out] at hr
          refine ⟨rfl, v', w2', by simp [execOp, resolve, invoke, builtin, h0, eg, hrun, Result.andThen], hr.toExt, fun t x ht h => ?_, fun d hd => by cases hd; exact hr⟩
          have hkeep : ∀ k, wr.heap.size ≤ k → u6.ownBlock ≠ some k := fun k hk e => by have := hlt k e; omega
          have htk : Touch (fun k => u6.ownBlock = some k) wq w2' := Touch.grown (Touch.refl _ wq) hgrow (fun k e => Or.inl e)
          rw [show openSlots _ _ _ = [22, 23, 24, 25, 26, 27, 28, 29, 30, 31, 32] from by kernel_rfl] at ht
          simp only [List.mem_cons, List.not_mem_nil, or_false] at ht
          rcases ht with rfl | rfl | rfl | rfl | rfl | rfl | rfl | rfl | rfl | rfl | rfl
          · exact h
          · exact h
          · exact h
          · exact h
          · exact h
          · exact h
          · exact h
          · exact h
          · exact h
          · obtain ⟨gu', q1, q2⟩ : (fun (v : Value) (w' : World) => ∃ gu, Owns w' 5 1 v gu (bn (bitsOf true X n)).length (u8s (bn (bitsOf true X n))) ∧ ∀ g, gu = some g → wr.heap.size ≤ g) x wq := h
            exact ⟨gu', q1.keep htk (fun g e => hkeep g (q2 g e)), q2⟩
          · obtain ⟨g', y, gu', q0, q1, q2, q3, q4⟩ : (fun (v : Value) (w' : World) => ∃ g u gu, v = .slice (some ⟨g, 0, none⟩) 1 1 ∧ w'.heap[g]? = some (.cells #[u] 22 (0, 0)) ∧ wr.heap.size ≤ g ∧ Owns w' 5 1 u gu (bn (bitsOf true X n)).length (u8s (bn (bitsOf true X n))) ∧ ∀ g, gu = some g → wr.heap.size ≤ g) x wq := h
            exact ⟨g', y, gu', q0, htk.keep q1 (hkeep g' q2), q2, q3.keep htk (fun g e => hkeep g (q4 g e)), q4⟩
        · refine OblR.opt (fun ev wq hI hc hev => ?_)
          obtain ⟨hc, hf, hg⟩ := hc
          have h0 : (fun v w' => RRw w1 ((rowsN bs).take (i + 1)) v w') (ev (.tmp 33)) wq := at_new hev.1 (by kernel_rfl)
          clear hev
          exact ⟨rfl, ev (.tmp 33), by go_simp, fun d hd => by cases hd; exact h0⟩
        case fin =>
          intro vs w5 he5 hf
          have e22 : vs 22 = u6 := hf 22 (by decide)
          have e23 : vs 23 = .slice (some ⟨wg, 0, none⟩) bs.length cap2 := hf 23 (by decide)
          have e24 : vs 24 = .int .i64 i := hf 24 (by decide)
          have e25 : vs 25 = .pointer (some ⟨wg, i, none⟩) := hf 25 (by decide)
          have e26 : vs 26 = .int .u32 X := hf 26 (by decide)
          have e27 : vs 27 = .slice (some ⟨b, o, none⟩) bs.length cap := hf 27 (by decide)
          have e28 : vs 28 = .int .i64 i := hf 28 (by decide)
          have e29 : vs 29 = .pointer (some ⟨b, o + i, none⟩) := hf 29 (by decide)
          have e30 : vs 30 = .int .u8 n := hf 30 (by decide)
          simp only [List.foldl_cons, List.foldl_nil]
          rw [e22, e23, e24, e25, e26, e27, e28, e29, e30]
          generalize vs 31 = u31
          generalize vs 32 = u32
          generalize vs 33 = u33
          have s6 : (fun v w' => RRw w1 ((rowsN bs).take (i + 1)) v w') (vs 6) w5 := hf 6 (by decide)
          generalize vs 6 = u6 at s6 ⊢
          simp only [Act.put, List.setIfInBounds_toArray, List.set_cons_succ, List.set_cons_zero]
          clear hf e22 e23 e24 e25 e26 e27 e28 e29 e30
          have HF := Lib.hid s6
          clear s6 he5
          go_wp2_with fail
          go_roundw
          case rel => exact ⟨i + 1, by go_num, by omega, HF.out⟩
          case measure => simp [intOf]; omega
-- REGEND
      · obtain rfl : i = bs.length := by omega
        have HF := Lib.hid (show RRw w1 (rowsN bs) _ wr from by have := HP.out; rwa [List.take_of_length_le (by rw [length_rowsN]; exact Nat.le_refl _)] at this)
        go_wp2_with fail
        go_ret2
        obtain ⟨og, In, h1, h2, h3⟩ := HF.out
        exact Or.inr ⟨HE.out, _, rfl, og, In, h1, fun g hg => by have := h2 g hg; have := HX1.out.size; omega, HX1.out.trans h3⟩
end Go.Proofs.Ytomnhfcckalkiaa
