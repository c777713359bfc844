/- tables.chosen: its walk. -/
import Derived.Test.YteabjmebnbaonaaTabLens
import Derived.Test.YteabjmebnbaonaaTabInts
namespace Go.Proofs.Yteabjmebnbaonaa
open Go.RowKit
set_option linter.unusedVariables false

theorem info_int : (Try.prog.info? 3).map (fun i => (i.zero, i.size, i.bytes)) = some (some (.int .i64 0), 1, 8) := by kernel_rfl
/-- ints in new memory behind reads. -/
def GS (w : World) (B : Nat) (og : Option Nat) (bs : List Nat) (l : List Nat) (q : Nat) (v : Value) (w' : World) : Prop :=
  ∃ oo, Owns w' 3 1 v oo l.length (i64s l) ∧ (∀ g, oo = some g → w.heap.size ≤ g) ∧ RPost 67 w B og bs q w'
def SG (w : World) (B : Nat) (og : Option Nat) (bs : List Nat) (r : Option (List Nat × Nat)) (e : Ending) (w' : World) : Prop :=
  (∃ l q v, r = some (l, q) ∧ e = .returned (.tuple #[v, .int .i64 0]) ∧ GS w B og bs l q v w') ∨
  (∃ q v, r = none ∧ e = .returned (.tuple #[v, .int .i64 2]) ∧ RPost 67 w B og bs q w' ∧ q ≤ 8 * bs.length)
theorem chosen_panic {R : Ending → World → Prop} {wr : World} {p : Addr} {v : Value} {x : Int} {tmps : Array Value} (h4 : tmps[4]? = some v) (h5 : tmps[5]? = some (.pointer (some p))) (hc : wr.cell? p = some (.int .i64 x)) (hz : wr.frozen? p = false)
    (hR : R (.returned (.tuple #[v, .int .i64 2])) (wr.setCell p (.int .i64 2))) : bodyPostD Try.prog Try.f59 R (Exit.panic [formP]) { tmps := tmps, defers := [{ target := .fn (.func 69) #[.pointer (some p)], args := #[] }] } wr := by
  refine leaves_cons (f := 69) (args := #[.pointer (some p)]) (by simp) (by simp [go_sem]) ?_
  refine (tab_chosen_catch p _ x hc hz).mono ?_
  rintro e u' w'' ⟨rfl, rfl, rfl⟩
  have hc2 : (wr.setCell p (.int .i64 2)).cell? p = some (.int .i64 2) := World.cell?_setCell_same _ _ _ hc
  simp [Leaves, settle, results, Try.results59, go_sem, h4, h5]
  rw [hc2]
  exact ⟨_, rfl, hR⟩
theorem chosen_ret {R : Ending → World → Prop} {wr : World} {p : Addr} {v : Value} {tmps : Array Value} (h4 : tmps[4]? = some v) (h5 : tmps[5]? = some (.pointer (some p))) (hc : wr.cell? p = some (.int .i64 0))
    (hR : R (.returned (.tuple #[v, .int .i64 0])) wr) : bodyPostD Try.prog Try.f59 R Exit.ret { tmps := tmps, defers := [{ target := .fn (.func 69) #[.pointer (some p)], args := #[] }] } wr := by
  refine leaves_cons (f := 69) (args := #[.pointer (some p)]) (by simp) (by simp [go_sem]) ?_
  refine (tab_chosen_idle p _).mono ?_
  rintro e u' w'' ⟨rfl, rfl, rfl⟩
  simp [Leaves, settle, results, Try.results59, go_sem, h4, h5]
  rw [hc]
  exact ⟨_, rfl, hR⟩
/-- the list so far, the reader and the mover. -/
def ChI (w : World) (B : Nat) (og : Option Nat) (bs : List Nat) (C A : Nat) (l lst : List Nat) (q : Nat) (v : Value) (wr : World) : Prop :=
  ∃ oo, Owns wr 3 1 v oo l.length (i64s l) ∧ (∀ g, oo = some g → w.heap.size ≤ g ∧ g ≠ C ∧ g ≠ A) ∧ RPost 67 w B og bs q wr ∧ IsM wr C A lst ∧ w.heap.size ≤ C ∧ w.heap.size ≤ A
theorem ChI.rpost {w : World} {B : Nat} {og : Option Nat} {bs : List Nat} {C A : Nat} {l lst : List Nat} {q : Nat} {v : Value} {wr : World} (h : ChI w B og bs C A l lst q v wr) : RPost 67 w B og bs q wr := by
  obtain ⟨oo, h1, h2, h3, _⟩ := h; exact h3
theorem ChI.get {w : World} {B : Nat} {og : Option Nat} {bs : List Nat} {C A : Nat} {l lst : List Nat} {q q' : Nat} {v : Value} {w1 w2 : World} (h : ChI w B og bs C A l lst q v w1) (hB : B < w.heap.size) (hp : RPost 67 w1 B og bs q' w2) : ChI w B og bs C A l lst q' v w2 := by
  obtain ⟨oo, h1, h2, h3, h4, h5, h6⟩ := h
  exact ⟨oo, h1.keep hp.2 (fun g e e2 => by have := h2 g e; omega), h2, h3.step hp, h4.keep hp.2 (fun e => by omega) (fun e => by omega), h5, h6⟩
theorem ChI.at {w : World} {B : Nat} {og : Option Nat} {bs : List Nat} {C A : Nat} {l lst lst' : List Nat} {q : Nat} {v : Value} {w1 w2 : World} (h : ChI w B og bs C A l lst q v w1) (hB : B < w.heap.size) (hg : ∀ g, og = some g → g < w.heap.size) (hm : IsM w2 C A lst') (ht : Touch (fun b => b = A) w1 w2) : ChI w B og bs C A l lst' q v w2 := by
  obtain ⟨oo, h1, h2, h3, h4, h5, h6⟩ := h
  exact ⟨oo, h1.keep ht (fun g e e2 => by have := h2 g e; omega), h2, ⟨h3.1.keep ht (fun e => by omega) (fun g e e2 => by have := hg g e; omega), h3.2.trans ht (fun i hi e => by omega)⟩, hm, h5, h6⟩
theorem ChI.snoc {w : World} {B : Nat} {og : Option Nat} {bs : List Nat} {C A : Nat} {l lst : List Nat} {q : Nat} {v v' : Value} {w1 w2 : World} {y : Nat} {o : Obj} (h : ChI w B og bs C A l lst q v w1) (hB : B < w.heap.size) (hg : ∀ g, og = some g → g < w.heap.size)
    (hown' : w2.ownsRow 0 3 1 v' (l.length + 1) (i64s l ++ [.int .i64 y])) (hgrow : (w1.alloc o).grownBy w2 v.ownBlock) (hat : v'.ownBlock = v.ownBlock ∨ v'.ownBlock = some (w1.heap.size + 1)) : ChI w B og bs C A (l ++ [y]) lst q v' w2 := by
  obtain ⟨oo, h1, h2, h3, h4, h5, h6⟩ := h
  have hr : ∀ k, v.ownBlock = some k → w.heap.size ≤ k ∧ k ≠ C ∧ k ≠ A := fun k e => h2 k (by rw [← h1.2]; exact e)
  have t : Touch (fun k => v.ownBlock = some k) w1 w2 := (((Ext.refl w1).alloc _).mono (fun _ _ f => f.elim)).grown hgrow (fun k e => Or.inl e)
  have hlt := h4.lt
  have hs := h3.2.size
  refine ⟨v'.ownBlock, ⟨by rw [i64s_append, List.length_append]; exact hown', rfl⟩, fun g e => ?_, ⟨h3.1.keep t (fun e => by have := hr _ e; omega) (fun g e e2 => by have := hg g e; have := hr _ e2; omega), ?_⟩, h4.keep t (fun e => (hr _ e).2.1 rfl) (fun e => (hr _ e).2.2 rfl), h5, h6⟩
  · rcases hat with hat | hat
    · exact hr g (by rw [← hat]; exact e)
    · rw [hat] at e; cases e; omega
  · exact Touch.grown (h3.2.alloc _) hgrow (fun k e => Or.inr (hr k e).1)
theorem ChI.shape {w : World} {B : Nat} {og : Option Nat} {bs : List Nat} {C A : Nat} {l lst : List Nat} {q : Nat} {v : Value} {wr : World} (h : ChI w B og bs C A l lst q v wr) : ∃ ao cap, v = .slice ao l.length cap := by
  obtain ⟨oo, h1, _⟩ := h; exact h1.shape
theorem ChI.fin {w : World} {B : Nat} {og : Option Nat} {bs : List Nat} {C A : Nat} {l lst : List Nat} {q : Nat} {v : Value} {wr : World} {o : Obj} (u : Value) (h : ChI (w.alloc o) B og bs C A l lst q v wr) (hB : B < w.heap.size) (hg : ∀ g, og = some g → g < w.heap.size) :
    GS w B og bs l q v (wr.setCell ⟨w.heap.size, 0, none⟩ u) := by
  obtain ⟨oo, h1, h2, h3, h4, h5, h6⟩ := h
  have t : Touch (fun k => k = w.heap.size) wr (wr.setCell ⟨w.heap.size, 0, none⟩ u) := (Touch.refl (fun k => k = w.heap.size) wr).setCell (Or.inl rfl) u
  have hs : ∀ g, oo = some g → w.heap.size + 1 ≤ g := fun g e => by have := (h2 g e).1; simpa using this
  exact ⟨oo, h1.keep t (fun g e e2 => by have := hs g e; omega), fun g e => by have := hs g e; omega, rpost_cell u h3 hB hg⟩
theorem sg_none {f : Nat → Bool} {N t n q : Nat} {l lst : List Nat} {T : Option (List Nat × Nat)} (h : T = (selGet f N t (n - l.length) lst q).map fun y => (l ++ y.1, y.2)) (hn : l.length < n) (h1 : oneSel f N t 0 q = none) : T = none := by
  obtain ⟨j, hj⟩ : ∃ j, n - l.length = j + 1 := ⟨n - l.length - 1, by omega⟩
  rw [h, hj, selGet, h1]; rfl
theorem sg_some {f : Nat → Bool} {N t n q k r : Nat} {l lst : List Nat} {T : Option (List Nat × Nat)} (h : T = (selGet f N t (n - l.length) lst q).map fun y => (l ++ y.1, y.2)) (hn : l.length < n) (h1 : oneSel f N t 0 q = some (k, r)) :
    T = (selGet f N t (n - (l ++ [lst.getD k 0]).length) (mtf lst k) r).map fun y => ((l ++ [lst.getD k 0]) ++ y.1, y.2) := by
  obtain ⟨j, hj⟩ : ∃ j, n - l.length = j + 1 := ⟨n - l.length - 1, by omega⟩
  have hj2 : n - (l ++ [lst.getD k 0]).length = j := by simp; omega
  rw [h, hj, hj2, selGet, h1]
  simp only [Option.bind_some]
  cases selGet f N t j (mtf lst k) r <;> simp
theorem sg_end {f : Nat → Bool} {N t n q : Nat} {l lst : List Nat} {T : Option (List Nat × Nat)} (h : T = (selGet f N t (n - l.length) lst q).map fun y => (l ++ y.1, y.2)) (hn : l.length = n) : T = some (l, q) := by
  rw [h, hn, Nat.sub_self, selGet]; simp
set_option maxHeartbeats 4000000 in
set_option maxRecDepth 100000 in
theorem tab_chosen (B : Nat) (og : Option Nat) (bs : List Nat) (p t : Nat) (w : World) (hr : IsR 67 w B og bs p) (hl : bs.length ≤ 2 ^ 20) (hb : ∀ b ∈ bs, b < 256) (hp : p ≤ 8 * bs.length) (ht2 : 2 ≤ t) (ht6 : t ≤ 6) :
    Calls Try.prog 59 #[.pointer (some ⟨B, 0, none⟩), .int .i64 t] w (SG w B og bs (gSel (rbit true bs) (8 * bs.length) p t)) := by
  obtain ⟨i0, hi, hz0, hz1, hz2⟩ := info_parts info_int
  have hmf : ∀ (fn : Fn) (first cap : Array Value) (w : World), (Instr.makeFunc fn first cap).run Try.prog w = .ok (.func fn first cap) w := fun _ _ _ _ => rfl
  have HB := Lib.hid hr.lt
  have HG := Lib.hid hr.glt
  have HR1 := Lib.hid (hr.ext ((Ext.refl w).alloc (.cells #[.int .i64 0] 23)))
  have HBS := Lib.hid hb
  obtain ⟨f, hf⟩ : ∃ f, f = rbit true bs := ⟨_, rfl⟩
  obtain ⟨G, hGd⟩ : ∃ G, G = gSel f (8 * bs.length) p t := ⟨_, rfl⟩
  rw [← hf, ← hGd]
  have HF := Lib.hid hf
  have HGD := Lib.hid hGd
  have HPAN := Lib.hid (show ∀ (q : Nat) (v : Value) (wr : World) (tmps : Array Value), G = none → q ≤ 8 * bs.length → RPost 67 (w.alloc (.cells #[.int .i64 0] 23)) B og bs q wr → tmps[4]? = some v → tmps[5]? = some (.pointer (some ⟨w.heap.size, 0, none⟩)) →
      bodyPostD Try.prog Try.f59 (SG w B og bs G) (Exit.panic [formP]) { tmps := tmps, defers := [{ target := .fn (.func 69) #[.pointer (some ⟨w.heap.size, 0, none⟩)], args := #[] }] } wr from
    fun q v wr tmps hnone hq hp2 h4 h5 => chosen_panic h4 h5 (rpost_box hp2 hr.lt).1 (rpost_box hp2 hr.lt).2 (Or.inr ⟨q, v, hnone, rfl, rpost_cell _ hp2 hr.lt hr.glt, hq⟩))
  have HRET := Lib.hid (show ∀ (q C A : Nat) (l lst : List Nat) (v : Value) (wr : World) (tmps : Array Value), G = some (l, q) → ChI (w.alloc (.cells #[.int .i64 0] 23)) B og bs C A l lst q v wr → tmps[4]? = some v → tmps[5]? = some (.pointer (some ⟨w.heap.size, 0, none⟩)) →
      bodyPostD Try.prog Try.f59 (SG w B og bs G) Exit.ret { tmps := tmps, defers := [{ target := .fn (.func 69) #[.pointer (some ⟨w.heap.size, 0, none⟩)], args := #[] }] } (wr.setCell ⟨w.heap.size, 0, none⟩ (.int .i64 0)) from
    fun q C A l lst v wr tmps hsome hg h4 h5 => chosen_ret h4 h5 (World.cell?_setCell_same _ _ _ (rpost_box hg.rpost hr.lt).1) (Or.inl ⟨l, q, v, hsome, rfl, hg.fin _ hr.lt hr.glt⟩))
  have HB1 := Lib.hid (show B < (w.alloc (.cells #[.int .i64 0] 23)).heap.size by rw [World.size_alloc]; have := hr.lt; omega)
  have HG1 := Lib.hid (show ∀ g, og = some g → g < (w.alloc (.cells #[.int .i64 0] 23)).heap.size from fun g e => by rw [World.size_alloc]; have := hr.glt g e; omega)
  clear hr hb hf hGd
  go_enter_defers Try.func59, Try.ntmps59
  go_wp2_with fail
  by_cases h5 : 8 * bs.length < p + 15
  · have HN := Lib.hid (show G = none by rw [HGD.out, gSel, if_pos h5])
    refine (msb_get_far B og bs p 15 _ HR1.out (by omega) hp (by decide) h5).mono ?_
    rintro e w' ⟨rfl, q, rfl⟩
    go_wp2_with fail
    refine (tab_must_bad _ _ _ (by decide)).mono ?_
    rintro e w' ⟨rfl, rfl⟩
    go_wp2_with fail
    refine HPAN.out p (.slice none 0 0) _ _ HN.out hp ?_ ?_ ?_
    · exact (RPost.refl HR1.out).drewN q
    · rfl
    · rfl
  · obtain ⟨K, hK⟩ : ∃ K, K = numOf true (fbits f p 15) := ⟨_, rfl⟩
    have hK32 : K < 32768 := by rw [hK]; exact numOf_lt5 _ 15 (length_fbits _ _ _)
    have hGL : G = if K = 0 then none else selGet f (8 * bs.length) t K lst0 (p + 15) := by rw [HGD.out, gSel, if_neg h5, hK]
    have hc := msb_get_ok B og bs p 15 _ HR1.out (by omega) HBS.out (by decide) (by omega)
    rw [show bitsAt true bs p 15 = fbits f p 15 by rw [HF.out]; rfl, ← hK] at hc
    refine hc.mono ?_
    have HGL := Lib.hid hGL
    clear hc hK hGL
    rintro e w1 ⟨rfl, hp1⟩
    have HP1 := Lib.hid hp1
    clear hp1
    go_wp2_with fail
    refine (tab_must_ok K _ (by omega)).mono ?_
    rintro e w2 ⟨rfl, rfl⟩
    by_cases hK0 : K = 0
    · have HN := Lib.hid (show G = none by rw [HGL.out, if_pos hK0])
      subst hK0
      go_wp2_with fail
      refine HPAN.out (p + 15) (.slice none 0 0) _ _ HN.out (by omega) HP1.out ?_ ?_
      · rfl
      · rfl
    · have hK0i : ((K : Int) == 0) = false := by rw [beq_eq_false_iff_ne]; omega
      have hK0j : ¬ (K : Int) = 0 := by omega
      have HGL2 := Lib.hid (show G = selGet f (8 * bs.length) t K lst0 (p + 15) by rw [HGL.out, if_neg hK0])
      go_wp2_with fail
      refine (tab_mover w1).mono ?_
      rintro e w3 ⟨C, A, rfl, q1, q2, q3, q4⟩
      have HCI := Lib.hid (show ChI (w.alloc (.cells #[.int .i64 0] 23)) B og bs C A [] lst0 (p + 15) (.slice none 0 0) w3 from
        ⟨none, Owns.nil _ _ _, fun g e => (by cases e), HP1.out.step ⟨HP1.out.1.ext q2, q2.mono (fun _ _ f => f.elim)⟩, q1, by have := HP1.out.2.size; omega, by have := HP1.out.2.size; omega⟩)
      clear q1 q2 q3 q4 hK0 hK0i hK0j
      go_wp2_with fail
      go_loopw [4, 9] (fun lv kv wr => ∃ (l lst : List Nat) (q : Nat), l.length ≤ K ∧ q ≤ 8 * bs.length ∧ Good t lst ∧ ChI (w.alloc (.cells #[.int .i64 0] 23)) B og bs C A l lst q lv wr ∧
        Hid (G = (selGet f (8 * bs.length) t (K - l.length) lst q).map fun y => (l ++ y.1, y.2))) (fun lv _ _ => K - lenOf lv)
      case atStart => exact ⟨[], lst0, p + 15, Nat.zero_le _, by omega, good0 t ht2 ht6, HCI.out, Lib.hid (by rw [HGL2.out]; simp)⟩
      case round =>
        clear HCI
        obtain ⟨l, lst, q, hln, hq, hgood, hci, HEQ⟩ := hrel
        obtain ⟨ao, cap, rfl⟩ := hci.shape
        have HCI := Lib.hid hci
        have HGO := Lib.hid hgood
        clear hci hgood
        by_cases hlt : l.length < K
        · have hlti : (l.length : Int) < (K : Int) := by omega
          go_wp2_with fail
          go_loopw [9] (fun kv wr => ∃ (k2 q2 : Nat), kv = .int .i64 k2 ∧ k2 < t ∧ q2 ≤ 8 * bs.length ∧ ChI (w.alloc (.cells #[.int .i64 0] 23)) B og bs C A l lst q2 (.slice ao l.length cap) wr ∧ Hid (oneSel f (8 * bs.length) t 0 q = oneSel f (8 * bs.length) t k2 q2)) (fun _ wr => 8 * bs.length + 1 - (intOf ((wr.cell? ⟨B, 1, none⟩).getD undef)).toNat)
          case atStart => exact ⟨0, q, rfl, by omega, hq, HCI.out, Lib.hid rfl⟩
          case round =>
            clear HCI
            obtain ⟨k2, q2, rfl, hk2, hq2, hci2, HE⟩ := hrel
            have HCI := Lib.hid hci2
            clear hci2
            go_wp2_with fail
            by_cases hfar : 8 * bs.length < q2 + 1
            · have HN := Lib.hid (show G = none from sg_none HEQ.out hlt (by rw [HE.out, oneSel, if_pos (by omega)]))
              refine (msb_get_far B og bs q2 1 _ HCI.out.rpost.1 (by omega) hq2 (by decide) hfar).mono ?_
              rintro e w' ⟨rfl, d, rfl⟩
              go_wp2_with fail
              refine (tab_must_bad _ _ _ (by decide)).mono ?_
              rintro e w' ⟨rfl, rfl⟩
              go_wp2_with fail
              refine HPAN.out q2 (.slice ao l.length cap) _ _ HN.out hq2 ?_ ?_ ?_
              · exact HCI.out.rpost.drewN d
              · rfl
              · rfl
            · cases hb1 : f q2 with
              | false =>
                have HS := Lib.hid (sg_some HEQ.out hlt (k := k2) (r := q2 + 1) (by rw [HE.out, oneSel, if_neg (by omega), if_pos hb1]))
                refine (msb_get_one false B og bs q2 _ HCI.out.rpost.1 (by omega) HBS.out (by omega) (by rw [← HF.out]; exact hb1)).mono ?_
                rintro e w4 ⟨rfl, hp4⟩
                have HCI4 := Lib.hid (HCI.out.get HB1.out hp4)
                clear hp4 hb1
                go_wp2_with fail
                refine (tab_must_ok 0 _ (by decide)).mono ?_
                rintro e w5 ⟨rfl, rfl⟩
                go_wp2_with fail
                refine (tab_at C A k2 lst _ HCI4.out.choose_spec.2.2.2.1 (by omega)).mono ?_
                rintro e w6 ⟨rfl, m6, t6⟩
                have HCI6 := Lib.hid (HCI4.out.at HB1.out HG1.out m6 t6)
                obtain ⟨y, hy⟩ : ∃ y, y = lst.getD k2 0 := ⟨_, rfl⟩
                rw [← hy] at HS ⊢
                have HGO6 := Lib.hid (HGO.out.mtf ht6 hk2)
                clear m6 t6 hy
                go_wp2_with (at_builtin; go_must (refine wpList_append_own_at _ rfl (.tmp 39) (.tmp 43) 48 rfl 0 3 i0 (.int .i64 0) 1 8 Try.underlying48 hi hz0 hz1 hz2 rfl (by decide) _ l.length (i64s l) rfl (HCI6.out.choose_spec.1.1.alloc _) ⟨w6.heap.size, 0, none⟩ 1 1 [.int .i64 y] rfl rfl (news _ _ _ _) (by simp [Value.oneCell']) (by unfold maxLen; omega) (by omega) (Nat.zero_le _) ?_))
                intro v' w7 hown' hgrow _ hat
                have hlv : lenOf v' = l.length + 1 := by obtain ⟨a', c', e⟩ := (show Owns w7 3 1 v' v'.ownBlock (l.length + 1) _ from ⟨hown', rfl⟩).shape; rw [e]; rfl
                have HLV := Lib.hid hlv
                have HCI7 := Lib.hid (HCI6.out.snoc HB1.out HG1.out hown' hgrow hat)
                clear hown' hgrow hat hlv
                go_wp2_with fail
                go_roundw
                case rel => exact ⟨l ++ [y], mtf lst k2, q2 + 1, by simp; omega, by omega, HGO6.out, HCI7.out, HS⟩
                case measure => rw [HLV.out]; simp [lenOf]; omega
              | true =>
                refine (msb_get_one true B og bs q2 _ HCI.out.rpost.1 (by omega) HBS.out (by omega) (by rw [← HF.out]; exact hb1)).mono ?_
                have HB2 := Lib.hid hb1
                rintro e w4 ⟨rfl, hp4⟩
                have HCI4 := Lib.hid (HCI.out.get HB1.out hp4)
                have HCUR := Lib.hid (show wr.cell? ⟨B, 1, none⟩ = some (.int .i64 q2) by
                  obtain ⟨_, c1, _⟩ := HCI.out.rpost.1
                  simp [World.cell?, c1])
                clear hp4 hb1
                go_wp2_with fail
                refine (tab_must_ok 1 _ (by decide)).mono ?_
                rintro e w5 ⟨rfl, rfl⟩
                by_cases hkt : k2 + 1 = t
                · have HN := Lib.hid (show G = none from sg_none HEQ.out hlt (by rw [HE.out, oneSel, if_neg (by omega), if_neg (by rw [HB2.out]; simp), if_pos (by omega)]))
                  have hkb : ((k2 : Int) + 1 == (t : Int)) = true := by rw [beq_iff_eq]; omega
                  have hkb2 : (k2 : Int) + 1 = (t : Int) := by omega
                  go_wp2_with fail
                  refine HPAN.out (q2 + 1) (.slice ao l.length cap) _ _ HN.out (by omega) HCI4.out.rpost ?_ ?_
                  · rfl
                  · rfl
                · have hkb : ((k2 : Int) + 1 == (t : Int)) = false := by rw [beq_eq_false_iff_ne]; omega
                  have hkb2 : ¬ (k2 : Int) + 1 = (t : Int) := by omega
                  have HE2 := Lib.hid (show oneSel f (8 * bs.length) t 0 q = oneSel f (8 * bs.length) t (k2 + 1) (q2 + 1) by rw [HE.out]; conv => lhs; rw [oneSel, if_neg (by omega), if_neg (by rw [HB2.out]; simp), if_neg (by omega)])
                  go_wp2_with fail
                  go_roundw
                  case rel => exact ⟨k2 + 1, q2 + 1, by go_num, by omega, by omega, HCI4.out, HE2⟩
                  case measure =>
                    obtain ⟨_, c1, _⟩ := HCI4.out.rpost.1
                    rw [HCUR.out, show w4.cell? ⟨B, 1, none⟩ = some (.int .i64 ((q2 + 1 : Nat) : Int)) by simp [World.cell?, c1]]
                    simp [intOf]; omega
        · have hlti : ¬ (l.length : Int) < (K : Int) := by omega
          have HS := Lib.hid (show G = some (l, q) from sg_end HEQ.out (by omega))
          have hbx := (rpost_box HCI.out.rpost HB.out).1
          have hfz := (rpost_box HCI.out.rpost HB.out).2
          go_wp2_with fail
          refine HRET.out q C A l lst (.slice ao l.length cap) _ _ HS.out HCI.out ?_ ?_
          · rfl
          · rfl
end Go.Proofs.Yteabjmebnbaonaa
