/- tables.lengths: its walk. -/
import Derived.Test.YteabjmebnbaonaaTabMust
import Derived.Test.YteabjmebnbaonaaTabLaw
import Derived.Test.YteabjmebnbaonaaMsbGet
import Derived.Test.YteabjmebnbaonaaTabRefL
namespace Go.Proofs.Yteabjmebnbaonaa
open Go.RowKit
set_option linter.unusedVariables false

theorem msb_get_one (b : Bool) (B : Nat) (og : Option Nat) (bs : List Nat) (i : Nat) (w : World) (hr : IsR 67 w B og bs i) (hl : bs.length ≤ 2 ^ 46) (hb : ∀ b ∈ bs, b < 256) (h : i + 1 ≤ 8 * bs.length) (hv : rbit true bs i = b) :
    Calls Try.prog 25 #[.pointer (some ⟨B, 0, none⟩), .int .i64 1] w fun e w' => e = .returned (.tuple #[.int .u32 (b.toNat : Nat), .int .i64 0]) ∧ RPost 67 w B og bs (i + 1) w' := by
  refine (msb_get_ok B og bs i 1 w hr hl hb (by decide) h).mono ?_
  rintro e w' ⟨rfl, hp⟩
  have e1 : numOf true (bitsAt true bs i 1) = b.toNat := by rw [bitsAt_succ, Nat.add_zero, hv]; simp [bitsAt, numOf]
  exact ⟨by rw [e1], hp⟩
/-- bytes in new memory behind reads. -/
def GB (w : World) (B : Nat) (og : Option Nat) (bs : List Nat) (l : List Nat) (q : Nat) (v : Value) (w' : World) : Prop :=
  ∃ oo, Owns w' 5 1 v oo l.length (u8s l) ∧ (∀ g, oo = some g → w.heap.size ≤ g) ∧ RPost 67 w B og bs q w'
def LG (w : World) (B : Nat) (og : Option Nat) (bs : List Nat) (r : Option (List Nat × Nat)) (e : Ending) (w' : World) : Prop :=
  (∃ l q v, r = some (l, q) ∧ e = .returned (.tuple #[v, .int .i64 0]) ∧ GB w B og bs l q v w') ∨
  (∃ q v, r = none ∧ e = .returned (.tuple #[v, .int .i64 2]) ∧ RPost 67 w B og bs q w' ∧ q ≤ 8 * bs.length)
/-- behind the named result's own cell. -/
theorem rpost_cell {T : Nat} {w : World} {B : Nat} {og : Option Nat} {bs : List Nat} {q : Nat} {wr : World} {o : Obj} (u : Value) (h : RPost T (w.alloc o) B og bs q wr) (hB : B < w.heap.size) (hg : ∀ g, og = some g → g < w.heap.size) :
    RPost T w B og bs q (wr.setCell ⟨w.heap.size, 0, none⟩ u) := by
  have t : Touch (fun k => k = w.heap.size) wr (wr.setCell ⟨w.heap.size, 0, none⟩ u) := (Touch.refl (fun k => k = w.heap.size) wr).setCell (Or.inl rfl) u
  refine ⟨h.1.keep t (fun e => by omega) (fun g e e2 => by have := hg g e; omega), ?_⟩
  have h2 : Touch (fun k => k = B) w wr := Touch.alloc_l h.2
  exact h2.setCell (Or.inr (Nat.le_refl _)) u
theorem rpost_box {T : Nat} {w : World} {B : Nat} {og : Option Nat} {bs : List Nat} {q : Nat} {wr : World} {u : Value} {ty : TypeId} (h : RPost T (w.alloc (.cells #[u] ty)) B og bs q wr) (hB : B < w.heap.size) :
    wr.cell? ⟨w.heap.size, 0, none⟩ = some u ∧ wr.frozen? ⟨w.heap.size, 0, none⟩ = false := by
  have hk : wr.heap[w.heap.size]? = some (.cells #[u] ty (0, 0)) := h.2.keep (heap_alloc_new w _) (fun e => by omega)
  simp [World.cell?, World.frozen?, hk]
theorem lens_panic {R : Ending → World → Prop} {wr : World} {p : Addr} {v : Value} {x : Int} {tmps : Array Value} (h4 : tmps[4]? = some v) (h5 : tmps[5]? = some (.pointer (some p))) (hc : wr.cell? p = some (.int .i64 x)) (hz : wr.frozen? p = false)
    (hR : R (.returned (.tuple #[v, .int .i64 2])) (wr.setCell p (.int .i64 2))) : bodyPostD Try.prog Try.f58 R (Exit.panic [formP]) { tmps := tmps, defers := [{ target := .fn (.func 67) #[.pointer (some p)], args := #[] }] } wr := by
  refine leaves_cons (f := 67) (args := #[.pointer (some p)]) (by simp) (by simp [go_sem]) ?_
  refine (tab_lengths_catch p _ x hc hz).mono ?_
  rintro e u' w'' ⟨rfl, rfl, rfl⟩
  have hc2 : (wr.setCell p (.int .i64 2)).cell? p = some (.int .i64 2) := World.cell?_setCell_same _ _ _ hc
  simp [Leaves, settle, results, Try.results58, go_sem, h4, h5]
  rw [hc2]
  exact ⟨_, rfl, hR⟩
theorem lens_ret {R : Ending → World → Prop} {wr : World} {p : Addr} {v : Value} {tmps : Array Value} (h4 : tmps[4]? = some v) (h5 : tmps[5]? = some (.pointer (some p))) (hc : wr.cell? p = some (.int .i64 0))
    (hR : R (.returned (.tuple #[v, .int .i64 0])) wr) : bodyPostD Try.prog Try.f58 R Exit.ret { tmps := tmps, defers := [{ target := .fn (.func 67) #[.pointer (some p)], args := #[] }] } wr := by
  refine leaves_cons (f := 67) (args := #[.pointer (some p)]) (by simp) (by simp [go_sem]) ?_
  refine (tab_lengths_idle p _).mono ?_
  rintro e u' w'' ⟨rfl, rfl, rfl⟩
  simp [Leaves, settle, results, Try.results58, go_sem, h4, h5]
  rw [hc]
  exact ⟨_, rfl, hR⟩
theorem gb_cell {w : World} {B : Nat} {og : Option Nat} {bs l : List Nat} {q : Nat} {v : Value} {wr : World} {o : Obj} (u : Value) (h : GB (w.alloc o) B og bs l q v wr) (hB : B < w.heap.size) (hg : ∀ g, og = some g → g < w.heap.size) :
    GB w B og bs l q v (wr.setCell ⟨w.heap.size, 0, none⟩ u) := by
  obtain ⟨oo, h1, h2, h3⟩ := h
  have t : Touch (fun k => k = w.heap.size) wr (wr.setCell ⟨w.heap.size, 0, none⟩ u) := (Touch.refl (fun k => k = w.heap.size) wr).setCell (Or.inl rfl) u
  have hs : ∀ g, oo = some g → w.heap.size + 1 ≤ g := fun g e => by have := h2 g e; simpa using this
  exact ⟨oo, h1.keep t (fun g e e2 => by have := hs g e; omega), fun g e => by have := hs g e; omega, rpost_cell u h3 hB hg⟩
theorem gb_get {w w1 w2 : World} {B : Nat} {og : Option Nat} {bs l : List Nat} {q q' : Nat} {v : Value} (h : GB w B og bs l q v w1) (hB : B < w.heap.size) (hp : RPost 67 w1 B og bs q' w2) : GB w B og bs l q' v w2 := by
  obtain ⟨oo, h1, h2, h3⟩ := h
  exact ⟨oo, h1.keep hp.2 (fun g e e2 => by have := h2 g e; omega), h2, h3.step hp⟩
theorem gb_drewN {w w1 : World} {B : Nat} {og : Option Nat} {bs l : List Nat} {q : Nat} {v : Value} (h : GB w B og bs l q v w1) (n : Nat) : GB w B og bs l q v (w1.drewN n) := by
  obtain ⟨oo, h1, h2, h3⟩ := h
  exact ⟨oo, h1.ext' ((Ext.refl w1).drewN n), h2, h3.drewN n⟩
theorem gb_snoc {w w1 w2 : World} {B : Nat} {og : Option Nat} {bs l : List Nat} {q : Nat} {v v' : Value} {y : Nat} {o : Obj} (h : GB w B og bs l q v w1) (hB : B < w.heap.size) (hg : ∀ g, og = some g → g < w.heap.size)
    (hown' : w2.ownsRow 0 5 1 v' (l.length + 1) (u8s l ++ [.int .u8 y])) (hgrow : (w1.alloc o).grownBy w2 v.ownBlock) (hat : v'.ownBlock = v.ownBlock ∨ v'.ownBlock = some (w1.heap.size + 1)) : GB w B og bs (l ++ [y]) q v' w2 := by
  obtain ⟨oo, h1, h2, h3⟩ := h
  have hr : ∀ k, v.ownBlock = some k → w.heap.size ≤ k := fun k e => h2 k (by rw [← h1.2]; exact e)
  have t : Touch (fun k => w.heap.size ≤ k) w1 w2 := (((Ext.refl w1).alloc _).mono (fun _ _ f => f.elim)).grown hgrow (fun k e => Or.inl (hr k e))
  refine ⟨v'.ownBlock, ⟨by rw [u8s_append, List.length_append]; exact hown', rfl⟩, fun g e => ?_, h3.1.keep t (fun e => by omega) (fun g e e2 => by have := hg g e; omega), ?_⟩
  · rcases hat with hat | hat
    · exact hr g (by rw [← hat]; exact e)
    · rw [hat] at e; cases e; have := h3.2.size; omega
  · exact Touch.grown (h3.2.alloc _) hgrow (fun k e => Or.inr (hr k e))
def lenOf : Value → Nat
  | .slice _ n _ => n
  | _ => 0
theorem lg_none {f : Nat → Bool} {N n k q : Nat} {l : List Nat} {T : Option (List Nat × Nat)} (h : T = (lenGet f N (n - l.length) k q).map fun y => (l ++ y.1, y.2)) (hn : l.length < n) (h1 : oneLen f N k q = none) : T = none := by
  obtain ⟨j, hj⟩ : ∃ j, n - l.length = j + 1 := ⟨n - l.length - 1, by omega⟩
  rw [h, hj, lenGet, h1]; rfl
theorem lg_some {f : Nat → Bool} {N n k q v r : Nat} {l : List Nat} {T : Option (List Nat × Nat)} (h : T = (lenGet f N (n - l.length) k q).map fun y => (l ++ y.1, y.2)) (hn : l.length < n) (h1 : oneLen f N k q = some (v, r)) :
    T = (lenGet f N (n - (l ++ [v]).length) v r).map fun y => ((l ++ [v]) ++ y.1, y.2) := by
  obtain ⟨j, hj⟩ : ∃ j, n - l.length = j + 1 := ⟨n - l.length - 1, by omega⟩
  have hj2 : n - (l ++ [v]).length = j := by simp; omega
  rw [h, hj, hj2, lenGet, h1]
  simp only [Option.bind_some]
  cases lenGet f N j v r <;> simp
theorem lg_end {f : Nat → Bool} {N n k q : Nat} {l : List Nat} {T : Option (List Nat × Nat)} (h : T = (lenGet f N (n - l.length) k q).map fun y => (l ++ y.1, y.2)) (hn : l.length = n) : T = some (l, q) := by
  rw [h, hn, Nat.sub_self, lenGet]; simp
set_option maxHeartbeats 4000000 in
set_option maxRecDepth 100000 in
theorem tab_lengths (B : Nat) (og : Option Nat) (bs : List Nat) (p n : Nat) (w : World) (hr : IsR 67 w B og bs p) (hl : bs.length ≤ 2 ^ 20) (hb : ∀ b ∈ bs, b < 256) (hp : p ≤ 8 * bs.length) (hn : n ≤ 2 ^ 20) :
    Calls Try.prog 58 #[.pointer (some ⟨B, 0, none⟩), .int .i64 n] w (LG w B og bs (gLens (rbit true bs) (8 * bs.length) p n)) := by
  obtain ⟨i0, hi, hz0, hz1, hz2⟩ := info_parts info_u8
  have hmf : ∀ (fn : Fn) (first cap : Array Value) (w : World), (Instr.makeFunc fn first cap).run Try.prog w = .ok (.func fn first cap) w := fun _ _ _ _ => rfl
  have HB := Lib.hid hr.lt
  have HG := Lib.hid hr.glt
  have HR1 := Lib.hid (hr.ext ((Ext.refl w).alloc (.cells #[.int .i64 0] 23)))
  have HBS := Lib.hid hb
  obtain ⟨f, hf⟩ : ∃ f, f = rbit true bs := ⟨_, rfl⟩
  obtain ⟨G, hGd⟩ : ∃ G, G = gLens f (8 * bs.length) p n := ⟨_, rfl⟩
  rw [← hf, ← hGd]
  have HF := Lib.hid hf
  have HGD := Lib.hid hGd
  have HPAN := Lib.hid (show ∀ (q : Nat) (v : Value) (wr : World) (tmps : Array Value), G = none → q ≤ 8 * bs.length → RPost 67 (w.alloc (.cells #[.int .i64 0] 23)) B og bs q wr → tmps[4]? = some v → tmps[5]? = some (.pointer (some ⟨w.heap.size, 0, none⟩)) →
      bodyPostD Try.prog Try.f58 (LG w B og bs G) (Exit.panic [formP]) { tmps := tmps, defers := [{ target := .fn (.func 67) #[.pointer (some ⟨w.heap.size, 0, none⟩)], args := #[] }] } wr from
    fun q v wr tmps hnone hq hp2 h4 h5 => lens_panic h4 h5 (rpost_box hp2 hr.lt).1 (rpost_box hp2 hr.lt).2 (Or.inr ⟨q, v, hnone, rfl, rpost_cell _ hp2 hr.lt hr.glt, hq⟩))
  have HRET := Lib.hid (show ∀ (q : Nat) (l : List Nat) (v : Value) (wr : World) (tmps : Array Value), G = some (l, q) → GB (w.alloc (.cells #[.int .i64 0] 23)) B og bs l q v wr → tmps[4]? = some v → tmps[5]? = some (.pointer (some ⟨w.heap.size, 0, none⟩)) →
      bodyPostD Try.prog Try.f58 (LG w B og bs G) Exit.ret { tmps := tmps, defers := [{ target := .fn (.func 67) #[.pointer (some ⟨w.heap.size, 0, none⟩)], args := #[] }] } (wr.setCell ⟨w.heap.size, 0, none⟩ (.int .i64 0)) from
    fun q l v wr tmps hsome hg h4 h5 => lens_ret h4 h5 (World.cell?_setCell_same _ _ _ (rpost_box hg.choose_spec.2.2 hr.lt).1) (Or.inl ⟨l, q, v, hsome, rfl, gb_cell _ hg hr.lt hr.glt⟩))
  clear hr hb hf hGd
  go_enter_defers Try.func58, Try.ntmps58
  go_wp2_with fail
  by_cases h5 : 8 * bs.length < p + 5
  · have HN := Lib.hid (show G = none by rw [HGD.out, gLens, if_pos h5])
    refine (msb_get_far B og bs p 5 _ HR1.out (by omega) hp (by decide) h5).mono ?_
    rintro e w' ⟨rfl, q, rfl⟩
    go_wp2_with fail
    refine (tab_must_bad _ _ _ (by decide)).mono ?_
    rintro e w' ⟨rfl, rfl⟩
    go_wp2_with fail
    refine HPAN.out p (.slice none 0 0) _ _ HN.out hp ?_ ?_ ?_
    · exact (RPost.refl HR1.out).drewN q
    · rfl
    · rfl
  · obtain ⟨K, hK⟩ : ∃ K, K = numOf true (fbits f p 5) := ⟨_, rfl⟩
    have hK32 : K < 32 := by rw [hK]; exact numOf_lt5 _ 5 (length_fbits _ _ _)
    have hGL : G = lenGet f (8 * bs.length) n K (p + 5) := by rw [HGD.out, gLens, if_neg h5, hK]
    have hc := msb_get_ok B og bs p 5 _ HR1.out (by omega) HBS.out (by decide) (by omega)
    rw [show bitsAt true bs p 5 = fbits f p 5 by rw [HF.out]; rfl, ← hK] at hc
    refine hc.mono ?_
    have HGL := Lib.hid hGL
    clear hc hK hGL
    rintro e w1 ⟨rfl, hp1⟩
    have hgb : GB (w.alloc (.cells #[.int .i64 0] 23)) B og bs [] (p + 5) (.slice none 0 0) w1 := ⟨none, Owns.nil _ _ _, fun g e => (by cases e), hp1⟩
    have HGB := Lib.hid hgb
    clear hgb hp1
    go_wp2_with fail
    refine (tab_must_ok K _ (by omega)).mono ?_
    rintro e w2 ⟨rfl, rfl⟩
    go_wp2_with fail
    go_loopw [4, 6] (fun lv atv wr => ∃ (l : List Nat) (k q : Nat), atv = .int .i64 k ∧ k ≤ 40 ∧ l.length ≤ n ∧ q ≤ 8 * bs.length ∧ GB (w.alloc (.cells #[.int .i64 0] 23)) B og bs l q lv wr ∧
      Hid (G = (lenGet f (8 * bs.length) (n - l.length) k q).map fun y => (l ++ y.1, y.2))) (fun lv _ _ => n - lenOf lv)
    case atStart => exact ⟨[], K, p + 5, rfl, by omega, Nat.zero_le _, by omega, HGB.out, Lib.hid (by rw [HGL.out]; simp)⟩
    case round =>
      obtain ⟨l, k, q, rfl, hk, hln, hq, hgb, HEQ⟩ := hrel
      obtain ⟨ao, cap, rfl⟩ := hgb.choose_spec.1.shape
      have HGB := Lib.hid hgb
      clear hgb
      by_cases hlt : l.length < n
      · have hlti : (l.length : Int) < (n : Int) := by omega
        go_wp2_with fail
        go_loopw [6] (fun atv wr => ∃ (k2 q2 : Nat), atv = .int .i64 k2 ∧ k2 ≤ 40 ∧ q2 ≤ 8 * bs.length ∧ GB (w.alloc (.cells #[.int .i64 0] 23)) B og bs l q2 (.slice ao l.length cap) wr ∧ Hid (oneLen f (8 * bs.length) k q = oneLen f (8 * bs.length) k2 q2)) (fun _ wr => 8 * bs.length + 1 - (intOf ((wr.cell? ⟨B, 1, none⟩).getD undef)).toNat)
        case atStart => exact ⟨k, q, rfl, hk, hq, HGB.out, Lib.hid rfl⟩
        case round =>
          clear HGB
          obtain ⟨k2, q2, rfl, hk2, hq2, hgb2, HE⟩ := hrel
          have HGB := Lib.hid hgb2
          clear hgb2
          by_cases hr1 : k2 < 1
          · have hri : (k2 : Int) < 1 := by omega
            have HN := Lib.hid (show G = none from lg_none HEQ.out hlt (by rw [HE.out, oneLen, if_pos (Or.inl hr1)]))
            go_wp2_with fail
            refine HPAN.out q2 (.slice ao l.length cap) _ _ HN.out hq2 HGB.out.choose_spec.2.2 ?_ ?_
            · rfl
            · rfl
          · have hri : ¬ (k2 : Int) < 1 := by omega
            by_cases hr2 : 20 < k2
            · have hrj : (20 : Int) < (k2 : Int) := by omega
              have HN := Lib.hid (show G = none from lg_none HEQ.out hlt (by rw [HE.out, oneLen, if_pos (Or.inr (Or.inl hr2))]))
              go_wp2_with fail
              refine HPAN.out q2 (.slice ao l.length cap) _ _ HN.out hq2 HGB.out.choose_spec.2.2 ?_ ?_
              · rfl
              · rfl
            · have hrj : ¬ (20 : Int) < (k2 : Int) := by omega
              go_wp2_with fail
              by_cases hfar : 8 * bs.length < q2 + 1
              · have HN := Lib.hid (show G = none from lg_none HEQ.out hlt (by rw [HE.out, oneLen, if_pos (Or.inr (Or.inr (by omega)))]))
                refine (msb_get_far B og bs q2 1 _ HGB.out.choose_spec.2.2.1 (by omega) hq2 (by decide) hfar).mono ?_
                rintro e w' ⟨rfl, d, rfl⟩
                go_wp2_with fail
                refine (tab_must_bad _ _ _ (by decide)).mono ?_
                rintro e w' ⟨rfl, rfl⟩
                go_wp2_with fail
                refine HPAN.out q2 (.slice ao l.length cap) _ _ HN.out hq2 ?_ ?_ ?_
                · exact HGB.out.choose_spec.2.2.drewN d
                · rfl
                · rfl
              · cases hb1 : f q2 with
                | false =>
                  have HS := Lib.hid (lg_some HEQ.out hlt (v := k2) (r := q2 + 1) (by rw [HE.out, oneLen, if_neg (by omega), if_pos hb1]))
                  refine (msb_get_one false B og bs q2 _ HGB.out.choose_spec.2.2.1 (by omega) HBS.out (by omega) (by rw [← HF.out]; exact hb1)).mono ?_
                  rintro e w3 ⟨rfl, hp3⟩
                  have HGB3 := Lib.hid (gb_get HGB.out (by rw [World.size_alloc]; have := HB.out; omega) hp3)
                  clear hp3 hb1
                  go_wp2_with fail
                  refine (tab_must_ok 0 _ (by decide)).mono ?_
                  rintro e w4 ⟨rfl, rfl⟩
                  have k8 : IntKind.u8.wrap (k2 : Int) = (k2 : Int) := IntWalk.u8_in _ (by omega)
                  go_wp2_with (at_builtin; go_must (refine wpList_append_own_at _ rfl (.tmp 17) (.tmp 20) 22 rfl 0 5 i0 (.int .u8 0) 1 1 Try.underlying22 hi hz0 hz1 hz2 rfl (by decide) _ l.length (u8s l) rfl (HGB3.out.choose_spec.1.1.alloc _) ⟨w3.heap.size, 0, none⟩ 1 1 [.int .u8 k2] rfl rfl (news _ _ _ _) (by simp [Value.oneCell']) (by unfold maxLen; omega) (by omega) (Nat.zero_le _) ?_))
                  intro v' w5 hown' hgrow _ hat
                  have hB1 : B < (w.alloc (.cells #[.int .i64 0] 23)).heap.size := by rw [World.size_alloc]; have := HB.out; omega
                  have hG1 : ∀ g, og = some g → g < (w.alloc (.cells #[.int .i64 0] 23)).heap.size := fun g e => by rw [World.size_alloc]; have := HG.out g e; omega
                  have hlv : lenOf v' = l.length + 1 := by obtain ⟨a', c', e⟩ := (show Owns w5 5 1 v' v'.ownBlock (l.length + 1) _ from ⟨hown', rfl⟩).shape; rw [e]; rfl
                  have HLV := Lib.hid hlv
                  have HGB5 := Lib.hid (gb_snoc HGB3.out hB1 hG1 hown' hgrow hat)
                  clear hown' hgrow hat hB1 hG1 hlv k8
                  go_wp2_with fail
                  go_roundw
                  case rel => exact ⟨l ++ [k2], k2, q2 + 1, rfl, by omega, by simp; omega, by omega, HGB5.out, HS⟩
                  case measure => rw [HLV.out]; simp [lenOf]; omega
                | true =>
                  refine (msb_get_one true B og bs q2 _ HGB.out.choose_spec.2.2.1 (by omega) HBS.out (by omega) (by rw [← HF.out]; exact hb1)).mono ?_
                  have HB1 := Lib.hid hb1
                  rintro e w3 ⟨rfl, hp3⟩
                  have HGB3 := Lib.hid (gb_get HGB.out (by rw [World.size_alloc]; have := HB.out; omega) hp3)
                  clear hp3 hb1
                  go_wp2_with fail
                  refine (tab_must_ok 1 _ (by decide)).mono ?_
                  rintro e w4 ⟨rfl, rfl⟩
                  go_wp2_with fail
                  by_cases hfar2 : 8 * bs.length < q2 + 1 + 1
                  · have HN := Lib.hid (show G = none from lg_none HEQ.out hlt (by rw [HE.out, oneLen, if_neg (by omega), if_neg (by rw [HB1.out]; simp), if_pos (by omega)]))
                    refine (msb_get_far B og bs (q2 + 1) 1 _ HGB3.out.choose_spec.2.2.1 (by omega) (by omega) (by decide) hfar2).mono ?_
                    rintro e w' ⟨rfl, d, rfl⟩
                    go_wp2_with fail
                    refine (tab_must_bad _ _ _ (by decide)).mono ?_
                    rintro e w' ⟨rfl, rfl⟩
                    go_wp2_with fail
                    refine HPAN.out (q2 + 1) (.slice ao l.length cap) _ _ HN.out (by omega) ?_ ?_ ?_
                    · exact HGB3.out.choose_spec.2.2.drewN d
                    · rfl
                    · rfl
                  · have hcur : wr.cell? ⟨B, 1, none⟩ = some (.int .i64 q2) := by
                      obtain ⟨_, c1, _⟩ := HGB.out.choose_spec.2.2.1
                      simp [World.cell?, c1]
                    have HCUR := Lib.hid hcur
                    clear hcur
                    cases hb2 : f (q2 + 1) with
                    | false =>
                      have HE2 := Lib.hid (show oneLen f (8 * bs.length) k q = oneLen f (8 * bs.length) (k2 + 1) (q2 + 2) by rw [HE.out]; conv => lhs; rw [oneLen, if_neg (by omega), if_neg (by rw [HB1.out]; simp), if_neg (by omega), hb2, if_neg (by simp)])
                      refine (msb_get_one false B og bs (q2 + 1) _ HGB3.out.choose_spec.2.2.1 (by omega) HBS.out (by omega) (by rw [← HF.out]; exact hb2)).mono ?_
                      rintro e w5 ⟨rfl, hp5⟩
                      have HGB5 := Lib.hid (gb_get HGB3.out (by rw [World.size_alloc]; have := HB.out; omega) hp5)
                      clear hp5 hb2
                      go_wp2_with fail
                      refine (tab_must_ok 0 _ (by decide)).mono ?_
                      rintro e w6 ⟨rfl, rfl⟩
                      go_wp2_with fail
                      go_roundw
                      case rel => exact ⟨k2 + 1, q2 + 2, by go_num, by omega, by omega, HGB5.out, HE2⟩
                      case measure =>
                        obtain ⟨_, c1, _⟩ := HGB5.out.choose_spec.2.2.1
                        rw [HCUR.out, show w5.cell? ⟨B, 1, none⟩ = some (.int .i64 ((q2 + 1 + 1 : Nat) : Int)) by simp [World.cell?, c1]]
                        simp [intOf]; omega
                    | true =>
                      have HE2 := Lib.hid (show oneLen f (8 * bs.length) k q = oneLen f (8 * bs.length) (k2 - 1) (q2 + 2) by rw [HE.out]; conv => lhs; rw [oneLen, if_neg (by omega), if_neg (by rw [HB1.out]; simp), if_neg (by omega), hb2, if_pos rfl])
                      refine (msb_get_one true B og bs (q2 + 1) _ HGB3.out.choose_spec.2.2.1 (by omega) HBS.out (by omega) (by rw [← HF.out]; exact hb2)).mono ?_
                      rintro e w5 ⟨rfl, hp5⟩
                      have HGB5 := Lib.hid (gb_get HGB3.out (by rw [World.size_alloc]; have := HB.out; omega) hp5)
                      clear hp5 hb2
                      go_wp2_with fail
                      refine (tab_must_ok 1 _ (by decide)).mono ?_
                      rintro e w6 ⟨rfl, rfl⟩
                      go_wp2_with fail
                      go_roundw
                      case rel => exact ⟨k2 - 1, q2 + 2, by go_num, by omega, by omega, HGB5.out, HE2⟩
                      case measure =>
                        obtain ⟨_, c1, _⟩ := HGB5.out.choose_spec.2.2.1
                        rw [HCUR.out, show w5.cell? ⟨B, 1, none⟩ = some (.int .i64 ((q2 + 1 + 1 : Nat) : Int)) by simp [World.cell?, c1]]
                        simp [intOf]; omega
      · have hlti : ¬ (l.length : Int) < (n : Int) := by omega
        have HS := Lib.hid (show G = some (l, q) from lg_end HEQ.out (by omega))
        have hbx := (rpost_box HGB.out.choose_spec.2.2 HB.out).1
        have hfz := (rpost_box HGB.out.choose_spec.2.2 HB.out).2
        go_wp2_with fail
        refine HRET.out q l (.slice ao l.length cap) _ _ HS.out HGB.out ?_ ?_
        · rfl
        · rfl
end Go.Proofs.Yteabjmebnbaonaa
