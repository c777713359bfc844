/- header.Get: its walk. -/
import Derived.BigQuiet
import Derived.Deep.RegionHeld3
import Derived.Deep.LoopGhost
import Derived.Test.YtbbcphloafmldaaGreatBnd11
import Derived.Test.YtbbcphloafmldaaGreatHdrMayZ
import Derived.Test.YtbbcphloafmldaaGreatInfSymZ
import Derived.Test.YtbbcphloafmldaaGreatRepUnpackZ
namespace Go.Proofs.YtbbcphloafmldaaGreat
open Go.RowKit
set_option linter.unusedVariables false

def HdG (w : World) (R : Nat) (og : Option Nat) (bs : List Nat) (r : Option (List Nat × List Nat × Nat)) (e : Ending) (w' : World) : Prop :=
  (∃ a b q v1 v2, r = some (a, b, q) ∧ e = .returned (.tuple #[v1, v2, .int .i64 0]) ∧ Vw w' v1 a ∧ Vw w' v2 b ∧ RPost 107 w R og bs q w') ∨
  (r = none ∧ e = .returned (.tuple #[.slice none 0 0, .slice none 0 0, .int .i64 2]) ∧ Touch (fun k => k = R) w w')
def RdG (W0 : World) (R : Nat) (og : Option Nat) (bs : List Nat) (p n : Nat) (e : Ending) (w' : World) : Prop :=
  (∃ x q, rd (ofBits false bs) p n = some (x, q) ∧ e = .returned (.tuple #[.int .u32 x, .int .i64 0]) ∧ RPost 107 W0 R og bs q w') ∨
  (rd (ofBits false bs) p n = none ∧ e = .returned (.tuple #[.int .u32 0, .int .i64 2]) ∧ Touch (fun k => k = R) W0 w')
theorem rd_get {W0 wk : World} {R : Nat} {og : Option Nat} {bs : List Nat} {p : Nat} (h : RPost 107 W0 R og bs p wk) (hB : bs.length ≤ 2 ^ 30 ∧ ∀ b ∈ bs, b < 256) (n : Nat) (hp : p ≤ 8 * bs.length) (hn : n ≤ 32) :
    Calls Tryz.prog 89 #[.pointer (some ⟨R, 0, none⟩), .int .i64 n] wk (RdG W0 R og bs p n) := by
  have hlen : (ofBits false bs).length = 8 * bs.length := length_ofBits _ _
  by_cases hf : p + n ≤ 8 * bs.length
  · refine (lsb_get_ok R og bs p n wk h.1 (by omega) hB.2 hn hf).mono ?_
    rintro e w' ⟨rfl, hr⟩
    exact Or.inl ⟨_, _, by rw [rd_some (by rw [hlen]; exact hf), xAt_bits false bs p n hf], rfl, h.step hr⟩
  · refine (lsb_get_far R og bs p n wk h.1 (by omega) hp hn (by omega)).mono ?_
    rintro e w' ⟨rfl, hw⟩
    exact Or.inr ⟨rd_none (by rw [hlen]; omega), rfl, h.2.trans (hw.touch (fun k => k = R)) (fun _ _ h => h)⟩
theorem RPost.setNew {T : Nat} {W0 wr : World} {R : Nat} {og : Option Nat} {bs : List Nat} {q g : Nat} (h : RPost T W0 R og bs q wr) (hR : R < W0.heap.size) (ho : ∀ k, og = some k → k < W0.heap.size) (hg : W0.heap.size ≤ g) (i : Nat) (u : Value) : RPost T W0 R og bs q (wr.setCell ⟨g, i, none⟩ u) := by
  have t : Touch (fun k => k = g) wr (wr.setCell ⟨g, i, none⟩ u) := (Touch.refl (fun k => k = g) wr).setCell (Or.inl rfl) u
  exact ⟨h.1.keep t (fun e => by omega) (fun k e e2 => by have := ho k e; omega), h.2.setCell (Or.inr hg) u⟩
theorem RPost.extR {T : Nat} {W0 wr w' : World} {R : Nat} {og : Option Nat} {bs : List Nat} {q : Nat} (h : RPost T W0 R og bs q wr) (hx : Ext wr w') : RPost T W0 R og bs q w' := ⟨h.1.keep hx (fun f => f) (fun _ _ f => f), h.2.trans (hx.mono (fun _ _ f => f.elim)) (fun _ _ h => h)⟩
/-- the results' boxes lie as they lay. -/
theorem HBx.keepR {W0 wr : World} {p q s R : Nat} {v1 v2 : Value} {x : Int} (h : HBx W0 p q s v1 v2 x) (ht : Touch (fun k => k = R) W0 wr) (h1 : p ≠ R) (h2 : q ≠ R) (h3 : s ≠ R) : HBx wr p q s v1 v2 x := ⟨ht.keep h.hp h1, ht.keep h.hq h2, ht.keep h.hs h3⟩
theorem HBx.done {w : World} {p q s : Nat} {v1 v2 : Value} {x : Int} (h : HBx w p q s v1 v2 x) (d1 : q ≠ p) (d3 : s ≠ p) (d5 : s ≠ q) (u1 u2 : Value) (y : Int) : HBx (((w.setCell ⟨p, 0, none⟩ u1).setCell ⟨q, 0, none⟩ u2).setCell ⟨s, 0, none⟩ (.int .i64 y)) p q s u1 u2 y ∧ Touch (fun k => k = p ∨ k = q ∨ k = s) w (((w.setCell ⟨p, 0, none⟩ u1).setCell ⟨q, 0, none⟩ u2).setCell ⟨s, 0, none⟩ (.int .i64 y)) := by
  have t1 : Touch (fun k => k = p) w (w.setCell ⟨p, 0, none⟩ u1) := (Touch.refl (fun k => k = p) w).setCell (Or.inl rfl) _
  have a1 := heap_setCell_at (a := ⟨p, 0, none⟩) (u := u1) h.hp rfl
  have t2 : Touch (fun k => k = q) (w.setCell ⟨p, 0, none⟩ u1) ((w.setCell ⟨p, 0, none⟩ u1).setCell ⟨q, 0, none⟩ u2) := (Touch.refl (fun k => k = q) _).setCell (Or.inl rfl) _
  have a2 := heap_setCell_at (a := ⟨q, 0, none⟩) (u := u2) (t1.keep h.hq d1) rfl
  have t3 : Touch (fun k => k = s) ((w.setCell ⟨p, 0, none⟩ u1).setCell ⟨q, 0, none⟩ u2) (((w.setCell ⟨p, 0, none⟩ u1).setCell ⟨q, 0, none⟩ u2).setCell ⟨s, 0, none⟩ (.int .i64 y)) := (Touch.refl (fun k => k = s) _).setCell (Or.inl rfl) _
  have a3 := heap_setCell_at (a := ⟨s, 0, none⟩) (u := .int .i64 y) (t2.keep (t1.keep h.hs d3) d5) rfl
  refine ⟨⟨t3.keep (t2.keep a1 (fun e => d1 e.symm)) (fun e => d3 e.symm), t3.keep a2 (fun e => d5 e.symm), a3⟩, ?_⟩
  exact ((t1.mono (fun k _ e => Or.inl e)).trans t2 (fun k _ e => Or.inr (Or.inl e))).trans t3 (fun k _ e => Or.inr (Or.inr e))
theorem HBx.cells {w : World} {p q s : Nat} {v1 v2 : Value} {x : Int} (h : HBx w p q s v1 v2 x) : w.cell? ⟨p, 0, none⟩ = some v1 ∧ w.cell? ⟨q, 0, none⟩ = some v2 ∧ w.cell? ⟨s, 0, none⟩ = some (.int .i64 x) ∧ w.frozen? ⟨p, 0, none⟩ = false ∧ w.frozen? ⟨q, 0, none⟩ = false ∧ w.frozen? ⟨s, 0, none⟩ = false :=
  ⟨by simp [World.cell?, h.hp], by simp [World.cell?, h.hq], by simp [World.cell?, h.hs], Lib.frozen_of_heap h.hp _, Lib.frozen_of_heap h.hq _, Lib.frozen_of_heap h.hs _⟩
def hdrW (w : World) : World := ((w.alloc (.cells #[.slice none 0 0] 22)).alloc (.cells #[.slice none 0 0] 22)).alloc (.cells #[.int .i64 0] 25)
theorem hdrW_facts (w : World) : Ext w (hdrW w) ∧ HBx (hdrW w) w.heap.size (w.heap.size + 1) (w.heap.size + 2) (.slice none 0 0) (.slice none 0 0) 0 ∧ (hdrW w).heap.size = w.heap.size + 3 := by
  refine ⟨(((Ext.refl w).alloc _).alloc _).alloc _, ⟨?_, ?_, ?_⟩, by simp [hdrW]⟩
  · have h := World.alloc_heap_new w (.cells #[.slice none 0 0] 22)
    exact (Below.heap_alloc _ _ _ (by simp; omega)).trans ((Below.heap_alloc _ _ _ (by simp)).trans h)
  · have h := World.alloc_heap_new (w.alloc (.cells #[.slice none 0 0] 22)) (.cells #[.slice none 0 0] 22)
    rw [World.size_alloc] at h
    exact (Below.heap_alloc _ _ _ (by simp)).trans h
  · have h := World.alloc_heap_new ((w.alloc (.cells #[.slice none 0 0] 22)).alloc (.cells #[.slice none 0 0] 22)) (.cells #[.int .i64 0] 25)
    rw [World.size_alloc, World.size_alloc] at h
    exact h
theorem viewL_viewI {w : World} {v : Value} {bs : List Nat} (h : ViewL w v (u8s bs)) : View w v bs := by
  obtain ⟨ao, cap, rfl, hcap, hnil, hc⟩ := h
  rw [length_u8s] at *
  cases ao with
  | none =>
    have := hnil rfl
    subst this
    obtain rfl : bs = [] := List.eq_nil_of_length_eq_zero (by omega)
    exact Or.inl ⟨rfl, rfl⟩
  | some ad =>
    refine Or.inr ⟨ad, cap, rfl, fun j u hu => ?_⟩
    have hj : j < bs.length := by have := (List.getElem?_eq_some_iff.1 hu).1; rwa [length_u8s] at this
    obtain ⟨b, o, e, hcx⟩ := hc (by omega)
    cases e
    have e2 : (⟨b, o, none⟩ : Addr).add j = ⟨b, o + j, none⟩ := by unfold Addr.add; split <;> simp_all
    rw [e2]; exact hcx j u hu
theorem RPost.grow {T : Nat} {W1 wr w' : World} {R : Nat} {og : Option Nat} {bs : List Nat} {q : Nat} {row : Option Nat} (h : RPost T W1 R og bs q wr) (hg : wr.grownBy w' row) (hr : ∀ k, row = some k → W1.heap.size ≤ k) (hR : R < W1.heap.size) (ho : ∀ k, og = some k → k < W1.heap.size) : RPost T W1 R og bs q w' := by
  have t : Touch (fun k => row = some k) wr w' := (Touch.refl _ wr).grown hg (fun k e => Or.inl e)
  exact ⟨h.1.keep t (fun e => by have := hr _ e; omega) (fun k e e2 => by have := ho k e; have := hr k e2; omega), h.2.grown hg (fun k e => Or.inr (hr k e))⟩
theorem unp_lt : ∀ (l : List (Nat × Nat)) (acc m : List Nat), (∀ x ∈ acc, x < 256) → unp l acc = some m → ∀ x ∈ m, x < 256
  | [], acc, m, h, e => by simp [unp] at e; subst e; exact h
  | s :: r, acc, m, h, e => by
    unfold unp at e
    split at e
    · split at e
      · cases e
      · rename_i k hk
        refine unp_lt r _ m (fun x hx => ?_) e
        rcases List.mem_append.1 hx with hx | hx
        · exact h x hx
        · rw [List.eq_of_mem_replicate hx]
          exact h k (List.mem_of_getLast? hk)
    · refine unp_lt r _ m (fun x hx => ?_) e
      rcases List.mem_append.1 hx with hx | hx
      · exact h x hx
      · rw [List.eq_of_mem_replicate hx]; split <;> omega
theorem unpR_ok {l : List (Nat × Nat)} {n : Int} (h : (unpR l n).2 = 0) : ((unpR l n).1.length : Int) = n ∧ ∀ x ∈ (unpR l n).1, x < 256 := by
  unfold unpR at h ⊢
  split
  · rename_i h1
    rw [if_pos h1] at h
    cases hu : unp l [] with
    | none => rw [hu] at h; cases h
    | some m =>
      rw [hu] at h
      simp only at h ⊢
      split
      · rename_i h2
        exact ⟨h2, unp_lt l [] m (fun x hx => by cases hx) hu⟩
      · rename_i h2; rw [if_neg h2] at h; cases h
  · rename_i h1; rw [if_neg h1] at h; cases h
theorem viewL_part {w : World} {g n cap : Nat} {M : List Nat} (h : ViewL w (.slice (some ⟨g, 0, none⟩) n cap) (u8s M)) (hn : n = M.length) (k m c : Nat) (hk : k + m ≤ n) (hc : m ≤ c) (L : List Nat) (hL : L = (M.drop k).take m) : ViewL w (.slice (some ⟨g, k, none⟩) m c) (u8s L) := by
  have hl : L.length = m := by rw [hL, List.length_take, List.length_drop]; omega
  refine ⟨some ⟨g, k, none⟩, c, by rw [length_u8s, hl], by rw [length_u8s, hl]; exact hc, (fun h => by cases h), fun h0 => ⟨g, k, rfl, fun j u hu => ?_⟩⟩
  rw [length_u8s, hl] at h0
  obtain ⟨b, o, e, hcell⟩ := rep_cells h (by rw [length_u8s]; omega)
  cases e
  have hj : j < m := by have := (List.getElem?_eq_some_iff.1 hu).1; rw [length_u8s, hl] at this; exact this
  have := hcell (k + j) u (by
    rw [← hu, hL]
    simp [u8s, hj, List.getElem?_drop])
  rw [Nat.zero_add] at this
  exact this
theorem hdr_may (v1 v2 : Value) (a b : List Nat) (w : World) (h1 : ViewL w v1 (u8s a)) (h2 : ViewL w v2 (u8s b)) (ha : ∀ x ∈ a, x < 256) (hb : ∀ x ∈ b, x < 256) (hal : a.length ≤ 2 ^ 30) (hbl : b.length ≤ 2 ^ 30) :
    Calls Tryz.prog 117 #[v1, v2] w fun e w' => e = .returned (.bool (mayH a b)) ∧ w' = w := by
  cases h : mayH1 a b with
  | false =>
    refine (hdr_may_no v1 v2 a b w h1 h2 ha hb hal hbl h).mono ?_
    rintro e w' ⟨rfl, rfl⟩
    exact ⟨by rw [mayH_parts, h]; rfl, rfl⟩
  | true =>
    refine (hdr_may_yes v1 v2 a b w h1 h2 ha hb h).mono ?_
    rintro e w' ⟨rfl, rfl⟩
    exact ⟨rfl, rfl⟩
/-- the loop over the lengths of signs' words. -/
def HL1 (W0 : World) (R : Nat) (og : Option Nat) (bs : List Nat) (G O n p3 : Nat) (vi : Value) (wr : World) : Prop :=
  ∃ (i : Nat) (acc : List Nat) (q : Nat), vi = .int .i64 i ∧ i ≤ n ∧ wlF (ofBits false bs) n 0 (List.replicate 19 0) p3 = wlF (ofBits false bs) (n - i) i acc q ∧ acc.length = 19 ∧ (∀ x ∈ acc, x < 8) ∧ q ≤ 8 * bs.length ∧
    RPost 107 W0 R og bs q wr ∧ Owns wr 5 1 (.slice (some ⟨G, 0, none⟩) 19 19) (some G) 19 (u8s acc) ∧ wr.heap[O]? = some (.cells (u8s ordH).toArray 5 (0, 0))
/-- the loop over the signs. -/
def HL2 (W1 : World) (R : Nat) (og : Option Nat) (bs : List Nat) (L : List Nat) (n p4 : Nat) (g : Nat) (lv sv : Value) (wr : World) : Prop :=
  ∃ (said : Nat) (l : List (Nat × Nat)) (q : Nat) (oo : Option Nat), sv = .int .i64 said ∧ said ≤ 600 ∧ g = 8 * bs.length - q ∧ q ≤ 8 * bs.length ∧ l.length ≤ said ∧ (∀ s ∈ l, s.1 < 19 ∧ s.2 < 128) ∧ sgF L (ofBits false bs) n 0 [] p4 = sgF L (ofBits false bs) n said l q ∧
    RPost 107 W1 R og bs q wr ∧ Owns wr 141 2 lv oo l.length (scells l) ∧ ∀ g, oo = some g → W1.heap.size ≤ g
theorem sgF_end {L : List Nat} {bits : List Bool} {n said : Nat} {l : List (Nat × Nat)} {p : Nat} (h : n ≤ said) : sgF L bits n said l p = some (p, l) := by rw [sgF, if_pos h]
theorem sgF_b1 {L : List Nat} {bits : List Bool} {n said : Nat} {l : List (Nat × Nat)} {p : Nat} (h : said < n) (h1 : decS L bits p = none) : sgF L bits n said l p = none := by rw [sgF, if_neg (by omega), h1]
theorem sgF_b2 {L : List Nat} {bits : List Bool} {n said : Nat} {l : List (Nat × Nat)} {p c q : Nat} (h : said < n) (h1 : decS L bits p = some (c, q)) (h2 : rd bits q (exbH c) = none) : sgF L bits n said l p = none := by
  rw [sgF, if_neg (by omega), h1]; simp only; rw [h2]
theorem sgF_go {L : List Nat} {bits : List Bool} {n said : Nat} {l : List (Nat × Nat)} {p c q x q2 : Nat} (h : said < n) (h1 : decS L bits p = some (c, q)) (h2 : rd bits q (exbH c) = some (x, q2)) : sgF L bits n said l p = sgF L bits n (said + saidN c x) (l ++ [(c, x)]) q2 := by
  have k1 := decS_lt h1
  have k2 := rd_fit h2
  rw [sgF, if_neg (by omega), h1]; simp only; rw [h2]; simp only
  rw [if_pos (by omega)]
theorem wlF_bad {bits : List Bool} {n i : Nat} {acc : List Nat} {p : Nat} (hn : 0 < n) (h : rd bits p 3 = none) : wlF bits n i acc p = none := by
  obtain ⟨k, rfl⟩ : ∃ k, n = k + 1 := ⟨n - 1, by omega⟩
  rw [wlF, h]
theorem wlF_go {bits : List Bool} {n i : Nat} {acc : List Nat} {p x q : Nat} (hn : 0 < n) (h : rd bits p 3 = some (x, q)) : wlF bits n i acc p = wlF bits (n - 1) (i + 1) (acc.set (ordH.getD i 0) x) q := by
  obtain ⟨k, rfl⟩ : ∃ k, n = k + 1 := ⟨n - 1, by omega⟩
  rw [wlF, h]; rfl
theorem ordH_lt (i : Nat) : ordH.getD i 0 < 19 := by
  by_cases h : i < 19
  · have key : ∀ i, i < 19 → ordH.getD i 0 < 19 := by decide
    exact key i h
  · rw [List.getD, List.getElem?_eq_none (by show 19 ≤ i; omega)]; decide
set_option maxRecDepth 100000 in
set_option maxHeartbeats 8000000 in
theorem hdr_get (R : Nat) (og : Option Nat) (bs : List Nat) (p : Nat) (w : World) (hr : IsR 107 w R og bs p) (hl : bs.length ≤ 2 ^ 30) (hb : ∀ b ∈ bs, b < 256) (hp : p ≤ 8 * bs.length) :
    Calls Tryz.prog 86 #[.pointer (some ⟨R, 0, none⟩)] w (HdG w R og bs (hdrF (ofBits false bs) p)) := by
  obtain ⟨r, hrr⟩ : ∃ r, r = hdrF (ofBits false bs) p := ⟨_, rfl⟩
  rw [← hrr]
  have hmf : ∀ (fn : Fn) (first cap : Array Value) (w : World), (Instr.makeFunc fn first cap).run Tryz.prog w = .ok (.func fn first cap) w := fun _ _ _ _ => rfl
  obtain ⟨hxW, hbxW, hsW⟩ := hdrW_facts w
  have HB := Lib.hid (show bs.length ≤ 2 ^ 30 ∧ (∀ b ∈ bs, b < 256) from ⟨hl, hb⟩)
  have HR := Lib.hid (show R < w.heap.size ∧ (∀ g, og = some g → g < w.heap.size) ∧ IsR 107 (hdrW w) R og bs p ∧ p ≤ 8 * bs.length from ⟨hr.lt, hr.glt, hr.ext hxW, hp⟩)
  have HW := Lib.hid (And.intro hxW (And.intro hbxW hsW))
  have HRR := Lib.hid hrr
  have HPAN := Lib.hid (show ∀ (wr : World) (tmps : Array Value), r = none → Touch (fun k => k = R) (hdrW w) wr → tmps[2]? = some (.pointer (some ⟨w.heap.size, 0, none⟩)) → tmps[3]? = some (.pointer (some ⟨w.heap.size + 1, 0, none⟩)) → tmps[4]? = some (.pointer (some ⟨w.heap.size + 2, 0, none⟩)) →
      bodyPostD Tryz.prog Tryz.f86 (HdG w R og bs r) (Exit.panic [formF]) { tmps := tmps, defers := [{ target := .fn (.func 109) #[.pointer (some ⟨w.heap.size, 0, none⟩), .pointer (some ⟨w.heap.size + 1, 0, none⟩), .pointer (some ⟨w.heap.size + 2, 0, none⟩)], args := #[] }] } wr from
    fun wr tmps hn ht t2 t3 t4 => hdr_panic t2 t3 t4 (hbxW.keepR ht (by have := hr.lt; omega) (by have := hr.lt; omega) (by have := hr.lt; omega)) (by omega) (by omega) (by omega) (fun w' ht2 => Or.inr ⟨hn, rfl, (hxW.trans' ht).trans ht2 (fun k hk h => by omega)⟩))
  clear hrr hr hl hb hp hxW hbxW hsW
  go_enter_defers Tryz.func86, Tryz.ntmps86
  go_wp2_with fail
  have hfold : ((w.alloc (.cells #[.slice none 0 0] 22)).alloc (.cells #[.slice none 0 0] 22)).alloc (.cells #[.int .i64 0] 25) = hdrW w := rfl
  rw [hfold]
  clear hfold
  refine (rd_get (RPost.refl HR.out.2.2.1) HB.out 5 HR.out.2.2.2 (by decide)).mono ?_
  rintro e w1 (⟨x, q1, hrd, rfl, hi⟩ | ⟨hrd, rfl, ht⟩)
  rotate_left
  · have HN := Lib.hid (show r = none from by rw [HRR.out, hdrF, hrd])
    have HT := Lib.hid ht
    clear hrd ht
    go_wp2_with fail
    refine (hdr_must_u_bad _ _ _ (by decide)).mono ?_
    rintro e w2 ⟨rfl, rfl⟩
    go_wp2_with fail
    exact HPAN.out _ _ HN.out HT.out rfl rfl rfl
  have H1 := Lib.hid (And.intro hrd hi)
  have hx32 : x < 32 := (rd_fit hrd).1
  have hq1 := (rd_fit hrd).2.2
  rw [length_ofBits] at hq1
  have HQ1 := Lib.hid hq1
  clear hrd hi hq1
  go_wp2_with fail
  refine (hdr_must_u x w1).mono ?_
  rintro e w2 ⟨rfl, hw2⟩
  obtain rfl := hw2.symm
  clear hw2
  go_wp2_with fail
  refine (rd_get H1.out.2 HB.out 5 HQ1.out (by decide)).mono ?_
  rintro e w2 (⟨y, q2, hrd, rfl, hi⟩ | ⟨hrd, rfl, ht⟩)
  rotate_left
  · have HN := Lib.hid (show r = none from by rw [HRR.out, hdrF, H1.out.1]; simp only; rw [hrd])
    have HT := Lib.hid ht
    clear hrd ht
    go_wp2_with fail
    refine (hdr_must_u_bad _ _ _ (by decide)).mono ?_
    rintro e w2 ⟨rfl, rfl⟩
    go_wp2_with fail
    exact HPAN.out _ _ HN.out HT.out rfl rfl rfl
  have H2 := Lib.hid (And.intro hrd hi)
  have hy32 : y < 32 := (rd_fit hrd).1
  have hq1 := (rd_fit hrd).2.2
  rw [length_ofBits] at hq1
  have HQ2 := Lib.hid hq1
  clear hrd hi hq1
  go_wp2_with fail
  refine (hdr_must_u y w2).mono ?_
  rintro e w3 ⟨rfl, hw2⟩
  obtain rfl := hw2.symm
  clear hw2
  go_wp2_with fail
  refine (rd_get H2.out.2 HB.out 4 HQ2.out (by decide)).mono ?_
  rintro e w3 (⟨z, q3, hrd, rfl, hi⟩ | ⟨hrd, rfl, ht⟩)
  rotate_left
  · have HN := Lib.hid (show r = none from by rw [HRR.out, hdrF, H1.out.1]; simp only; rw [H2.out.1]; simp only; rw [hrd])
    have HT := Lib.hid ht
    clear hrd ht
    go_wp2_with fail
    refine (hdr_must_u_bad _ _ _ (by decide)).mono ?_
    rintro e w2 ⟨rfl, rfl⟩
    go_wp2_with fail
    exact HPAN.out _ _ HN.out HT.out rfl rfl rfl
  have H3 := Lib.hid (And.intro hrd hi)
  have hz16 : z < 16 := (rd_fit hrd).1
  have hq1 := (rd_fit hrd).2.2
  rw [length_ofBits] at hq1
  have HQ3 := Lib.hid hq1
  clear hrd hi hq1
  go_wp2_with fail
  refine (hdr_must_u z w3).mono ?_
  rintro e w4 ⟨rfl, hw2⟩
  obtain rfl := hw2.symm
  clear hw2
  obtain ⟨i0, hi0, hz0, hz1, hz2⟩ := info_parts info_u8
  obtain ⟨w5, hmk, how, hx5⟩ := make_owns w3 22 5 i0 (.int .u8 0) 19 Tryz.underlying22 hi0 hz0 hz1 (by omega) rfl (by decide)
  have hmk2 : (Instr.makeSlice 22 (.int .i64 19) (.int .i64 19)).run Tryz.prog w3 = .ok (.slice (some ⟨w3.heap.size, 0, none⟩) 19 19) w5 := hmk
  clear hmk hi0 hz0 hz1 hz2
  obtain ⟨G, hG⟩ : ∃ G, G = w3.heap.size := ⟨_, rfl⟩
  rw [← hG] at hmk2 how
  obtain ⟨O, hO⟩ : ∃ O, O = w5.heap.size := ⟨_, rfl⟩
  have H5 := Lib.hid (show G = w3.heap.size ∧ O = w5.heap.size ∧ Owns w5 5 1 (.slice (some ⟨G, 0, none⟩) 19 19) (some G) 19 (u8s (List.replicate 19 0)) ∧ Ext w3 w5 from ⟨hG, hO, how, hx5⟩)
  have HO := Lib.hid (hdr_order w5)
  rw [← hO] at HO
  clear how hx5 hG hO
  go_wp2_with fail
  obtain ⟨A, hA⟩ : ∃ A, A = x + 257 := ⟨_, rfl⟩
  obtain ⟨Bn, hBn⟩ : ∃ Bn, Bn = y + 1 := ⟨_, rfl⟩
  obtain ⟨N, hN⟩ : ∃ N, N = z + 4 := ⟨_, rfl⟩
  rw [show (x : Int) + 257 = (A : Int) by omega, show (y : Int) + 1 = (Bn : Int) by omega, show (z : Int) + 4 = (N : Int) by omega]
  have hA2 : (A : Int) ≤ 288 := by omega
  have hB2 : (Bn : Int) ≤ 32 := by omega
  have hN2 : (N : Int) ≤ 19 := by omega
  have HABN := Lib.hid (show A = x + 257 ∧ Bn = y + 1 ∧ N = z + 4 ∧ N ≤ 19 ∧ A ≤ 288 ∧ Bn ≤ 32 from ⟨hA, hBn, hN, by omega, by omega, by omega⟩)
  clear hA hBn hN hx32 hy32 hz16
  clear hmk2
  refine HO.out.mono ?_
  rintro e w6 ⟨rfl, hw6⟩
  have h6 : HL1 (hdrW w) R og bs G O N q3 (.int .i64 ((0 : Nat) : Int)) w6 := by
    have h5 := H5.out
    have hx6 : Ext w5 w6 := by rw [hw6]; exact (Ext.refl _).alloc _
    refine ⟨0, List.replicate 19 0, q3, rfl, Nat.zero_le _, rfl, by simp, fun x hx => by rw [List.eq_of_mem_replicate hx]; decide, HQ3.out, (H3.out.2.extR h5.2.2.2).extR hx6, h5.2.2.1.ext' hx6, ?_⟩
    rw [hw6, h5.2.1]; exact heap_alloc_new _ _
  have H6 := Lib.hid h6
  clear h6 hw6
  go_wp2_with fail
  go_loopw [48] (fun vi wr => HL1 (hdrW w) R og bs G O N q3 vi wr) (fun vi _ => N - (intOf vi).toNat)
  case atStart => exact H6.out
  case round =>
    obtain ⟨i, acc, q, rfl, hin, hwl, hacl, hac8, hq, hrp, how, hor⟩ := hrel
    have HL := Lib.hid (show i ≤ N ∧ wlF (ofBits false bs) N 0 (List.replicate 19 0) q3 = wlF (ofBits false bs) (N - i) i acc q ∧ acc.length = 19 ∧ (∀ x ∈ acc, x < 8) ∧ q ≤ 8 * bs.length ∧ RPost 107 (hdrW w) R og bs q wr ∧ Owns wr 5 1 (.slice (some ⟨G, 0, none⟩) 19 19) (some G) 19 (u8s acc) ∧ wr.heap[O]? = some (.cells (u8s ordH).toArray 5 (0, 0)) from ⟨hin, hwl, hacl, hac8, hq, hrp, how, hor⟩)
    clear hwl hacl hac8 hq hrp how hor
    by_cases hlt : i < N
    · have hltz : (i : Int) < (N : Int) := by omega
      obtain ⟨c, hc⟩ : ∃ c, c = ordH.getD i 0 := ⟨_, rfl⟩
      have hc19 : c < 19 := by rw [hc]; exact ordH_lt i
      have cc : wr.cell? ⟨O, i, none⟩ = some (.int .u8 c) := by
        have h := HL.out.2.2.2.2.2.2.2
        have hi19 : i < ordH.length := by have := HABN.out.2.2.2.1; show i < 19; omega
        simp only [World.cell?, h]
        rw [hc]
        simpa using getElem?_u8s ordH i hi19
      have HC := Lib.hid (show c = ordH.getD i 0 ∧ c < 19 ∧ i < N from ⟨hc, hc19, hlt⟩)
      clear hc hlt hin
      go_wp2_with fail
      refine (rd_get (RPost.refl HL.out.2.2.2.2.2.1.1) HB.out 3 HL.out.2.2.2.2.1 (by decide)).mono ?_
      rintro e w7 (⟨v, q7, hrd, rfl, hi7⟩ | ⟨hrd, rfl, ht7⟩)
      rotate_left
      · have HN := Lib.hid (show r = none from by
          have hw : wlF (ofBits false bs) N 0 (List.replicate 19 0) q3 = none := by rw [HL.out.2.1]; exact wlF_bad (by have := HC.out; omega) hrd
          rw [HRR.out, hdrF, H1.out.1]; simp only; rw [H2.out.1]; simp only; rw [H3.out.1]; simp only; rw [← HABN.out.2.2.1, hw])
        have HT := Lib.hid (show Touch (fun k => k = R) (hdrW w) w7 from HL.out.2.2.2.2.2.1.2.trans ht7 (fun _ _ h => h))
        clear hrd ht7
        go_wp2_with fail
        refine (hdr_must_u_bad _ _ _ (by decide)).mono ?_
        rintro e w2 ⟨rfl, rfl⟩
        go_wp2_with fail
        exact HPAN.out _ _ HN.out HT.out rfl rfl rfl
      have hv8 : v < 8 := (rd_fit hrd).1
      have hq7 := (rd_fit hrd).2.2
      rw [length_ofBits] at hq7
      have hlg : (hdrW w).heap.size ≤ G := by rw [H5.out.1]; exact H3.out.2.2.size
      have hown7 : Owns w7 5 1 (.slice (some ⟨G, 0, none⟩) 19 19) (some G) 19 (u8s acc) := HL.out.2.2.2.2.2.2.1.keep hi7.2 (fun g e e2 => by cases e; have := HW.out.2.2; have := HR.out.1; omega)
      have hOk : w7.heap[O]? = some (.cells (u8s ordH).toArray 5 (0, 0)) := hi7.2.keep HL.out.2.2.2.2.2.2.2 (fun e => by have := HW.out.2.2; have := HR.out.1; have := H5.out; have := H5.out.2.2.2.size; omega)
      have hGO : G ≠ O := by have := H5.out; have := H5.out.2.2.1.lt G rfl; omega
      obtain ⟨y7, hy7⟩ : ∃ y7, (u8s acc)[c]? = some y7 := ⟨_, List.getElem?_eq_getElem (by rw [length_u8s, HL.out.2.2.1]; exact HC.out.2.1)⟩
      have cG := hown7.cell c _ hy7
      have fG := hown7.free c
      have H7 := Lib.hid (show HL1 (hdrW w) R og bs G O N q3 (.int .i64 ((i + 1 : Nat) : Int)) (w7.setCell ⟨G, c, none⟩ (.int .u8 v)) from by
        have hL := HL.out
        have hc := HC.out
        have hr7 : RPost 107 (hdrW w) R og bs q7 w7 := hL.2.2.2.2.2.1.step hi7
        refine ⟨i + 1, acc.set c v, q7, rfl, hc.2.2, ?_, by rw [List.length_set]; exact hL.2.2.1, fun x hx => ?_, hq7, hr7.setNew (by have := HW.out.2.2; have := HR.out.1; omega) (fun k e => by have := HW.out.2.2; have := HR.out.2.1 k e; omega) hlg c _, ?_, ?_⟩
        · rw [hL.2.1, wlF_go (by omega) hrd, hc.1, Nat.sub_sub]
        · rcases List.mem_or_eq_of_mem_set hx with h | h
          · exact hL.2.2.2.1 x h
          · rw [h]; exact hv8
        · rw [u8s_set]; exact hown7.set c _ hc.2.1
        · exact ((Touch.refl (fun k => k = G) w7).setCell (Or.inl rfl) _).keep hOk (fun e => hGO e.symm))
      clear hrd hi7 hq7 hlg hown7 hOk hGO hy7
      go_wp2_with fail
      refine (hdr_must_u v w7).mono ?_
      rintro e w8 ⟨rfl, hw8⟩
      obtain rfl := hw8.symm
      clear hw8
      go_wp2_with fail
      go_roundw
      case rel => exact H7.out
      case measure => simp [intOf]; have := HC.out; omega
    · obtain rfl : i = N := by have := HL.out.1; omega
      have HWL := Lib.hid (show wlF (ofBits false bs) i 0 (List.replicate 19 0) q3 = some (q, acc) from by rw [HL.out.2.1, Nat.sub_self]; rfl)
      clear hlt hin
      go_wp2_with fail
      refine (kraft_classify _ acc wr HL.out.2.2.2.2.2.2.1.viewL (by rw [HL.out.2.2.1]; decide)).mono ?_
      rintro e w6 ⟨h6, rfl⟩
      have hmk : MayK acc := ⟨by rw [HL.out.2.2.1]; decide, fun b hb => by have := HL.out.2.2.2.1 b hb; omega⟩
      obtain rfl : e = .returned (.tuple #[.int .u8 (classL acc), .int .i64 0]) := by
        rcases h6 with ⟨_, h6⟩ | ⟨h6, _⟩
        · exact h6
        · exact absurd hmk h6
      clear h6
      obtain ⟨ca, hca⟩ : ∃ ca, ca = classL acc := ⟨_, rfl⟩
      rw [← hca]
      by_cases hc2 : ca = 2
      · have kc : ((ca : Int) == 2) = true := by rw [beq_iff_eq]; omega
        have kc2 : ((ca : Int) != 2) = false := by rw [bne_eq_false_iff_eq]; omega
        have HCA := Lib.hid (show Good acc ∧ classL acc = 2 from ⟨(by
          refine (good_iff acc).2 ?_
          rw [errW, if_neg (not_not_intro hmk)]
          have h : classL acc = 2 := by rw [← hca]; exact hc2
          unfold classL at h
          split at h
          · cases h
          · split at h
            · cases h
            · split at h
              · rename_i h3; rw [if_neg (by omega)]
              · cases h), by rw [← hca]; exact hc2⟩)
        clear hc2 hca hmk
        go_wp2_with fail
        refine (pre_new _ acc wr (viewL_viewI HL.out.2.2.2.2.2.2.1.viewL) HL.out.2.2.2.2.2.2.1.viewL (fun b o n c e _ => by cases e; exact HL.out.2.2.2.2.2.2.1.lt _ rfl) (by rw [HL.out.2.2.1]; decide)).mono ?_
        rintro e w7 (⟨hne, rfl, _⟩ | ⟨_, T, ga, gb, m, rfl, ht, hnew, hx⟩)
        · exact absurd ((good_iff acc).1 HCA.out.1) hne
        have H7 := Lib.hid (show IsT w7 T ga gb m acc ∧ (∀ k, TB T ga gb m k → wr.heap.size ≤ k) ∧ Ext wr w7 ∧ RPost 107 (hdrW w) R og bs q w7 from ⟨ht, hnew, hx, HL.out.2.2.2.2.2.1.extR hx⟩)
        clear ht hnew hx kc kc2
        go_wp2_with fail
        have H8 := Lib.hid (show HL2 w7 R og bs acc (A + Bn) q (8 * bs.length - q) (.slice none 0 0) (.int .i64 ((0 : Nat) : Int)) w7 from ⟨0, [], q, none, rfl, by decide, rfl, HL.out.2.2.2.2.1, Nat.le_refl _, (fun s hs => by cases hs), rfl, RPost.refl H7.out.2.2.2.1, Owns.nil _ _ _, (fun g e => by cases e)⟩)
        go_loopg [15, 16] (8 * bs.length - q) (fun k lv sv wr => HL2 w7 R og bs acc (A + Bn) q k lv sv wr)
        case atStart => exact H8.out
        case round =>
          obtain ⟨said, l, q8, oo, rfl, hs6, hg8, hq8, hls, hl19, hsg, hrp, how, hnw⟩ := hrel
          have HI := Lib.hid (show said ≤ 600 ∧ gk = 8 * bs.length - q8 ∧ q8 ≤ 8 * bs.length ∧ l.length ≤ said ∧ (∀ s ∈ l, s.1 < 19 ∧ s.2 < 128) ∧ sgF acc (ofBits false bs) (A + Bn) 0 [] q = sgF acc (ofBits false bs) (A + Bn) said l q8 ∧ RPost 107 w7 R og bs q8 wr ∧ Owns wr 141 2 u15 oo l.length (scells l) ∧ (∀ g, oo = some g → w7.heap.size ≤ g) from ⟨hs6, hg8, hq8, hls, hl19, hsg, hrp, how, hnw⟩)
          clear hs6 hg8 hq8 hls hl19 hsg hrp how hnw
          by_cases hlt : said < A + Bn
          · have hltz : (said : Int) < (A : Int) + (Bn : Int) := by omega
            have hsb : (said : Int) ≤ 320 := by have := HABN.out; omega
            have HLT := Lib.hid hlt
            have hRw : R < w7.heap.size ∧ (∀ k, og = some k → k < w7.heap.size) := by
              have h1 := HR.out
              have h2 := HW.out.1.size
              have h3 := H7.out.2.2.2.2.size
              exact ⟨by omega, fun k e => by have := h1.2.1 k e; omega⟩
            have HRW := Lib.hid hRw
            have htb : IsT wr T ga gb m acc := H7.out.1.keep HI.out.2.2.2.2.2.2.1.2 (fun k hk e => by have := H7.out.2.1 k hk; have := HL.out.2.2.2.2.2.1.1.lt; omega)
            have HT2 := Lib.hid (show IsT wr T ga gb m acc ∧ ∀ k, TB T ga gb m k → ¬ FP R og k from ⟨htb, fun k hk hf => by
              have h1 := H7.out.2.1 k hk
              rcases hf with rfl | hf
              · have := HL.out.2.2.2.2.2.1.1.lt; omega
              · have := HL.out.2.2.2.2.2.1.1.glt k hf; omega⟩)
            clear hlt hRw htb
            go_wp2_with fail
            refine (pre_lsb_get T ga gb m acc R og bs q8 wr HT2.out.1 HCA.out.1 HI.out.2.2.2.2.2.2.1.1 HT2.out.2 (by have := HB.out.1; omega) HB.out.2 HI.out.2.2.1).mono ?_
            rintro e w9 ⟨c, q9, er, rfl, hd, hr9⟩
            by_cases he : er = 0
            rotate_left
            · have hdn := decS_no HCA.out.1 hd he
              have HN := Lib.hid (show r = none from by
                have hw : sgF acc (ofBits false bs) (A + Bn) 0 [] q = none := by rw [HI.out.2.2.2.2.2.1]; exact sgF_b1 HLT.out hdn
                rw [HRR.out, hdrF, H1.out.1]; simp only; rw [H2.out.1]; simp only; rw [H3.out.1]; simp only; rw [← HABN.out.2.2.1, HWL.out]; simp only; rw [if_neg (not_not_intro HCA.out.2), ← HABN.out.1, ← HABN.out.2.1, hw])
              have HT := Lib.hid (show Touch (fun k => k = R) (hdrW w) w9 from (H7.out.2.2.2.2.trans HI.out.2.2.2.2.2.2.1.2 (fun _ _ h => h)).trans hr9.2 (fun _ _ h => h))
              clear hdn hd hr9
              go_wp2_with fail
              refine (hdr_must_i_bad _ _ _ he).mono ?_
              rintro e w2 ⟨rfl, rfl⟩
              go_wp2_with fail
              exact HPAN.out _ _ HN.out HT.out rfl rfl rfl
            subst he
            have hds := decS_ok HCA.out.1 hd
            have hdl := decS_lt hds
            rw [length_ofBits] at hdl
            have hc19 : c < 19 := by have := HL.out.2.2.1; omega
            have how9 : Owns w9 141 2 u15 oo l.length (scells l) := HI.out.2.2.2.2.2.2.2.1.keep hr9.2 (fun g e e2 => by have := HI.out.2.2.2.2.2.2.2.2 g e; have := HRW.out.1; omega)
            obtain ⟨SB, hSB⟩ : ∃ SB, SB = w9.heap.size := ⟨_, rfl⟩
            have H9 := Lib.hid (show decS acc (ofBits false bs) q8 = some (c, q9) ∧ q8 < q9 ∧ q9 ≤ 8 * bs.length ∧ RPost 107 wr R og bs q9 w9 ∧ Owns w9 141 2 u15 oo l.length (scells l) ∧ SB = w9.heap.size ∧ c < 19 from ⟨hds, hdl.1, hdl.2.1, hr9, how9, hSB, hc19⟩)
            have wc : IntKind.u8.wrap (c : Int) = (c : Int) := IntWalk.u8_in _ (by omega)
            clear hds hdl hd hr9 how9
            go_wp2_with fail
            refine (hdr_must_i c w9).mono ?_
            rintro e w10 ⟨rfl, hw10⟩
            obtain rfl := hw10.symm
            clear hw10
            go_wp2_with fail
            rw [← hSB]
            obtain ⟨w10, hw10⟩ : ∃ w10, w10 = w9.alloc (.cells #[.int .u8 c, .int .u8 0] 141) := ⟨_, rfl⟩
            rw [← hw10]
            have hx10 : Ext w9 w10 := by rw [hw10]; exact (Ext.refl _).alloc _
            have hb10 : w10.heap[SB]? = some (.cells #[.int .u8 c, .int .u8 0] 141 (0, 0)) := by rw [hw10, hSB]; exact heap_alloc_new _ _
            have H10 := Lib.hid (show RPost 107 wr R og bs q9 w10 ∧ Owns w10 141 2 u15 oo l.length (scells l) ∧ w10.heap[SB]? = some (.cells #[.int .u8 c, .int .u8 0] 141 (0, 0)) ∧ Ext w9 w10 from ⟨H9.out.2.2.2.1.extR hx10, H9.out.2.2.2.2.1.ext' hx10, hb10, hx10⟩)
            clear hw10 hx10 hb10 hSB wc
            refine (rep_bits c w10 (by omega)).mono ?_
            rintro e w11 ⟨rfl, rfl⟩
            obtain ⟨nb, hnb⟩ : ∃ nb, nb = bitsOfCode c := ⟨_, rfl⟩
            have hnb7 : nb ≤ 7 := by rw [hnb]; unfold bitsOfCode; split; omega; split; omega; split <;> omega
            have HNB := Lib.hid (show nb = exbH c ∧ nb ≤ 7 from ⟨hnb, hnb7⟩)
            rw [← hnb]
            clear hnb hnb7
            go_wp2_with fail
            refine (rd_get (RPost.refl H10.out.1.1) HB.out nb H9.out.2.2.1 (by have := HNB.out; omega)).mono ?_
            rintro e w12 (⟨ex, q12, hrd, rfl, hi12⟩ | ⟨hrd, rfl, ht12⟩)
            rotate_left
            · have HN := Lib.hid (show r = none from by
                have hw : sgF acc (ofBits false bs) (A + Bn) 0 [] q = none := by rw [HI.out.2.2.2.2.2.1]; exact sgF_b2 HLT.out H9.out.1 (by rw [← HNB.out.1]; exact hrd)
                rw [HRR.out, hdrF, H1.out.1]; simp only; rw [H2.out.1]; simp only; rw [H3.out.1]; simp only; rw [← HABN.out.2.2.1, HWL.out]; simp only; rw [if_neg (not_not_intro HCA.out.2), ← HABN.out.1, ← HABN.out.2.1, hw])
              have HT := Lib.hid (show Touch (fun k => k = R) (hdrW w) w12 from ((H7.out.2.2.2.2.trans HI.out.2.2.2.2.2.2.1.2 (fun _ _ h => h)).trans H10.out.1.2 (fun _ _ h => h)).trans ht12 (fun _ _ h => h))
              clear hrd ht12
              go_wp2_with fail
              refine (hdr_must_u_bad _ _ _ (by decide)).mono ?_
              rintro e w2 ⟨rfl, rfl⟩
              go_wp2_with fail
              exact HPAN.out _ _ HN.out HT.out rfl rfl rfl
            have hrf := rd_fit hrd
            rw [length_ofBits] at hrf
            have hex : ex < 128 := by
              have h1 : 2 ^ nb ≤ 2 ^ 7 := Nat.pow_le_pow_right (by decide) HNB.out.2
              omega
            have hSB7 : w7.heap.size ≤ SB := by
              have := H9.out.2.2.2.2.2.1; have := H9.out.2.2.2.1.2.size; have := HI.out.2.2.2.2.2.2.1.2.size; omega
            have hooSB : ∀ g, oo = some g → g < SB := fun g e => by have := H9.out.2.2.2.2.1.lt g e; have := H9.out.2.2.2.2.2.1; omega
            have hb12 : w12.heap[SB]? = some (.cells #[.int .u8 c, .int .u8 0] 141 (0, 0)) := hi12.2.keep H10.out.2.2.1 (fun e => by have := HRW.out.1; omega)
            have how12 : Owns w12 141 2 u15 oo l.length (scells l) := H10.out.2.1.keep hi12.2 (fun g e e2 => by have := HI.out.2.2.2.2.2.2.2.2 g e; have := HRW.out.1; omega)
            obtain ⟨w13, hw13⟩ : ∃ w13, w13 = w12.setCell ⟨SB, 1, none⟩ (.int .u8 ex) := ⟨_, rfl⟩
            have ht13 : Touch (fun k => k = SB) w12 w13 := by rw [hw13]; exact (Touch.refl (fun k => k = SB) w12).setCell (Or.inl rfl) _
            have hb13 : w13.heap[SB]? = some (.cells #[.int .u8 c, .int .u8 ex] 141 (0, 0)) := by
              have b := heap_setCell_at (a := ⟨SB, 1, none⟩) (u := .int .u8 ex) hb12 rfl
              rw [hw13]; exact b
            have hr13 : RPost 107 w7 R og bs q12 w13 := by
              rw [hw13]
              exact (((HI.out.2.2.2.2.2.2.1.step H10.out.1).step hi12).setNew HRW.out.1 HRW.out.2 hSB7 1 _)
            have H13 := Lib.hid (show w13 = w12.setCell ⟨SB, 1, none⟩ (.int .u8 ex) ∧ w13.heap[SB]? = some (.cells #[.int .u8 c, .int .u8 ex] 141 (0, 0)) ∧ RPost 107 w7 R og bs q12 w13 ∧ Owns w13 141 2 u15 oo l.length (scells l) ∧ w7.heap.size ≤ SB ∧ (∀ g, oo = some g → g < SB) ∧ q9 ≤ q12 ∧ q12 ≤ 8 * bs.length ∧ ex < 128 ∧ SB < w13.heap.size from ⟨hw13, hb13, hr13, how12.keep ht13 (fun g e e2 => by have := hooSB g e; omega), hSB7, hooSB, by omega, hrf.2.2, hex, block_lt hb13⟩)
            have HSGO := Lib.hid (show sgF acc (ofBits false bs) (A + Bn) said l q8 = sgF acc (ofBits false bs) (A + Bn) (said + saidN c ex) (l ++ [(c, ex)]) q12 from sgF_go HLT.out H9.out.1 (by rw [← HNB.out.1]; exact hrd))
            have cs1 : w12.cell? ⟨SB, 1, none⟩ = some (.int .u8 0) := by simp [World.cell?, hb12]
            have fs1 : w12.frozen? ⟨SB, 1, none⟩ = false := by simp [World.frozen?, hb12]
            have wex : IntKind.u8.wrap (ex : Int) = (ex : Int) := IntWalk.u8_in _ (by omega)
            clear hrd hi12 hrf hSB7 hooSB hb12 how12 ht13 hb13 hr13 hw13
            go_wp2_with fail
            refine (hdr_must_u ex w12).mono ?_
            rintro e w14 ⟨rfl, hw14⟩
            obtain rfl := hw14.symm
            clear hw14
            have cs0 : w12.cell? ⟨SB, 0, none⟩ = some (.int .u8 c) := by
              have h := H13.out.2.1
              rw [H13.out.1] at h
              have h2 : (w12.setCell ⟨SB, 1, none⟩ (.int .u8 ex)).cell? ⟨SB, 0, none⟩ = some (.int .u8 c) := by simp [World.cell?, h]
              rw [← h2]
              exact (World.cell?_setCell_other _ _ _ _ (by simp)).symm
            obtain ⟨i0, hi0, hz0, hz1, hz2⟩ := info_parts rep_infoS
            have hl600 : l.length ≤ 320 := by have := HI.out.2.2.2.1; omega
            have how14 : Owns (w12.setCell ⟨SB, 1, none⟩ (.int .u8 ex)) 141 2 u15 oo l.length (scells l) := by rw [← H13.out.1]; exact H13.out.2.2.2.1
            have HOW := Lib.hid how14
            clear how14
            go_wp2_with (at_builtin; go_must (refine wpList_append_own_at _ rfl (.tmp 97) (.tmp 99) 140 rfl 0 141 i0 (.agg #[.int .u8 0, .int .u8 0]) 2 2 Tryz.underlying140 hi0 hz0 hz1 hz2 rfl (by decide) _ l.length (scells l) rfl ((HOW.out.ext' ((Ext.refl _).alloc _)).1) ⟨w12.heap.size, 0, none⟩ 1 1 [.int .u8 c, .int .u8 ex] rfl rfl (by have h := rep_news (w12.setCell ⟨SB, 1, none⟩ (.int .u8 ex)) [.int .u8 c, .int .u8 ex] 141 (0, 0); simpa using h) (by simp [Value.oneCell']) (by unfold maxLen; omega) (by omega) (Nat.zero_le _) ?_))
            intro v' w15 hown hgrow _ hat
            obtain ⟨va, vc, rfl⟩ := ownsRow_form hown (by omega)
            have hrow : ∀ k, u15.ownBlock = some k → w7.heap.size ≤ k ∧ k ≠ SB := fun k e => by
              rw [HOW.out.2] at e
              exact ⟨HI.out.2.2.2.2.2.2.2.2 k e, fun e2 => by have := H13.out.2.2.2.2.2.1 k e; omega⟩
            rw [← H13.out.1] at hgrow
            have hSz : w13.heap.size = w12.heap.size := by rw [H13.out.1]; simp
            have hb15 : w15.heap[SB]? = some (.cells #[.int .u8 c, .int .u8 ex] 141 (0, 0)) := by
              refine (hgrow.block SB (by have := H13.out.2.2.2.2.2.2.2.2.2; simp; omega) (fun e => (hrow SB e.symm).2 rfl)).trans ?_
              exact (Below.heap_alloc _ _ _ H13.out.2.2.2.2.2.2.2.2.2).trans H13.out.2.1
            have hr15 : RPost 107 w7 R og bs q12 w15 := (H13.out.2.2.1.extR ((Ext.refl w13).alloc _)).grow hgrow (fun k e => (hrow k e).1) HRW.out.1 HRW.out.2
            have HNX := Lib.hid (show ∀ sv : Value, sv = .int .i64 ((said + saidN c ex : Nat) : Int) → HL2 w7 R og bs acc (A + Bn) q (8 * bs.length - q12) (.slice (some ⟨va, 0, none⟩) (l.length + 1) vc) sv w15 from fun sv e => by
              have hsd : saidN c ex ≤ 11 + ex := by unfold saidN; split; omega; split <;> omega
              have hs1 : 1 ≤ saidN c ex := by unfold saidN; split; omega; split <;> omega
              have h13 := H13.out
              have hI := HI.out
              have hlt := HLT.out
              have hab := HABN.out
              refine ⟨said + saidN c ex, l ++ [(c, ex)], q12, _, e, by omega, rfl, h13.2.2.2.2.2.2.2.1, by rw [List.length_append, List.length_singleton]; omega, fun s hs => ?_, by rw [← HSGO.out]; exact hI.2.2.2.2.2.1, hr15, ⟨by rw [scells_append, List.length_append]; simpa [scells] using hown, rfl⟩, fun g e => ?_⟩
              · rcases List.mem_append.1 hs with h | h
                · exact hI.2.2.2.2.1 s h
                · rw [List.mem_singleton] at h; rw [h]; exact ⟨H9.out.2.2.2.2.2.2, h13.2.2.2.2.2.2.2.2.1⟩
              · rcases hat with h | h
                · exact (hrow g (by rw [← h]; exact e)).1
                · rw [h] at e
                  simp at e
                  have := h13.2.2.2.2.1
                  have := h13.2.2.2.2.2.2.2.2.2
                  omega)
            have cb0 : w15.cell? ⟨SB, 0, none⟩ = some (.int .u8 c) := by simp [World.cell?, hb15]
            have cb1 : w15.cell? ⟨SB, 1, none⟩ = some (.int .u8 ex) := by simp [World.cell?, hb15]
            have HMS := Lib.hid (show 8 * bs.length - q12 < gk from by have := HI.out; have := H9.out; have := H13.out; omega)
            have hex2 : (ex : Int) ≤ 127 := by have := H13.out; omega
            clear hown hgrow hat hrow hSz hb15 hr15 cs0 cs1 fs1 hi0 hz0 hz1 hz2 hl600 wex
            by_cases c16 : c = 16
            · have HSV := Lib.hid (show ((said + saidN c ex : Nat) : Int) = (said : Int) + 1 + (2 + (ex : Int)) from by rw [saidN, if_pos (Or.inl c16)]; omega)
              subst c16
              go_wp2_with fail
              go_roundg (8 * bs.length - q12)
              case measure => exact HMS.out
              case rel => exact HNX.out _ (by rw [HSV.out])
            · by_cases c17 : c = 17
              · have HSV := Lib.hid (show ((said + saidN c ex : Nat) : Int) = (said : Int) + 1 + (2 + (ex : Int)) from by rw [saidN, if_pos (Or.inr c17)]; omega)
                subst c17
                clear c16
                go_wp2_with fail
                go_roundg (8 * bs.length - q12)
                case measure => exact HMS.out
                case rel => exact HNX.out _ (by rw [HSV.out])
              · by_cases c18 : c = 18
                · have HSV := Lib.hid (show ((said + saidN c ex : Nat) : Int) = (said : Int) + 1 + (10 + (ex : Int)) from by rw [saidN, if_neg (by omega), if_pos c18]; omega)
                  subst c18
                  clear c16 c17
                  go_wp2_with fail
                  go_roundg (8 * bs.length - q12)
                  case measure => exact HMS.out
                  case rel => exact HNX.out _ (by rw [HSV.out])
                · have HSV := Lib.hid (show ((said + saidN c ex : Nat) : Int) = (said : Int) + 1 from by rw [saidN, if_neg (by omega), if_neg c18]; omega)
                  have k16 : ((c : Int) == 16) = false := by rw [beq_eq_false_iff_ne]; omega
                  have k17 : ((c : Int) == 17) = false := by rw [beq_eq_false_iff_ne]; omega
                  have k18 : ((c : Int) == 18) = false := by rw [beq_eq_false_iff_ne]; omega
                  clear c16 c17 c18
                  go_wp2_with fail
                  go_roundg (8 * bs.length - q12)
                  case measure => exact HMS.out
                  case rel => exact HNX.out _ (by rw [HSV.out])
          · have hltz : ¬ (said : Int) < (A : Int) + (Bn : Int) := by omega
            have HSE := Lib.hid (show sgF acc (ofBits false bs) (A + Bn) 0 [] q = some (q8, l) from by rw [HI.out.2.2.2.2.2.1]; exact sgF_end (by omega))
            obtain ⟨n, hn⟩ : ∃ n, n = A + Bn := ⟨_, rfl⟩
            have hsum : (A : Int) + (Bn : Int) = (n : Int) := by omega
            have HNN := Lib.hid hn
            have HUN := Lib.hid (rep_unpack u15 l (n : Int) wr HI.out.2.2.2.2.2.2.2.1.viewS (fun s hs => by have := HI.out.2.2.2.2.1 s hs; omega) (by have := HI.out; omega) (by omega) (by have := HABN.out; omega))
            clear hlt hn
            go_wp2_with fail
            clear hsum
            refine HUN.out.mono ?_
            rintro e w9 ⟨av, rfl, hbo⟩
            obtain ⟨M, hM⟩ : ∃ M, M = (unpR l (n : Int)).1 := ⟨_, rfl⟩
            obtain ⟨er, her⟩ : ∃ er, er = (unpR l (n : Int)).2 := ⟨_, rfl⟩
            rw [← hM] at hbo
            rw [← her]
            obtain ⟨ao, acap, rfl⟩ := hbo.choose_spec.1.shape
            have hHF := Lib.hid (show r = if (unpR l (n : Int)).2 ≠ 0 then none else if mayH (M.take A) (M.drop A) then some (M.take A, M.drop A, q8) else none from by
              have e1 : ((x + 257 + (y + 1) : Nat) : Int) = (n : Int) := by have := HABN.out; have := HNN.out; omega
              rw [HRR.out, hdrF, H1.out.1]; simp only; rw [H2.out.1]; simp only; rw [H3.out.1]; simp only; rw [← HABN.out.2.2.1, HWL.out]; simp only; rw [if_neg (not_not_intro HCA.out.2), ← HABN.out.1, ← HABN.out.2.1, HSE.out]; simp only
              rw [show ((A + Bn : Nat) : Int) = (n : Int) by rw [HNN.out], ← hM])
            rw [← her] at hHF
            have HBO := Lib.hid hbo
            have HR9 := Lib.hid (show RPost 107 (hdrW w) R og bs q8 w9 from ((H7.out.2.2.2.step HI.out.2.2.2.2.2.2.1).extR hbo.choose_spec.2.2))
            by_cases he : er = 0
            rotate_left
            · have HN := Lib.hid (show r = none from by rw [hHF.out, if_pos he])
              have HT := Lib.hid HR9.out.2
              clear hbo hM her
              go_wp2_with fail
              refine (hdr_must_s_bad _ _ _ _ _ he).mono ?_
              rintro e w2 ⟨rfl, rfl⟩
              go_wp2_with fail
              exact HPAN.out _ _ HN.out HT.out rfl rfl rfl
            subst he
            obtain ⟨hMl, hM256⟩ := unpR_ok her.symm
            rw [← hM] at hMl hM256
            have hMn : M.length = n := by omega
            obtain ⟨og9, ho9, hg9, hx9⟩ := hbo
            rw [hMn] at ho9 ⊢
            obtain ⟨g9, ac9, e10⟩ := ownsRow_form ho9.1 (by have := HNN.out; have := HABN.out; omega)
            cases e10
            have hv9 := ho9.viewL
            have hcn : n ≤ acap := by
              obtain ⟨_, c2, e, h, _⟩ := hv9
              rw [length_u8s, hMn] at h e
              cases e; exact h
            have hAn : A < n := by have := HABN.out; have := HNN.out; omega
            have HCUT := Lib.hid (show ∀ wx, Ext w9 wx → ViewL wx (.slice (some ⟨g9, 0, none⟩) A acap) (u8s (M.take A)) ∧ ViewL wx (.slice (some ⟨g9, 0, none⟩) A A) (u8s (M.take A)) ∧ ViewL wx (.slice (some ⟨g9, A, none⟩) (n - A) (acap - A)) (u8s (M.drop A)) from fun wx hx => by
              have h := hv9.ext hx
              exact ⟨viewL_part h hMn.symm 0 A acap (by omega) (by omega) _ (by simp), viewL_part h hMn.symm 0 A A (by omega) (Nat.le_refl _) _ (by simp), viewL_part h hMn.symm A (n - A) (acap - A) (by omega) (by omega) _ (by rw [List.take_of_length_le]; rw [List.length_drop]; omega)⟩)
            have HM := Lib.hid (show M.length = n ∧ (∀ x ∈ M, x < 256) ∧ A < n ∧ n ≤ acap from ⟨hMn, hM256, hAn, hcn⟩)
            have hMAY := Lib.hid (show ∀ wx, Ext w9 wx → Calls Tryz.prog 117 #[.slice (some ⟨g9, 0, none⟩) A acap, .slice (some ⟨g9, A, none⟩) (n - A) (acap - A)] wx fun e w' => e = .returned (.bool (mayH (M.take A) (M.drop A))) ∧ w' = wx from fun wx hx =>
              hdr_may _ _ (M.take A) (M.drop A) wx (HCUT.out wx hx).1 (HCUT.out wx hx).2.2 (fun x hx => hM256 x (List.mem_of_mem_take hx)) (fun x hx => hM256 x (List.mem_of_mem_drop hx)) (by rw [List.length_take]; omega) (by rw [List.length_drop]; have := HABN.out; have := HNN.out; omega))
            have kA1 : (A : Int) ≤ (acap : Int) := by omega
            have kA2 : (A : Int) ≤ (n : Int) := by omega
            have kA3 : ¬ acap = A := by omega
            have kA4 : (n : Int) ≤ (acap : Int) := by omega
            have ho92 := ho9.2
            clear hv9 ho9 hMl hM256 hMn hcn hAn hM her
            go_wp2_with fail
            refine (hdr_must_s _ _ _ _).mono ?_
            rintro e w10 ⟨rfl, hw10⟩
            obtain rfl := hw10.symm
            clear hw10
            go_wp2_with fail
            obtain ⟨mb, hmb⟩ : ∃ mb, mb = mayH (M.take A) (M.drop A) := ⟨_, rfl⟩
            rw [← hmb] at hMAY hHF
            clear hmb
            go_quiet ((go_at_call 117; exact Calls.quiet_of_same (hMAY.out _ (by first | exact Ext.refl _ | exact (Ext.refl _).drew | exact (Ext.refl _).drewN _))))
            have hbx9 : HBx w9 w.heap.size (w.heap.size + 1) (w.heap.size + 2) (.slice none 0 0) (.slice none 0 0) 0 := HW.out.2.1.keepR HR9.out.2 (by have := HR.out.1; omega) (by have := HR.out.1; omega) (by have := HR.out.1; omega)
            have HBX := Lib.hid hbx9
            clear hbx9
            cases mb with
            | false =>
              have HN := Lib.hid (show r = none from by rw [hHF.out]; rfl)
              obtain ⟨wq, hwq⟩ : ∃ wq, wq = w9.drewN nq := ⟨_, rfl⟩
              rw [← hwq]
              have hxq : Ext w9 wq := by rw [hwq]; exact (Ext.refl _).drewN _
              have hbq : HBx wq w.heap.size (w.heap.size + 1) (w.heap.size + 2) (.slice none 0 0) (.slice none 0 0) 0 := HBX.out.keepR (R := R) (hxq.mono (fun _ _ f => f.elim)) (by have := HR.out.1; omega) (by have := HR.out.1; omega) (by have := HR.out.1; omega)
              have HQ := Lib.hid (And.intro hxq hbq)
              have hcl := hbq.cells
              have b0 := hcl.1
              have b1 := hcl.2.1
              have b2 : wq.cell? ⟨w.heap.size + 1 + 1, 0, none⟩ = some (.int .i64 0) := hcl.2.2.1
              have z0 := hcl.2.2.2.1
              have z1 := hcl.2.2.2.2.1
              have z2 : wq.frozen? ⟨w.heap.size + 1 + 1, 0, none⟩ = false := hcl.2.2.2.2.2
              clear hwq hxq hbq hmf hcl hHF hMAY HUN
              go_wp2_with fail
              clear b0 b1 b2 z0 z1 z2
              obtain ⟨d1, d2⟩ := HQ.out.2.done (by omega) (by omega) (by omega) (.slice none 0 0) (.slice none 0 0) 2
              have hd := d1.cells
              exact hdr_ret rfl rfl rfl hd.1 hd.2.1 hd.2.2.1 (Or.inr ⟨HN.out, rfl, ((HW.out.1.trans' HR9.out.2).trans (HQ.out.1.mono (fun _ _ f => f.elim)) (fun _ _ h => h)).trans d2 (fun k hk h => by omega)⟩)
            | true =>
              have HY := Lib.hid (show r = some (M.take A, M.drop A, q8) from by rw [hHF.out]; rfl)
              clear hHF hMAY HUN
              go_wp2_with fail
              obtain ⟨wq, hwq⟩ : ∃ wq, wq = w9.drewN nq := ⟨_, rfl⟩
              rw [← hwq]
              have hxq : Ext w9 wq := by rw [hwq]; exact (Ext.refl _).drewN _
              have hbq : HBx wq w.heap.size (w.heap.size + 1) (w.heap.size + 2) (.slice none 0 0) (.slice none 0 0) 0 := HBX.out.keepR (R := R) (hxq.mono (fun _ _ f => f.elim)) (by have := HR.out.1; omega) (by have := HR.out.1; omega) (by have := HR.out.1; omega)
              have HQ := Lib.hid (And.intro hxq hbq)
              have hcl := hbq.cells
              have b0 := hcl.1
              have b1 := hcl.2.1
              have b2 : wq.cell? ⟨w.heap.size + 1 + 1, 0, none⟩ = some (.int .i64 0) := hcl.2.2.1
              have z0 := hcl.2.2.2.1
              have z1 := hcl.2.2.2.2.1
              have z2 : wq.frozen? ⟨w.heap.size + 1 + 1, 0, none⟩ = false := hcl.2.2.2.2.2
              clear hwq hxq hbq hmf hcl
              refine wp_region_noPanic ?_
              go_region_with (fail)
              refine NoPanic.normal ?_
              clear b0 b1 b2 z0 z1 z2
              go_wp2_with fail
              obtain ⟨d1, d2⟩ := HQ.out.2.done (by omega) (by omega) (by omega) (.slice (some ⟨g9, 0, none⟩) A A) (.slice (some ⟨g9, A, none⟩) (n - A) (acap - A)) 0
              have hd := d1.cells
              have hW := HW.out
              have ht := HR9.out.2.size
              have hcut := HCUT.out wq HQ.out.1
              have hRl := HR.out
              have hg9 : (hdrW w).heap.size ≤ g9 := by have h1 := hg9 g9 (by rw [← ho92]; rfl); have h2 := H7.out.2.2.2.2.size; have h3 := HI.out.2.2.2.2.2.2.1.2.size; omega
              refine hdr_ret rfl rfl rfl hd.1 hd.2.1 hd.2.2.1 (Or.inl ⟨M.take A, M.drop A, q8, _, _, HY.out, rfl, ?_, ?_, ?_⟩)
              · have hv := hcut.2.1.keep d2.drew (fun b o n c e => by cases e; omega)
                exact ⟨viewL_viewI hv, hv⟩
              · have hv := hcut.2.2.keep d2.drew (fun b o n c e => by cases e; omega)
                exact ⟨viewL_viewI hv, hv⟩
              · have hr9 := HR9.out.extR HQ.out.1
                have d3 := d2.drew
                exact ⟨hr9.1.keep d3 (fun h => by omega) (fun g e h => by have := hRl.2.1 g e; omega), (hW.1.trans' hr9.2).trans d3 (fun k hk h => by omega)⟩
      · have kc : ((ca : Int) == 2) = false := by rw [beq_eq_false_iff_ne]; omega
        have kc2 : ((ca : Int) != 2) = true := by rw [bne_iff_ne]; omega
        have HN := Lib.hid (show r = none from by
          rw [HRR.out, hdrF, H1.out.1]; simp only; rw [H2.out.1]; simp only; rw [H3.out.1]; simp only; rw [← HABN.out.2.2.1, HWL.out]; simp only; rw [if_pos (by rw [← hca]; exact hc2)])
        clear hc2 hca hmk
        have hbq : HBx wr w.heap.size (w.heap.size + 1) (w.heap.size + 2) (.slice none 0 0) (.slice none 0 0) 0 := HW.out.2.1.keepR HL.out.2.2.2.2.2.1.2 (by have := HR.out.1; omega) (by have := HR.out.1; omega) (by have := HR.out.1; omega)
        have HQ := Lib.hid hbq
        have hcl := hbq.cells
        have b0 := hcl.1
        have b1 := hcl.2.1
        have b2 : wr.cell? ⟨w.heap.size + 1 + 1, 0, none⟩ = some (.int .i64 0) := hcl.2.2.1
        have z0 := hcl.2.2.2.1
        have z1 := hcl.2.2.2.2.1
        have z2 : wr.frozen? ⟨w.heap.size + 1 + 1, 0, none⟩ = false := hcl.2.2.2.2.2
        clear hbq hmf hcl
        go_wp2_with fail
        clear b0 b1 b2 z0 z1 z2
        obtain ⟨d1, d2⟩ := HQ.out.done (by omega) (by omega) (by omega) (.slice none 0 0) (.slice none 0 0) 2
        have hd := d1.cells
        exact hdr_ret rfl rfl rfl hd.1 hd.2.1 hd.2.2.1 (Or.inr ⟨HN.out, rfl, (HW.out.1.trans' HL.out.2.2.2.2.2.1.2).trans d2 (fun k hk h => by omega)⟩)
end Go.Proofs.YtbbcphloafmldaaGreat
