/- gunzip.member: its walk. -/
import Derived.Deep.RegionHeld3
import Derived.Test.YtbbcphloafmldaaGreatBnd14
import Derived.Laws.EntriesVeiled
import Derived.Test.YtbbcphloafmldaaGreatBnd24
import Derived.Test.YtbbcphloafmldaaGreatBnd22
import Derived.Test.YtbbcphloafmldaaGreatFrmGetZ
namespace Go.Proofs.YtbbcphloafmldaaGreat
open Go.RowKit
set_option linter.unusedVariables false

theorem inflF_fit {bits : List Bool} (h8 : 8 ∣ bits.length) : ∀ (k p : Nat) (out : List Nat) {q : Nat} {o : List Nat}, bits.length - p ≤ k → inflF bits p out = some (q, o) → p ≤ bits.length → p ≤ q ∧ q ≤ bits.length ∧ o.length + 258 * p ≤ out.length + 258 * q := by
  intro k
  induction k with
  | zero =>
    intro p out q o hk h hp
    rw [inflF_b1 (rd_none (by omega))] at h; cases h
  | succ k ih =>
    intro p out q o hk h hp
    cases h1 : rd bits p 1 with
    | none => rw [inflF_b1 h1] at h; cases h
    | some x =>
      obtain ⟨l, p1⟩ := x
      have k1 := rd_fit h1
      cases h2 : rd bits p1 2 with
      | none => rw [inflF_b2 h1 h2] at h; cases h
      | some y =>
        obtain ⟨m, p2⟩ := y
        have k2 := rd_fit h2
        cases h3 : kindF m bits p2 out with
        | none => rw [inflF_b3 h1 h2 h3] at h; cases h
        | some z =>
          obtain ⟨q1, o1⟩ := z
          have k3 := kindF_fit h3 k2.2.2 h8
          rw [inflF_go h1 h2 h3 h8] at h
          split at h
          · cases h; omega
          · have := ih q1 o1 (by omega) h (by omega)
            omega
def B8 (l : List Nat) : Prop := ∀ b ∈ l, b < 256
theorem copyL_lt {out : List Nat} (h : B8 out) (d : Nat) : ∀ n, B8 (copyL out d n)
  | 0 => h
  | n + 1 => fun b hb => by
    have ih := copyL_lt h d n
    rw [copyL, List.mem_append] at hb
    rcases hb with hb | hb
    · exact ih b hb
    · rw [List.mem_singleton] at hb
      rw [hb, List.getD]
      cases hk : (copyL out d n)[(copyL out d n).length - d]? with
      | none => simp
      | some x => exact ih x (List.mem_of_getElem? hk)
theorem symS_lt {L1 L2 : List Nat} {bits : List Bool} {p q : Nat} {out o : List Nat} (h : symS L1 L2 bits p out = .go q o) (hb : B8 out) : B8 o := by
  unfold symS at h
  split at h
  · cases h
  · split at h
    · cases h
      intro b hm
      rcases List.mem_append.1 hm with hm | hm
      · exact hb b hm
      · rw [List.mem_singleton] at hm; rw [hm]; assumption
    · split at h
      · cases h
      · split at h
        · cases h
        · split at h
          · cases h
          · split at h
            · cases h
            · split at h
              · cases h
              · split at h
                · cases h
                · split at h
                  · cases h
                  · cases h
                    exact copyL_lt hb _ _
theorem symF_lt {L1 L2 : List Nat} {bits : List Bool} : ∀ (k p : Nat) (out : List Nat) {q : Nat} {o : List Nat}, bits.length - p ≤ k → symF L1 L2 bits p out = some (q, o) → B8 out → B8 o := by
  intro k
  induction k with
  | zero =>
    intro p out q o hk h hb
    cases hs : symS L1 L2 bits p out with
    | bad => rw [symF_bad hs] at h; cases h
    | stop q1 => rw [symF_stop hs] at h; cases h; exact hb
    | go q1 o1 => have := symS_go hs; omega
  | succ k ih =>
    intro p out q o hk h hb
    cases hs : symS L1 L2 bits p out with
    | bad => rw [symF_bad hs] at h; cases h
    | stop q1 => rw [symF_stop hs] at h; cases h; exact hb
    | go q1 o1 =>
      rw [symF_go hs] at h
      have h1 := symS_go hs
      exact ih q1 o1 (by omega) h (symS_lt hs hb)
theorem kindF_lt {k : Nat} {bits : List Bool} {p : Nat} {out : List Nat} {q : Nat} {o : List Nat} (h : kindF k bits p out = some (q, o)) (hb : B8 out) : B8 o := by
  unfold kindF at h
  split at h
  · unfold storedF at h
    split at h
    · cases h
    · split at h
      · cases h
      · split at h
        · cases h
        · split at h
          · cases h
            intro b hm
            rcases List.mem_append.1 hm with hm | hm
            · exact hb b hm
            · obtain ⟨i, _, rfl⟩ := List.mem_map.1 hm
              rename_i q2 _ _ _ _ _
              refine Nat.lt_of_lt_of_le (numOf_low_lt _) ?_
              refine Nat.le_trans (Nat.pow_le_pow_right (by decide) (show _ ≤ 8 from ?_)) (by decide)
              unfold xAt; rw [List.length_take]; omega
          · cases h
  · split at h
    · exact symF_lt _ p out (Nat.le_refl _) h hb
    · split at h
      · unfold dynF at h
        split at h
        · cases h
        · exact symF_lt _ _ out (Nat.le_refl _) h hb
      · cases h
theorem inflF_lt {bits : List Bool} (h8 : 8 ∣ bits.length) : ∀ (k p : Nat) (out : List Nat) {q : Nat} {o : List Nat}, bits.length - p ≤ k → inflF bits p out = some (q, o) → p ≤ bits.length → B8 out → B8 o := by
  intro k
  induction k with
  | zero =>
    intro p out q o hk h hp hb
    rw [inflF_b1 (rd_none (by omega))] at h; cases h
  | succ k ih =>
    intro p out q o hk h hp hb
    cases h1 : rd bits p 1 with
    | none => rw [inflF_b1 h1] at h; cases h
    | some x =>
      obtain ⟨l, p1⟩ := x
      have k1 := rd_fit h1
      cases h2 : rd bits p1 2 with
      | none => rw [inflF_b2 h1 h2] at h; cases h
      | some y =>
        obtain ⟨m, p2⟩ := y
        have k2 := rd_fit h2
        cases h3 : kindF m bits p2 out with
        | none => rw [inflF_b3 h1 h2 h3] at h; cases h
        | some z =>
          obtain ⟨q1, o1⟩ := z
          have k3 := kindF_fit h3 k2.2.2 h8
          have k4 := kindF_lt h3 hb
          rw [inflF_go h1 h2 h3 h8] at h
          split at h
          · cases h; exact k4
          · exact ih q1 o1 (by omega) h (by omega) k4
theorem unwanted_b {l : List Oper} {ev : Operand → Value} {o : Oper} {g d : Nat} {b c : Bool} (hne : c ≠ b) (hg : o.guard = some (g, b)) (hd : (l[g]?).bind (·.dst) = some d) (he : ev (.tmp d) = .bool c) : Region.wanted o (saysOf l ev) = false := by
  simp [Region.wanted, hg, saysOf, hd, he, hne]
theorem unwanted_u {l : List Oper} {ev : Operand → Value} {o : Oper} {g d : Nat} {b : Bool} (hg : o.guard = some (g, b)) (hd : (l[g]?).bind (·.dst) = some d) (he : ev (.tmp d) = undef) : Region.wanted o (saysOf l ev) = false := by
  simp [Region.wanted, hg, saysOf, hd, he, undef]
theorem Obl.off {P : Program} {l : List Oper} {I : World → Prop} {Φ : Nat → Value → World → Prop} {o : Oper}
    (h : ∀ (ev : Operand → Value) (w : World), Know Φ ev w (reads l o) → Region.wanted o (saysOf l ev) = false) (hv : ∀ d, o.dst = Option.some d → ∀ w, Φ d undef w) : Obl P l I Φ o := by
  intro ev w _ hc hf hg hev
  rw [if_neg (by rw [h ev w hev]; decide)]
  exact fun d hd => hv d hd w
/-- block p holds a flow. -/
def FB (w : World) (p : Nat) (v : Value) (a b : Int) (c : Bool) : Prop := w.heap[p]? = some (.cells #[v, .int .i64 a, .int .i64 b, .bool c] 24 (0, 0))
theorem FB.cells {w : World} {p : Nat} {v : Value} {a b : Int} {c : Bool} (h : FB w p v a b c) :
    (w.cell? ⟨p, 0, none⟩ = some v ∧ w.cell? ⟨p, 1, none⟩ = some (.int .i64 a) ∧ w.cell? ⟨p, 2, none⟩ = some (.int .i64 b) ∧ w.cell? ⟨p, 3, none⟩ = some (.bool c)) ∧ (∀ i, w.frozen? ⟨p, i, none⟩ = false) := by
  have h' : w.heap[p]? = _ := h
  exact ⟨⟨by simp [World.cell?, h'], by simp [World.cell?, h'], by simp [World.cell?, h'], by simp [World.cell?, h']⟩, fun i => Lib.frozen_of_heap h' _⟩
theorem FB.keep {S : Nat → Prop} {w w' : World} {p : Nat} {v : Value} {a b : Int} {c : Bool} (h : FB w p v a b c) (ht : Touch S w w') (h1 : ¬ S p) : FB w' p v a b c := ht.keep h h1
theorem FB.set {w : World} {p : Nat} {v : Value} {a b : Int} {c : Bool} (h : FB w p v a b c) (v' : Value) (a' b' : Int) (c' : Bool) :
    FB ((((w.setCell ⟨p, 0, none⟩ v').setCell ⟨p, 1, none⟩ (.int .i64 a')).setCell ⟨p, 2, none⟩ (.int .i64 b')).setCell ⟨p, 3, none⟩ (.bool c')) p v' a' b' c' ∧ Touch (fun k => k = p) w ((((w.setCell ⟨p, 0, none⟩ v').setCell ⟨p, 1, none⟩ (.int .i64 a')).setCell ⟨p, 2, none⟩ (.int .i64 b')).setCell ⟨p, 3, none⟩ (.bool c')) := by
  have a1 := heap_setCell_at (a := ⟨p, 0, none⟩) (u := v') h rfl
  have a2 := heap_setCell_at (a := ⟨p, 1, none⟩) (u := .int .i64 a') a1 rfl
  have a3 := heap_setCell_at (a := ⟨p, 2, none⟩) (u := .int .i64 b') a2 rfl
  have a4 := heap_setCell_at (a := ⟨p, 3, none⟩) (u := .bool c') a3 rfl
  exact ⟨a4.trans (show _ = some (Obj.cells #[v', .int .i64 a', .int .i64 b', .bool c'] 24 (0, 0)) by simp), ((((Touch.refl (fun k => k = p) w).setCell (Or.inl rfl) _).setCell (Or.inl rfl) _).setCell (Or.inl rfl) _).setCell (Or.inl rfl) _⟩
theorem FB.new (w : World) (v : Value) (a b : Int) (c : Bool) : FB (w.alloc (.cells #[v, .int .i64 a, .int .i64 b, .bool c] 24)) w.heap.size v a b c := heap_alloc_new _ _
set_option maxRecDepth 100000 in
theorem member_ret {R : Ending → World → Prop} {wr : World} {p : Nat} {v : Value} {a b : Int} {c : Bool} {x : Int} {tmps : Array Value} (t4 : tmps[4]? = some (.pointer (some ⟨p, 0, none⟩))) (t5 : tmps[5]? = some (.int .i64 x))
    (hb : FB wr p v a b c) (hR : R (.returned (.tuple #[.agg #[v, .int .i64 a, .int .i64 b, .bool c], .int .i64 x])) wr) : bodyPost Tryz.prog Tryz.f23 R Exit.ret { tmps := tmps, defers := [] } wr := by
  obtain ⟨⟨c0, c1, c2, c3⟩, _⟩ := hb.cells
  refine bodyPost_ret (v := .tuple #[.agg #[v, .int .i64 a, .int .i64 b, .bool c], .int .i64 x]) ?_ rfl hR
  simp [results, Tryz.results23, go_sem, t4, t5, c0, c1, c2, c3]
/-- what a member's reading answers. -/
def MemR (w : World) (g : List Nat) (keep : Nat) (e : Ending) (w' : World) : Prop :=
  (∃ full u wr ov oo, memF g keep = some (full, u, wr) ∧ e = .returned (.tuple #[.agg #[ov, .int .i64 full.length, .int .i64 u, .bool wr], .int .i64 0]) ∧ Owns w' 5 1 ov oo (full.take keep).length (u8s (full.take keep)) ∧ (∀ k, oo = some k → w.heap.size ≤ k) ∧ Ext w w') ∨
  (memF g keep = none ∧ e = .returned (.tuple #[.agg #[.slice none 0 0, .int .i64 0, .int .i64 0, .bool false], .int .i64 2]) ∧ Ext w w')
theorem viewL_slice {w : World} {g o n cap : Nat} {M : List Nat} (h : ViewL w (.slice (some ⟨g, o, none⟩) n cap) (u8s M)) (hn : n = M.length) (k m c : Nat) (hk : k + m ≤ n) (hc : m ≤ c) (L : List Nat) (hL : L = (M.drop k).take m) : ViewL w (.slice (some ⟨g, o + k, none⟩) m c) (u8s L) := by
  have hl : L.length = m := by rw [hL, List.length_take, List.length_drop]; omega
  refine ⟨some ⟨g, o + k, none⟩, c, by rw [length_u8s, hl], by rw [length_u8s, hl]; exact hc, (fun h => by cases h), fun h0 => ⟨g, o + k, rfl, fun j u hu => ?_⟩⟩
  rw [length_u8s, hl] at h0
  obtain ⟨b2, o2, e, hcell⟩ := rep_cells h (by rw [length_u8s]; omega)
  cases e
  have hj : j < m := by have := (List.getElem?_eq_some_iff.1 hu).1; rw [length_u8s, hl] at this; exact this
  have := hcell (k + j) u (by
    rw [← hu, hL]
    simp [u8s, hj, List.getElem?_drop])
  rw [← Nat.add_assoc] at this
  exact this
theorem viewL_cap {w : World} {ao : Option Addr} {n cap : Nat} {xs : List Value} (h : ViewL w (.slice ao n cap) xs) : n ≤ cap := by
  obtain ⟨_, _, e, h1, _⟩ := h
  cases e; exact h1
set_option maxRecDepth 100000 in
set_option maxHeartbeats 4000000 in
theorem gun_member (v : Value) (g : List Nat) (keep : Nat) (w : World) (hv : ViewL w v (u8s g)) (hl : g.length ≤ 2 ^ 17) (hb : ∀ b ∈ g, b < 256) (hk : keep ≤ 2 ^ 62) :
    Calls Tryz.prog 23 #[v, .int .i64 keep] w (MemR w g keep) := by
  obtain ⟨ao, cap, rfl⟩ := hv.shape
  rw [length_u8s] at hv ⊢
  have HV := Lib.hid (show ViewL w (.slice ao g.length cap) (u8s g) ∧ g.length ≤ 2 ^ 17 ∧ (∀ b ∈ g, b < 256) ∧ keep ≤ 2 ^ 62 from ⟨hv, hl, hb, hk⟩)
  obtain ⟨G, hG⟩ : ∃ G, G = g.length := ⟨_, rfl⟩
  rw [← hG] at HV ⊢
  have HG := Lib.hid hG
  clear hv hl hb hk hG
  go_enter Tryz.func23, Tryz.ntmps23
  go_wp2_with fail
  obtain ⟨w0, hw0⟩ : ∃ w0, w0 = w.alloc (.cells #[.slice none 0 0, .int .i64 0, .int .i64 0, .bool false] 24) := ⟨_, rfl⟩
  have hx0 : Ext w w0 := by rw [hw0]; exact (Ext.refl w).alloc _
  have hb0 : FB w0 w.heap.size (.slice none 0 0) 0 0 false := by rw [hw0]; exact FB.new _ _ _ _ _
  have H0 := Lib.hid (And.intro hx0 hb0)
  rw [← hw0]
  clear hx0 hb0 hw0
  refine (frm_get (.slice ao G cap) g w0 (HV.out.1.ext H0.out.1) (by have := HV.out.2.1; have := HG.out; omega) HV.out.2.2.1).mono ?_
  intro e w1 hgot
  unfold GotH at hgot
  cases hgh : getH g with
  | none =>
    rw [hgh] at hgot
    obtain ⟨rfl, hx⟩ := hgot
    have HN := Lib.hid (show memF g keep = none from by rw [memF, hgh])
    have HX := Lib.hid hx
    have hfb := H0.out.2.keep hx (fun f => f)
    have HFB := Lib.hid hfb
    obtain ⟨⟨c0, c1, c2, c3⟩, f0⟩ := hfb.cells
    have f00 := f0 0
    have f01 := f0 1
    have f02 := f0 2
    have f03 := f0 3
    have hlt := block_lt hfb
    simp only [hcells, hdZ]
    clear hx hfb hgh f0
    go_wp2_with fail
    obtain ⟨d1, d2⟩ := HFB.out.set (.slice none 0 0) 0 0 false
    refine member_ret rfl rfl (d1.keep ((Ext.refl _).alloc _) (fun f => f)) (Or.inr ⟨HN.out, rfl, ?_⟩)
    exact ((H0.out.1.trans HX.out).touch d2 (fun k hk e => by omega)).alloc _
  | some r =>
    obtain ⟨h, n, wr⟩ := r
    rw [hgh] at hgot
    obtain ⟨ev, og, rfl, hev, _, hx⟩ := hgot
    obtain ⟨ea, ec, rfl⟩ := hev.shape
    clear hev
    have HI := Lib.hid (getH_inv HV.out.2.2.1 hgh)
    have hn : n ≤ G := by have := HI.out.le; have := HG.out; omega
    have h10 : 10 ≤ g.length := by
      have h2 := hgh
      rw [getH] at h2
      split at h2
      · rename_i hc; exact hc.1
      · cases h2
    obtain ⟨b, o, rfl, _⟩ := rep_cells HV.out.1 (by rw [length_u8s]; omega)
    have hGc : G ≤ cap := viewL_cap HV.out.1
    have hfb := H0.out.2.keep hx (fun f => f)
    have HFB := Lib.hid (And.intro hfb (H0.out.1.trans hx))
    have HGH := Lib.hid hgh
    have hlt := block_lt hfb
    have hnz : (n : Int) ≤ (G : Int) := by omega
    have hGz : (G : Int) ≤ (cap : Int) := by omega
    have hG17 : (G : Int) ≤ 131072 := by have := HV.out.2.1; have := HG.out; omega
    have HNG := Lib.hid (show n ≤ G ∧ G ≤ cap ∧ 10 ≤ G from ⟨hn, hGc, by have := HG.out; omega⟩)
    simp only [hcells]
    obtain ⟨w2, hw2⟩ : ∃ w2, w2 = w1.alloc (.cells #[.bool h.text, .int .u32 h.time, .int .u8 h.xfl, .int .u8 h.os, .slice ea h.extra.length ec, .string h.name, .string h.comment, .int .u8 h.has, .bool h.sum] 34) := ⟨_, rfl⟩
    have hx2 : Ext w1 w2 := by rw [hw2]; exact (Ext.refl _).alloc _
    have H2 := Lib.hid (show Ext w1 w2 ∧ Ext w0 w2 from ⟨hx2, hx.trans hx2⟩)
    by_cases hcn : cap = n
    · have hGn : G = n := by omega
      have HVN := Lib.hid (show Vw w2 (.slice (some ⟨b, o, none⟩) (G - n) 0) [] from by
        have hvl : ViewL w2 (.slice (some ⟨b, o, none⟩) (G - n) 0) (u8s []) := ⟨some ⟨b, o, none⟩, 0, by rw [hGn, Nat.sub_self]; rfl, Nat.le_refl _, (fun h => by cases h), fun h => absurd h (by decide)⟩
        exact ⟨viewL_viewI hvl, hvl⟩)
      have HINF := Lib.hid (inflate _ [] keep w2 HVN.out (by decide) (fun b hb => by cases hb) HV.out.2.2.2)
      rw [show inflF (ofBits false []) 0 [] = none from inflF_b1 (rd_none (by rw [length_ofBits]; decide))] at HINF
      have HDR := Lib.hid (show inflF (ofBits false (g.drop n)) 0 [] = none from by
        rw [show g.drop n = [] from List.drop_of_length_le (by have := HG.out; omega)]
        exact inflF_b1 (rd_none (by rw [length_ofBits]; decide)))
      clear hx hgh hfb hGc hn h10 hx2 hGn
      go_wp2_with fail
      rw [← hw2]
      refine HINF.out.mono ?_
      rintro e w3 (⟨q, full, ov, oo, h1, _⟩ | ⟨_, rfl, hx3⟩)
      · cases h1
      have HN := Lib.hid (show memF g keep = none from by rw [memF, HGH.out]; simp only; rw [HDR.out])
      have hfb2 := HFB.out.1.keep (H2.out.1.trans hx3) (fun f => f)
      have HFB2 := Lib.hid (And.intro hfb2 (HFB.out.2.trans (H2.out.1.trans hx3)))
      obtain ⟨⟨c0, c1, c2, c3⟩, f0⟩ := hfb2.cells
      have f00 := f0 0
      have f01 := f0 1
      have f02 := f0 2
      have f03 := f0 3
      have hlt2 := block_lt hfb2
      clear hfb2 f0
      go_wp2_with fail
      obtain ⟨d1, d2⟩ := HFB2.out.1.set (.slice none 0 0) 0 0 false
      refine member_ret rfl rfl (d1.keep ((Ext.refl _).alloc _) (fun f => f)) (Or.inr ⟨HN.out, rfl, ?_⟩)
      exact (HFB2.out.2.touch d2 (fun k hk e => by omega)).alloc _
    · have HVN := Lib.hid (show Vw w2 (.slice (some ⟨b, o + n, none⟩) (G - n) (cap - n)) (g.drop n) from by
        have hvl := viewL_slice (HV.out.1.ext (H0.out.1.trans H2.out.2)) HG.out n (G - n) (cap - n) (by omega) (by omega) (g.drop n) (by rw [List.take_of_length_le]; rw [List.length_drop]; have := HG.out; omega)
        exact ⟨viewL_viewI hvl, hvl⟩)
      have HINF := Lib.hid (inflate _ (g.drop n) keep w2 HVN.out (by rw [List.length_drop]; have := HV.out.2.1; have := HG.out; omega) (fun b hb => HV.out.2.2.1 b (List.mem_of_mem_drop hb)) HV.out.2.2.2)
      clear hx hgh hfb hGc hn h10 hx2
      go_wp2_with fail
      rw [← hw2]
      refine HINF.out.mono ?_
      rintro e w3 (⟨q, full, ov, oo, hinf, rfl, how, hnew, hx3⟩ | ⟨hinf, rfl, hx3⟩)
      rotate_left
      · have HN := Lib.hid (show memF g keep = none from by rw [memF, HGH.out]; simp only; rw [hinf])
        have hfb2 := HFB.out.1.keep (H2.out.1.trans hx3) (fun f => f)
        have HFB2 := Lib.hid (And.intro hfb2 (HFB.out.2.trans (H2.out.1.trans hx3)))
        obtain ⟨⟨c0, c1, c2, c3⟩, f0⟩ := hfb2.cells
        have f00 := f0 0
        have f01 := f0 1
        have f02 := f0 2
        have f03 := f0 3
        have hlt2 := block_lt hfb2
        clear hfb2 f0
        go_wp2_with fail
        obtain ⟨d1, d2⟩ := HFB2.out.1.set (.slice none 0 0) 0 0 false
        refine member_ret rfl rfl (d1.keep ((Ext.refl _).alloc _) (fun f => f)) (Or.inr ⟨HN.out, rfl, ?_⟩)
        exact (HFB2.out.2.touch d2 (fun k hk e => by omega)).alloc _
      have hif := inflF_fit (bits := ofBits false (g.drop n)) (by rw [length_ofBits]; exact ⟨_, rfl⟩) _ 0 [] (Nat.le_refl _) hinf (Nat.zero_le _)
      have hil := inflF_lt (bits := ofBits false (g.drop n)) (by rw [length_ofBits]; exact ⟨_, rfl⟩) _ 0 [] (Nat.le_refl _) hinf (Nat.zero_le _) (fun b hb => by cases hb)
      rw [length_ofBits, List.length_drop] at hif
      have hvg := (HV.out.1.ext ((H0.out.1.trans H2.out.2).trans hx3))
      obtain ⟨oa, oc, rfl⟩ := how.shape
      obtain ⟨N, hN⟩ : ∃ N, N = full.length := ⟨_, rfl⟩
      obtain ⟨M, hM⟩ : ∃ M, M = (full.take keep).length := ⟨_, rfl⟩
      obtain ⟨U, hU⟩ : ∃ U, U = (q + 7) / 8 := ⟨_, rfl⟩
      rw [← hM] at how ⊢
      rw [← hN, ← hU]
      have hUb : n + U ≤ G := by have := HNG.out; have := HG.out; omega
      have hNb : N ≤ 2 ^ 29 := by have := HV.out.2.1; have := HG.out; simp at hif; omega
      have hMF : memF g keep = if G < n + U + 8 then none else some (full, n + U + 8, wr || (decide (N ≤ keep) && !decide ((g.drop (n + U)).take 8 = tailL full))) := by
        rw [memF, HGH.out]; simp only; rw [hinf]; simp only
        rw [← hU, ← HG.out, ← hN]
      have H3 := Lib.hid (show Owns w3 5 1 (.slice oa M oc) oo M (u8s (full.take keep)) ∧ (∀ k, oo = some k → w2.heap.size ≤ k) ∧ Ext w2 w3 ∧ N = full.length ∧ M = (full.take keep).length ∧ B8 full ∧ n + U ≤ G ∧ N ≤ 2 ^ 29 from ⟨how, hnew, hx3, hN, hM, hil, hUb, hNb⟩)
      have HMF := Lib.hid hMF
      have hfb3 := HFB.out.1.keep (H2.out.1.trans hx3) (fun f => f)
      have H3F := Lib.hid (And.intro hfb3 (HFB.out.2.trans (H2.out.1.trans hx3)))
      have HVG := Lib.hid hvg
      have hUz : (U : Int) ≤ 131072 := by omega
      have hNz : (N : Int) ≤ 536870912 := by omega
      obtain ⟨R1, hR1⟩ : ∃ R1, R1 = G - n := ⟨_, rfl⟩
      obtain ⟨R2, hR2⟩ : ∃ R2, R2 = G - n - U := ⟨_, rfl⟩
      have wr1 : IntKind.i64.wrap ((G : Int) - (n : Int)) = (R1 : Int) := by rw [show (G : Int) - (n : Int) = (R1 : Int) by omega]; exact IntWalk.i64_in _ (by omega)
      have wr2 : IntKind.i64.wrap ((R1 : Int) - (U : Int)) = (R2 : Int) := by rw [show (R1 : Int) - (U : Int) = (R2 : Int) by omega]; exact IntWalk.i64_in _ (by omega)
      have hR2b : (R2 : Int) ≤ 131072 := by omega
      have HR2 := Lib.hid (show R2 = G - n - U from hR2)
      obtain ⟨F, hF⟩ : ∃ F, F = w3.heap.size := ⟨_, rfl⟩
      by_cases h8 : R2 < 8
      · have h8z : (R2 : Int) < 8 := by omega
        have HN := Lib.hid (show memF g keep = none from by rw [HMF.out, if_pos (by omega)])
        obtain ⟨⟨c0, c1, c2, c3⟩, f0⟩ := hfb3.cells
        have f00 := f0 0
        have f01 := f0 1
        have f02 := f0 2
        have f03 := f0 3
        have hlt3 := block_lt hfb3
        clear hinf how hnew hx3 hif hil hvg hN hM hU hUb hNb hMF hfb3 f0 hR1 hR2 hcn h8 hF
        go_wp2_with fail
        obtain ⟨d1, d2⟩ := H3F.out.1.set (.slice none 0 0) 0 0 false
        refine member_ret rfl rfl (d1.keep ((Ext.refl _).alloc _) (fun f => f)) (Or.inr ⟨HN.out, rfl, ?_⟩)
        exact (H3F.out.2.touch d2 (fun k hk e => by omega)).alloc _
      · have h8z : ¬ (R2 : Int) < 8 := by omega
        obtain ⟨E1, hE1⟩ : ∃ E1, E1 = n + U := ⟨_, rfl⟩
        obtain ⟨E, hE⟩ : ∃ E, E = n + U + 8 := ⟨_, rfl⟩
        have hEG : E ≤ G := by omega
        have wE1 : IntKind.i64.wrap ((n : Int) + (U : Int)) = (E1 : Int) := by rw [show (n : Int) + (U : Int) = (E1 : Int) by omega]; exact IntWalk.i64_in _ (by omega)
        have wE : IntKind.i64.wrap ((E1 : Int) + 8) = (E : Int) := by rw [show (E1 : Int) + 8 = (E : Int) by omega]; exact IntWalk.i64_in _ (by omega)
        have wE8 : IntKind.i64.wrap ((E : Int) - 8) = (E1 : Int) := by rw [show (E : Int) - 8 = (E1 : Int) by omega]; exact IntWalk.i64_in _ (by omega)
        have HMS := Lib.hid (show memF g keep = some (full, E, wr || (decide (N ≤ keep) && !decide ((g.drop E1).take 8 = tailL full))) from by rw [HMF.out, if_neg (by omega), hE, hE1])
        obtain ⟨w4, hw4⟩ : ∃ w4, w4 = w3.alloc (.cells #[.slice oa M oc, .int .i64 N, .int .i64 U, .bool false] 24) := ⟨_, rfl⟩
        have hx4 : Ext w3 w4 := by rw [hw4]; exact (Ext.refl _).alloc _
        have hfF : FB w4 F (.slice oa M oc) N U false := by rw [hw4, hF]; exact FB.new _ _ _ _ _
        have hpF : w.heap.size < F := by rw [hF]; exact block_lt hfb3
        have hooF : ∀ k, oo = some k → k < F ∧ w.heap.size < k := fun k e => ⟨by rw [hF]; exact how.lt k e, by have := hnew k e; have h2 := H2.out.1.size; have := block_lt HFB.out.1; omega⟩
        have H4 := Lib.hid (show Ext w w4 ∧ FB w4 F (.slice oa M oc) N U false ∧ FB w4 w.heap.size (.slice none 0 0) 0 0 false ∧ w.heap.size < F ∧ (∀ k, oo = some k → k < F ∧ w.heap.size < k) ∧ Owns w4 5 1 (.slice oa M oc) oo M (u8s (full.take keep)) ∧ ViewL w4 (.slice (some ⟨b, o, none⟩) G cap) (u8s g) from ⟨H3F.out.2.trans hx4, hfF, hfb3.keep hx4 (fun f => f), hpF, hooF, how.ext' hx4, hvg.ext hx4⟩)
        have HFIN := Lib.hid (show ∀ (wv : Bool) (w5 wx : World) (tmps : Array Value), wv = (wr || (decide (N ≤ keep) && !decide ((g.drop E1).take 8 = tailL full))) → Ext w4 w5 → Touch (fun k => k = F) w5 wx → tmps[4]? = some (.pointer (some ⟨w.heap.size, 0, none⟩)) → tmps[5]? = some (.int .i64 0) →
            bodyPost Tryz.prog Tryz.f23 (MemR w g keep) Exit.ret { tmps := tmps, defers := [] } ((((wx.setCell ⟨w.heap.size, 0, none⟩ (.slice oa M oc)).setCell ⟨w.heap.size, 1, none⟩ (.int .i64 N)).setCell ⟨w.heap.size, 2, none⟩ (.int .i64 E)).setCell ⟨w.heap.size, 3, none⟩ (.bool wv)) from fun wv w5 wx tmps hwv hx5 ht t4 t5 => by
          have h4 := H4.out
          obtain ⟨d1, d2⟩ := ((h4.2.2.1.keep hx5 (fun f => f)).keep ht (by omega)).set (.slice oa M oc) N E wv
          refine member_ret t4 t5 d1 (Or.inl ⟨full, E, wv, .slice oa M oc, oo, by rw [HMS.out, hwv], by rw [H3.out.2.2.2.1], ?_, fun k e => by have := h4.2.2.2.2.1 k e; omega, ((h4.1.trans hx5).touch ht (fun k hk e => by omega)).touch d2 (fun k hk e => by omega)⟩)
          rw [← H3.out.2.2.2.2.1]
          exact ((h4.2.2.2.2.2.1.ext' hx5).keep ht (fun k e h => by have := h4.2.2.2.2.1 k e; omega)).keep d2 (fun k e h => by have := h4.2.2.2.2.1 k e; omega))
        have HENDS := Lib.hid (show N ≤ keep → ∀ wx, Ext w4 wx → Calls Tryz.prog 38 #[.slice oa M oc, .slice (some ⟨b, o + E1, none⟩) 8 (cap - E1)] wx fun e w' => e = .returned (.bool (decide ((g.drop E1).take 8 = tailL full))) ∧ Ext wx w' from fun hNk wx hx => by
          have h4 := H4.out
          have h3 := H3.out
          have hvw := (h4.2.2.2.2.2.1.ext' hx).viewL
          rw [List.take_of_length_le (by omega)] at hvw
          exact frm_ends _ _ full ((g.drop E1).take 8) wx hvw (viewL_slice (h4.2.2.2.2.2.2.ext hx) HG.out E1 8 (cap - E1) (by omega) (by have := HNG.out; omega) _ rfl) h3.2.2.2.2.2.1 (fun b hb => HV.out.2.2.1 b (List.mem_of_mem_drop (List.mem_of_mem_take hb))) (by omega))
        obtain ⟨⟨a0, a1, a2, a3⟩, az⟩ := hfF.cells
        have az2 := az 2
        have az3 := az 3
        obtain ⟨⟨c0, c1, c2, c3⟩, f0⟩ := H4.out.2.2.1.cells
        have f00 := f0 0
        have f01 := f0 1
        have f02 := f0 2
        have f03 := f0 3
        have hFne : F ≠ w.heap.size := by omega
        have hFne2 : w.heap.size ≠ F := by omega
        have hEz : (E : Int) ≤ (G : Int) := by omega
        have hE1z : (E1 : Int) ≤ (E : Int) := by omega
        have hEc : (E : Int) ≤ (cap : Int) := by have := HNG.out; omega
        have hE1c : ¬ cap = E1 := by have := HNG.out; omega
        have HEE := Lib.hid (show E = E1 + 8 by omega)
        have hw4' : w3.alloc (.cells #[.slice oa M oc, .int .i64 N, .int .i64 U, .bool false] 24) = w4 := hw4.symm
        have HW4 := Lib.hid (And.intro hw4' hF)
        clear hinf how hnew hx3 hif hil hvg hN hM hU hUb hNb hMF hfb3 f0 hR1 hR2 hcn h8 hE1 hE hEG hx4 hfF hpF hooF az hw4 hw4' hF a0 a1 a2 a3 az2 az3
        go_wp2_with fail
        rw [HW4.out.1, ← HW4.out.2]
        obtain ⟨⟨a0, a1, a2, a3⟩, az⟩ := H4.out.2.1.cells
        have az2 := az 2
        have az3 := az 3
        clear az
        cases wr with
        | true =>
          have hst : Stab (Phi [(8, .bool true), (10, .pointer (some ⟨F, 0, none⟩)), (1, .int .i64 keep), (0, .slice (some ⟨b, o, none⟩) G cap), (11, .int .i64 E), (51, .bool true), (52, .bool true), (53, undef), (54, undef), (55, undef), (56, undef), (57, undef), (58, undef), (59, undef), (60, undef), (61, undef), (62, undef), (63, undef), (64, undef), (65, undef), (66, undef), (67, undef), (68, .bool true), (69, .pointer (some ⟨F, 3, none⟩))] []) := Phi.stable (fun x hx => by cases hx)
          refine wp_region_last 73 [8, 10, 1, 0, 11] [51, 52, 53, 54, 55, 56, 57, 58, 59, 60, 61, 62, 63, 64, 65, 66, 67, 68, 69] 19 (by kernel_rfl) _ hst (by kernel_rfl) rfl rfl (fun _ => ⟨rfl, rfl, rfl, rfl, rfl, trivial⟩) ⟨fun _ => ?_, fun _ => ?_, fun _ => ?_, fun _ => ?_, fun _ => ?_, fun _ => ?_, fun _ => ?_, fun _ => ?_, fun _ => ?_, fun _ => ?_, fun _ => ?_, fun _ => ?_, fun _ => ?_, fun _ => ?_, fun _ => ?_, fun _ => ?_, fun _ => ?_, fun _ => ?_, fun _ => ?_, fun h => absurd rfl h, trivial⟩ ?fin
          · refine Obl.val (.bool true) (fun ev w1 hc hf hg hev => ?_) (fun d hd w1 => by cases hd; rfl)
            have h0 : ev (.tmp 8) = .bool true := hev.1
            exact ⟨rfl, by (clear hev; go_simp)⟩
          · refine Obl.val (.bool true) (fun ev w1 hc hf hg hev => ?_) (fun d hd w1 => by cases hd; rfl)
            have h0 : ev (.tmp 51) = .bool true := hev.1
            exact ⟨rfl, by (clear hev; go_simp)⟩
          · refine Obl.off (fun ev w1 hev => ?_) (fun d hd w1 => by cases hd; rfl)
            have h0 : ev (.tmp 52) = .bool true := hev.1
            exact unwanted_b (by decide) rfl rfl h0
          · refine Obl.off (fun ev w1 hev => ?_) (fun d hd w1 => by cases hd; rfl)
            have h0 : ev (.tmp 52) = .bool true := hev.1
            exact unwanted_b (by decide) rfl rfl h0
          · refine Obl.off (fun ev w1 hev => ?_) (fun d hd w1 => by cases hd; rfl)
            have h0 : ev (.tmp 52) = .bool true := hev.1
            exact unwanted_b (by decide) rfl rfl h0
          · refine Obl.off (fun ev w1 hev => ?_) (fun d hd w1 => by cases hd; rfl)
            have h0 : ev (.tmp 52) = .bool true := hev.1
            exact unwanted_b (by decide) rfl rfl h0
          · refine Obl.off (fun ev w1 hev => ?_) (fun d hd w1 => by cases hd; rfl)
            have h0 : ev (.tmp 52) = .bool true := hev.1
            exact unwanted_b (by decide) rfl rfl h0
          · refine Obl.off (fun ev w1 hev => ?_) (fun d hd w1 => by cases hd; rfl)
            have h0 : ev (.tmp 57) = undef := hev.1
            exact unwanted_u rfl rfl h0
          · refine Obl.off (fun ev w1 hev => ?_) (fun d hd w1 => by cases hd; rfl)
            have h0 : ev (.tmp 57) = undef := hev.1
            exact unwanted_u rfl rfl h0
          · refine Obl.off (fun ev w1 hev => ?_) (fun d hd w1 => by cases hd; rfl)
            have h0 : ev (.tmp 57) = undef := hev.1
            exact unwanted_u rfl rfl h0
          · refine Obl.off (fun ev w1 hev => ?_) (fun d hd w1 => by cases hd; rfl)
            have h0 : ev (.tmp 57) = undef := hev.1
            exact unwanted_u rfl rfl h0
          · refine Obl.off (fun ev w1 hev => ?_) (fun d hd w1 => by cases hd; rfl)
            have h0 : ev (.tmp 57) = undef := hev.1
            exact unwanted_u rfl rfl h0
          · refine Obl.off (fun ev w1 hev => ?_) (fun d hd w1 => by cases hd; rfl)
            have h0 : ev (.tmp 57) = undef := hev.1
            exact unwanted_u rfl rfl h0
          · refine Obl.off (fun ev w1 hev => ?_) (fun d hd w1 => by cases hd; rfl)
            have h0 : ev (.tmp 57) = undef := hev.1
            exact unwanted_u rfl rfl h0
          · refine Obl.off (fun ev w1 hev => ?_) (fun d hd w1 => by cases hd; rfl)
            have h0 : ev (.tmp 57) = undef := hev.1
            exact unwanted_u rfl rfl h0
          · refine Obl.off (fun ev w1 hev => ?_) (fun d hd w1 => by cases hd; rfl)
            have h0 : ev (.tmp 57) = undef := hev.1
            exact unwanted_u rfl rfl h0
          · refine Obl.off (fun ev w1 hev => ?_) (fun d hd w1 => by cases hd; rfl)
            have h0 : ev (.tmp 52) = .bool true := hev.1
            exact unwanted_b (by decide) rfl rfl h0
          · refine Obl.val (.bool true) (fun ev w1 hc hf hg hev => ?_) (fun d hd w1 => by cases hd; rfl)
            have h0 : ev (.tmp 52) = .bool true := hev.1; have h1 : ev (.tmp 67) = undef := hev.2.1
            exact ⟨rfl, by (clear hev; go_simp)⟩
          · refine Obl.val (.pointer (some ⟨F, 3, none⟩)) (fun ev w1 hc hf hg hev => ?_) (fun d hd w1 => by cases hd; rfl)
            have h0 : ev (.tmp 10) = .pointer (some ⟨F, 0, none⟩) := hev.1
            exact ⟨rfl, by (clear hev; go_simp)⟩
          case fin =>
            intro vs w5 o ho he5 hf
            obtain rfl : _ = o := Option.some.inj ho
            clear ho
            have e51 : vs 51 = .bool true := hf 51 (by decide)
            have e52 : vs 52 = .bool true := hf 52 (by decide)
            have e53 : vs 53 = undef := hf 53 (by decide)
            have e54 : vs 54 = undef := hf 54 (by decide)
            have e55 : vs 55 = undef := hf 55 (by decide)
            have e56 : vs 56 = undef := hf 56 (by decide)
            have e57 : vs 57 = undef := hf 57 (by decide)
            have e58 : vs 58 = undef := hf 58 (by decide)
            have e59 : vs 59 = undef := hf 59 (by decide)
            have e60 : vs 60 = undef := hf 60 (by decide)
            have e61 : vs 61 = undef := hf 61 (by decide)
            have e62 : vs 62 = undef := hf 62 (by decide)
            have e63 : vs 63 = undef := hf 63 (by decide)
            have e64 : vs 64 = undef := hf 64 (by decide)
            have e65 : vs 65 = undef := hf 65 (by decide)
            have e66 : vs 66 = undef := hf 66 (by decide)
            have e67 : vs 67 = undef := hf 67 (by decide)
            have e68 : vs 68 = .bool true := hf 68 (by decide)
            have e69 : vs 69 = .pointer (some ⟨F, 3, none⟩) := hf 69 (by decide)
            simp only [List.foldl_cons, List.foldl_nil]
            rw [e51, e52, e53, e54, e55, e56, e57, e58, e59, e60, e61, e62, e63, e64, e65, e66, e67, e68, e69]
            simp only [Act.put, List.setIfInBounds_toArray, List.set_cons_succ, List.set_cons_zero]
            clear hf e51 e52 e53 e54 e55 e56 e57 e58 e59 e60 e61 e62 e63 e64 e65 e66 e67 e68 e69
            have hx5 : Ext w4 w5 := he5
            have hf5 := H4.out.2.1.keep hx5 (fun f => f)
            have hp5 := H4.out.2.2.1.keep hx5 (fun f => f)
            have hc5 := hf5.cells
            have hd5 := hp5.cells
            have q3 := hc5.1.2.2.2
            have z3 := hc5.2 3
            have q2 := hc5.1.2.2.1
            have z2 := hc5.2 2
            have q0 := hc5.1.1
            have q1 := hc5.1.2.1
            have r0 := hd5.1.1
            have r1 := hd5.1.2.1
            have r2 := hd5.1.2.2.1
            have r3 := hd5.1.2.2.2
            have y0 := hd5.2 0
            have y1 := hd5.2 1
            have y2 := hd5.2 2
            have y3 := hd5.2 3
            have HX5 := Lib.hid hx5
            clear he5 hx5 hf5 hp5 hc5 hd5
            refine ⟨rfl, w5.setCell ⟨F, 3, none⟩ (.bool true), by go_simp, ?_⟩
            go_wp2_with fail
            refine HFIN.out true w5 _ _ rfl HX5.out ?_ rfl rfl
            exact ((Touch.refl (fun k => k = F) w5).setCell (Or.inl rfl) _).setCell (Or.inl rfl) _
        | false =>
          by_cases hNk : N ≤ keep
          · have hNkz : (N : Int) ≤ (keep : Int) := by omega
            have HE := Lib.hid (HENDS.out hNk)
            obtain ⟨en, hen⟩ : ∃ en : Bool, en = decide ((g.drop E1).take 8 = tailL full) := ⟨_, rfl⟩
            rw [← hen] at HE
            have HEN := Lib.hid hen
            clear hen
            have hst : Stab (Phi [(8, .bool false), (10, .pointer (some ⟨F, 0, none⟩)), (1, .int .i64 keep), (0, .slice (some ⟨b, o, none⟩) G cap), (11, .int .i64 E), (51, .bool false), (52, .bool false), (53, .pointer (some ⟨F, 1, none⟩)), (54, .int .i64 N), (55, .int .i64 keep), (56, .bool true), (57, .bool true), (58, .pointer (some ⟨F, 0, none⟩)), (59, .slice oa M oc), (60, .slice (some ⟨b, o, none⟩) G cap), (61, .int .i64 E), (62, .int .i64 E1), (63, .int .i64 E), (64, .slice (some ⟨b, o + E1, none⟩) 8 (cap - E1)), (65, .bool en), (66, .bool (!en)), (67, .bool (!en)), (68, .bool (!en)), (69, .pointer (some ⟨F, 3, none⟩))] []) := Phi.stable (fun x hx => by cases hx)
            refine wp_region_last 73 [8, 10, 1, 0, 11] [51, 52, 53, 54, 55, 56, 57, 58, 59, 60, 61, 62, 63, 64, 65, 66, 67, 68, 69] 19 (by kernel_rfl) _ hst (by kernel_rfl) rfl rfl (fun _ => ⟨rfl, rfl, rfl, rfl, rfl, trivial⟩) ⟨fun _ => ?_, fun _ => ?_, fun _ => ?_, fun _ => ?_, fun _ => ?_, fun _ => ?_, fun _ => ?_, fun _ => ?_, fun _ => ?_, fun _ => ?_, fun _ => ?_, fun _ => ?_, fun _ => ?_, fun _ => ?_, fun _ => ?_, fun _ => ?_, fun _ => ?_, fun _ => ?_, fun _ => ?_, fun h => absurd rfl h, trivial⟩ ?fin
            · refine Obl.val (.bool false) (fun ev w1 hc hf hg hev => ?_) (fun d hd w1 => by cases hd; rfl)
              have h0 : ev (.tmp 8) = .bool false := hev.1
              exact ⟨rfl, by (clear hev; go_simp)⟩
            · refine Obl.val (.bool false) (fun ev w1 hc hf hg hev => ?_) (fun d hd w1 => by cases hd; rfl)
              have h0 : ev (.tmp 51) = .bool false := hev.1
              exact ⟨rfl, by (clear hev; go_simp)⟩
            · refine Obl.val (.pointer (some ⟨F, 1, none⟩)) (fun ev w1 hc hf hg hev => ?_) (fun d hd w1 => by cases hd; rfl)
              have h0 : ev (.tmp 52) = .bool false := hev.1; have h1 : ev (.tmp 10) = .pointer (some ⟨F, 0, none⟩) := hev.2.1
              exact ⟨wanted_of rfl rfl h0, by (clear hev; go_simp)⟩
            · refine Obl.some (fun ev w1 hI hc hf hg hev => ?_)
              have h0 : ev (.tmp 52) = .bool false := hev.1; have h1 : ev (.tmp 53) = .pointer (some ⟨F, 1, none⟩) := hev.2.1
              clear hev
              have k := (H4.out.2.1.keep (show Ext w4 w1 from hI) (fun f => f)).cells.1.2.1
              exact ⟨wanted_of rfl rfl h0, .int .i64 N, by go_simp, fun d hd => by cases hd; rfl⟩
            · refine Obl.val (.int .i64 keep) (fun ev w1 hc hf hg hev => ?_) (fun d hd w1 => by cases hd; rfl)
              have h0 : ev (.tmp 52) = .bool false := hev.1; have h1 : ev (.tmp 1) = .int .i64 keep := hev.2.1
              exact ⟨wanted_of rfl rfl h0, by (clear hev; go_simp)⟩
            · refine Obl.val (.bool true) (fun ev w1 hc hf hg hev => ?_) (fun d hd w1 => by cases hd; rfl)
              have h0 : ev (.tmp 52) = .bool false := hev.1; have h1 : ev (.tmp 54) = .int .i64 N := hev.2.1; have h2 : ev (.tmp 55) = .int .i64 keep := hev.2.2.1
              clear hev
              exact ⟨wanted_of rfl rfl h0, by go_simp⟩
            · refine Obl.val (.bool true) (fun ev w1 hc hf hg hev => ?_) (fun d hd w1 => by cases hd; rfl)
              have h0 : ev (.tmp 52) = .bool false := hev.1; have h1 : ev (.tmp 56) = .bool true := hev.2.1
              exact ⟨wanted_of rfl rfl h0, by (clear hev; go_simp)⟩
            · refine Obl.val (.pointer (some ⟨F, 0, none⟩)) (fun ev w1 hc hf hg hev => ?_) (fun d hd w1 => by cases hd; rfl)
              have h0 : ev (.tmp 57) = .bool true := hev.1; have h1 : ev (.tmp 10) = .pointer (some ⟨F, 0, none⟩) := hev.2.1
              exact ⟨wanted_of rfl rfl h0, by (clear hev; go_simp)⟩
            · refine Obl.some (fun ev w1 hI hc hf hg hev => ?_)
              have h0 : ev (.tmp 57) = .bool true := hev.1; have h1 : ev (.tmp 58) = .pointer (some ⟨F, 0, none⟩) := hev.2.1
              clear hev
              have k := (H4.out.2.1.keep (show Ext w4 w1 from hI) (fun f => f)).cells.1.1
              exact ⟨wanted_of rfl rfl h0, .slice oa M oc, by go_simp, fun d hd => by cases hd; rfl⟩
            · refine Obl.val (.slice (some ⟨b, o, none⟩) G cap) (fun ev w1 hc hf hg hev => ?_) (fun d hd w1 => by cases hd; rfl)
              have h0 : ev (.tmp 57) = .bool true := hev.1; have h1 : ev (.tmp 0) = .slice (some ⟨b, o, none⟩) G cap := hev.2.1
              exact ⟨wanted_of rfl rfl h0, by (clear hev; go_simp)⟩
            · refine Obl.val (.int .i64 E) (fun ev w1 hc hf hg hev => ?_) (fun d hd w1 => by cases hd; rfl)
              have h0 : ev (.tmp 57) = .bool true := hev.1; have h1 : ev (.tmp 11) = .int .i64 E := hev.2.1
              exact ⟨wanted_of rfl rfl h0, by (clear hev; go_simp)⟩
            · refine Obl.val (.int .i64 E1) (fun ev w1 hc hf hg hev => ?_) (fun d hd w1 => by cases hd; rfl)
              have h0 : ev (.tmp 57) = .bool true := hev.1; have h1 : ev (.tmp 61) = .int .i64 E := hev.2.1
              clear hev
              exact ⟨wanted_of rfl rfl h0, by go_simp⟩
            · refine Obl.val (.int .i64 E) (fun ev w1 hc hf hg hev => ?_) (fun d hd w1 => by cases hd; rfl)
              have h0 : ev (.tmp 57) = .bool true := hev.1; have h1 : ev (.tmp 11) = .int .i64 E := hev.2.1
              exact ⟨wanted_of rfl rfl h0, by (clear hev; go_simp)⟩
            · refine Obl.val (.slice (some ⟨b, o + E1, none⟩) 8 (cap - E1)) (fun ev w1 hc hf hg hev => ?_) (fun d hd w1 => by cases hd; rfl)
              have h0 : ev (.tmp 57) = .bool true := hev.1; have h1 : ev (.tmp 60) = .slice (some ⟨b, o, none⟩) G cap := hev.2.1; have h2 : ev (.tmp 62) = .int .i64 E1 := hev.2.2.1; have h3 : ev (.tmp 63) = .int .i64 E := hev.2.2.2.1
              clear hev
              have h88 : E - E1 = 8 := by have := HEE.out; omega
              clear wE1 wE wE8
              exact ⟨wanted_of rfl rfl h0, by go_simp⟩
            · refine Obl.call 38 #[.slice oa M oc, .slice (some ⟨b, o + E1, none⟩) 8 (cap - E1)] (fun ev w1 hI hc hf hg hev => ?_)
              have h0 : ev (.tmp 57) = .bool true := hev.1; have h1 : ev (.tmp 59) = .slice oa M oc := hev.2.1; have h2 : ev (.tmp 64) = .slice (some ⟨b, o + E1, none⟩) 8 (cap - E1) := hev.2.2.1
              refine ⟨wanted_of rfl rfl h0, by (clear hev; go_simp), ?_⟩
              refine (HE.out w1 (show Ext w4 w1 from hI)).mono ?_
              rintro e w2 ⟨rfl, hx⟩
              exact ⟨_, rfl, hx, fun d hd => by cases hd; rfl⟩
            · refine Obl.val (.bool (!en)) (fun ev w1 hc hf hg hev => ?_) (fun d hd w1 => by cases hd; rfl)
              have h0 : ev (.tmp 57) = .bool true := hev.1; have h1 : ev (.tmp 65) = .bool en := hev.2.1
              exact ⟨wanted_of rfl rfl h0, by (clear hev; go_simp)⟩
            · refine Obl.val (.bool (!en)) (fun ev w1 hc hf hg hev => ?_) (fun d hd w1 => by cases hd; rfl)
              have h0 : ev (.tmp 52) = .bool false := hev.1; have h1 : ev (.tmp 57) = .bool true := hev.2.1; have h2 : ev (.tmp 66) = .bool (!en) := hev.2.2.1
              exact ⟨wanted_of rfl rfl h0, by (clear hev; go_simp)⟩
            · refine Obl.val (.bool (!en)) (fun ev w1 hc hf hg hev => ?_) (fun d hd w1 => by cases hd; rfl)
              have h0 : ev (.tmp 52) = .bool false := hev.1; have h1 : ev (.tmp 67) = .bool (!en) := hev.2.1
              exact ⟨rfl, by (clear hev; go_simp)⟩
            · refine Obl.val (.pointer (some ⟨F, 3, none⟩)) (fun ev w1 hc hf hg hev => ?_) (fun d hd w1 => by cases hd; rfl)
              have h0 : ev (.tmp 10) = .pointer (some ⟨F, 0, none⟩) := hev.1
              exact ⟨rfl, by (clear hev; go_simp)⟩
            case fin =>
              intro vs w5 o ho he5 hf
              obtain rfl : _ = o := Option.some.inj ho
              clear ho
              have e51 : vs 51 = .bool false := hf 51 (by decide)
              have e52 : vs 52 = .bool false := hf 52 (by decide)
              have e53 : vs 53 = .pointer (some ⟨F, 1, none⟩) := hf 53 (by decide)
              have e54 : vs 54 = .int .i64 N := hf 54 (by decide)
              have e55 : vs 55 = .int .i64 keep := hf 55 (by decide)
              have e56 : vs 56 = .bool true := hf 56 (by decide)
              have e57 : vs 57 = .bool true := hf 57 (by decide)
              have e58 : vs 58 = .pointer (some ⟨F, 0, none⟩) := hf 58 (by decide)
              have e59 : vs 59 = .slice oa M oc := hf 59 (by decide)
              have e60 : vs 60 = .slice (some ⟨b, o, none⟩) G cap := hf 60 (by decide)
              have e61 : vs 61 = .int .i64 E := hf 61 (by decide)
              have e62 : vs 62 = .int .i64 E1 := hf 62 (by decide)
              have e63 : vs 63 = .int .i64 E := hf 63 (by decide)
              have e64 : vs 64 = .slice (some ⟨b, o + E1, none⟩) 8 (cap - E1) := hf 64 (by decide)
              have e65 : vs 65 = .bool en := hf 65 (by decide)
              have e66 : vs 66 = .bool (!en) := hf 66 (by decide)
              have e67 : vs 67 = .bool (!en) := hf 67 (by decide)
              have e68 : vs 68 = .bool (!en) := hf 68 (by decide)
              have e69 : vs 69 = .pointer (some ⟨F, 3, none⟩) := hf 69 (by decide)
              simp only [List.foldl_cons, List.foldl_nil]
              rw [e51, e52, e53, e54, e55, e56, e57, e58, e59, e60, e61, e62, e63, e64, e65, e66, e67, e68, e69]
              simp only [Act.put, List.setIfInBounds_toArray, List.set_cons_succ, List.set_cons_zero]
              clear hf e51 e52 e53 e54 e55 e56 e57 e58 e59 e60 e61 e62 e63 e64 e65 e66 e67 e68 e69
              have hx5 : Ext w4 w5 := he5
              have hf5 := H4.out.2.1.keep hx5 (fun f => f)
              have hp5 := H4.out.2.2.1.keep hx5 (fun f => f)
              have hc5 := hf5.cells
              have hd5 := hp5.cells
              have q3 := hc5.1.2.2.2
              have z3 := hc5.2 3
              have q2 := hc5.1.2.2.1
              have z2 := hc5.2 2
              have q0 := hc5.1.1
              have q1 := hc5.1.2.1
              have r0 := hd5.1.1
              have r1 := hd5.1.2.1
              have r2 := hd5.1.2.2.1
              have r3 := hd5.1.2.2.2
              have y0 := hd5.2 0
              have y1 := hd5.2 1
              have y2 := hd5.2 2
              have y3 := hd5.2 3
              have HX5 := Lib.hid hx5
              clear he5 hx5 hf5 hp5 hc5 hd5
              refine ⟨rfl, w5.setCell ⟨F, 3, none⟩ (.bool (!en)), by go_simp, ?_⟩
              go_wp2_with fail
              refine HFIN.out (!en) w5 _ _ (by rw [Bool.false_or, show decide (N ≤ keep) = true by simpa using hNk, Bool.true_and, HEN.out]) HX5.out ?_ rfl rfl
              exact ((Touch.refl (fun k => k = F) w5).setCell (Or.inl rfl) _).setCell (Or.inl rfl) _
          · have hNkz : ¬ (N : Int) ≤ (keep : Int) := by omega
            have hst : Stab (Phi [(8, .bool false), (10, .pointer (some ⟨F, 0, none⟩)), (1, .int .i64 keep), (0, .slice (some ⟨b, o, none⟩) G cap), (11, .int .i64 E), (51, .bool false), (52, .bool false), (53, .pointer (some ⟨F, 1, none⟩)), (54, .int .i64 N), (55, .int .i64 keep), (56, .bool false), (57, .bool false), (58, undef), (59, undef), (60, undef), (61, undef), (62, undef), (63, undef), (64, undef), (65, undef), (66, undef), (67, .bool false), (68, .bool false), (69, .pointer (some ⟨F, 3, none⟩))] []) := Phi.stable (fun x hx => by cases hx)
            refine wp_region_last 73 [8, 10, 1, 0, 11] [51, 52, 53, 54, 55, 56, 57, 58, 59, 60, 61, 62, 63, 64, 65, 66, 67, 68, 69] 19 (by kernel_rfl) _ hst (by kernel_rfl) rfl rfl (fun _ => ⟨rfl, rfl, rfl, rfl, rfl, trivial⟩) ⟨fun _ => ?_, fun _ => ?_, fun _ => ?_, fun _ => ?_, fun _ => ?_, fun _ => ?_, fun _ => ?_, fun _ => ?_, fun _ => ?_, fun _ => ?_, fun _ => ?_, fun _ => ?_, fun _ => ?_, fun _ => ?_, fun _ => ?_, fun _ => ?_, fun _ => ?_, fun _ => ?_, fun _ => ?_, fun h => absurd rfl h, trivial⟩ ?fin
            · refine Obl.val (.bool false) (fun ev w1 hc hf hg hev => ?_) (fun d hd w1 => by cases hd; rfl)
              have h0 : ev (.tmp 8) = .bool false := hev.1
              exact ⟨rfl, by (clear hev; go_simp)⟩
            · refine Obl.val (.bool false) (fun ev w1 hc hf hg hev => ?_) (fun d hd w1 => by cases hd; rfl)
              have h0 : ev (.tmp 51) = .bool false := hev.1
              exact ⟨rfl, by (clear hev; go_simp)⟩
            · refine Obl.val (.pointer (some ⟨F, 1, none⟩)) (fun ev w1 hc hf hg hev => ?_) (fun d hd w1 => by cases hd; rfl)
              have h0 : ev (.tmp 52) = .bool false := hev.1; have h1 : ev (.tmp 10) = .pointer (some ⟨F, 0, none⟩) := hev.2.1
              exact ⟨wanted_of rfl rfl h0, by (clear hev; go_simp)⟩
            · refine Obl.some (fun ev w1 hI hc hf hg hev => ?_)
              have h0 : ev (.tmp 52) = .bool false := hev.1; have h1 : ev (.tmp 53) = .pointer (some ⟨F, 1, none⟩) := hev.2.1
              clear hev
              have k := (H4.out.2.1.keep (show Ext w4 w1 from hI) (fun f => f)).cells.1.2.1
              exact ⟨wanted_of rfl rfl h0, .int .i64 N, by go_simp, fun d hd => by cases hd; rfl⟩
            · refine Obl.val (.int .i64 keep) (fun ev w1 hc hf hg hev => ?_) (fun d hd w1 => by cases hd; rfl)
              have h0 : ev (.tmp 52) = .bool false := hev.1; have h1 : ev (.tmp 1) = .int .i64 keep := hev.2.1
              exact ⟨wanted_of rfl rfl h0, by (clear hev; go_simp)⟩
            · refine Obl.val (.bool false) (fun ev w1 hc hf hg hev => ?_) (fun d hd w1 => by cases hd; rfl)
              have h0 : ev (.tmp 52) = .bool false := hev.1; have h1 : ev (.tmp 54) = .int .i64 N := hev.2.1; have h2 : ev (.tmp 55) = .int .i64 keep := hev.2.2.1
              clear hev
              exact ⟨wanted_of rfl rfl h0, by go_simp⟩
            · refine Obl.val (.bool false) (fun ev w1 hc hf hg hev => ?_) (fun d hd w1 => by cases hd; rfl)
              have h0 : ev (.tmp 52) = .bool false := hev.1; have h1 : ev (.tmp 56) = .bool false := hev.2.1
              exact ⟨wanted_of rfl rfl h0, by (clear hev; go_simp)⟩
            · refine Obl.off (fun ev w1 hev => ?_) (fun d hd w1 => by cases hd; rfl)
              have h0 : ev (.tmp 57) = .bool false := hev.1
              exact unwanted_b (by decide) rfl rfl h0
            · refine Obl.off (fun ev w1 hev => ?_) (fun d hd w1 => by cases hd; rfl)
              have h0 : ev (.tmp 57) = .bool false := hev.1
              exact unwanted_b (by decide) rfl rfl h0
            · refine Obl.off (fun ev w1 hev => ?_) (fun d hd w1 => by cases hd; rfl)
              have h0 : ev (.tmp 57) = .bool false := hev.1
              exact unwanted_b (by decide) rfl rfl h0
            · refine Obl.off (fun ev w1 hev => ?_) (fun d hd w1 => by cases hd; rfl)
              have h0 : ev (.tmp 57) = .bool false := hev.1
              exact unwanted_b (by decide) rfl rfl h0
            · refine Obl.off (fun ev w1 hev => ?_) (fun d hd w1 => by cases hd; rfl)
              have h0 : ev (.tmp 57) = .bool false := hev.1
              exact unwanted_b (by decide) rfl rfl h0
            · refine Obl.off (fun ev w1 hev => ?_) (fun d hd w1 => by cases hd; rfl)
              have h0 : ev (.tmp 57) = .bool false := hev.1
              exact unwanted_b (by decide) rfl rfl h0
            · refine Obl.off (fun ev w1 hev => ?_) (fun d hd w1 => by cases hd; rfl)
              have h0 : ev (.tmp 57) = .bool false := hev.1
              exact unwanted_b (by decide) rfl rfl h0
            · refine Obl.off (fun ev w1 hev => ?_) (fun d hd w1 => by cases hd; rfl)
              have h0 : ev (.tmp 57) = .bool false := hev.1
              exact unwanted_b (by decide) rfl rfl h0
            · refine Obl.off (fun ev w1 hev => ?_) (fun d hd w1 => by cases hd; rfl)
              have h0 : ev (.tmp 57) = .bool false := hev.1
              exact unwanted_b (by decide) rfl rfl h0
            · refine Obl.val (.bool false) (fun ev w1 hc hf hg hev => ?_) (fun d hd w1 => by cases hd; rfl)
              have h0 : ev (.tmp 52) = .bool false := hev.1; have h1 : ev (.tmp 57) = .bool false := hev.2.1; have h2 : ev (.tmp 66) = undef := hev.2.2.1
              exact ⟨wanted_of rfl rfl h0, by (clear hev; go_simp)⟩
            · refine Obl.val (.bool false) (fun ev w1 hc hf hg hev => ?_) (fun d hd w1 => by cases hd; rfl)
              have h0 : ev (.tmp 52) = .bool false := hev.1; have h1 : ev (.tmp 67) = .bool false := hev.2.1
              exact ⟨rfl, by (clear hev; go_simp)⟩
            · refine Obl.val (.pointer (some ⟨F, 3, none⟩)) (fun ev w1 hc hf hg hev => ?_) (fun d hd w1 => by cases hd; rfl)
              have h0 : ev (.tmp 10) = .pointer (some ⟨F, 0, none⟩) := hev.1
              exact ⟨rfl, by (clear hev; go_simp)⟩
            case fin =>
              intro vs w5 o ho he5 hf
              obtain rfl : _ = o := Option.some.inj ho
              clear ho
              have e51 : vs 51 = .bool false := hf 51 (by decide)
              have e52 : vs 52 = .bool false := hf 52 (by decide)
              have e53 : vs 53 = .pointer (some ⟨F, 1, none⟩) := hf 53 (by decide)
              have e54 : vs 54 = .int .i64 N := hf 54 (by decide)
              have e55 : vs 55 = .int .i64 keep := hf 55 (by decide)
              have e56 : vs 56 = .bool false := hf 56 (by decide)
              have e57 : vs 57 = .bool false := hf 57 (by decide)
              have e58 : vs 58 = undef := hf 58 (by decide)
              have e59 : vs 59 = undef := hf 59 (by decide)
              have e60 : vs 60 = undef := hf 60 (by decide)
              have e61 : vs 61 = undef := hf 61 (by decide)
              have e62 : vs 62 = undef := hf 62 (by decide)
              have e63 : vs 63 = undef := hf 63 (by decide)
              have e64 : vs 64 = undef := hf 64 (by decide)
              have e65 : vs 65 = undef := hf 65 (by decide)
              have e66 : vs 66 = undef := hf 66 (by decide)
              have e67 : vs 67 = .bool false := hf 67 (by decide)
              have e68 : vs 68 = .bool false := hf 68 (by decide)
              have e69 : vs 69 = .pointer (some ⟨F, 3, none⟩) := hf 69 (by decide)
              simp only [List.foldl_cons, List.foldl_nil]
              rw [e51, e52, e53, e54, e55, e56, e57, e58, e59, e60, e61, e62, e63, e64, e65, e66, e67, e68, e69]
              simp only [Act.put, List.setIfInBounds_toArray, List.set_cons_succ, List.set_cons_zero]
              clear hf e51 e52 e53 e54 e55 e56 e57 e58 e59 e60 e61 e62 e63 e64 e65 e66 e67 e68 e69
              have hx5 : Ext w4 w5 := he5
              have hf5 := H4.out.2.1.keep hx5 (fun f => f)
              have hp5 := H4.out.2.2.1.keep hx5 (fun f => f)
              have hc5 := hf5.cells
              have hd5 := hp5.cells
              have q3 := hc5.1.2.2.2
              have z3 := hc5.2 3
              have q2 := hc5.1.2.2.1
              have z2 := hc5.2 2
              have q0 := hc5.1.1
              have q1 := hc5.1.2.1
              have r0 := hd5.1.1
              have r1 := hd5.1.2.1
              have r2 := hd5.1.2.2.1
              have r3 := hd5.1.2.2.2
              have y0 := hd5.2 0
              have y1 := hd5.2 1
              have y2 := hd5.2 2
              have y3 := hd5.2 3
              have HX5 := Lib.hid hx5
              clear he5 hx5 hf5 hp5 hc5 hd5
              refine ⟨rfl, w5.setCell ⟨F, 3, none⟩ (.bool false), by go_simp, ?_⟩
              go_wp2_with fail
              refine HFIN.out false w5 _ _ (by rw [Bool.false_or, show decide (N ≤ keep) = false by simpa using hNk]; rfl) HX5.out ?_ rfl rfl
              exact ((Touch.refl (fun k => k = F) w5).setCell (Or.inl rfl) _).setCell (Or.inl rfl) _
end Go.Proofs.YtbbcphloafmldaaGreat
