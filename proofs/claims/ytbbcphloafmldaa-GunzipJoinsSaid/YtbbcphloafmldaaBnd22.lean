/- gunzip.Gunzip, as the laws use it. Gunzip, plain: what is read of bytes is read of them with more behind; what is kept plays no part in what a file says. No program is named here. -/
import Derived.Test.YtbbcphloafmldaaGunzipZ
import Derived.Test.YtbbcphloafmldaaBnd21
/-! gunzip.Gunzip, as the laws use it. -/
namespace Go.Proofs.Ytbbcphloafmldaa
open Go.RowKit
set_option linter.unusedVariables false

/-- a file that is read. -/
def GotY (w : World) (F : List Nat) (G keep : Nat) (wr : Bool) (e : Ending) (w' : World) : Prop :=
  ∃ ao ac, e = .returned (.tuple #[.agg #[.slice ao (F.take keep).length ac, .int .i64 F.length, .int .i64 G, .bool wr], .int .i64 0]) ∧ ViewL w' (.slice ao (F.take keep).length ac) (u8s (F.take keep)) ∧ (∀ b o, ao = some ⟨b, o, none⟩ → w.heap.size ≤ b) ∧ Ext w w'
/-- no file, or no argument. -/
def GotN (w : World) (x : Nat) (e : Ending) (w' : World) : Prop :=
  e = .returned (.tuple #[.agg #[.slice none 0 0, .int .i64 0, .int .i64 0, .bool false], .int .i64 x]) ∧ Ext w w'
theorem gun_yes {v : Value} {g : List Nat} {keep : Nat} {F : List Nat} {wr : Bool} {w : World} (h : gunF g keep = some (F, wr)) (hv : ViewL w v (u8s g)) (hl : g.length ≤ 2 ^ 16) (hb : ∀ b ∈ g, b < 256) (hk : keep ≤ 2 ^ 62) :
    Calls Try.prog 5 #[v, .int .i64 keep] w (GotY w F g.length keep wr) := by
  refine (gunzip v g keep w hv hl hb hk).mono ?_
  rintro e w' hq
  unfold GunR at hq
  rw [h] at hq
  rcases hq with ⟨F2, w2, ov, oo, h1, rfl, h2, h3, h4⟩ | ⟨h1, _⟩
  · cases h1
    obtain ⟨ao, ac, rfl⟩ := h2.shape
    refine ⟨ao, ac, rfl, h2.viewL, fun b o e => ?_, h4⟩
    rcases h2.form with ⟨_, k, _⟩ | ⟨q, cap, cur, k1, k, _⟩
    · rw [e] at k; cases k
    · rw [e] at k; cases k; exact h3 _ k1
  · cases h1
/-- the same, with numbers. -/
theorem gun_known {v : Value} {g : List Nat} {keep : Nat} {F L : List Nat} {wr : Bool} {w : World} {M N G : Nat} (h : gunF g keep = some (F, wr)) (hL : F.take keep = L) (hM : L.length = M) (hN : F.length = N) (hG : g.length = G) (hv : ViewL w v (u8s g)) (hl : g.length ≤ 2 ^ 16) (hb : ∀ b ∈ g, b < 256) (hk : keep ≤ 2 ^ 62) :
    Calls Try.prog 5 #[v, .int .i64 keep] w fun e w' => ∃ ao ac, e = .returned (.tuple #[.agg #[.slice ao M ac, .int .i64 N, .int .i64 G, .bool wr], .int .i64 0]) ∧ ViewL w' (.slice ao M ac) (u8s L) ∧ Ext w w' := by
  refine (gun_yes h hv hl hb hk).mono ?_
  rintro e w' ⟨ao, ac, rfl, h1, _, h2⟩
  rw [hL] at h1
  rw [hL, hM, hN, hG]
  rw [hM] at h1
  exact ⟨ao, ac, rfl, h1, h2⟩
theorem gun_no {v : Value} {g : List Nat} {keep : Nat} {w : World} (h : gunF g keep = none) (hv : ViewL w v (u8s g)) (hl : g.length ≤ 2 ^ 16) (hb : ∀ b ∈ g, b < 256) (hk : keep ≤ 2 ^ 62) :
    Calls Try.prog 5 #[v, .int .i64 keep] w (GotN w 2) := by
  refine (gunzip v g keep w hv hl hb hk).mono ?_
  rintro e w' hq
  unfold GunR at hq
  rw [h] at hq
  rcases hq with ⟨F2, w2, ov, oo, h1, _⟩ | ⟨_, rfl, h4⟩
  · cases h1
  · exact ⟨rfl, h4⟩
set_option maxRecDepth 100000 in
theorem gun_neg (ga : Option Addr) (n c : Nat) (keep : Int) (w : World) (hk : keep < 0) :
    Calls Try.prog 5 #[.slice ga n c, .int .i64 keep] w (GotN w 5) := by
  go_enter Try.func5, Try.ntmps5
  go_wp2_with fail
  have hx1 : Ext w (w.alloc (.cells #[.slice none 0 0, .int .i64 0, .int .i64 0, .bool false] 25)) := (Ext.refl w).alloc _
  have hf1 : FB (w.alloc (.cells #[.slice none 0 0, .int .i64 0, .int .i64 0, .bool false] 25)) w.heap.size (.slice none 0 0) 0 0 false := FB.new _ _ _ _ _
  have hz1 : (w.alloc (.cells #[.slice none 0 0, .int .i64 0, .int .i64 0, .bool false] 25)).heap.size = w.heap.size + 1 := by simp
  generalize w.alloc (.cells #[.slice none 0 0, .int .i64 0, .int .i64 0, .bool false] 25) = w1 at *
  have hx2 : Ext w1 (w1.alloc (.cells #[.int .i64 5] 26)) := (Ext.refl w1).alloc _
  have he2 : Boxed (w1.alloc (.cells #[.int .i64 5] 26)) w1.heap.size 26 (.int .i64 5) := heap_alloc_new w1 _
  have hf2 := hf1.keep hx2 (fun f => f)
  generalize w1.alloc (.cells #[.int .i64 5] 26) = w2 at *
  rw [hz1] at he2
  obtain ⟨⟨c0, c1, c2, c3⟩, _⟩ := hf2.cells
  have c4 := he2.cell
  refine bodyPost_ret (v := .tuple #[.agg #[.slice none 0 0, .int .i64 0, .int .i64 0, .bool false], .int .i64 5]) ?_ rfl ⟨rfl, hx1.trans hx2⟩
  simp only [results, show Try.f5.results = #[.cell 4 25, .cell 5 26] from by kernel_rfl]
  simp [go_sem, c0, c1, c2, c3, c4]
/-- a flow's box, just made. -/
theorem flow_box {w wx : World} {v : Value} {a b : Int} {c : Bool} (hx : Ext (w.alloc (.cells #[v, .int .i64 a, .int .i64 b, .bool c] 25)) wx) : FB wx w.heap.size v a b c := (FB.new w v a b c).keep hx (fun f => f)
end Go.Proofs.Ytbbcphloafmldaa

/-! Gunzip, plain: what is read of bytes is read of them with more behind; what is kept plays no part in what a file says. No program is named here. -/
namespace Go.Proofs.Ytbbcphloafmldaa
open Go.RowKit
set_option linter.unusedVariables false

theorem symS_more {L1 L2 : List Nat} {bits more : List Bool} {p : Nat} {out : List Nat} (g1 : Good L1) (g2 : Good L2) (h : symS L1 L2 bits p out ≠ .bad) : symS L1 L2 (bits ++ more) p out = symS L1 L2 bits p out := by
  unfold symS at h ⊢
  cases hd : decS L1 bits p with
  | none => rw [hd] at h; exact absurd rfl h
  | some x =>
    obtain ⟨c, q⟩ := x
    rw [hd] at h
    rw [decS_more g1 hd]
    dsimp only at h ⊢
    split
    · rfl
    · rename_i h1
      rw [if_neg h1] at h
      split
      · rfl
      · rename_i h2
        rw [if_neg h2] at h
        cases hl : lenOf c with
        | none => rw [hl] at h
        | some y =>
          obtain ⟨ll, lb⟩ := y
          rw [hl] at h
          dsimp only at h ⊢
          cases hr : rd bits q lb with
          | none => rw [hr] at h; exact absurd rfl h
          | some z =>
            obtain ⟨x, q2⟩ := z
            rw [hr] at h
            rw [rd_more hr]
            dsimp only at h ⊢
            cases hd2 : decS L2 bits q2 with
            | none => rw [hd2] at h; exact absurd rfl h
            | some z2 =>
              obtain ⟨d, q3⟩ := z2
              rw [hd2] at h
              rw [decS_more g2 hd2]
              dsimp only at h ⊢
              cases hl2 : distOf d with
              | none => rw [hl2] at h
              | some y2 =>
                obtain ⟨dl, db⟩ := y2
                rw [hl2] at h
                dsimp only at h ⊢
                cases hr2 : rd bits q3 db with
                | none => rw [hr2] at h; exact absurd rfl h
                | some z3 =>
                  obtain ⟨y, q4⟩ := z3
                  rw [rd_more hr2]
theorem symF_more {L1 L2 : List Nat} {bits more : List Bool} (g1 : Good L1) (g2 : Good L2) : ∀ (k p : Nat) (out : List Nat) {x : Nat × List Nat}, bits.length - p ≤ k → symF L1 L2 bits p out = some x → symF L1 L2 (bits ++ more) p out = some x := by
  intro k
  induction k with
  | zero =>
    intro p out x hk h
    cases hs : symS L1 L2 bits p out with
    | bad => rw [symF_bad hs] at h; cases h
    | stop q => rw [symF_stop hs] at h; rw [symF_stop ((symS_more g1 g2 (by rw [hs]; exact fun e => by cases e)).trans hs)]; exact h
    | go q o => have := symS_go hs; omega
  | succ k ih =>
    intro p out x hk h
    cases hs : symS L1 L2 bits p out with
    | bad => rw [symF_bad hs] at h; cases h
    | stop q => rw [symF_stop hs] at h; rw [symF_stop ((symS_more g1 g2 (by rw [hs]; exact fun e => by cases e)).trans hs)]; exact h
    | go q o =>
      have := symS_go hs
      rw [symF_go hs] at h
      rw [symF_go ((symS_more g1 g2 (by rw [hs]; exact fun e => by cases e)).trans hs)]
      exact ih q o (by omega) h
theorem storedF_more {bits more : List Bool} {p : Nat} {out : List Nat} {x : Nat × List Nat} (h : storedF bits p out = some x) : storedF (bits ++ more) p out = some x := by
  unfold storedF at h ⊢
  cases h1 : rd bits ((p + 7) / 8 * 8) 16 with
  | none => rw [h1] at h; cases h
  | some y =>
    obtain ⟨n, q⟩ := y
    rw [h1] at h
    rw [rd_more h1]
    dsimp only at h ⊢
    cases h2 : rd bits q 16 with
    | none => rw [h2] at h; cases h
    | some z =>
      obtain ⟨m, q2⟩ := z
      rw [h2] at h
      rw [rd_more h2]
      dsimp only at h ⊢
      split at h
      · cases h
      · rename_i hm
        rw [if_neg hm]
        split at h
        · rename_i hl
          rw [if_pos (by rw [List.length_append]; omega), ← h]
          congr 3
          refine List.map_congr_left (fun i hi => ?_)
          rw [xAt_more (by have := List.mem_range.1 hi; omega)]
        · cases h
theorem wlF_more {bits more : List Bool} : ∀ (n i : Nat) (acc : List Nat) (p : Nat) {x : Nat × List Nat}, wlF bits n i acc p = some x → wlF (bits ++ more) n i acc p = some x
  | 0, i, acc, p, x, h => by rw [wlF] at h ⊢; exact h
  | n + 1, i, acc, p, x, h => by
    rw [wlF] at h ⊢
    cases h1 : rd bits p 3 with
    | none => rw [h1] at h; cases h
    | some y =>
      obtain ⟨v, q⟩ := y
      rw [h1] at h
      rw [rd_more h1]
      exact wlF_more n (i + 1) _ q h
theorem wlF_lens {bits : List Bool} : ∀ (n i : Nat) (acc : List Nat) (p : Nat) {q : Nat} {L : List Nat}, wlF bits n i acc p = some (q, L) → (∀ x ∈ acc, x < 8) → L.length = acc.length ∧ ∀ x ∈ L, x < 8
  | 0, i, acc, p, q, L, h, ha => by rw [wlF] at h; cases h; exact ⟨rfl, ha⟩
  | n + 1, i, acc, p, q, L, h, ha => by
    rw [wlF] at h
    split at h
    · cases h
    · rename_i v q1 h1
      have hv : v < 8 := by
        have := (rd_lt h1).2.2
        dsimp only at this
        rw [this]
        exact Nat.lt_of_lt_of_le (numOf_lt false (xAt bits p 3)) (Nat.pow_le_pow_right (show 2 > 0 by decide) (show (xAt bits p 3).length ≤ 3 by unfold xAt; rw [List.length_take]; omega))
      have h2 := wlF_lens n (i + 1) _ q1 h (fun x hx => by
        rcases List.mem_or_eq_of_mem_set hx with h | h
        · exact ha x h
        · rw [h]; exact hv)
      rw [List.length_set] at h2
      exact h2
theorem sgF_more {L : List Nat} {bits more : List Bool} (hg : Good L) : ∀ (k n said : Nat) (acc : List (Nat × Nat)) (p : Nat) {x : Nat × List (Nat × Nat)}, bits.length - p ≤ k → sgF L bits n said acc p = some x → sgF L (bits ++ more) n said acc p = some x := by
  intro k
  induction k with
  | zero =>
    intro n said acc p x hk h
    rw [sgF] at h ⊢
    split at h
    · rename_i hn; rw [if_pos hn]; exact h
    · rename_i hn
      rw [if_neg hn]
      cases hd : decS L bits p with
      | none => rw [hd] at h; cases h
      | some y => obtain ⟨c, q⟩ := y; have := decS_lt hd; omega
  | succ k ih =>
    intro n said acc p x hk h
    rw [sgF] at h ⊢
    split at h
    · rename_i hn; rw [if_pos hn]; exact h
    · rename_i hn
      rw [if_neg hn]
      cases hd : decS L bits p with
      | none => rw [hd] at h; cases h
      | some y =>
        obtain ⟨c, q⟩ := y
        rw [hd] at h
        rw [decS_more hg hd]
        dsimp only at h ⊢
        cases hr : rd bits q (exbH c) with
        | none => rw [hr] at h; cases h
        | some z =>
          obtain ⟨v, q2⟩ := z
          rw [hr] at h
          rw [rd_more hr]
          dsimp only at h ⊢
          split at h
          · rename_i hq
            rw [if_pos (by rw [List.length_append]; omega)]
            exact ih n _ _ q2 (by omega) h
          · cases h
theorem hdrF_more {bits more : List Bool} {p : Nat} {x : List Nat × List Nat × Nat} (h : hdrF bits p = some x) : hdrF (bits ++ more) p = some x := by
  unfold hdrF at h ⊢
  cases h1 : rd bits p 5 with
  | none => rw [h1] at h; cases h
  | some y1 =>
    obtain ⟨x1, p1⟩ := y1
    rw [h1] at h
    rw [rd_more h1]
    dsimp only at h ⊢
    cases h2 : rd bits p1 5 with
    | none => rw [h2] at h; cases h
    | some y2 =>
      obtain ⟨x2, p2⟩ := y2
      rw [h2] at h
      rw [rd_more h2]
      dsimp only at h ⊢
      cases h3 : rd bits p2 4 with
      | none => rw [h3] at h; cases h
      | some y3 =>
        obtain ⟨x3, p3⟩ := y3
        rw [h3] at h
        rw [rd_more h3]
        dsimp only at h ⊢
        cases h4 : wlF bits (x3 + 4) 0 (List.replicate 19 0) p3 with
        | none => rw [h4] at h; cases h
        | some y4 =>
          obtain ⟨p4, lens⟩ := y4
          rw [h4] at h
          rw [wlF_more _ _ _ _ h4]
          dsimp only at h ⊢
          split at h
          · cases h
          · rename_i hc
            rw [if_neg hc]
            have hl := wlF_lens _ _ _ _ h4 (fun x hx => by rw [(List.mem_replicate.1 hx).2]; decide)
            have hg : Good lens := class_good (Or.inl (Classical.not_not.1 hc)) (List.all_eq_true.2 (fun b hb => by have := hl.2 b hb; simp; omega)) (by rw [hl.1, List.length_replicate]; decide)
            cases h5 : sgF lens bits (x1 + 257 + (x2 + 1)) 0 [] p4 with
            | none => rw [h5] at h; cases h
            | some y5 =>
              rw [h5] at h
              rw [sgF_more hg _ _ _ _ _ (Nat.le_refl _) h5]
              exact h
theorem kindF_more {k : Nat} {bits more : List Bool} {p : Nat} {out : List Nat} {x : Nat × List Nat} (h : kindF k bits p out = some x) : kindF k (bits ++ more) p out = some x := by
  unfold kindF at h ⊢
  split at h
  · rename_i hk; rw [if_pos hk]; exact storedF_more h
  · rename_i hk
    rw [if_neg hk]
    split at h
    · rename_i hk2; rw [if_pos hk2]; exact symF_more good_fixedA good_fixedB _ _ _ (Nat.le_refl _) h
    · rename_i hk2
      rw [if_neg hk2]
      split at h
      · rename_i hk3
        rw [if_pos hk3]
        unfold dynF at h ⊢
        cases h1 : hdrF bits p with
        | none => rw [h1] at h; cases h
        | some y =>
          obtain ⟨a, b, q⟩ := y
          rw [h1] at h
          rw [hdrF_more h1]
          have hg := mayH_good (hdrF_fit h1).2.2
          exact symF_more hg.1 hg.2 _ _ _ (Nat.le_refl _) h
      · cases h
theorem inflF_more {bits more : List Bool} : ∀ (k p : Nat) (out : List Nat) {x : Nat × List Nat}, bits.length - p ≤ k → inflF bits p out = some x → inflF (bits ++ more) p out = some x := by
  intro k
  induction k with
  | zero =>
    intro p out x hk h
    rw [inflF] at h
    split at h
    · cases h
    · rename_i l p1 h1
      have := rd_fit h1
      omega
  | succ k ih =>
    intro p out x hk h
    rw [inflF] at h ⊢
    cases h1 : rd bits p 1 with
    | none => rw [h1] at h; cases h
    | some y1 =>
      obtain ⟨l, p1⟩ := y1
      rw [h1] at h
      rw [rd_more h1]
      dsimp only at h ⊢
      cases h2 : rd bits p1 2 with
      | none => rw [h2] at h; cases h
      | some y2 =>
        obtain ⟨kd, p2⟩ := y2
        rw [h2] at h
        rw [rd_more h2]
        dsimp only at h ⊢
        cases h3 : kindF kd bits p2 out with
        | none => rw [h3] at h; cases h
        | some y3 =>
          obtain ⟨q, o⟩ := y3
          rw [h3] at h
          rw [kindF_more h3]
          dsimp only at h ⊢
          split at h
          · rename_i hl; rw [if_pos hl]; exact h
          · rename_i hl
            rw [if_neg hl]
            split at h
            · rename_i hq
              rw [if_pos (by rw [List.length_append]; omega)]
              exact ih q o (by omega) h
            · cases h
theorem ofBits_append (hi : Bool) (a b : List Nat) : ofBits hi (a ++ b) = ofBits hi a ++ ofBits hi b := by simp [ofBits]
theorem memF_more {g : List Nat} {keep : Nat} {x : List Nat × Nat × Bool} (hb : ∀ b ∈ g, b < 256) (h : memF g keep = some x) (t : List Nat) : memF (g ++ t) keep = some x := by
  unfold memF at h ⊢
  cases h1 : getH g with
  | none => rw [h1] at h; cases h
  | some y =>
    obtain ⟨hd, n, wr⟩ := y
    have hn := (getH_inv hb h1).le
    rw [h1] at h
    rw [getH_more hb h1]
    dsimp only at h ⊢
    rw [List.drop_append_of_le_length hn, ofBits_append]
    cases h2 : inflF (ofBits false (g.drop n)) 0 [] with
    | none => rw [h2] at h; cases h
    | some z =>
      obtain ⟨q, full⟩ := z
      rw [h2] at h
      rw [inflF_more _ _ _ (Nat.le_refl _) h2]
      dsimp only at h ⊢
      split at h
      · cases h
      · rename_i hl
        rw [if_neg (by rw [List.length_append]; omega), List.drop_append_of_le_length (by omega), List.take_append_of_le_length (by rw [List.length_drop]; omega)]
        exact h
theorem memF_any {g : List Nat} {k : Nat} {full : List Nat} {u : Nat} {wr : Bool} (h : memF g k = some (full, u, wr)) (k2 : Nat) : ∃ wr2, memF g k2 = some (full, u, wr2) ∧ (full.length ≤ k → full.length ≤ k2 → wr2 = wr) := by
  unfold memF at h ⊢
  cases h1 : getH g with
  | none => rw [h1] at h; cases h
  | some y =>
    obtain ⟨hd, n, w⟩ := y
    rw [h1] at h
    dsimp only at h ⊢
    cases h2 : inflF (ofBits false (g.drop n)) 0 [] with
    | none => rw [h2] at h; cases h
    | some z =>
      obtain ⟨q, fl⟩ := z
      rw [h2] at h
      dsimp only at h ⊢
      split at h
      · cases h
      · rename_i hl
        rw [if_neg hl]
        cases h
        exact ⟨_, rfl, fun a b => by rw [decide_eq_true a, decide_eq_true b]⟩
theorem gunF_some {g : List Nat} {k : Nat} {F : List Nat} {w : Bool} (h : gunF g k = some (F, w)) : ∃ full u wr, memF g k = some (full, u, wr) ∧ ((u = g.length ∧ F = full ∧ w = wr) ∨ (u ≠ g.length ∧ ∃ F2 w2, gunF (g.drop u) (k - full.length) = some (F2, w2) ∧ F = full ++ F2 ∧ w = (wr || w2))) := by
  cases hm : memF g k with
  | none => rw [gunF_none hm] at h; cases h
  | some x =>
    obtain ⟨full, u, wr⟩ := x
    refine ⟨full, u, wr, rfl, ?_⟩
    by_cases hu : u = g.length
    · rw [gunF_last hm hu] at h; cases h; exact Or.inl ⟨hu, rfl, rfl⟩
    · rw [gunF_more hm hu] at h
      cases h2 : gunF (g.drop u) (k - full.length) with
      | none => rw [h2] at h; cases h
      | some z =>
        rw [h2] at h
        cases h
        exact Or.inr ⟨hu, z.1, z.2, rfl, rfl, rfl⟩
/-- what is kept plays no part in what a file says; where all is kept, none in whether it is wrong. -/
theorem gunF_any : ∀ (n : Nat) {g : List Nat} {k : Nat} {F : List Nat} {w : Bool}, g.length ≤ n → gunF g k = some (F, w) → ∀ k2, ∃ w2, gunF g k2 = some (F, w2) ∧ (F.length ≤ k → F.length ≤ k2 → w2 = w) := by
  intro n
  induction n with
  | zero =>
    intro g k F w hn h k2
    obtain ⟨full, u, wr, hm, _⟩ := gunF_some h
    have := memF_fit hm
    omega
  | succ n ih =>
    intro g k F w hn h k2
    obtain ⟨full, u, wr, hm, h2⟩ := gunF_some h
    have hf := memF_fit hm
    obtain ⟨wr2, hm2, hw2⟩ := memF_any hm k2
    rcases h2 with ⟨hu, rfl, rfl⟩ | ⟨hu, F2, w2, h3, rfl, rfl⟩
    · exact ⟨wr2, gunF_last hm2 hu, hw2⟩
    · obtain ⟨w3, h4, hw3⟩ := ih (by rw [List.length_drop]; omega) h3 (k2 - full.length)
      refine ⟨wr2 || w3, by rw [gunF_more hm2 hu, h4]; rfl, fun a b => ?_⟩
      rw [List.length_append] at a b
      rw [hw2 (by omega) (by omega), hw3 (by omega) (by omega)]
/-- two files, one behind the other. -/
theorem gunF_append : ∀ (n : Nat) {a b : List Nat} {k : Nat} {F : List Nat} {w : Bool}, a.length ≤ n → (∀ x ∈ a, x < 256) → b ≠ [] → gunF a k = some (F, w) → gunF (a ++ b) k = (gunF b (k - F.length)).map fun z => (F ++ z.1, w || z.2) := by
  intro n
  induction n with
  | zero =>
    intro a b k F w hn ha hb h
    obtain ⟨full, u, wr, hm, _⟩ := gunF_some h
    have := memF_fit hm
    omega
  | succ n ih =>
    intro a b k F w hn ha hb h
    obtain ⟨full, u, wr, hm, h2⟩ := gunF_some h
    have hf := memF_fit hm
    have hm2 := memF_more ha hm b
    have hbl : 0 < b.length := List.length_pos_iff.2 hb
    have hu2 : u ≠ (a ++ b).length := by rw [List.length_append]; omega
    rw [gunF_more hm2 hu2]
    rcases h2 with ⟨hu, rfl, rfl⟩ | ⟨hu, F2, w2, h3, rfl, rfl⟩
    · rw [hu, List.drop_left]
    · rw [List.drop_append_of_le_length hf.2, ih (by rw [List.length_drop]; omega) (fun x hx => ha x (List.mem_of_mem_drop hx)) hb h3, List.length_append, Nat.sub_sub]
      cases gunF b (k - (full.length + F2.length)) <;> simp [List.append_assoc, Bool.or_assoc]
end Go.Proofs.Ytbbcphloafmldaa
