/- Gunzip, plain: what is read of bytes is read of them with more behind; what is kept plays no part in what a file says. No program is named here. Gunzip, plain: members of stored bytes. No program is named here. -/
import Derived.Test.YtbbcphloafmldaaGreatBnd22
import Derived.Test.YtbbcphloafmldaaGreatFrmPutZ
/-! Gunzip, plain: what is read of bytes is read of them with more behind; what is kept plays no part in what a file says. No program is named here. -/
namespace Go.Proofs.YtbbcphloafmldaaGreat
open Go.RowKit
set_option linter.unusedVariables false

theorem symS_more {L1 L2 : List Nat} {bits more : List Bool} {p : Nat} {out : List Nat} (g1 : Good L1) (g2 : Good L2) (h : symS L1 L2 bits p out ≠ .bad) : symS L1 L2 (bits ++ more) p out = symS L1 L2 bits p out := by
  unfold symS at h ⊢
  cases hd : decS L1 bits p with
  | none => rw [hd] at h; exact absurd rfl h
  | some x =>
    obtain ⟨c, q⟩ := x
    rw [hd] at h
    rw [decS_more g1 hd]
    dsimp only at h ⊢
    split
    · rfl
    · rename_i h1
      rw [if_neg h1] at h
      split
      · rfl
      · rename_i h2
        rw [if_neg h2] at h
        cases hl : lenOf c with
        | none => rw [hl] at h
        | some y =>
          obtain ⟨ll, lb⟩ := y
          rw [hl] at h
          dsimp only at h ⊢
          cases hr : rd bits q lb with
          | none => rw [hr] at h; exact absurd rfl h
          | some z =>
            obtain ⟨x, q2⟩ := z
            rw [hr] at h
            rw [rd_more hr]
            dsimp only at h ⊢
            cases hd2 : decS L2 bits q2 with
            | none => rw [hd2] at h; exact absurd rfl h
            | some z2 =>
              obtain ⟨d, q3⟩ := z2
              rw [hd2] at h
              rw [decS_more g2 hd2]
              dsimp only at h ⊢
              cases hl2 : distOf d with
              | none => rw [hl2] at h
              | some y2 =>
                obtain ⟨dl, db⟩ := y2
                rw [hl2] at h
                dsimp only at h ⊢
                cases hr2 : rd bits q3 db with
                | none => rw [hr2] at h; exact absurd rfl h
                | some z3 =>
                  obtain ⟨y, q4⟩ := z3
                  rw [rd_more hr2]
theorem symF_more {L1 L2 : List Nat} {bits more : List Bool} (g1 : Good L1) (g2 : Good L2) : ∀ (k p : Nat) (out : List Nat) {x : Nat × List Nat}, bits.length - p ≤ k → symF L1 L2 bits p out = some x → symF L1 L2 (bits ++ more) p out = some x := by
  intro k
  induction k with
  | zero =>
    intro p out x hk h
    cases hs : symS L1 L2 bits p out with
    | bad => rw [symF_bad hs] at h; cases h
    | stop q => rw [symF_stop hs] at h; rw [symF_stop ((symS_more g1 g2 (by rw [hs]; exact fun e => by cases e)).trans hs)]; exact h
    | go q o => have := symS_go hs; omega
  | succ k ih =>
    intro p out x hk h
    cases hs : symS L1 L2 bits p out with
    | bad => rw [symF_bad hs] at h; cases h
    | stop q => rw [symF_stop hs] at h; rw [symF_stop ((symS_more g1 g2 (by rw [hs]; exact fun e => by cases e)).trans hs)]; exact h
    | go q o =>
      have := symS_go hs
      rw [symF_go hs] at h
      rw [symF_go ((symS_more g1 g2 (by rw [hs]; exact fun e => by cases e)).trans hs)]
      exact ih q o (by omega) h
theorem storedF_more {bits more : List Bool} {p : Nat} {out : List Nat} {x : Nat × List Nat} (h : storedF bits p out = some x) : storedF (bits ++ more) p out = some x := by
  unfold storedF at h ⊢
  cases h1 : rd bits ((p + 7) / 8 * 8) 16 with
  | none => rw [h1] at h; cases h
  | some y =>
    obtain ⟨n, q⟩ := y
    rw [h1] at h
    rw [rd_more h1]
    dsimp only at h ⊢
    cases h2 : rd bits q 16 with
    | none => rw [h2] at h; cases h
    | some z =>
      obtain ⟨m, q2⟩ := z
      rw [h2] at h
      rw [rd_more h2]
      dsimp only at h ⊢
      split at h
      · cases h
      · rename_i hm
        rw [if_neg hm]
        split at h
        · rename_i hl
          rw [if_pos (by rw [List.length_append]; omega), ← h]
          congr 3
          refine List.map_congr_left (fun i hi => ?_)
          rw [xAt_more (by have := List.mem_range.1 hi; omega)]
        · cases h
theorem wlF_more {bits more : List Bool} : ∀ (n i : Nat) (acc : List Nat) (p : Nat) {x : Nat × List Nat}, wlF bits n i acc p = some x → wlF (bits ++ more) n i acc p = some x
  | 0, i, acc, p, x, h => by rw [wlF] at h ⊢; exact h
  | n + 1, i, acc, p, x, h => by
    rw [wlF] at h ⊢
    cases h1 : rd bits p 3 with
    | none => rw [h1] at h; cases h
    | some y =>
      obtain ⟨v, q⟩ := y
      rw [h1] at h
      rw [rd_more h1]
      exact wlF_more n (i + 1) _ q h
theorem wlF_lens {bits : List Bool} : ∀ (n i : Nat) (acc : List Nat) (p : Nat) {q : Nat} {L : List Nat}, wlF bits n i acc p = some (q, L) → (∀ x ∈ acc, x < 8) → L.length = acc.length ∧ ∀ x ∈ L, x < 8
  | 0, i, acc, p, q, L, h, ha => by rw [wlF] at h; cases h; exact ⟨rfl, ha⟩
  | n + 1, i, acc, p, q, L, h, ha => by
    rw [wlF] at h
    split at h
    · cases h
    · rename_i v q1 h1
      have hv : v < 8 := by
        have := (rd_lt h1).2.2
        dsimp only at this
        rw [this]
        exact Nat.lt_of_lt_of_le (numOf_lt false (xAt bits p 3)) (Nat.pow_le_pow_right (show 2 > 0 by decide) (show (xAt bits p 3).length ≤ 3 by unfold xAt; rw [List.length_take]; omega))
      have h2 := wlF_lens n (i + 1) _ q1 h (fun x hx => by
        rcases List.mem_or_eq_of_mem_set hx with h | h
        · exact ha x h
        · rw [h]; exact hv)
      rw [List.length_set] at h2
      exact h2
theorem sgF_more {L : List Nat} {bits more : List Bool} (hg : Good L) : ∀ (k n said : Nat) (acc : List (Nat × Nat)) (p : Nat) {x : Nat × List (Nat × Nat)}, bits.length - p ≤ k → sgF L bits n said acc p = some x → sgF L (bits ++ more) n said acc p = some x := by
  intro k
  induction k with
  | zero =>
    intro n said acc p x hk h
    rw [sgF] at h ⊢
    split at h
    · rename_i hn; rw [if_pos hn]; exact h
    · rename_i hn
      rw [if_neg hn]
      cases hd : decS L bits p with
      | none => rw [hd] at h; cases h
      | some y => obtain ⟨c, q⟩ := y; have := decS_lt hd; omega
  | succ k ih =>
    intro n said acc p x hk h
    rw [sgF] at h ⊢
    split at h
    · rename_i hn; rw [if_pos hn]; exact h
    · rename_i hn
      rw [if_neg hn]
      cases hd : decS L bits p with
      | none => rw [hd] at h; cases h
      | some y =>
        obtain ⟨c, q⟩ := y
        rw [hd] at h
        rw [decS_more hg hd]
        dsimp only at h ⊢
        cases hr : rd bits q (exbH c) with
        | none => rw [hr] at h; cases h
        | some z =>
          obtain ⟨v, q2⟩ := z
          rw [hr] at h
          rw [rd_more hr]
          dsimp only at h ⊢
          split at h
          · rename_i hq
            rw [if_pos (by rw [List.length_append]; omega)]
            exact ih n _ _ q2 (by omega) h
          · cases h
theorem hdrF_more {bits more : List Bool} {p : Nat} {x : List Nat × List Nat × Nat} (h : hdrF bits p = some x) : hdrF (bits ++ more) p = some x := by
  unfold hdrF at h ⊢
  cases h1 : rd bits p 5 with
  | none => rw [h1] at h; cases h
  | some y1 =>
    obtain ⟨x1, p1⟩ := y1
    rw [h1] at h
    rw [rd_more h1]
    dsimp only at h ⊢
    cases h2 : rd bits p1 5 with
    | none => rw [h2] at h; cases h
    | some y2 =>
      obtain ⟨x2, p2⟩ := y2
      rw [h2] at h
      rw [rd_more h2]
      dsimp only at h ⊢
      cases h3 : rd bits p2 4 with
      | none => rw [h3] at h; cases h
      | some y3 =>
        obtain ⟨x3, p3⟩ := y3
        rw [h3] at h
        rw [rd_more h3]
        dsimp only at h ⊢
        cases h4 : wlF bits (x3 + 4) 0 (List.replicate 19 0) p3 with
        | none => rw [h4] at h; cases h
        | some y4 =>
          obtain ⟨p4, lens⟩ := y4
          rw [h4] at h
          rw [wlF_more _ _ _ _ h4]
          dsimp only at h ⊢
          split at h
          · cases h
          · rename_i hc
            rw [if_neg hc]
            have hl := wlF_lens _ _ _ _ h4 (fun x hx => by rw [(List.mem_replicate.1 hx).2]; decide)
            have hg : Good lens := class_good (Or.inl (Classical.not_not.1 hc)) (List.all_eq_true.2 (fun b hb => by have := hl.2 b hb; simp; omega)) (by rw [hl.1, List.length_replicate]; decide)
            cases h5 : sgF lens bits (x1 + 257 + (x2 + 1)) 0 [] p4 with
            | none => rw [h5] at h; cases h
            | some y5 =>
              rw [h5] at h
              rw [sgF_more hg _ _ _ _ _ (Nat.le_refl _) h5]
              exact h
theorem kindF_more {k : Nat} {bits more : List Bool} {p : Nat} {out : List Nat} {x : Nat × List Nat} (h : kindF k bits p out = some x) : kindF k (bits ++ more) p out = some x := by
  unfold kindF at h ⊢
  split at h
  · rename_i hk; rw [if_pos hk]; exact storedF_more h
  · rename_i hk
    rw [if_neg hk]
    split at h
    · rename_i hk2; rw [if_pos hk2]; exact symF_more good_fixedA good_fixedB _ _ _ (Nat.le_refl _) h
    · rename_i hk2
      rw [if_neg hk2]
      split at h
      · rename_i hk3
        rw [if_pos hk3]
        unfold dynF at h ⊢
        cases h1 : hdrF bits p with
        | none => rw [h1] at h; cases h
        | some y =>
          obtain ⟨a, b, q⟩ := y
          rw [h1] at h
          rw [hdrF_more h1]
          have hg := mayH_good (hdrF_fit h1).2.2
          exact symF_more hg.1 hg.2 _ _ _ (Nat.le_refl _) h
      · cases h
theorem inflF_more {bits more : List Bool} : ∀ (k p : Nat) (out : List Nat) {x : Nat × List Nat}, bits.length - p ≤ k → inflF bits p out = some x → inflF (bits ++ more) p out = some x := by
  intro k
  induction k with
  | zero =>
    intro p out x hk h
    rw [inflF] at h
    split at h
    · cases h
    · rename_i l p1 h1
      have := rd_fit h1
      omega
  | succ k ih =>
    intro p out x hk h
    rw [inflF] at h ⊢
    cases h1 : rd bits p 1 with
    | none => rw [h1] at h; cases h
    | some y1 =>
      obtain ⟨l, p1⟩ := y1
      rw [h1] at h
      rw [rd_more h1]
      dsimp only at h ⊢
      cases h2 : rd bits p1 2 with
      | none => rw [h2] at h; cases h
      | some y2 =>
        obtain ⟨kd, p2⟩ := y2
        rw [h2] at h
        rw [rd_more h2]
        dsimp only at h ⊢
        cases h3 : kindF kd bits p2 out with
        | none => rw [h3] at h; cases h
        | some y3 =>
          obtain ⟨q, o⟩ := y3
          rw [h3] at h
          rw [kindF_more h3]
          dsimp only at h ⊢
          split at h
          · rename_i hl; rw [if_pos hl]; exact h
          · rename_i hl
            rw [if_neg hl]
            split at h
            · rename_i hq
              rw [if_pos (by rw [List.length_append]; omega)]
              exact ih q o (by omega) h
            · cases h
theorem ofBits_append (hi : Bool) (a b : List Nat) : ofBits hi (a ++ b) = ofBits hi a ++ ofBits hi b := by simp [ofBits]
theorem memF_more {g : List Nat} {keep : Nat} {x : List Nat × Nat × Bool} (hb : ∀ b ∈ g, b < 256) (h : memF g keep = some x) (t : List Nat) : memF (g ++ t) keep = some x := by
  unfold memF at h ⊢
  cases h1 : getH g with
  | none => rw [h1] at h; cases h
  | some y =>
    obtain ⟨hd, n, wr⟩ := y
    have hn := (getH_inv hb h1).le
    rw [h1] at h
    rw [getH_more hb h1]
    dsimp only at h ⊢
    rw [List.drop_append_of_le_length hn, ofBits_append]
    cases h2 : inflF (ofBits false (g.drop n)) 0 [] with
    | none => rw [h2] at h; cases h
    | some z =>
      obtain ⟨q, full⟩ := z
      rw [h2] at h
      rw [inflF_more _ _ _ (Nat.le_refl _) h2]
      dsimp only at h ⊢
      split at h
      · cases h
      · rename_i hl
        rw [if_neg (by rw [List.length_append]; omega), List.drop_append_of_le_length (by omega), List.take_append_of_le_length (by rw [List.length_drop]; omega)]
        exact h
theorem memF_any {g : List Nat} {k : Nat} {full : List Nat} {u : Nat} {wr : Bool} (h : memF g k = some (full, u, wr)) (k2 : Nat) : ∃ wr2, memF g k2 = some (full, u, wr2) ∧ (full.length ≤ k → full.length ≤ k2 → wr2 = wr) := by
  unfold memF at h ⊢
  cases h1 : getH g with
  | none => rw [h1] at h; cases h
  | some y =>
    obtain ⟨hd, n, w⟩ := y
    rw [h1] at h
    dsimp only at h ⊢
    cases h2 : inflF (ofBits false (g.drop n)) 0 [] with
    | none => rw [h2] at h; cases h
    | some z =>
      obtain ⟨q, fl⟩ := z
      rw [h2] at h
      dsimp only at h ⊢
      split at h
      · cases h
      · rename_i hl
        rw [if_neg hl]
        cases h
        exact ⟨_, rfl, fun a b => by rw [decide_eq_true a, decide_eq_true b]⟩
theorem gunF_some {g : List Nat} {k : Nat} {F : List Nat} {w : Bool} (h : gunF g k = some (F, w)) : ∃ full u wr, memF g k = some (full, u, wr) ∧ ((u = g.length ∧ F = full ∧ w = wr) ∨ (u ≠ g.length ∧ ∃ F2 w2, gunF (g.drop u) (k - full.length) = some (F2, w2) ∧ F = full ++ F2 ∧ w = (wr || w2))) := by
  cases hm : memF g k with
  | none => rw [gunF_none hm] at h; cases h
  | some x =>
    obtain ⟨full, u, wr⟩ := x
    refine ⟨full, u, wr, rfl, ?_⟩
    by_cases hu : u = g.length
    · rw [gunF_last hm hu] at h; cases h; exact Or.inl ⟨hu, rfl, rfl⟩
    · rw [gunF_more hm hu] at h
      cases h2 : gunF (g.drop u) (k - full.length) with
      | none => rw [h2] at h; cases h
      | some z =>
        rw [h2] at h
        cases h
        exact Or.inr ⟨hu, z.1, z.2, rfl, rfl, rfl⟩
/-- what is kept plays no part in what a file says; where all is kept, none in whether it is wrong. -/
theorem gunF_any : ∀ (n : Nat) {g : List Nat} {k : Nat} {F : List Nat} {w : Bool}, g.length ≤ n → gunF g k = some (F, w) → ∀ k2, ∃ w2, gunF g k2 = some (F, w2) ∧ (F.length ≤ k → F.length ≤ k2 → w2 = w) := by
  intro n
  induction n with
  | zero =>
    intro g k F w hn h k2
    obtain ⟨full, u, wr, hm, _⟩ := gunF_some h
    have := memF_fit hm
    omega
  | succ n ih =>
    intro g k F w hn h k2
    obtain ⟨full, u, wr, hm, h2⟩ := gunF_some h
    have hf := memF_fit hm
    obtain ⟨wr2, hm2, hw2⟩ := memF_any hm k2
    rcases h2 with ⟨hu, rfl, rfl⟩ | ⟨hu, F2, w2, h3, rfl, rfl⟩
    · exact ⟨wr2, gunF_last hm2 hu, hw2⟩
    · obtain ⟨w3, h4, hw3⟩ := ih (by rw [List.length_drop]; omega) h3 (k2 - full.length)
      refine ⟨wr2 || w3, by rw [gunF_more hm2 hu, h4]; rfl, fun a b => ?_⟩
      rw [List.length_append] at a b
      rw [hw2 (by omega) (by omega), hw3 (by omega) (by omega)]
/-- two files, one behind the other. -/
theorem gunF_append : ∀ (n : Nat) {a b : List Nat} {k : Nat} {F : List Nat} {w : Bool}, a.length ≤ n → (∀ x ∈ a, x < 256) → b ≠ [] → gunF a k = some (F, w) → gunF (a ++ b) k = (gunF b (k - F.length)).map fun z => (F ++ z.1, w || z.2) := by
  intro n
  induction n with
  | zero =>
    intro a b k F w hn ha hb h
    obtain ⟨full, u, wr, hm, _⟩ := gunF_some h
    have := memF_fit hm
    omega
  | succ n ih =>
    intro a b k F w hn ha hb h
    obtain ⟨full, u, wr, hm, h2⟩ := gunF_some h
    have hf := memF_fit hm
    have hm2 := memF_more ha hm b
    have hbl : 0 < b.length := List.length_pos_iff.2 hb
    have hu2 : u ≠ (a ++ b).length := by rw [List.length_append]; omega
    rw [gunF_more hm2 hu2]
    rcases h2 with ⟨hu, rfl, rfl⟩ | ⟨hu, F2, w2, h3, rfl, rfl⟩
    · rw [hu, List.drop_left]
    · rw [List.drop_append_of_le_length hf.2, ih (by rw [List.length_drop]; omega) (fun x hx => ha x (List.mem_of_mem_drop hx)) hb h3, List.length_append, Nat.sub_sub]
      cases gunF b (k - (full.length + F2.length)) <;> simp [List.append_assoc, Bool.or_assoc]
end Go.Proofs.YtbbcphloafmldaaGreat

/-! Gunzip, plain: members of stored bytes. No program is named here. -/
namespace Go.Proofs.YtbbcphloafmldaaGreat
open Go.RowKit
set_option linter.unusedVariables false

theorem numOf_app (l : List Bool) : ∀ (n : Nat) (m : List Bool), m.length = n → numOf false (l ++ m) = numOf false l + 2 ^ l.length * numOf false m := by
  intro n
  induction n with
  | zero => intro m hm; rw [List.eq_nil_of_length_eq_zero hm, List.append_nil]; simp [numOf]
  | succ n ih =>
    intro m hm
    have hne : m ≠ [] := fun e => by rw [e] at hm; cases hm
    obtain ⟨k, b, rfl⟩ : ∃ k b, m = k ++ [b] := ⟨m.dropLast, m.getLast hne, (List.dropLast_concat_getLast hne).symm⟩
    rw [List.length_append] at hm
    rw [← List.append_assoc, numOf_low, ih k (by simpa using hm), numOf_low, List.length_append, Nat.pow_add, Nat.mul_add, Nat.add_assoc]
    congr 2
    rw [Nat.mul_left_comm]
theorem bitsAt_two (hi : Bool) (bs : List Nat) (i a b : Nat) : bitsAt hi bs i (a + b) = bitsAt hi bs i a ++ bitsAt hi bs (i + a) b := by
  unfold bitsAt
  rw [List.range_add, List.map_append, List.map_map]
  congr 1
  refine List.map_congr_left (fun j _ => ?_)
  show rbit hi bs (i + (a + j)) = rbit hi bs (i + a + j)
  rw [Nat.add_assoc]
theorem at_byte {bs : List Nat} (k : Nat) (h : bs.getD k 0 < 256) : numOf false (bitsAt false bs (8 * k) 8) = bs.getD k 0 := by
  rw [bitsAt_byte, numOf_bitsOf false _ _ h]
theorem at_two {bs : List Nat} (k : Nat) (h : bs.getD k 0 < 256) (h2 : bs.getD (k + 1) 0 < 256) : numOf false (bitsAt false bs (8 * k) 16) = bs.getD k 0 + 256 * bs.getD (k + 1) 0 := by
  rw [show 16 = 8 + 8 from rfl, bitsAt_two, numOf_app _ _ _ rfl, length_bitsAt, at_byte k h, show 8 * k + 8 = 8 * (k + 1) by omega, at_byte (k + 1) h2]
theorem getD_app_r (l m : List Nat) (i : Nat) : (l ++ m).getD (l.length + i) 0 = m.getD i 0 := by
  rw [List.getD, List.getD, List.getElem?_append_right (by omega), Nat.add_sub_cancel_left]
theorem getD_app_l (l m : List Nat) (i : Nat) (h : i < l.length) : (l ++ m).getD i 0 = l.getD i 0 := by
  rw [List.getD, List.getD, List.getElem?_append_left h]
/-- a stored block, the last one. -/
def stoL (b : List Nat) : List Nat := [1, b.length % 256, b.length / 256, 255 - b.length % 256, 255 - b.length / 256] ++ b
theorem sto_infl (b r : List Nat) (hl : b.length < 65536) (hb : ∀ x ∈ b, x < 256) : inflF (ofBits false (stoL b ++ r)) 0 [] = some (40 + 8 * b.length, b) := by
  obtain ⟨bs, hbs⟩ : ∃ bs, bs = stoL b ++ r := ⟨_, rfl⟩
  have hlen : bs.length = 5 + b.length + r.length := by rw [hbs, stoL]; simp; omega
  have g0 : bs[0]? = some 1 := by rw [hbs, stoL]; rfl
  have g1 : bs.getD 1 0 = b.length % 256 := by rw [hbs, stoL]; rfl
  have g2 : bs.getD 2 0 = b.length / 256 := by rw [hbs, stoL]; rfl
  have g3 : bs.getD 3 0 = 255 - b.length % 256 := by rw [hbs, stoL]; rfl
  have g4 : bs.getD 4 0 = 255 - b.length / 256 := by rw [hbs, stoL]; rfl
  have g5 : ∀ i, i < b.length → bs.getD (5 + i) 0 = b.getD i 0 := fun i hi => by
    rw [hbs, stoL, List.append_assoc]
    exact (getD_app_r [1, b.length % 256, b.length / 256, 255 - b.length % 256, 255 - b.length / 256] (b ++ r) i).trans (getD_app_l b r i hi)
  rw [← hbs]
  have hL : (ofBits false bs).length = 8 * bs.length := length_ofBits _ _
  have r1 : rd (ofBits false bs) 0 1 = some (1, 1) := by
    rw [rd_some (by omega), xAt_bits _ _ _ _ (by omega)]
    have : bitsAt false bs 0 1 = [true] := by simp [bitsAt, rbit, g0, sh]
    rw [this]; rfl
  have r2 : rd (ofBits false bs) 1 2 = some (0, 3) := by
    rw [rd_some (by omega), xAt_bits _ _ _ _ (by omega)]
    have : bitsAt false bs 1 2 = [false, false] := by simp [bitsAt, rbit, g0, sh, List.range_succ]; decide
    rw [this]; rfl
  have r3 : rd (ofBits false bs) 8 16 = some (b.length, 24) := by
    rw [rd_some (by omega), xAt_bits _ _ _ _ (by omega), show 8 = 8 * 1 from rfl, at_two 1 (by rw [g1]; omega) (by rw [g2]; omega), g1, g2]
    have : b.length % 256 + 256 * (b.length / 256) = b.length := by omega
    rw [this]
  have r4 : rd (ofBits false bs) 24 16 = some (65535 - b.length, 40) := by
    rw [rd_some (by omega), xAt_bits _ _ _ _ (by omega), show 24 = 8 * 3 from rfl, at_two 3 (by rw [g3]; omega) (by rw [g4]; omega), g3, g4]
    have : 255 - b.length % 256 + 256 * (255 - b.length / 256) = 65535 - b.length := by omega
    rw [this]
  have hst : storedF (ofBits false bs) 3 [] = some (40 + 8 * b.length, b) := by
    unfold storedF
    rw [show (3 + 7) / 8 * 8 = 8 from rfl, r3]
    simp only
    rw [r4]
    simp only
    rw [if_neg (fun h => h rfl), if_pos (by omega)]
    have : (List.range b.length).map (fun i => numOf false (xAt (ofBits false bs) (40 + 8 * i) 8)) = b := by
      refine List.ext_getElem (by simp) (fun i h1 h2 => ?_)
      simp only [List.getElem_map, List.getElem_range]
      have e := g5 i h2
      have hlt : b.getD i 0 < 256 := by rw [List.getD, List.getElem?_eq_getElem h2]; exact hb _ (List.getElem_mem h2)
      rw [xAt_bits _ _ _ _ (by omega), show 40 + 8 * i = 8 * (5 + i) by omega, at_byte _ (by rw [e]; exact hlt), e, List.getD, List.getElem?_eq_getElem h2]
      rfl
    rw [this]; rfl
  rw [inflF, r1]
  simp only
  rw [r2]
  simp only
  rw [show kindF 0 (ofBits false bs) 3 [] = storedF (ofBits false bs) 3 [] from rfl, hst]
  rfl
/-- a member of stored bytes behind a head's bytes. -/
theorem sto_memF {hb : List Nat} {hd : Hd} {n : Nat} {wr : Bool} {b r : List Nat} (hg : getH (hb ++ (stoL b ++ r)) = some (hd, n, wr)) (hn : n = hb.length) (hl : b.length < 65536) (hbb : ∀ x ∈ b, x < 256) (keep : Nat) :
    memF (hb ++ (stoL b ++ r)) keep = if r.length < 8 then none else some (b, hb.length + 5 + b.length + 8, wr || (decide (b.length ≤ keep) && !decide (r.take 8 = tailL b))) := by
  subst hn
  unfold memF
  rw [hg]
  simp only
  rw [List.drop_left, sto_infl b r hl hbb]
  simp only
  have e : (40 + 8 * b.length + 7) / 8 = 5 + b.length := by omega
  have hs : (stoL b).length = 5 + b.length := by simp [stoL]; omega
  have h1 : (hb ++ (stoL b ++ r)).length = hb.length + (5 + b.length + r.length) := by rw [List.length_append, List.length_append, hs]
  have h2 : (hb ++ (stoL b ++ r)).drop (hb.length + (5 + b.length)) = r := by rw [← List.append_assoc, List.drop_left' (by rw [List.length_append, hs])]
  rw [e, h1, h2]
  by_cases hr : r.length < 8
  · rw [if_pos hr, if_pos (by omega)]
  · rw [if_neg hr, if_neg (by omega), Nat.add_assoc hb.length 5]
/-- a member of bytes, stored. -/
def memL (h : Hd) (b : List Nat) : List Nat := putH h ++ (stoL b ++ tailL b)
theorem len_tailL (b : List Nat) : (tailL b).length = 8 := by simp [tailL, length_leN]
theorem len_memL (h : Hd) (b : List Nat) : (memL h b).length = (putH h).length + 5 + b.length + 8 := by
  rw [memL, List.length_append, List.length_append, len_tailL]; simp [stoL]; omega
theorem stoL_lt {b : List Nat} (hl : b.length < 65536) (hb : ∀ x ∈ b, x < 256) : ∀ x ∈ stoL b, x < 256 := fun x hx => by
  rcases List.mem_append.1 hx with h | h
  · simp only [List.mem_cons, List.not_mem_nil, or_false] at h
    omega
  · exact hb x h
theorem mem_gunF (h : Hd) (ok : HOk h) (may : MayH h) (b : List Nat) (hl : b.length < 65536) (hb : ∀ x ∈ b, x < 256) (k : Nat) : gunF (memL h b) k = some (b, false) := by
  have h1 := sto_memF (hb := putH h) (b := b) (r := tailL b) (getH_putH h ok may _) rfl hl hb k
  rw [if_neg (by rw [len_tailL]; omega), List.take_of_length_le (by rw [len_tailL]; omega)] at h1
  simp at h1
  refine gunF_last h1 ?_
  show _ = (memL h b).length
  rw [len_memL]
/-- without its last byte. -/
theorem mem_short (h : Hd) (ok : HOk h) (may : MayH h) (b : List Nat) (hl : b.length < 65536) (hb : ∀ x ∈ b, x < 256) (k : Nat) : gunF ((memL h b).take ((memL h b).length - 1)) k = none := by
  have e : (memL h b).take ((memL h b).length - 1) = putH h ++ (stoL b ++ (tailL b).take 7) := by
    have hs : (stoL b).length = 5 + b.length := by simp [stoL]; omega
    rw [len_memL, memL, List.take_append, List.take_append, List.take_of_length_le (by omega), List.take_of_length_le (by omega), hs]
    congr 3
    omega
  have h1 := sto_memF (hb := putH h) (b := b) (r := (tailL b).take 7) (getH_putH h ok may _) rfl hl hb k
  rw [if_pos (by rw [List.length_take]; omega)] at h1
  rw [e]
  exact gunF_none h1
/-- with another tail. -/
theorem mem_other (h : Hd) (ok : HOk h) (may : MayH h) (b t : List Nat) (hl : b.length < 65536) (hb : ∀ x ∈ b, x < 256) (ht : t.length = 8) (hne : t ≠ tailL b) (k : Nat) (hk : b.length ≤ k) : gunF (putH h ++ (stoL b ++ t)) k = some (b, true) := by
  have h1 := sto_memF (hb := putH h) (b := b) (r := t) (getH_putH h ok may _) rfl hl hb k
  rw [if_neg (by omega), List.take_of_length_le (by omega), decide_eq_true hk, decide_eq_false hne] at h1
  refine gunF_last h1 ?_
  rw [List.length_append, List.length_append, ht]
  simp [stoL]; omega
/-- members, and what stands behind them. -/
theorem mem_front (h : Hd) (ok : HOk h) (may : MayH h) (hpb : ∀ x ∈ putH h, x < 256) (X : List Nat) (hX : X ≠ []) : ∀ (ms : List (List Nat)) (k : Nat), (∀ b ∈ ms, b.length < 65536 ∧ ∀ x ∈ b, x < 256) →
    gunF ((ms.map (memL h)).flatten ++ X) k = (gunF X (k - ms.flatten.length)).map fun z => (ms.flatten ++ z.1, z.2)
  | [], k, _ => by
    simp only [List.map_nil, List.flatten_nil, List.nil_append, List.length_nil, Nat.sub_zero]
    cases gunF X k <;> rfl
  | b :: ms, k, hm => by
    have hb := hm b (List.mem_cons_self ..)
    have ih := mem_front h ok may hpb X hX ms (k - b.length) (fun c hc => hm c (List.mem_cons_of_mem _ hc))
    rw [List.map_cons, List.flatten_cons, List.append_assoc, gunF_append _ (Nat.le_refl _) ?_ ?_ (mem_gunF h ok may b hb.1 hb.2 k), ih, List.flatten_cons, List.length_append, Nat.sub_sub]
    · cases gunF X (k - (b.length + ms.flatten.length)) <;> simp [List.append_assoc]
    · intro x hx
      rcases List.mem_append.1 hx with hx | hx
      · exact hpb x hx
      · rcases List.mem_append.1 hx with hx | hx
        · exact stoL_lt hb.1 hb.2 x hx
        · exact tailL_lt b x hx
    · intro e
      exact hX (List.append_eq_nil_iff.1 e).2
end Go.Proofs.YtbbcphloafmldaaGreat
