/- Symbols in the order of their frequencies, plain: one order; the lengths symbol by symbol. No program is named here. -/
import Derived.Test.YtblbggdglndiiaaLimDoc
namespace Go.Proofs.Ytblbggdglndiiaa
set_option linter.unusedVariables false

/-- rarer, or as rare and before. -/
def Before (F : List Nat) (a b : Nat) : Prop := F.getD a 0 < F.getD b 0 ∨ (F.getD a 0 = F.getD b 0 ∧ a < b)
theorem Before.irrefl {F : List Nat} {a : Nat} (h : Before F a a) : False := by
  rcases h with h | h <;> omega
theorem Before.asymm {F : List Nat} {a b : Nat} (h : Before F a b) (h2 : Before F b a) : False := by
  rcases h with h | h <;> rcases h2 with h2 | h2 <;> omega
theorem Before.trans {F : List Nat} {a b c : Nat} (h : Before F a b) (h2 : Before F b c) : Before F a c := by
  rcases h with h | h <;> rcases h2 with h2 | h2 <;> simp only [Before] <;> omega
theorem Before.total {F : List Nat} {a b : Nat} (h : a ≠ b) : Before F a b ∨ Before F b a := by
  simp only [Before]; omega
/-- all symbols that occur, the rarest first. -/
structure IsOrd (F P : List Nat) : Prop where
  up : P.Pairwise (Before F)
  mem : ∀ s, s ∈ P ↔ s < F.length ∧ 0 < F.getD s 0
/-- of the same there is one order. -/
theorem before_same (F : List Nat) : ∀ P Q : List Nat, P.Pairwise (Before F) → Q.Pairwise (Before F) → (∀ s, s ∈ P ↔ s ∈ Q) → P = Q
  | [], [], _, _, _ => rfl
  | [], y :: Q, _, _, h => by have := (h y).2 (List.mem_cons_self ..); cases this
  | x :: P, [], _, _, h => by have := (h x).1 (List.mem_cons_self ..); cases this
  | x :: P, y :: Q, hp, hq, h => by
    rw [List.pairwise_cons] at hp hq
    obtain rfl : x = y := by
      rcases List.mem_cons.1 ((h x).1 (List.mem_cons_self ..)) with e | e
      · exact e
      · rcases List.mem_cons.1 ((h y).2 (List.mem_cons_self ..)) with e2 | e2
        · exact e2.symm
        · exact ((hp.1 y e2).asymm (hq.1 x e)).elim
    rw [before_same F P Q hp.2 hq.2 (fun s => ?_)]
    refine ⟨fun hs => ?_, fun hs => ?_⟩
    · rcases List.mem_cons.1 ((h s).1 (List.mem_cons_of_mem _ hs)) with rfl | e
      · exact (hp.1 s hs).irrefl.elim
      · exact e
    · rcases List.mem_cons.1 ((h s).2 (List.mem_cons_of_mem _ hs)) with rfl | e
      · exact (hq.1 s hs).irrefl.elim
      · exact e
theorem ord_same {F P Q : List Nat} (h : IsOrd F P) (h2 : IsOrd F Q) : P = Q :=
  before_same F P Q h.up h2.up (fun s => (h.mem s).trans (h2.mem s).symm)
theorem before_nodup {F P : List Nat} (h : P.Pairwise (Before F)) : P.Nodup := h.imp (fun h e => by subst e; exact h.irrefl)
def wtsOf (F P : List Nat) : List Nat := P.map fun s => F.getD s 0
theorem ord_rises {F P : List Nat} (h : IsOrd F P) : Rises (wtsOf F P) :=
  (rises_pairwise _).2 (List.pairwise_map.2 (h.up.imp (fun h => by rcases h with h | h <;> omega)))
theorem ord_perm {F P : List Nat} (h : IsOrd F P) : P.Perm ((List.range F.length).filter fun s => decide (0 < F.getD s 0)) :=
  (List.perm_ext_iff_of_nodup (before_nodup h.up) (List.Pairwise.filter _ List.nodup_range)).2 (fun s => by
    rw [h.mem, List.mem_filter, List.mem_range, decide_eq_true_iff])
/-- the lengths, symbol by symbol: one for each level that the symbol is in. -/
def outAt (P ks : List Nat) (s : Nat) : Nat := (ks.filter fun k => decide (s ∈ P.take k)).length
def outL (F P ks : List Nat) : List Nat := (List.range F.length).map (outAt P ks)
theorem outL_len (F P ks : List Nat) : (outL F P ks).length = F.length := by simp [outL]
theorem mem_take_nodup {P : List Nat} (h : P.Nodup) (r k : Nat) (hr : r < P.length) : P[r] ∈ P.take k ↔ r < k := by
  rw [List.mem_iff_getElem]
  constructor
  · rintro ⟨j, hj, e⟩
    rw [List.getElem_take] at e
    rw [List.length_take] at hj
    have hj2 : j < P.length := by omega
    have h3 := List.pairwise_iff_getElem.1 h
    by_cases e1 : j < r
    · exact absurd e (h3 j r hj2 hr e1)
    · by_cases e2 : r < j
      · exact absurd e.symm (h3 r j hr hj2 e2)
      · omega
  · intro hk
    exact ⟨r, by rw [List.length_take]; omega, by rw [List.getElem_take]⟩
theorem outAt_ord {P : List Nat} (h : P.Nodup) (ks : List Nat) (r : Nat) (hr : r < P.length) : outAt P ks P[r] = lenK ks r := by
  rw [outAt, lenK]
  congr 1
  refine List.filter_congr (fun k _ => ?_)
  rw [decide_eq_decide]
  exact mem_take_nodup h r k hr
theorem outAt_not {P : List Nat} (ks : List Nat) {s : Nat} (h : s ∉ P) : outAt P ks s = 0 := by
  rw [outAt, List.filter_eq_nil_iff.2 (fun k _ => by simp; exact fun hm => h (List.mem_of_mem_take hm))]; rfl
/-- in the order of the symbols: weights with lengths. -/
theorem out_pairs {F P : List Nat} (h : IsOrd F P) (ks : List Nat) : P.map (fun s => (F.getD s 0, outAt P ks s)) = (wtsOf F P).zip (lensK ks P.length) := by
  refine List.ext_getElem (by simp [wtsOf, lensK]) (fun r h1 h2 => ?_)
  simp only [List.length_map] at h1
  simp only [List.getElem_map, List.getElem_zip, wtsOf, lensK, List.getElem_range]
  rw [outAt_ord (before_nodup h.up) ks r h1]
theorem sum_filter_zero (f : Nat → Nat) (p : Nat → Bool) : ∀ l : List Nat, (∀ s ∈ l, p s = false → f s = 0) → ((l.filter p).map f).sum = (l.map f).sum
  | [], _ => rfl
  | a :: l, h => by
    have ih := sum_filter_zero f p l (fun s hs => h s (List.mem_cons_of_mem _ hs))
    have h0 := h a (List.mem_cons_self ..)
    cases e : p a with
    | true => rw [List.filter_cons_of_pos e, List.map_cons, List.map_cons, List.sum_cons, List.sum_cons, ih]
    | false => rw [List.filter_cons_of_neg (by rw [e]; decide), List.map_cons, List.sum_cons, ih, h0 e, Nat.zero_add]
/-- what lengths cost, symbol by symbol, whatever they are. -/
def costF (F : List Nat) (f : Nat → Nat) : Nat := ((List.range F.length).map fun s => F.getD s 0 * f s).sum
theorem costF_ord {F P : List Nat} (h : IsOrd F P) (f : Nat → Nat) : costF F f = dotP (P.map fun s => (F.getD s 0, f s)) := by
  rw [dotP, List.map_map, costF, ← sum_filter_zero (fun s => F.getD s 0 * f s) (fun s => decide (0 < F.getD s 0)) (List.range F.length) (fun s _ hs => by
    have : F.getD s 0 = 0 := by simpa using hs
    show F.getD s 0 * f s = 0
    rw [this, Nat.zero_mul])]
  exact ((ord_perm h).map _).symm.sum_nat
/-- the work's lengths cost the least. -/
theorem out_cost {F P : List Nat} (h : IsOrd F P) (i : Nat) : costF F (outAt P (takes (wtsOf F P) i (2 * P.length - 2))) = dot (wtsOf F P) (bestL (wtsOf F P) i) := by
  have hl : (wtsOf F P).length = P.length := by simp [wtsOf]
  rw [costF_ord h, out_pairs h, zip_dot _ _ (by rw [lensK_len, hl]), bestL, hl]
/-- no others cost less. -/
theorem out_least {F P : List Nat} (h : IsOrd F P) (i : Nat) (h1 : P.length ≤ 2 ^ (i + 1)) (h2 : 1 ≤ P.length) (f : Nat → Nat) (hf : Full (i + 1) (P.map f)) : costF F (outAt P (takes (wtsOf F P) i (2 * P.length - 2))) ≤ costF F f := by
  have hl : (wtsOf F P).length = P.length := by simp [wtsOf]
  rw [out_cost h, costF_ord h]
  refine perm_least (ord_rises h) i (by rw [hl]; exact h1) (by rw [hl]; exact h2) _ (by rw [List.map_map]; exact List.Perm.refl _) (fun p hp => ?_) (by rw [List.map_map]; exact hf.2)
  obtain ⟨s, hs, rfl⟩ := List.mem_map.1 hp
  exact hf.1 _ (List.mem_map.2 ⟨s, hs, rfl⟩)
/-- they are a full code. -/
theorem out_full {F P : List Nat} (h : IsOrd F P) (i : Nat) (h1 : P.length ≤ 2 ^ (i + 1)) (h2 : 1 ≤ P.length) : Full (i + 1) (P.map (outAt P (takes (wtsOf F P) i (2 * P.length - 2)))) := by
  have hl : (wtsOf F P).length = P.length := by simp [wtsOf]
  have e : P.map (outAt P (takes (wtsOf F P) i (2 * P.length - 2))) = bestL (wtsOf F P) i := by
    have := congrArg (List.map (·.2)) (out_pairs h (takes (wtsOf F P) i (2 * P.length - 2)))
    rw [List.map_map, List.map_snd_zip (by rw [lensK_len, hl]; omega)] at this
    rw [bestL, hl]; exact this
  rw [e]
  exact ⟨best_le _ _, best_full (ord_rises h) i (by rw [hl]; exact h1) (by rw [hl]; exact h2)⟩
end Go.Proofs.Ytblbggdglndiiaa
