/- What the statements about least lengths ask, plain: fall, growth, a nought put in, tight limits, no limit. No program is named here. -/
import Derived.Test.YtblbggdglndiiaaLimRank
namespace Go.Proofs.Ytblbggdglndiiaa
set_option linter.unusedVariables false

/-- the work's length of a symbol, for two symbols or more. -/
def lenOf (F P : List Nat) (i : Nat) : Nat → Nat := outAt P (takes (wtsOf F P) i (2 * P.length - 2))
/-- who is more frequent has no longer word. -/
theorem outAt_falls {F P : List Nat} (h : IsOrd F P) (ks : List Nat) {a b : Nat} (ha : a ∈ P) (hab : Before F a b) : outAt P ks b ≤ outAt P ks a := by
  rw [outAt, outAt]
  rw [← List.countP_eq_length_filter, ← List.countP_eq_length_filter]
  refine List.countP_mono_left (fun k _ hk => ?_)
  rw [decide_eq_true_iff] at hk ⊢
  have hp := h.up
  rw [← List.take_append_drop k P] at ha hp
  rcases List.mem_append.1 ha with ha | ha
  · exact ha
  · exact (hab.asymm ((List.pairwise_append.1 hp).2.2 b hk a ha)).elim
theorem range_getD (F : List Nat) : (List.range F.length).map (fun s => F.getD s 0) = F := by
  refine List.ext_getElem (by simp) (fun i h1 h2 => ?_)
  rw [List.getElem_map, List.getElem_range, List.getD_eq_getElem?_getD, List.getElem?_eq_getElem h2]; rfl
/-- the weights are those above 0. -/
theorem wts_perm {F P : List Nat} (h : IsOrd F P) : (wtsOf F P).Perm (F.filter fun x => decide (0 < x)) := by
  have := (ord_perm h).map fun s => F.getD s 0
  have e := List.filter_map (f := fun s => F.getD s 0) (p := fun x => decide (0 < x)) (l := List.range F.length)
  rw [range_getD] at e
  rw [e]; exact this
/-- what it costs is said by the weights above 0 alone. -/
theorem cost_same {F P G Q : List Nat} (h : IsOrd F P) (g : IsOrd G Q) (i : Nat) (e : (F.filter fun x => decide (0 < x)).Perm (G.filter fun x => decide (0 < x))) : costF F (lenOf F P i) = costF G (lenOf G Q i) := by
  rw [lenOf, lenOf, out_cost h, out_cost g, rises_same _ _ ((wts_perm h).trans (e.trans (wts_perm g).symm)) (ord_rises h) (ord_rises g)]
theorem ord_len {F P : List Nat} (h : IsOrd F P) : P.length = (F.filter fun x => decide (0 < x)).length := by
  rw [← (wts_perm h).length_eq, wtsOf, List.length_map]
theorem nought_in (F : List Nat) (k : Nat) : ((F.take k ++ 0 :: F.drop k).filter fun x => decide (0 < x)) = F.filter fun x => decide (0 < x) := by
  rw [List.filter_append, List.filter_cons_of_neg (by decide), ← List.filter_append, List.take_append_drop]
/-- a symbol that does not occur has no word. -/
theorem outAt_nought {F P : List Nat} (h : IsOrd F P) (ks : List Nat) {s : Nat} (e : F.getD s 0 = 0) : outAt P ks s = 0 :=
  outAt_not ks (fun hm => by have := ((h.mem s).1 hm).2; omega)
theorem Full.up {L : Nat} {ls : List Nat} (h : Full L ls) : ∀ d, Full (L + d) ls
  | 0 => h
  | d + 1 => by
    have ih := h.up d
    refine ⟨fun l hl => by have := ih.1 l hl; omega, ?_⟩
    rw [← Nat.add_assoc, kraftL_succ _ _ ih.1, ih.2, Nat.pow_succ]; omega
/-- without a limit that counts: the two least put together, again and again. -/
theorem free_cost {F P : List Nat} (h : IsOrd F P) (i c : Nat) (h1 : P.length ≤ i + 2) (h2 : 1 ≤ P.length) (hc : Huff (wtsOf F P) c) : costF F (lenOf F P i) = c := by
  have hl : (wtsOf F P).length = P.length := by simp [wtsOf]
  have hpow : P.length ≤ 2 ^ (i + 1) := by
    have : i + 1 < 2 ^ (i + 1) := Nat.lt_two_pow_self
    omega
  obtain ⟨ps, p1, p2, p3⟩ := huff_full hc
  have p4 := p2.up (i + 1 - (P.length - 1))
  rw [hl, show P.length - 1 + (i + 1 - (P.length - 1)) = i + 1 by omega] at p4
  have a := perm_least (ord_rises h) i (by rw [hl]; exact hpow) (by rw [hl]; exact h2) ps p1 (fun p hp => p4.1 _ (List.mem_map.2 ⟨p, hp, rfl⟩)) p4.2
  have f := out_full h i hpow h2
  have b := huff_least hc (i + 1) (P.map fun s => (F.getD s 0, lenOf F P i s)) (by rw [List.map_map]; exact List.Perm.refl _) (by rw [List.map_map]; exact f)
  rw [← costF_ord h] at b
  have e : costF F (lenOf F P i) = _ := out_cost h i
  omega
/-- as many symbols as words: each has a word of the limit's length. -/
theorem tight_len {F P : List Nat} (h : IsOrd F P) (i : Nat) (h1 : P.length = 2 ^ (i + 1)) : ∀ s ∈ P, lenOf F P i s = i + 1 := by
  have hp := Nat.two_pow_pos (i + 1)
  have f := out_full h i (by omega) (by omega)
  intro s hs
  exact (kraft_tight (i + 1) _ f.1).2 (by rw [f.2, List.length_map, h1]) _ (List.mem_map.2 ⟨s, hs, rfl⟩)
theorem sum_one (f g : Nat → Nat) (k by' : Nat) : ∀ (n : Nat), k < n → (∀ s, s ≠ k → f s = g s) → f k = g k + by' → ((List.range n).map f).sum = ((List.range n).map g).sum + by'
  | 0, h, _, _ => by omega
  | n + 1, h, h1, h2 => by
    rw [List.range_succ, List.map_append, List.map_append, List.sum_append, List.sum_append]
    simp only [List.map_cons, List.map_nil, List.sum_cons, List.sum_nil]
    by_cases e : k = n
    · subst e
      have : (List.range k).map f = (List.range k).map g := List.map_congr_left (fun s hs => h1 s (by have := List.mem_range.1 hs; omega))
      rw [this, h2]; omega
    · rw [sum_one f g k by' n (by omega) h1 h2, h1 n (by omega)]; omega
/-- one frequency grown. -/
theorem cost_grown {F G : List Nat} {k b : Nat} (hl : G.length = F.length) (hk : k < F.length) (h1 : ∀ s, s ≠ k → G.getD s 0 = F.getD s 0) (h2 : G.getD k 0 = F.getD k 0 + b) (f : Nat → Nat) : costF G f = costF F f + b * f k := by
  rw [costF, costF, hl]
  exact sum_one _ _ k _ _ hk (fun s hs => by rw [h1 s hs]) (by show G.getD k 0 * f k = _; rw [h2, Nat.add_mul])
theorem grows {F P G Q : List Nat} (h : IsOrd F P) (g : IsOrd G Q) {k b : Nat} (hl : G.length = F.length) (hk : k < F.length) (h0 : 0 < F.getD k 0) (h1 : ∀ s, s ≠ k → G.getD s 0 = F.getD s 0) (h2 : G.getD k 0 = F.getD k 0 + b) (i : Nat) (hn : P.length ≤ 2 ^ (i + 1)) :
    costF F (lenOf F P i) + b * lenOf G Q i k ≤ costF G (lenOf G Q i) ∧ costF G (lenOf G Q i) ≤ costF F (lenOf F P i) + b * lenOf F P i k := by
  have hpq : P.Perm Q := (List.perm_ext_iff_of_nodup (before_nodup h.up) (before_nodup g.up)).2 (fun s => by
    rw [h.mem, g.mem, hl]
    by_cases e : s = k
    · subst e; rw [h2]; omega
    · rw [h1 s e])
  have hP : 1 ≤ P.length := List.length_pos_of_mem ((h.mem k).2 ⟨hk, h0⟩)
  have e := hpq.length_eq
  have a := out_least h i hn hP (lenOf G Q i) ((out_full g i (by omega) (by omega)).perm ((hpq.map _).symm))
  have c := out_least g i (by omega) (by omega) (lenOf F P i) ((out_full h i hn hP).perm (hpq.map _))
  refine ⟨?_, ?_⟩
  · rw [cost_grown hl hk h1 h2 (lenOf G Q i)]
    exact Nat.add_le_add_right a _
  · rw [← cost_grown hl hk h1 h2]
    exact c
end Go.Proofs.Ytblbggdglndiiaa
