/- The words of a code, as numbers and as rows of bits: plain laws. -/
import Derived.Test.YtbbcphloafmldaaGreatBitsTwo
namespace Go.Proofs.YtbbcphloafmldaaGreat
set_option linter.unusedVariables false

/-- the symbols of m bits ahead of the i-th. -/
def selP (L : List Nat) (m i : Nat) : List (Nat × Nat) := ((List.range i).filter fun j => L.getD j 0 == m).map fun j => (j, m)
theorem selP_zero (L : List Nat) (m : Nat) : selP L m 0 = [] := rfl
theorem selP_hit (L : List Nat) (m i : Nat) (h : L.getD i 0 = m) : selP L m (i + 1) = selP L m i ++ [(i, m)] := by
  have : (L.getD i 0 == m) = true := by rw [h]; simp
  simp only [selP, List.range_succ, List.filter_append, List.map_append, List.filter_cons, List.filter_nil, this, if_true, List.map_cons, List.map_nil]
theorem selP_miss (L : List Nat) (m i : Nat) (h : L.getD i 0 ≠ m) : selP L m (i + 1) = selP L m i := by
  have : (L.getD i 0 == m) = false := by rw [beq_eq_false_iff_ne]; exact h
  simp only [selP, List.range_succ, List.filter_append, List.filter_cons, List.filter_nil, this, List.append_nil, Bool.false_eq_true, if_false]
theorem mem_selP {L : List Nat} {m i : Nat} {p : Nat × Nat} : p ∈ selP L m i ↔ p.1 < i ∧ L.getD p.1 0 = m ∧ p.2 = m := by
  constructor
  · intro h
    obtain ⟨j, hj, rfl⟩ := List.mem_map.1 h
    obtain ⟨h1, h2⟩ := List.mem_filter.1 hj
    exact ⟨List.mem_range.1 h1, by simpa using h2, rfl⟩
  · rintro ⟨h1, h2, h3⟩
    refine List.mem_map.2 ⟨p.1, List.mem_filter.2 ⟨List.mem_range.2 h1, by simpa using h2⟩, ?_⟩
    rw [← h3]
/-- symbols in order: those of fewer bits first; all of fewer than n bits, and those of n bits ahead of the i-th. -/
def prs (L : List Nat) (n i : Nat) : List (Nat × Nat) := ((List.range' 1 (n - 1)).flatMap fun m => selP L m L.length) ++ selP L n i
theorem prs_start (L : List Nat) : prs L 1 0 = [] := rfl
theorem prs_next (L : List Nat) (n : Nat) (h : 1 ≤ n) : prs L (n + 1) 0 = prs L n L.length := by
  have e : n + 1 - 1 = (n - 1) + 1 := by omega
  have e2 : 1 + 1 * (n - 1) = n := by omega
  simp only [prs, e, List.range'_concat, List.flatMap_append, List.flatMap_cons, List.flatMap_nil, List.append_nil, selP_zero, e2]
theorem prs_hit (L : List Nat) (n i : Nat) (h : L.getD i 0 = n) : prs L n (i + 1) = prs L n i ++ [(i, n)] := by rw [prs, selP_hit L n i h, prs, List.append_assoc]
theorem prs_miss (L : List Nat) (n i : Nat) (h : L.getD i 0 ≠ n) : prs L n (i + 1) = prs L n i := by rw [prs, selP_miss L n i h, prs]
theorem mem_prs {L : List Nat} {n i : Nat} {p : Nat × Nat} (h : p ∈ prs L n i) (hi : i ≤ L.length) (hn : 1 ≤ n) : p.1 < L.length ∧ L.getD p.1 0 = p.2 ∧ 1 ≤ p.2 ∧ p.2 ≤ n := by
  rcases List.mem_append.1 h with h | h
  · obtain ⟨m, hm, hp⟩ := List.mem_flatMap.1 h
    obtain ⟨h1, h2, h3⟩ := mem_selP.1 hp
    have := List.mem_range'_1.1 hm
    exact ⟨h1, by rw [h2, h3], by omega, by omega⟩
  · obtain ⟨h1, h2, h3⟩ := mem_selP.1 h
    exact ⟨by omega, by rw [h2, h3], by omega, by omega⟩
theorem prs_all {L : List Nat} {j : Nat} (hj : j < L.length) (h0 : 0 < L.getD j 0) (h20 : L.getD j 0 ≤ 20) : (j, L.getD j 0) ∈ prs L 20 L.length := by
  by_cases h : L.getD j 0 = 20
  · exact List.mem_append.2 (Or.inr (mem_selP.2 ⟨hj, h, h⟩))
  · exact List.mem_append.2 (Or.inl (List.mem_flatMap.2 ⟨L.getD j 0, List.mem_range'_1.2 ⟨h0, by omega⟩, mem_selP.2 ⟨hj, rfl, rfl⟩⟩))
theorem selP_prefix (L : List Nat) (m : Nat) : ∀ d i, selP L m i <+: selP L m (i + d) := by
  intro d
  induction d with
  | zero => intro i; exact List.prefix_refl _
  | succ d ih =>
    intro i
    refine (ih i).trans ?_
    by_cases h : L.getD (i + d) 0 = m
    · rw [← Nat.add_assoc, selP_hit L m _ h]; exact List.prefix_append _ _
    · rw [← Nat.add_assoc, selP_miss L m _ h]; exact List.prefix_refl _
theorem prs_prefix (L : List Nat) (n i : Nat) (hi : i ≤ L.length) : prs L n i <+: prs L n L.length := by
  have := selP_prefix L n (L.length - i) i
  rw [show i + (L.length - i) = L.length by omega] at this
  obtain ⟨t, ht⟩ := this
  exact ⟨t, by rw [prs, prs, List.append_assoc, ht]⟩
theorem prs_prefix_all (L : List Nat) (n i : Nat) (h1 : 1 ≤ n) (h20 : n ≤ 20) (hi : i ≤ L.length) : prs L n i <+: prs L 20 L.length := by
  have : ∀ d, n + d ≤ 20 → prs L n L.length <+: prs L (n + d) L.length := by
    intro d
    induction d with
    | zero => intro _; exact List.prefix_refl _
    | succ d ih =>
      intro h
      refine (ih (by omega)).trans ?_
      rw [← prs_next L (n + d) (by omega)]
      exact prs_prefix L (n + d + 1) 0 (Nat.zero_le _)
  have h := this (20 - n) (by omega)
  rw [show n + (20 - n) = 20 by omega] at h
  exact (prs_prefix L n i hi).trans h

/-- one word is given. -/
def wStep (s : List Nat × Nat) (p : Nat × Nat) : List Nat × Nat := (s.1.set p.1 (s.2 / 2 ^ (20 - p.2)), s.2 + 2 ^ (20 - p.2))
def wRun (n : Nat) (ps : List (Nat × Nat)) : List Nat × Nat := ps.foldl wStep (List.replicate n 0, 0)
theorem wRun_nil (n : Nat) : wRun n [] = (List.replicate n 0, 0) := rfl
theorem wRun_snoc (n : Nat) (ps : List (Nat × Nat)) (p : Nat × Nat) : wRun n (ps ++ [p]) = ((wRun n ps).1.set p.1 ((wRun n ps).2 / 2 ^ (20 - p.2)), (wRun n ps).2 + 2 ^ (20 - p.2)) := by simp [wRun, List.foldl_append, wStep]
theorem snoc_rec {α : Type} {P : List α → Prop} (h0 : P []) (h1 : ∀ l x, P l → P (l ++ [x])) : ∀ l, P l := by
  intro l
  have : ∀ m : List α, P m.reverse := by
    intro m
    induction m with
    | nil => exact h0
    | cons x m ih => rw [List.reverse_cons]; exact h1 _ _ ih
  have := this l.reverse
  rwa [List.reverse_reverse] at this
theorem wRun_len (n : Nat) : ∀ ps, (wRun n ps).1.length = n := by
  refine snoc_rec ?_ ?_
  · simp [wRun_nil]
  · intro ps p ih
    rw [wRun_snoc, List.length_set, ih]
theorem wRun_at (n : Nat) : ∀ ps, (wRun n ps).2 = (ps.map fun p => 2 ^ (20 - p.2)).sum := by
  refine snoc_rec ?_ ?_
  · simp [wRun_nil]
  · intro ps p ih
    rw [wRun_snoc, List.map_append, List.sum_append, ih]; simp
theorem wRun_le (n : Nat) (ps : List (Nat × Nat)) : (wRun n ps).2 ≤ ps.length * 2 ^ 20 := by
  rw [wRun_at]
  induction ps with
  | nil => simp
  | cons p ps ih =>
    have : 2 ^ (20 - p.2) ≤ 2 ^ 20 := Nat.pow_le_pow_right (by decide) (by omega)
    simp only [List.map_cons, List.sum_cons, List.length_cons, Nat.succ_mul]
    omega
/-- how much of all there is a code takes. -/
def weightL (L : List Nat) : Nat := (L.map fun n => if n = 0 then 0 else 2 ^ (20 - n)).sum
theorem weightL_snoc (L : List Nat) (n : Nat) : weightL (L ++ [n]) = weightL L + if n = 0 then 0 else 2 ^ (20 - n) := by simp [weightL]
theorem weightL_take (L : List Nat) (i : Nat) (h : i < L.length) : weightL (L.take (i + 1)) = weightL (L.take i) + if L.getD i 0 = 0 then 0 else 2 ^ (20 - L.getD i 0) := by
  rw [List.take_add_one, List.getElem?_eq_getElem h, Option.toList_some, weightL_snoc]
  simp [List.getD, List.getElem?_eq_getElem h]
theorem weightL_le (L : List Nat) : weightL L ≤ L.length * 2 ^ 20 := by
  induction L with
  | nil => simp [weightL]
  | cons n L ih =>
    have : (if n = 0 then 0 else 2 ^ (20 - n)) ≤ 2 ^ 20 := by
      split
      · simp
      · exact Nat.pow_le_pow_right (by decide) (by omega)
    simp only [weightL, List.map_cons, List.sum_cons, List.length_cons, Nat.succ_mul] at ih ⊢
    omega
def placeS (ps : List (Nat × Nat)) : Nat := (ps.map fun p => 2 ^ (20 - p.2)).sum
theorem placeS_append (a b : List (Nat × Nat)) : placeS (a ++ b) = placeS a + placeS b := by simp [placeS]
theorem sum_range (f g : Nat → Nat) : ∀ k a, ((List.range' a k).map fun m => f m + g m).sum = ((List.range' a k).map f).sum + ((List.range' a k).map g).sum := by
  intro k
  induction k with
  | zero => intro a; simp
  | succ k ih => intro a; simp only [List.range'_succ, List.map_cons, List.sum_cons, ih]; omega
theorem sum_one (x v : Nat) : ∀ k a, ((List.range' a k).map fun m => if x = m then v else 0).sum = if a ≤ x ∧ x < a + k then v else 0 := by
  intro k
  induction k with
  | zero => intro a; simp; omega
  | succ k ih =>
    intro a
    simp only [List.range'_succ, List.map_cons, List.sum_cons, ih]
    by_cases h : x = a
    · subst h; rw [if_pos rfl, if_neg (by omega), if_pos (by omega), Nat.add_zero]
    · rw [if_neg h, Nat.zero_add]
      by_cases h2 : a + 1 ≤ x ∧ x < a + 1 + k
      · rw [if_pos h2, if_pos (by omega)]
      · rw [if_neg h2, if_neg (by omega)]
theorem placeS_flat (f : Nat → List (Nat × Nat)) : ∀ l : List Nat, placeS (l.flatMap f) = (l.map fun m => placeS (f m)).sum := by
  intro l
  induction l with
  | nil => rfl
  | cons x l ih => rw [List.flatMap_cons, placeS_append, ih, List.map_cons, List.sum_cons]
theorem placeS_sel (L : List Nat) (hL : ∀ b ∈ L, b ≤ 20) : ∀ i, i ≤ L.length → ((List.range' 1 20).map fun m => placeS (selP L m i)).sum = weightL (L.take i) := by
  intro i
  induction i with
  | zero => intro _; simp only [selP_zero]; rfl
  | succ i ih =>
    intro hi
    have hb : L.getD i 0 ≤ 20 := by
      rw [List.getD, List.getElem?_eq_getElem (by omega)]; exact hL _ (List.getElem_mem _)
    have e : ∀ m, placeS (selP L m (i + 1)) = placeS (selP L m i) + if L.getD i 0 = m then 2 ^ (20 - L.getD i 0) else 0 := fun m => by
      by_cases h : L.getD i 0 = m
      · rw [selP_hit L m i h, placeS_append, if_pos h, h]; simp [placeS]
      · rw [selP_miss L m i h, if_neg h]; rfl
    simp only [e]
    rw [sum_range, ih (by omega), sum_one, weightL_take L i (by omega)]
    congr 1
    by_cases h0 : L.getD i 0 = 0
    · rw [if_neg (by omega), if_pos h0]
    · rw [if_pos (by omega), if_neg h0]
theorem placeS_prs (L : List Nat) (hL : ∀ b ∈ L, b ≤ 20) : placeS (prs L 20 L.length) = weightL L := by
  have h := placeS_sel L hL L.length (Nat.le_refl _)
  rw [List.take_length] at h
  rw [← h, prs, placeS_append, placeS_flat, show (20 : Nat) - 1 = 19 by rfl]
  have e : List.range' 1 20 = List.range' 1 19 ++ [20] := by rw [show (20 : Nat) = 19 + 1 by rfl, List.range'_concat]
  rw [e, List.map_append, List.sum_append]; simp

theorem at_le {L : List Nat} (hL : ∀ b ∈ L, b ≤ 20) (n i : Nat) (h1 : 1 ≤ n) (h20 : n ≤ 20) (hi : i ≤ L.length) : (wRun L.length (prs L n i)).2 ≤ weightL L := by
  obtain ⟨t, ht⟩ := prs_prefix_all L n i h1 h20 hi
  rw [wRun_at, ← placeS_prs L hL, ← ht, placeS_append]
  exact Nat.le_add_right _ _
/-- what the words are, so far: apart from each other. -/
structure WInv (n : Nat) (ps : List (Nat × Nat)) : Prop where
  low : ∀ p ∈ ps, ((wRun n ps).1.getD p.1 0 + 1) * 2 ^ (20 - p.2) ≤ (wRun n ps).2
  two : ∀ p ∈ ps, ∀ q ∈ ps, p.1 ≠ q.1 → ((wRun n ps).1.getD p.1 0 + 1) * 2 ^ (20 - p.2) ≤ (wRun n ps).1.getD q.1 0 * 2 ^ (20 - q.2) ∨ ((wRun n ps).1.getD q.1 0 + 1) * 2 ^ (20 - q.2) ≤ (wRun n ps).1.getD p.1 0 * 2 ^ (20 - p.2)
  whole : ∀ m, (∀ p ∈ ps, p.2 ≤ m) → m ≤ 20 → 2 ^ (20 - m) ∣ (wRun n ps).2
theorem wInv (n : Nat) : ∀ ps : List (Nat × Nat), ps.Pairwise (fun p q => p.2 ≤ q.2 ∧ p.1 ≠ q.1) → (∀ p ∈ ps, p.1 < n ∧ p.2 ≤ 20) → WInv n ps := by
  refine snoc_rec ?_ ?_
  · intro _ _
    exact ⟨by simp, by simp, fun m _ _ => by rw [wRun_nil]; exact Nat.dvd_zero _⟩
  · intro ps p ih hs hb
    obtain ⟨hs1, _, hs2⟩ := List.pairwise_append.1 hs
    obtain ⟨h1, h2, h3⟩ := ih hs1 (fun q hq => hb q (List.mem_append.2 (Or.inl hq)))
    have hp := hb p (by simp)
    have hpq : ∀ q ∈ ps, q.2 ≤ p.2 ∧ q.1 ≠ p.1 := fun q hq => hs2 q hq p (by simp)
    have hd := h3 p.2 (fun q hq => (hpq q hq).1) hp.2
    have hl := wRun_len n ps
    generalize hr : wRun n ps = s at *
    obtain ⟨out, at_⟩ := s
    simp only at *
    have e0 : wRun n (ps ++ [p]) = (out.set p.1 (at_ / 2 ^ (20 - p.2)), at_ + 2 ^ (20 - p.2)) := by rw [wRun_snoc, hr]
    have ep : (out.set p.1 (at_ / 2 ^ (20 - p.2))).getD p.1 0 = at_ / 2 ^ (20 - p.2) := getD_set_at _ _ _ _ (by omega)
    have eq : ∀ q ∈ ps, (out.set p.1 (at_ / 2 ^ (20 - p.2))).getD q.1 0 = out.getD q.1 0 := fun q hq => getD_set_ne _ _ _ _ _ (fun e => (hpq q hq).2 e.symm)
    have em : at_ / 2 ^ (20 - p.2) * 2 ^ (20 - p.2) = at_ := Nat.div_mul_cancel hd
    refine ⟨?_, ?_, ?_⟩
    · rw [e0]
      intro q hq
      simp only
      rcases List.mem_append.1 hq with hq | hq
      · rw [eq q hq]; have := h1 q hq; omega
      · obtain rfl : q = p := by simpa using hq
        rw [ep, Nat.succ_mul, em]; exact Nat.le_refl _
    · rw [e0]
      intro a ha b hb' hab
      simp only
      rcases List.mem_append.1 ha with ha2 | ha2 <;> rcases List.mem_append.1 hb' with hb2 | hb2
      · rw [eq a ha2, eq b hb2]; exact h2 a ha2 b hb2 hab
      · have e : b = p := by simpa using hb2
        rw [e, eq a ha2, ep, em]; exact Or.inl (h1 a ha2)
      · have e : a = p := by simpa using ha2
        rw [e, eq b hb2, ep, em]; exact Or.inr (h1 b hb2)
      · have e : a = p := by simpa using ha2
        have e2 : b = p := by simpa using hb2
        exact absurd (by rw [e, e2]) hab
    · rw [e0]
      intro m hm hm20
      have hpm := hm p (by simp)
      exact Nat.dvd_add (h3 m (fun q hq => hm q (List.mem_append.2 (Or.inl hq))) hm20) (Nat.pow_dvd_pow 2 (by omega))
theorem selP_apart (L : List Nat) (m i : Nat) : (selP L m i).Pairwise (fun p q => p.2 ≤ q.2 ∧ p.1 ≠ q.1) := by
  rw [selP, List.pairwise_map]
  exact ((List.nodup_range (n := i)).filter _).imp (fun h => ⟨Nat.le_refl _, h⟩)
theorem flat_apart (L : List Nat) : ∀ k a, ((List.range' a k).flatMap fun m => selP L m L.length).Pairwise (fun p q => p.2 ≤ q.2 ∧ p.1 ≠ q.1) := by
  intro k
  induction k with
  | zero => intro a; simp
  | succ k ih =>
    intro a
    rw [List.range'_succ, List.flatMap_cons]
    refine List.pairwise_append.2 ⟨selP_apart _ _ _, ih _, fun p hp q hq => ?_⟩
    obtain ⟨h1, h2, h3⟩ := mem_selP.1 hp
    obtain ⟨m, hm, hq⟩ := List.mem_flatMap.1 hq
    obtain ⟨g1, g2, g3⟩ := mem_selP.1 hq
    have := (List.mem_range'_1.1 hm).1
    exact ⟨by omega, fun e => by rw [e, g2] at h2; omega⟩
theorem prs_flat (L : List Nat) (n : Nat) (hn : 1 ≤ n) : prs L n L.length = (List.range' 1 n).flatMap fun m => selP L m L.length := by
  have e : n = (n - 1) + 1 := by omega
  rw [prs]
  conv => rhs; rw [e, List.range'_concat, List.flatMap_append]
  have e2 : 1 + 1 * (n - 1) = n := by omega
  rw [e2]
  simp
/-- lengths that are a code's. -/
def Good (L : List Nat) : Prop := (∀ b ∈ L, b ≤ 20) ∧ L.length ≤ 512 ∧ weightL L ≤ 2 ^ 20
def wordsL (L : List Nat) : List Nat := (wRun L.length (prs L 20 L.length)).1
theorem length_wordsL (L : List Nat) : (wordsL L).length = L.length := wRun_len _ _
theorem words_lt {L : List Nat} (hg : Good L) (i : Nat) (hi : i < L.length) (h0 : 0 < L.getD i 0) : (wordsL L).getD i 0 < 2 ^ L.getD i 0 := by
  have hb : L.getD i 0 ≤ 20 := by
    rw [List.getD, List.getElem?_eq_getElem hi]; exact hg.1 _ (List.getElem_mem _)
  have hI := wInv L.length (prs L 20 L.length) (by rw [prs_flat _ _ (by decide)]; exact flat_apart L 20 1) (fun p hp => by have := mem_prs hp (Nat.le_refl _) (by decide); omega)
  have h := hI.low _ (prs_all hi h0 hb)
  have hw : (wRun L.length (prs L 20 L.length)).2 ≤ 2 ^ 20 := by rw [wRun_at]; have := placeS_prs L hg.1; rw [placeS] at this; rw [this]; exact hg.2.2
  have e : 2 ^ 20 = 2 ^ L.getD i 0 * 2 ^ (20 - L.getD i 0) := by rw [← Nat.pow_add]; congr 1; omega
  have h2 := Nat.le_trans h hw
  rw [e] at h2
  exact Nat.le_of_mul_le_mul_right h2 (Nat.two_pow_pos _)
theorem words_pf {L : List Nat} (hg : Good L) (i j : Nat) (hi : i < L.length) (hj : j < L.length) (h0 : 0 < L.getD i 0) (hle : L.getD i 0 ≤ L.getD j 0) (he : (wordsL L).getD j 0 / 2 ^ (L.getD j 0 - L.getD i 0) = (wordsL L).getD i 0) : i = j := by
  have hbj : L.getD j 0 ≤ 20 := by
    rw [List.getD, List.getElem?_eq_getElem hj]; exact hg.1 _ (List.getElem_mem _)
  have hI := wInv L.length (prs L 20 L.length) (by rw [prs_flat _ _ (by decide)]; exact flat_apart L 20 1) (fun p hp => by have := mem_prs hp (Nat.le_refl _) (by decide); omega)
  refine Classical.byContradiction fun hne => ?_
  have h := hI.two _ (prs_all hi h0 (by omega)) _ (prs_all hj (by omega) hbj) hne
  rw [show (wRun L.length (prs L 20 L.length)).1 = wordsL L from rfl] at h
  simp only at h
  generalize (wordsL L).getD j 0 = y at *
  generalize (wordsL L).getD i 0 = x at *
  generalize L.getD i 0 = a at *
  generalize L.getD j 0 = b at *
  have e : 2 ^ (20 - a) = 2 ^ (b - a) * 2 ^ (20 - b) := by rw [← Nat.pow_add]; congr 1; omega
  have hD := Nat.two_pow_pos (b - a)
  have hA := Nat.two_pow_pos (20 - b)
  rw [e] at h
  generalize 2 ^ (b - a) = D at *
  generalize 2 ^ (20 - b) = A at *
  have hdm := Nat.div_add_mod y D
  have hml := Nat.mod_lt y hD
  rw [he] at hdm
  rcases h with h | h
  · rw [← Nat.mul_assoc] at h
    have h2 := Nat.le_of_mul_le_mul_right h hA
    have e1 : (x + 1) * D = D * x + D := by rw [Nat.succ_mul, Nat.mul_comm]
    omega
  · rw [← Nat.mul_assoc] at h
    have h2 := Nat.le_of_mul_le_mul_right h hA
    have e1 : x * D = D * x := Nat.mul_comm _ _
    omega

/-- a symbol's word, as bits. -/
def rowOf (L : List Nat) (i : Nat) : List Bool := bitsOf true ((wordsL L).getD i 0) (L.getD i 0)
def rowsL (L : List Nat) : List (List Bool) := (List.range L.length).map (rowOf L)
theorem length_rowsL (L : List Nat) : (rowsL L).length = L.length := by simp [rowsL]
theorem rowsL_get (L : List Nat) (i : Nat) (hi : i < L.length) : (rowsL L)[i]? = some (rowOf L i) := by simp [rowsL, hi]
theorem length_rowOf (L : List Nat) (i : Nat) : (rowOf L i).length = L.getD i 0 := length_bitsOf _ _ _
theorem bitsOf_take (v n k : Nat) (h : k ≤ n) : (bitsOf true v n).take k = bitsOf true (v / 2 ^ (n - k)) k := by
  apply List.ext_getElem?
  intro i
  simp only [bitsOf, List.getElem?_take, List.getElem?_map]
  by_cases hi : i < k
  · rw [if_pos hi, List.getElem?_range (by omega), List.getElem?_range hi]
    simp only [Option.map_some, if_true, Nat.testBit_div_two_pow]
    congr 2; omega
  · rw [if_neg hi, List.getElem?_eq_none (by simpa using hi)]; rfl
theorem num_row {L : List Nat} (hg : Good L) (i : Nat) (hi : i < L.length) (h0 : 0 < L.getD i 0) : numOf true (rowOf L i) = (wordsL L).getD i 0 := by
  rw [rowOf, numOf_bitsOf true _ _ (words_lt hg i hi h0)]
theorem num_take {L : List Nat} (hg : Good L) (i k : Nat) (hi : i < L.length) (h0 : 0 < L.getD i 0) (hk : k ≤ L.getD i 0) : numOf true ((rowOf L i).take k) = (wordsL L).getD i 0 / 2 ^ (L.getD i 0 - k) := by
  rw [rowOf, bitsOf_take _ _ _ hk, numOf_bitsOf true]
  rw [Nat.div_lt_iff_lt_mul (Nat.two_pow_pos _), ← Nat.pow_add, show k + (L.getD i 0 - k) = L.getD i 0 by omega]
  exact words_lt hg i hi h0
/-- no word begins with another one. -/
def PFree (rows : List (List Bool)) : Prop := ∀ (i j : Nat) (ri rj : List Bool), rows[i]? = some ri → rows[j]? = some rj → ri ≠ [] → ri <+: rj → i = j
theorem rows_pf {L : List Nat} (hg : Good L) : PFree (rowsL L) := by
  intro i j ri rj hi hj h0 hp
  have hil : i < L.length := by have := (List.getElem?_eq_some_iff.1 hi).1; rwa [length_rowsL] at this
  have hjl : j < L.length := by have := (List.getElem?_eq_some_iff.1 hj).1; rwa [length_rowsL] at this
  rw [rowsL_get L i hil] at hi
  rw [rowsL_get L j hjl] at hj
  cases hi; cases hj
  have hli := length_rowOf L i
  have hlj := length_rowOf L j
  have h0' : 0 < L.getD i 0 := by rw [← hli]; exact List.length_pos_iff.2 h0
  have hle := hp.length_le
  rw [hli, hlj] at hle
  refine words_pf hg i j hil hjl h0' hle ?_
  have e : rowOf L i = (rowOf L j).take (L.getD i 0) := by
    obtain ⟨t, ht⟩ := hp
    rw [← ht, ← hli, List.take_left]
  have e2 := congrArg (numOf true) e
  rw [num_row hg i hil h0', num_take hg j _ hjl (by omega) hle] at e2
  exact e2.symm

/-- what is read from a place on: a symbol, or none. -/
def xAt (bits : List Bool) (p n : Nat) : List Bool := (bits.drop p).take n
def Hit (rows : List (List Bool)) (x : List Bool) (i : Nat) : Prop := rows[i]? = some x ∧ x ≠ []
def Beg (rows : List (List Bool)) (x : List Bool) : Prop := ∃ (i : Nat) (r : List Bool), rows[i]? = some r ∧ r ≠ [] ∧ x <+: r
def GoOn (rows : List (List Bool)) (bits : List Bool) (p n : Nat) : Prop := (¬ ∃ i, Hit rows (xAt bits p n) i) ∧ Beg rows (xAt bits p n) ∧ p + n ≠ bits.length
structure IsDec (rows : List (List Bool)) (bits : List Bool) (p s q : Nat) (e : Int) : Prop where
  is : ∃ n, q = p + n ∧ q ≤ bits.length ∧ (∀ m, m < n → GoOn rows bits p m) ∧
    ((e = 0 ∧ Hit rows (xAt bits p n) s) ∨ (e = 2 ∧ s = 0 ∧ (¬ ∃ i, Hit rows (xAt bits p n) i) ∧ (¬ Beg rows (xAt bits p n) ∨ p + n = bits.length)))
theorem hit_one {rows : List (List Bool)} (h : PFree rows) {x : List Bool} {i j : Nat} (a : Hit rows x i) (b : Hit rows x j) : i = j := h i j x x a.1 b.1 a.2 (List.prefix_refl x)
theorem dec_one {rows : List (List Bool)} (h : PFree rows) {bits : List Bool} {p s q s' q' : Nat} {e e' : Int} (a : IsDec rows bits p s q e) (b : IsDec rows bits p s' q' e') : s = s' ∧ q = q' ∧ e = e' := by
  obtain ⟨n, rfl, hn, h1, h2⟩ := a.is
  obtain ⟨m, rfl, hm, k1, k2⟩ := b.is
  have key : ∀ {a b : Nat} {x y : Nat} {f g : Int}, a < b → (∀ m, m < b → GoOn rows bits p m) → ((f = 0 ∧ Hit rows (xAt bits p a) x) ∨ (f = 2 ∧ x = 0 ∧ (¬ ∃ i, Hit rows (xAt bits p a) i) ∧ (¬ Beg rows (xAt bits p a) ∨ p + a = bits.length))) → False := by
    intro a b x y f g hab hgo hd
    obtain ⟨g1, g2, g3⟩ := hgo a hab
    rcases hd with ⟨_, hh⟩ | ⟨_, _, _, hh | hh⟩
    · exact g1 ⟨_, hh⟩
    · exact hh g2
    · exact g3 hh
  rcases Nat.lt_trichotomy n m with hlt | rfl | hlt
  · exact (key (y := 0) (g := 0) hlt k1 h2).elim
  · rcases h2 with ⟨rfl, hh⟩ | ⟨rfl, rfl, hh, _⟩ <;> rcases k2 with ⟨rfl, kk⟩ | ⟨rfl, rfl, kk, _⟩
    · exact ⟨hit_one h hh kk, rfl, rfl⟩
    · exact (kk ⟨_, hh⟩).elim
    · exact (hh ⟨_, kk⟩).elim
    · exact ⟨rfl, rfl, rfl⟩
  · exact (key (y := 0) (g := 0) hlt h1 k2).elim
/-- a word that stands there is read. -/
theorem dec_put {rows : List (List Bool)} (h : PFree rows) {bits a b r : List Bool} {s : Nat} (hb : bits = a ++ (r ++ b)) (hs : rows[s]? = some r) (h0 : r ≠ []) : IsDec rows bits a.length s (a.length + r.length) 0 := by
  subst hb
  have hx : ∀ n, n ≤ r.length → xAt (a ++ (r ++ b)) a.length n = r.take n := fun n hn => by
    rw [xAt, List.drop_left, List.take_append_of_le_length hn]
  refine ⟨r.length, rfl, by simp only [List.length_append]; omega, fun m hm => ⟨?_, ?_, ?_⟩, Or.inl ⟨rfl, ?_⟩⟩
  · rintro ⟨i, h1, h2⟩
    rw [hx m (by omega)] at h1 h2
    obtain rfl := h i s _ r h1 hs h2 (List.take_prefix _ _)
    rw [hs] at h1
    have := congrArg List.length (Option.some.inj h1)
    rw [List.length_take] at this
    omega
  · rw [hx m (by omega)]
    exact ⟨s, r, hs, h0, List.take_prefix _ _⟩
  · simp only [List.length_append]; omega
  · rw [hx _ (Nat.le_refl _), List.take_length]
    exact ⟨hs, h0⟩
end Go.Proofs.YtbbcphloafmldaaGreat
