/- The two least put together, again and again: what comes of it is the least cost of a full code. No program is named here. -/
import Derived.Test.YtblbggdglndiiaaLimPerm
namespace Go.Proofs.Ytblbggdglndiiaa
set_option linter.unusedVariables false

/-- the two least are put together, again and again: the sums' sum. -/
inductive Huff : List Nat → Nat → Prop
  | one (a : Nat) : Huff [a] 0
  | step {l : List Nat} {a b : Nat} {r : List Nat} {c : Nat} : l.Perm (a :: b :: r) → a ≤ b → (∀ x ∈ r, b ≤ x) → Huff ((a + b) :: r) c → Huff l (a + b + c)
/-- a full code of words of at most L bits. -/
def Full (L : Nat) (ls : List Nat) : Prop := (∀ l ∈ ls, l ≤ L) ∧ kraftL L ls = 2 ^ L
theorem kraftL_cons (L l : Nat) (ls : List Nat) : kraftL L (l :: ls) = 2 ^ (L - l) + kraftL L ls := by simp [kraftL]
theorem kraftL_succ (L : Nat) : ∀ ls : List Nat, (∀ l ∈ ls, l ≤ L) → kraftL (L + 1) ls = 2 * kraftL L ls
  | [], _ => rfl
  | l :: ls, h => by
    have hl := h l (List.mem_cons_self ..)
    rw [kraftL_cons, kraftL_cons, kraftL_succ L ls (fun x hx => h x (List.mem_cons_of_mem _ hx)), show L + 1 - l = (L - l) + 1 by omega, Nat.pow_succ]; omega
/-- out of a list, by what a map says. -/
theorem perm_out {ps : List (Nat × Nat)} {f : Nat × Nat → Nat} {a : Nat} {l : List Nat} (h : (ps.map f).Perm (a :: l)) : ∃ p ps', ps.Perm (p :: ps') ∧ f p = a ∧ (ps'.map f).Perm l := by
  obtain ⟨p, hp, e⟩ := List.mem_map.1 (h.mem_iff.2 (List.mem_cons_self ..))
  refine ⟨p, ps.erase p, List.perm_cons_erase hp, e, ?_⟩
  have := ((List.perm_cons_erase hp).map f).symm.trans h
  rw [List.map_cons, e] at this
  exact List.Perm.cons_inv this
/-- it gives a full code that costs so much. -/
theorem huff_full {l : List Nat} {c : Nat} (h : Huff l c) : ∃ ps : List (Nat × Nat), (ps.map (·.1)).Perm l ∧ Full (l.length - 1) (ps.map (·.2)) ∧ dotP ps = c := by
  induction h with
  | one a => exact ⟨[(a, 0)], List.Perm.refl _, ⟨by simp, by simp [kraftL]⟩, by simp [dotP]⟩
  | @step l a b r c hp hab hr _ ih =>
    obtain ⟨ps, h1, ⟨h2, h3⟩, h4⟩ := ih
    obtain ⟨p, qs, q1, q2, q3⟩ := perm_out h1
    have q2 : p.1 = a + b := q2
    have hlen : l.length - 1 = (((a + b) :: r).length - 1) + 1 := by rw [hp.length_eq]; simp
    rw [hlen]
    generalize ((a + b) :: r).length - 1 = L at h2 h3 ⊢
    have hm : (ps.map (·.2)).Perm (p.2 :: qs.map (·.2)) := q1.map _
    have hp2 : p.2 ≤ L := h2 _ (hm.mem_iff.2 (List.mem_cons_self ..))
    have hq2 : ∀ x ∈ qs.map (·.2), x ≤ L := fun x hx => h2 _ (hm.mem_iff.2 (List.mem_cons_of_mem _ hx))
    refine ⟨(a, p.2 + 1) :: (b, p.2 + 1) :: qs, (((q3.cons b).cons a)).trans hp.symm, ⟨fun x hx => ?_, ?_⟩, ?_⟩
    · simp only [List.map_cons] at hx
      rcases List.mem_cons.1 hx with rfl | hx
      · omega
      · rcases List.mem_cons.1 hx with rfl | hx
        · omega
        · have := hq2 x hx; omega
    · rw [kraftL_perm _ hm, kraftL_cons] at h3
      simp only [List.map_cons]
      rw [kraftL_cons, kraftL_cons, kraftL_succ _ _ hq2, show L + 1 - (p.2 + 1) = L - p.2 by omega, Nat.pow_succ]
      omega
    · rw [← h4, dotP_perm q1, dotP_cons, dotP_cons, dotP_cons, q2]
      simp only [Nat.mul_add, Nat.add_mul, Nat.mul_one]
      omega
/-- the least weight may have the longest word: the cost grows by nothing. -/
theorem give_longest {a x m : Nat} {ps : List (Nat × Nat)} (ha : ∀ p ∈ ps, a ≤ p.1) (hx : x ≤ m) (hm : m = x ∨ m ∈ ps.map (·.2)) :
    ∃ qs : List (Nat × Nat), (qs.map (·.1)).Perm (ps.map (·.1)) ∧ (m :: qs.map (·.2)).Perm (x :: ps.map (·.2)) ∧ dotP ((a, m) :: qs) ≤ dotP ((a, x) :: ps) := by
  rcases hm with rfl | hm
  · exact ⟨ps, List.Perm.refl _, List.Perm.refl _, Nat.le_refl _⟩
  · obtain ⟨p, hp, rfl⟩ := List.mem_map.1 hm
    have hq := List.perm_cons_erase hp
    have hap := ha p hp
    refine ⟨(p.1, x) :: ps.erase p, ?_, ?_, ?_⟩
    · exact (hq.map (·.1)).symm
    · have e := (hq.map (fun z : Nat × Nat => z.2)).symm
      rw [List.map_cons] at e
      exact (List.Perm.swap _ _ _).trans (e.cons x)
    · rw [dotP_cons, dotP_cons, dotP_cons, dotP_perm hq, dotP_cons]
      obtain ⟨d, hd⟩ : ∃ d, p.1 = a + d := ⟨p.1 - a, by omega⟩
      obtain ⟨e, he⟩ : ∃ e, p.2 = x + e := ⟨p.2 - x, by omega⟩
      show a * p.2 + (p.1 * x + _) ≤ a * x + (p.1 * p.2 + _)
      rw [hd, he]
      simp only [Nat.add_mul, Nat.mul_add]
      omega
theorem kraft_even (L m : Nat) (hm : m ≤ L) : ∀ ls : List Nat, (∀ l ∈ ls, l < m) → ∃ q, kraftL L ls = 2 ^ (L - m) * (2 * q)
  | [], _ => ⟨0, by simp [kraftL]⟩
  | l :: ls, h => by
    obtain ⟨q, hq⟩ := kraft_even L m hm ls (fun x hx => h x (List.mem_cons_of_mem _ hx))
    have hl := h l (List.mem_cons_self ..)
    refine ⟨2 ^ (m - 1 - l) + q, ?_⟩
    rw [kraftL_cons, hq, show L - l = (L - m) + (m - 1 - l) + 1 by omega, Nat.pow_succ, Nat.pow_add, Nat.mul_add, Nat.mul_add, Nat.mul_comm 2 (2 ^ (m - 1 - l)), Nat.mul_assoc]
/-- of a full code's longest words there are two. -/
theorem two_longest {L m : Nat} {t : List Nat} (h : Full L (m :: t)) (hmax : ∀ l ∈ t, l ≤ m) (ht : t ≠ []) : m ∈ t ∧ 1 ≤ m := by
  obtain ⟨h1, h2⟩ := h
  have hmL := h1 m (List.mem_cons_self ..)
  have hmem : m ∈ t := by
    apply Classical.byContradiction
    intro hn
    have hlt : ∀ l ∈ t, l < m := fun l hl => by
      have := hmax l hl
      have : l ≠ m := fun e => hn (e ▸ hl)
      omega
    have hm1 : 1 ≤ m := by
      cases t with
      | nil => exact absurd rfl ht
      | cons l t => have := hlt l (List.mem_cons_self ..); omega
    obtain ⟨q, hq⟩ := kraft_even L m hmL t hlt
    rw [kraftL_cons, hq, show (2 : Nat) ^ L = 2 ^ (L - m) * (2 * 2 ^ (m - 1)) by
      rw [← Nat.pow_succ', ← Nat.pow_add]; congr 1; omega] at h2
    have hp := Nat.two_pow_pos (L - m)
    have e : 2 ^ (L - m) * (1 + 2 * q) = 2 ^ (L - m) * (2 * 2 ^ (m - 1)) := by rw [Nat.mul_add, Nat.mul_one]; exact h2
    have := Nat.eq_of_mul_eq_mul_left hp e
    omega
  refine ⟨hmem, ?_⟩
  apply Classical.byContradiction
  intro hn
  obtain rfl : m = 0 := by omega
  obtain ⟨p, hp⟩ : ∃ p, t.Perm (0 :: p) := ⟨_, List.perm_cons_erase hmem⟩
  rw [kraftL_cons, kraftL_perm _ hp, kraftL_cons] at h2
  have := Nat.two_pow_pos L
  simp only [Nat.sub_zero] at h2
  omega
theorem has_max : ∀ ls : List Nat, ls ≠ [] → ∃ m ∈ ls, ∀ l ∈ ls, l ≤ m
  | [], h => absurd rfl h
  | [a], _ => ⟨a, List.mem_cons_self .., by simp⟩
  | a :: b :: l, _ => by
    obtain ⟨m, h1, h2⟩ := has_max (b :: l) (by simp)
    by_cases h : a ≤ m
    · exact ⟨m, List.mem_cons_of_mem _ h1, fun x hx => by
        rcases List.mem_cons.1 hx with rfl | hx
        · exact h
        · exact h2 x hx⟩
    · exact ⟨a, List.mem_cons_self .., fun x hx => by
        rcases List.mem_cons.1 hx with rfl | hx
        · exact Nat.le_refl _
        · have := h2 x hx; omega⟩
theorem Full.perm {L : Nat} {a b : List Nat} (h : Full L a) (hp : a.Perm b) : Full L b :=
  ⟨fun l hl => h.1 l (hp.mem_iff.2 hl), by rw [← kraftL_perm L hp]; exact h.2⟩
/-- no full code costs less. -/
theorem huff_least {l : List Nat} {c : Nat} (h : Huff l c) : ∀ (L : Nat) (ps : List (Nat × Nat)), (ps.map (·.1)).Perm l → Full L (ps.map (·.2)) → c ≤ dotP ps := by
  induction h with
  | one a => intro L ps _ _; exact Nat.zero_le _
  | @step l a b r c hp hab hr _ ih =>
    intro L ps h1 h2
    obtain ⟨p, qs, q1, q2, q3⟩ := perm_out (h1.trans hp)
    have q2 : p.1 = a := q2
    have hl2 : (ps.map (·.2)).Perm (p.2 :: qs.map (·.2)) := q1.map _
    obtain ⟨m, m1, m2⟩ := has_max (p.2 :: qs.map (·.2)) (by simp)
    have hge : ∀ x ∈ b :: r, a ≤ x := fun x hx => by
      rcases List.mem_cons.1 hx with rfl | hx
      · exact hab
      · have := hr x hx; omega
    obtain ⟨us, u1, u2, u3⟩ := give_longest (a := a) (x := p.2) (m := m) (ps := qs) (fun z hz => hge _ (q3.mem_iff.1 (List.mem_map.2 ⟨z, hz, rfl⟩))) (m2 _ (List.mem_cons_self ..)) (List.mem_cons.1 m1)
    have hf1 : Full L (m :: us.map (·.2)) := (h2.perm hl2).perm u2.symm
    have hus : us.map (·.2) ≠ [] := by
      have := (u1.trans q3).length_eq
      intro e
      have e2 : us.length = 0 := by simpa using congrArg List.length e
      simp [e2] at this
    have hmax : ∀ z ∈ us.map (·.2), z ≤ m := fun z hz => m2 z (u2.mem_iff.1 (List.mem_cons_of_mem _ hz))
    obtain ⟨t1, t2⟩ := two_longest hf1 hmax hus
    obtain ⟨v, vs, v1, v2, v3⟩ := perm_out (u1.trans q3)
    have v2 : v.1 = b := v2
    have hv : (us.map (·.2)).Perm (v.2 :: vs.map (·.2)) := v1.map _
    obtain ⟨ws, w1, w2, w3⟩ := give_longest (a := b) (x := v.2) (m := m) (ps := vs) (fun z hz => hr _ (v3.mem_iff.1 (List.mem_map.2 ⟨z, hz, rfl⟩))) (hmax _ (hv.mem_iff.2 (List.mem_cons_self ..))) (List.mem_cons.1 (hv.mem_iff.1 t1))
    have hf2 : Full L (m :: m :: ws.map (·.2)) := hf1.perm ((hv.trans w2.symm).cons m)
    have hmL := hf2.1 m (List.mem_cons_self ..)
    have key := ih L ((a + b, m - 1) :: ws) ((w1.trans v3).cons (a + b)) ⟨fun z hz => by
      simp only [List.map_cons] at hz
      rcases List.mem_cons.1 hz with rfl | hz
      · omega
      · exact hf2.1 z (List.mem_cons_of_mem _ (List.mem_cons_of_mem _ hz)), by
      have := hf2.2
      rw [kraftL_cons, kraftL_cons] at this
      simp only [List.map_cons]
      rw [kraftL_cons, show L - (m - 1) = (L - m) + 1 by omega, Nat.pow_succ]; omega⟩
    rw [dotP_cons] at key w3 u3
    rw [dotP_cons] at w3 u3
    rw [dotP_perm v1, dotP_cons, v2] at u3
    rw [dotP_perm q1, dotP_cons, q2]
    obtain ⟨d, rfl⟩ : ∃ d, m = d + 1 := ⟨m - 1, by omega⟩
    simp only [Nat.add_mul, Nat.mul_add, Nat.mul_one, Nat.add_sub_cancel] at key w3 u3 ⊢
    omega
end Go.Proofs.Ytblbggdglndiiaa
