/- The document's least cost, level by level, plain: it is what the levels that fit cost at least. No program is named here. -/
import Derived.Test.YtblbggdglndiiaaLimHuff
namespace Go.Proofs.Ytblbggdglndiiaa
set_option linter.unusedVariables false

/-- no cost. -/
def noCost : Nat := 2 ^ 62
/-- the least of the first so many. -/
def leastN (f : Nat → Nat) : Nat → Nat
  | 0 => noCost
  | t + 1 => min (leastN f t) (f t)
theorem leastN_le (f : Nat → Nat) : ∀ (m t : Nat), t < m → leastN f m ≤ f t
  | 0, t, h => by omega
  | m + 1, t, h => by
    have := leastN_le f m t
    rw [leastN]
    by_cases e : t = m
    · subst e; exact Nat.min_le_right _ _
    · exact Nat.le_trans (Nat.min_le_left _ _) (this (by omega))
theorem leastN_none (f : Nat → Nat) : ∀ m, leastN f m ≤ noCost
  | 0 => Nat.le_refl _
  | m + 1 => Nat.le_trans (Nat.min_le_left _ _) (leastN_none f m)
theorem leastN_is (f : Nat → Nat) : ∀ m, leastN f m < noCost → ∃ t, t < m ∧ leastN f m = f t
  | 0, h => by rw [leastN] at h; omega
  | m + 1, h => by
    rw [leastN] at h ⊢
    by_cases e : leastN f m ≤ f m
    · rw [Nat.min_eq_left e] at h ⊢
      obtain ⟨t, h1, h2⟩ := leastN_is f m h
      exact ⟨t, by omega, h2⟩
    · rw [Nat.min_eq_right (by omega)] at h ⊢
      exact ⟨m, by omega, rfl⟩
/-- what it costs if so many are taken here. -/
def docTake (W : List Nat) (n k o : Nat) (g : Option (Nat → Nat → Nat)) (take : Nat) : Nat :=
  match g with
  | none => if o - take = 0 ∧ k + take = n then sumT W (n - k) else noCost
  | some g => if n + 1 < 2 * (o - take) then noCost else if g (k + take) (2 * (o - take)) < noCost then sumT W (n - k) + g (k + take) (2 * (o - take)) else noCost
def docAt (W : List Nat) (n : Nat) (g : Option (Nat → Nat → Nat)) (k o : Nat) : Nat :=
  if k = n then (if o = 0 then 0 else noCost) else if o = 0 ∨ n - k < o then noCost else leastN (docTake W n k o g) (o + 1)
/-- so many depths below. -/
def docOne (W : List Nat) (n : Nat) : Nat → Nat → Nat → Nat
  | 0 => docAt W n none
  | d + 1 => docAt W n (some (docOne W n d))
theorem fits_zeros (n : Nat) : ∀ d, Fits n (List.replicate d 0) 0
  | 0 => rfl
  | d + 1 => ⟨Nat.zero_le _, Nat.le_refl _, fits_zeros n d⟩
theorem cost_zeros (W : List Nat) : ∀ d, costL W (List.replicate d 0) = 0
  | 0 => rfl
  | d + 1 => by have := cost_zeros W d; simp only [costL, List.replicate_succ, List.map_cons, List.sum_cons, sumT_zero] at this ⊢; omega
theorem costL_cons (W : List Nat) (k : Nat) (ks : List Nat) : costL W (k :: ks) = sumT W k + costL W ks := by simp [costL]
/-- the document's cost is that of levels that fit. -/
theorem doc_fits (W : List Nat) (n : Nat) : ∀ (d k o : Nat), k ≤ n → docOne W n d k o < noCost → o ≤ n - k ∧ ∃ ks, ks.length = d ∧ Fits n ((n - k) :: ks) (2 * (n - k) - o) ∧ costL W ((n - k) :: ks) = docOne W n d k o := by
  intro d
  induction d with
  | zero =>
    intro k o hk h
    simp only [docOne, docAt] at h ⊢
    by_cases e : k = n
    · subst e
      rw [if_pos rfl] at h ⊢
      by_cases e2 : o = 0
      · subst e2
        rw [if_pos rfl]
        refine ⟨Nat.zero_le _, [], rfl, ⟨by omega, by omega, ?_⟩, by rw [costL_cons, Nat.sub_self, sumT_zero]; rfl⟩
        show 2 * (2 * (k - k) - 0 - (k - k)) = 0
        omega
      · rw [if_neg e2] at h; omega
    · rw [if_neg e] at h ⊢
      by_cases e2 : o = 0 ∨ n - k < o
      · rw [if_pos e2] at h; omega
      · rw [if_neg e2] at h ⊢
        obtain ⟨t, h1, h2⟩ := leastN_is _ _ h
        rw [h2] at h ⊢
        simp only [docTake] at h ⊢
        by_cases e3 : o - t = 0 ∧ k + t = n
        · rw [if_pos e3]
          refine ⟨by omega, [], rfl, ⟨by omega, by omega, ?_⟩, by rw [costL_cons]; rfl⟩
          show 2 * (2 * (n - k) - o - (n - k)) = 0
          omega
        · rw [if_neg e3] at h; omega
  | succ d ih =>
    intro k o hk h
    simp only [docOne, docAt] at h ⊢
    by_cases e : k = n
    · subst e
      rw [if_pos rfl] at h ⊢
      by_cases e2 : o = 0
      · subst e2
        rw [if_pos rfl]
        refine ⟨Nat.zero_le _, List.replicate (d + 1) 0, List.length_replicate, ⟨by omega, by omega, ?_⟩, by rw [costL_cons, Nat.sub_self, sumT_zero, cost_zeros]⟩
        rw [show 2 * (2 * (k - k) - 0 - (k - k)) = 0 by omega]
        exact fits_zeros k _
      · rw [if_neg e2] at h; omega
    · rw [if_neg e] at h ⊢
      by_cases e2 : o = 0 ∨ n - k < o
      · rw [if_pos e2] at h; omega
      · rw [if_neg e2] at h ⊢
        obtain ⟨t, h1, h2⟩ := leastN_is _ _ h
        rw [h2] at h ⊢
        simp only [docTake] at h ⊢
        by_cases e3 : n + 1 < 2 * (o - t)
        · rw [if_pos e3] at h; omega
        · rw [if_neg e3] at h ⊢
          by_cases e4 : docOne W n d (k + t) (2 * (o - t)) < noCost
          · rw [if_pos e4]
            obtain ⟨i0, ks, i1, i2, i3⟩ := ih (k + t) (2 * (o - t)) (by omega) e4
            refine ⟨by omega, (n - (k + t)) :: ks, by rw [List.length_cons, i1], ⟨by omega, by omega, ?_⟩, by rw [costL_cons, i3]⟩
            rw [show 2 * (2 * (n - k) - o - (n - k)) = 2 * (n - (k + t)) - 2 * (o - t) by omega]
            exact i2
          · rw [if_neg e4] at h; omega
/-- of falling levels: what is asked is at most twice the level. -/
theorem fits_half (n : Nat) : ∀ (ks : List Nat) (k t : Nat), Falls (k :: ks) → Fits n (k :: ks) t → t ≤ 2 * k ∧ (0 < k → t < 2 * k)
  | [], k, t, _, h => by
    obtain ⟨h1, h2, h3⟩ := h
    have h3 : 2 * (t - k) = 0 := h3
    omega
  | k2 :: ks, k, t, hf, h => by
    obtain ⟨h1, h2, h3⟩ := h
    have ih := fits_half n ks k2 _ hf.tail h3
    have := hf.1
    omega
/-- levels that fall and fit cost no less than the document's. -/
theorem doc_le (W : List Nat) (n : Nat) : ∀ (d k o : Nat) (ks : List Nat), ks.length = d → k ≤ n → o ≤ n - k → (k < n → 1 ≤ o) → Falls ((n - k) :: ks) → Fits n ((n - k) :: ks) (2 * (n - k) - o) → costL W ((n - k) :: ks) < noCost → docOne W n d k o ≤ costL W ((n - k) :: ks) := by
  intro d
  induction d with
  | zero =>
    intro k o ks hl hk ho ho1 hf hfit hc
    obtain rfl := List.eq_nil_of_length_eq_zero hl
    simp only [docOne, docAt]
    by_cases e : k = n
    · subst e
      rw [if_pos rfl, if_pos (by omega)]; exact Nat.zero_le _
    · have := ho1 (by omega)
      rw [if_neg e, if_neg (by omega)]
      obtain ⟨f1, f2, f3⟩ := hfit
      have f3 : 2 * (2 * (n - k) - o - (n - k)) = 0 := f3
      refine Nat.le_trans (leastN_le _ _ o (by omega)) ?_
      simp only [docTake]
      rw [if_pos (by omega), costL_cons]; omega
  | succ d ih =>
    intro k o ks hl hk ho ho1 hf hfit hc
    cases ks with
    | nil => simp at hl
    | cons k2 ks =>
      simp only [docOne, docAt]
      by_cases e : k = n
      · subst e
        rw [if_pos rfl, if_pos (by omega)]; exact Nat.zero_le _
      · have h1 := ho1 (by omega)
        rw [if_neg e, if_neg (by omega)]
        obtain ⟨f1, f2, f3⟩ := hfit
        have hk2 : k2 ≤ n - k := hf.1
        -- so many are taken
        obtain ⟨t, ht⟩ : ∃ t, t = n - k - k2 := ⟨_, rfl⟩
        have e2 : n - (k + t) = k2 := by omega
        obtain ⟨g1, g2, g3⟩ := f3
        have hh := fits_half n ks k2 _ hf.tail ⟨g1, g2, g3⟩
        have hto : t ≤ o ∧ 2 * (o - t) ≤ k2 ∧ (0 < k2 → 1 ≤ o - t) := by omega
        rw [costL_cons] at hc
        have i := ih (k + t) (2 * (o - t)) ks (by simpa using hl) (by omega) (by omega) (fun hlt => by omega) (by rw [e2]; exact hf.tail) (by
          rw [e2, show 2 * k2 - 2 * (o - t) = 2 * (2 * (n - k) - o - (n - k)) by omega]; exact ⟨g1, g2, g3⟩) (by rw [e2]; omega)
        rw [e2] at i
        refine Nat.le_trans (leastN_le _ _ t (by omega)) ?_
        simp only [docTake]
        rw [if_neg (by omega), if_pos (by omega), costL_cons]
        omega
theorem fits_mem (n : Nat) : ∀ (ks : List Nat) (t : Nat), Fits n ks t → ∀ k ∈ ks, k ≤ n
  | [], _, _, k, hk => by cases hk
  | a :: ks, t, hf, k, hk => by
    rcases List.mem_cons.1 hk with rfl | hk
    · exact hf.1
    · exact fits_mem n ks _ hf.2.2 k hk
/-- the document's least cost is that of the work. -/
theorem doc_least {W : List Nat} (hW : Rises W) (i : Nat) (h : W.length ≤ 2 ^ (i + 1)) (h2 : 2 ≤ W.length) (hs : dot W (bestL W i) < noCost) : docOne W W.length i 0 2 = dot W (bestL W i) := by
  have ht := row_enough W i h (by omega)
  obtain ⟨f1, f2⟩ := takes_fit (W := W) i _ ht
  have hfall := takes_falls hW i _ ht
  have e : dot W (bestL W i) = costL W (takes W i (2 * W.length - 2)) := cost_eq W _ (fits_mem _ _ _ f1)
  have hlen := takes_len W i (2 * W.length - 2)
  rw [e] at hs ⊢
  obtain ⟨l, hl⟩ := takes_head W i (2 * W.length - 2)
  rw [hl] at f1 hfall hs hlen ⊢
  rw [hl] at f2
  have hh := fits_half _ _ _ _ hfall f1
  have hk : syms (rowL W i) (2 * W.length - 2) = W.length - 0 := by have := f1.1; omega
  rw [hk] at f1 hfall hs ⊢
  have hle := doc_le W W.length i 0 2 l (by simpa using hlen) (Nat.zero_le _) (by omega) (fun _ => by decide) hfall (by rw [show 2 * (W.length - 0) - 2 = 2 * W.length - 2 by omega]; exact f1) hs
  obtain ⟨_, ks, k1, k2, k3⟩ := doc_fits W W.length i 0 2 (Nat.zero_le _) (Nat.lt_of_le_of_lt hle hs)
  have hge := (fits_ge hW ks _ _ k2).2
  rw [k1, k3, show 2 * (W.length - 0) - 2 = 2 * W.length - 2 by omega, ← f2, hk] at hge
  omega
end Go.Proofs.Ytblbggdglndiiaa
