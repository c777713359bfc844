/- Plain laws for PickBack: the bytes that are used, their groups; bits that are cut. -/
import Derived.Test.YteabjmebnbaonaaPickPlain
namespace Go.Proofs.Yteabjmebnbaonaa
set_option linter.unusedVariables false

/-- of the bytes below c those that are used. -/
def useL (bs : List Nat) (c : Nat) : List Nat := (List.range c).filter fun b => decide (b ∈ bs)
theorem useL_succ (bs : List Nat) (c : Nat) : useL bs (c + 1) = useL bs c ++ if c ∈ bs then [c] else [] := by
  rw [useL, List.range_succ, List.filter_append, useL]
  congr 1
  by_cases h : c ∈ bs <;> simp [h]
theorem useL_mem (bs : List Nat) (c b : Nat) : b ∈ useL bs c ↔ b < c ∧ b ∈ bs := by simp [useL]
theorem useL_len (bs : List Nat) (c : Nat) : (useL bs c).length ≤ c := by
  have := List.length_filter_le (fun b => decide (b ∈ bs)) (List.range c)
  rw [List.length_range] at this
  exact this
theorem useL_pair (bs : List Nat) (c : Nat) : (useL bs c).Pairwise (· < ·) := List.Pairwise.filter _ List.pairwise_lt_range
/-- the group of the last one. -/
def lastG (bs : List Nat) (c : Nat) : Option Nat := (useL bs c).getLast?.map (· / 16)
theorem lastG_succ (bs : List Nat) (c : Nat) : lastG bs (c + 1) = if c ∈ bs then some (c / 16) else lastG bs c := by
  rw [lastG, useL_succ]
  by_cases h : c ∈ bs
  · simp [h]
  · simp [h, lastG]
/-- how many groups. -/
def grpC (bs : List Nat) : Nat → Nat
  | 0 => 0
  | c + 1 => grpC bs c + if c ∈ bs ∧ lastG bs c ≠ some (c / 16) then 1 else 0
theorem grpC_le (bs : List Nat) : ∀ c, grpC bs c ≤ c
  | 0 => Nat.le_refl _
  | c + 1 => by
    have := grpC_le bs c
    rw [grpC]; split <;> omega
theorem lastG_lt (bs : List Nat) (c x : Nat) (h : lastG bs c = some x) : 16 * x < c := by
  rw [lastG, Option.map_eq_some_iff] at h
  obtain ⟨b, hb, rfl⟩ := h
  have := (useL_mem bs c b).1 (List.mem_of_getLast? hb)
  omega
theorem grp_in (bs : List Nat) (g : Nat) : ∀ k, k ≤ 16 → (lastG bs (16 * g + k) = some g ↔ ∃ j, j < k ∧ 16 * g + j ∈ bs) ∧ grpC bs (16 * g + k) = grpC bs (16 * g) + if ∃ j, j < k ∧ 16 * g + j ∈ bs then 1 else 0
  | 0, _ => by
    have h0 : ¬ ∃ j, j < 0 ∧ 16 * g + j ∈ bs := fun ⟨j, hj, _⟩ => by omega
    refine ⟨⟨fun h => by have := lastG_lt bs _ _ h; omega, fun h => absurd h h0⟩, ?_⟩
    rw [if_neg h0]; rfl
  | k + 1, hk => by
    obtain ⟨i1, i2⟩ := grp_in bs g k (by omega)
    have hd : (16 * g + k) / 16 = g := by omega
    rw [← Nat.add_assoc]
    constructor
    · rw [lastG_succ, hd]
      by_cases h : 16 * g + k ∈ bs
      · rw [if_pos h]
        exact ⟨fun _ => ⟨k, by omega, h⟩, fun _ => rfl⟩
      · rw [if_neg h, i1]
        constructor
        · rintro ⟨j, hj, hm⟩; exact ⟨j, by omega, hm⟩
        · rintro ⟨j, hj, hm⟩
          by_cases e : j = k
          · subst e; exact absurd hm h
          · exact ⟨j, by omega, hm⟩
    · rw [grpC, hd, i2]
      by_cases h : 16 * g + k ∈ bs
      · rw [if_pos (⟨k, by omega, h⟩ : ∃ j, j < k + 1 ∧ 16 * g + j ∈ bs)]
        by_cases hl : lastG bs (16 * g + k) = some g
        · rw [if_pos (i1.1 hl), if_neg (fun hh => hh.2 hl)]
        · rw [if_neg (fun hh => hl (i1.2 hh)), if_pos ⟨h, hl⟩]
      · rw [if_neg (c := 16 * g + k ∈ bs ∧ lastG bs (16 * g + k) ≠ some g) (fun hh => h hh.1), Nat.add_zero]
        congr 1
        have : (∃ j, j < k + 1 ∧ 16 * g + j ∈ bs) ↔ ∃ j, j < k ∧ 16 * g + j ∈ bs := by
          constructor
          · rintro ⟨j, hj, hm⟩
            by_cases e : j = k
            · subst e; exact absurd hm h
            · exact ⟨j, by omega, hm⟩
          · rintro ⟨j, hj, hm⟩; exact ⟨j, by omega, hm⟩
        simp only [this]
theorem grpC_cnt (bs : List Nat) : ∀ g, g ≤ 16 → grpC bs (16 * g) = cntG (useL bs 256) g
  | 0, _ => rfl
  | g + 1, hg => by
    have h := (grp_in bs g 16 (Nat.le_refl _)).2
    rw [Nat.mul_add, Nat.mul_one, h, grpC_cnt bs g (by omega), cntG]
    congr 1
    have hz := grpN_zero (useL bs 256) g
    by_cases he : ∃ j, j < 16 ∧ 16 * g + j ∈ bs
    · rw [if_pos he, if_neg]
      obtain ⟨j, hj, hm⟩ := he
      exact fun h0 => hz.1 h0 j hj ((useL_mem _ _ _).2 ⟨by omega, hm⟩)
    · rw [if_neg he, if_pos]
      exact hz.2 fun k hk hm => he ⟨k, hk, ((useL_mem _ _ _).1 hm).2⟩
theorem put_groups (bs : List Nat) : (putOf (useL bs 256)).length = 16 + 16 * grpC bs 256 := by
  rw [putOf_cnt, show (256 : Nat) = 16 * 16 from rfl, grpC_cnt bs 16 (Nat.le_refl _)]
/-- without its last byte it is none. -/
theorem get_cut (us : List Nat) (hs : us.Pairwise (· < ·)) (h0 : us ≠ []) (hb : ∀ b ∈ us, b < 256) (f : Nat → Bool) (N : Nat) (hN : N + 8 = (putOf us).length) (hf : ∀ i, i < N → f i = (putOf us).getD i false) :
    (pickGet f N 0).2.2 = 2 := by
  rw [putOf_cnt] at hN
  obtain ⟨T, hT⟩ : ∃ T, T = cntG us 16 := ⟨_, rfl⟩
  rw [← hT] at hN
  have hT1 : 1 ≤ T := by
    apply Classical.byContradiction
    intro hn
    have hall : ∀ g, g < 16 → grpN us g = 0 := fun g hg => by
      have hm := cntG_mono us (15 - g) (g + 1)
      rw [show g + 1 + (15 - g) = 16 by omega, ← hT, cntG] at hm
      apply Classical.byContradiction
      intro hz
      rw [if_neg hz] at hm
      omega
    cases us with
    | nil => exact h0 rfl
    | cons x r =>
      have hx := hb x (List.mem_cons_self ..)
      exact (grpN_zero _ (x / 16)).1 (hall (x / 16) (by omega)) (x % 16) (by omega) (by rw [show 16 * (x / 16) + x % 16 = x by omega]; exact List.mem_cons_self ..)
  have main : ∀ g, g ≤ 16 → cntG us g < T → (pgLoop f N 0 g).2.1 = 16 + 16 * cntG us g ∧ (pgLoop f N 0 g).2.2 = true := by
    intro g
    induction g with
    | zero => intro _ _; exact ⟨rfl, rfl⟩
    | succ g ih =>
      intro hg hlt
      have hm := cntG_mono us 1 g
      obtain ⟨i1, i2⟩ := ih (by omega) (by omega)
      have hfg : f (0 + g) = decide (grpN us g ≠ 0) := by rw [Nat.zero_add, hf g (by omega), put_top us g (by omega)]
      rw [pgLoop, if_pos i2, hfg]
      by_cases hz : grpN us g = 0
      · rw [if_neg (by simpa using hz)]
        rw [cntG, if_pos hz]
        exact ⟨i1, i2⟩
      · rw [cntG, if_neg hz] at hlt
        rw [if_pos (by simpa using hz), if_neg (by rw [i1]; omega), cntG, if_neg hz]
        simp only [i1]
        exact ⟨by omega, trivial⟩
  have hex : ∃ g, g < 16 ∧ cntG us g < T ∧ cntG us (g + 1) = T := by
    have : ∀ d g, g + d = 16 → cntG us g < T → ∃ g', g' < 16 ∧ cntG us g' < T ∧ cntG us (g' + 1) = T := by
      intro d
      induction d with
      | zero => intro g hg hlt; rw [show g = 16 by omega, ← hT] at hlt; omega
      | succ d ih =>
        intro g hg hlt
        by_cases h1 : cntG us (g + 1) < T
        · exact ih (g + 1) (by omega) h1
        · refine ⟨g, by omega, hlt, ?_⟩
          have hm := cntG_mono us (15 - g) (g + 1)
          rw [show g + 1 + (15 - g) = 16 by omega, ← hT] at hm
          omega
    exact this 16 0 rfl (by simp only [cntG]; omega)
  obtain ⟨g, hg, hlt, heq⟩ := hex
  obtain ⟨i1, i2⟩ := main g (by omega) hlt
  have hz : grpN us g ≠ 0 := fun hz => by rw [cntG, if_pos hz] at heq; omega
  have hT2 : T = cntG us g + 1 := by rw [← heq, cntG, if_neg hz]
  have hfg : f (0 + g) = true := by rw [Nat.zero_add, hf g (by omega), put_top us g (by omega)]; simpa using hz
  have hstep : (pgLoop f N 0 (g + 1)).2.2 = false := by
    rw [pgLoop, if_pos i2, if_pos hfg, if_pos (by rw [i1]; omega)]
  have hst := pg_stuck f N 0 (15 - g) (g + 1) hstep
  rw [show g + 1 + (15 - g) = 16 by omega] at hst
  rw [pickGet, if_neg (by omega), hst, hstep]
  rfl
theorem rbit_app (l : List Bool) (r : List Nat) (i : Nat) (hi : i < l.length) : rbit true (packs true l ++ r) i = l.getD i false := by
  rw [← rbit_packs true l i, rbit, rbit, getD_app_lt _ _ _ _ (by rw [length_packs]; omega)]
theorem rbit_take (l : List Bool) (m i : Nat) (hi : i < 8 * m) : rbit true ((packs true l).take m) i = l.getD i false := by
  rw [← rbit_packs true l i, rbit, rbit]
  congr 1
  simp only [List.getD, List.getElem?_take]
  rw [if_pos (by omega)]
end Go.Proofs.Yteabjmebnbaonaa
