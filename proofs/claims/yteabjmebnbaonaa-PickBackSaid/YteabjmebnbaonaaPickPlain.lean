/- Plain laws on maps of used bytes (chapter 23): what is put is got, what is got may be put. -/
import Derived.Test.YteabjmebnbaonaaPickPut
namespace Go.Proofs.Yteabjmebnbaonaa
set_option linter.unusedVariables false

theorem bitsOf_numOf (l : List Bool) : bitsOf true (numOf true l) l.length = l := by
  apply List.ext_getElem
  · simp [bitsOf]
  · intro i h1 h2
    have := numOf_bit l i h2
    simp only [bitsOf, List.getElem_map, List.getElem_range, if_true, this]
    simp [List.getD, h2]
theorem numOf_zero : ∀ l : List Bool, (∀ b ∈ l, b = false) → numOf true l = 0 := by
  refine snoc_ind (fun _ => rfl) (fun l b ih h => ?_)
  rw [numOf_high, ih (fun c hc => h c (by simp [hc])), h b (by simp)]
  rfl
theorem grpN_zero (us : List Nat) (g : Nat) : grpN us g = 0 ↔ ∀ k, k < 16 → 16 * g + k ∉ us := by
  constructor
  · intro h k hk hm
    have h1 := numOf_bit (grpB us g 16) k (by rw [length_grpB]; exact hk)
    rw [show numOf true (grpB us g 16) = 0 from h, Nat.zero_testBit] at h1
    simp [grpB, List.getD, hk, hm] at h1
  · intro h
    refine numOf_zero _ (fun b hb => ?_)
    simp only [grpB, List.mem_map, List.mem_range] at hb
    obtain ⟨k, hk, rfl⟩ := hb
    simpa using h k hk
theorem grpBits (us : List Nat) (g : Nat) : bitsOf true (grpN us g) 16 = grpB us g 16 := by
  have := bitsOf_numOf (grpB us g 16)
  rwa [length_grpB] at this
theorem firstOf_bit (l : List (Nat × Nat)) (g : Nat) (hg : g < 16) (h : ∀ x ∈ l, x.1 < 16) : (firstOf l).testBit (15 - g) = l.any fun x => decide (x.2 ≠ 0) && decide (x.1 = g) := by
  have : ∀ (l : List (Nat × Nat)) (a : Nat), (∀ x ∈ l, x.1 < 16) → (l.foldl (fun f x => if x.2 = 0 then f else f ||| 2 ^ (15 - x.1)) a).testBit (15 - g) = (a.testBit (15 - g) || l.any fun x => decide (x.2 ≠ 0) && decide (x.1 = g)) := by
    intro l
    induction l with
    | nil => intro a _; simp
    | cons x l ih =>
      intro a h
      have hx := h x (List.mem_cons_self ..)
      rw [List.foldl_cons, ih _ (fun y hy => h y (List.mem_cons_of_mem _ hy)), List.any_cons]
      by_cases h0 : x.2 = 0
      · simp [h0]
      · rw [if_neg h0, Nat.testBit_or, Nat.testBit_two_pow]
        have : decide (15 - x.1 = 15 - g) = decide (x.1 = g) := by
          apply decide_eq_decide.2; omega
        simp [h0, this, Bool.or_assoc]
  rw [firstOf, this l 0 h]; simp
theorem topBits (us : List Nat) : bitsOf true (firstOf (grpsL us)) 16 = (List.range 16).map fun g => decide (grpN us g ≠ 0) := by
  apply List.ext_getElem
  · simp [bitsOf]
  · intro i h1 h2
    have hi : i < 16 := by simpa using h2
    simp only [bitsOf, List.getElem_map, List.getElem_range, if_true]
    rw [show 16 - 1 - i = 15 - i by omega, firstOf_bit _ i hi (fun x hx => by
      simp only [grpsL, List.mem_map, List.mem_range'_1] at hx
      obtain ⟨g, hg, rfl⟩ := hx
      exact (by omega : g < 16)), Bool.eq_iff_iff]
    simp only [grpsL, List.any_map, List.any_eq_true, List.mem_range'_1, Function.comp, Bool.and_eq_true, decide_eq_true_eq]
    constructor
    · rintro ⟨g, hg, h1, h2⟩; rw [← h2]; exact h1
    · intro h; exact ⟨i, by omega, h, rfl⟩
/-- how many of the first g groups are used. -/
def cntG (us : List Nat) : Nat → Nat
  | 0 => 0
  | g + 1 => cntG us g + if grpN us g = 0 then 0 else 1
theorem restOf_app (a b : List (Nat × Nat)) : restOf (a ++ b) = restOf a ++ restOf b := by simp [restOf]
theorem grpsL_split (us : List Nat) (g : Nat) (hg : g ≤ 16) : grpsL us = ((List.range' 0 g).map fun g => (g, grpN us g)) ++ ((List.range' g (16 - g)).map fun g => (g, grpN us g)) := by
  rw [grpsL, ← List.map_append]
  congr 1
  have := List.range'_append_1 (s := 0) (m := g) (n := 16 - g)
  rw [Nat.zero_add] at this
  rw [this]
  congr 1; omega
theorem restOf_cnt (us : List Nat) : ∀ g, (restOf ((List.range' 0 g).map fun g => (g, grpN us g))).length = 16 * cntG us g
  | 0 => rfl
  | g + 1 => by
    rw [List.range'_concat, List.map_append, restOf_app, List.length_append, restOf_cnt us g, cntG]
    simp only [restOf, List.map_cons, List.map_nil, List.flatMap_cons, List.flatMap_nil, List.append_nil, Nat.zero_add, Nat.one_mul]
    split <;> simp [length_bitsOf] <;> omega
theorem putOf_cnt (us : List Nat) : (putOf us).length = 16 + 16 * cntG us 16 := by
  rw [putOf, List.length_append, length_bitsOf, grpsL, restOf_cnt]
theorem put_top (us : List Nat) (g : Nat) (hg : g < 16) : (putOf us).getD g false = decide (grpN us g ≠ 0) := by
  rw [putOf, getD_app_lt _ _ _ _ (by rw [length_bitsOf]; exact hg), topBits]
  simp [List.getD, hg]
theorem put_grp (us : List Nat) (g k : Nat) (hg : g < 16) (hk : k < 16) (h : grpN us g ≠ 0) : (putOf us).getD (16 + 16 * cntG us g + k) false = decide (16 * g + k ∈ us) := by
  have h1 := grpsL_split us g (by omega)
  have h2 : (List.range' g (16 - g)).map (fun g => (g, grpN us g)) = (g, grpN us g) :: (List.range' (g + 1) (16 - (g + 1))).map (fun g => (g, grpN us g)) := by
    rw [show 16 - g = (16 - (g + 1)) + 1 by omega, List.range'_succ]; rfl
  have h3 : putOf us = bitsOf true (firstOf (grpsL us)) 16 ++ (restOf ((List.range' 0 g).map fun g => (g, grpN us g)) ++ (grpB us g 16 ++ restOf ((List.range' (g + 1) (16 - (g + 1))).map fun g => (g, grpN us g)))) := by
    conv => lhs; rw [putOf]
    congr 1
    conv => lhs; rw [h1, h2, restOf_app]
    congr 1
    simp only [restOf, List.flatMap_cons, if_neg h, grpBits]
  rw [h3]
  have l1 : (bitsOf true (firstOf (grpsL us)) 16).length = 16 := length_bitsOf ..
  have l2 := restOf_cnt us g
  have l3 := length_grpB us g 16
  rw [List.getD, List.getElem?_append_right (by omega), List.getElem?_append_right (by omega), List.getElem?_append_left (by omega), l1, l2, show 16 + 16 * cntG us g + k - 16 - 16 * cntG us g = k by omega]
  simp [grpB, hk]
theorem filt_step : ∀ (us : List Nat) (m : Nat), us.Pairwise (· < ·) → us.filter (fun b => decide (b < m + 1)) = us.filter (fun b => decide (b < m)) ++ if m ∈ us then [m] else []
  | [], m, _ => by simp
  | x :: us, m, h => by
    rw [List.pairwise_cons] at h
    have ih := filt_step us m h.2
    by_cases h1 : x < m
    · rw [List.filter_cons_of_pos (by simp; omega), List.filter_cons_of_pos (by simpa using h1), ih, List.cons_append]
      congr 2
      simp [show ¬ m = x by omega]
    · have hno : us.filter (fun b => decide (b < m)) = [] := List.filter_eq_nil_iff.2 fun b hb => by have := h.1 b hb; simp; omega
      have hnm : m ∉ us := fun hm => by have := h.1 m hm; omega
      rw [hno, if_neg hnm] at ih
      by_cases h2 : x = m
      · subst h2
        rw [List.filter_cons_of_pos (by simp), List.filter_cons_of_neg (by simp), ih, hno]; simp
      · rw [List.filter_cons_of_neg (by simp; omega), List.filter_cons_of_neg (by simpa using h1), ih, hno, if_neg (by simp [hnm]; exact fun e => h2 e.symm)]
theorem filt_sel (us : List Nat) (hs : us.Pairwise (· < ·)) (f : Nat → Bool) (p g : Nat) : ∀ k, (∀ j, j < k → f (p + j) = decide (16 * g + j ∈ us)) → us.filter (fun b => decide (b < 16 * g)) ++ selN f p g k = us.filter (fun b => decide (b < 16 * g + k))
  | 0, _ => by simp [selN]
  | k + 1, h => by
    have h1 := filt_step us (16 * g + k) hs
    rw [selN, ← List.append_assoc, filt_sel us hs f p g k (fun j hj => h j (by omega)), h k (by omega), ← Nat.add_assoc, h1]
    simp
theorem filt_none (us : List Nat) (hs : us.Pairwise (· < ·)) (g : Nat) : ∀ k, (∀ j, j < k → 16 * g + j ∉ us) → us.filter (fun b => decide (b < 16 * g + k)) = us.filter (fun b => decide (b < 16 * g))
  | 0, _ => rfl
  | k + 1, h => by
    rw [← Nat.add_assoc, filt_step us (16 * g + k) hs, if_neg (h k (by omega)), List.append_nil, filt_none us hs g k (fun j hj => h j (by omega))]
theorem cntG_mono (us : List Nat) : ∀ (j g : Nat), cntG us g ≤ cntG us (g + j)
  | 0, g => Nat.le_refl _
  | j + 1, g => by
    have := cntG_mono us j g
    rw [← Nat.add_assoc, cntG]; omega
/-- WHAT IS PUT IS GOT. -/
theorem get_put (us : List Nat) (hs : us.Pairwise (· < ·)) (h0 : us ≠ []) (hb : ∀ b ∈ us, b < 256) (f : Nat → Bool) (N a : Nat) (hN : a + (putOf us).length ≤ N) (hf : ∀ i, i < (putOf us).length → f (a + i) = (putOf us).getD i false) :
    pickGet f N a = (us, a + (putOf us).length, 0) := by
  rw [putOf_cnt] at *
  have main : ∀ g, g ≤ 16 → pgLoop f N a g = (us.filter (fun b => decide (b < 16 * g)), a + 16 + 16 * cntG us g, true) := by
    intro g
    induction g with
    | zero => intro _; simp [pgLoop, cntG]
    | succ g ih =>
      intro hg
      have hm := cntG_mono us (15 - g) (g + 1)
      rw [show g + 1 + (15 - g) = 16 by omega] at hm
      rw [pgLoop, ih (by omega), if_pos rfl, hf g (by omega), put_top us g (by omega)]
      by_cases hz : grpN us g = 0
      · rw [if_neg (by simpa using hz)]
        have h1 := filt_none us hs g 16 ((grpN_zero us g).1 hz)
        rw [Nat.mul_add, Nat.mul_one, h1, cntG, if_pos hz]; rfl
      · rw [cntG, if_neg hz] at hm
        rw [if_pos (by simpa using hz), if_neg (by simp only; omega), cntG, if_neg hz]
        have h1 := filt_sel us hs f (a + 16 + 16 * cntG us g) g 16 (fun j hj => by
          rw [← put_grp us g j (by omega) hj hz, ← hf _ (by omega)]; congr 1; omega)
        simp only [Nat.mul_add, Nat.mul_one]
        rw [h1]
        simp only [Prod.mk.injEq, true_and, and_true]
        omega
  have h16 := main 16 (Nat.le_refl _)
  have hall : us.filter (fun b => decide (b < 16 * 16)) = us := List.filter_eq_self.2 fun b hb' => by have := hb b hb'; simpa using this
  rw [hall] at h16
  rw [pickGet, if_neg (by omega), h16, if_pos rfl, if_neg h0]
  simp only [Prod.mk.injEq, true_and, and_true]
  omega
theorem selN_mem (f : Nat → Bool) (p g : Nat) : ∀ k, ∀ b ∈ selN f p g k, 16 * g ≤ b ∧ b < 16 * g + k
  | 0, b, h => by cases h
  | k + 1, b, h => by
    rw [selN, List.mem_append] at h
    rcases h with h | h
    · have := selN_mem f p g k b h; omega
    · split at h
      · rcases List.mem_cons.1 h with rfl | h
        · omega
        · cases h
      · cases h
theorem selN_pair (f : Nat → Bool) (p g : Nat) : ∀ k, (selN f p g k).Pairwise (· < ·)
  | 0 => List.Pairwise.nil
  | k + 1 => by
    rw [selN, List.pairwise_append]
    refine ⟨selN_pair f p g k, ?_, fun a ha b hb => ?_⟩
    · split
      · exact List.pairwise_singleton ..
      · exact List.Pairwise.nil
    · have := selN_mem f p g k a ha
      split at hb
      · rcases List.mem_cons.1 hb with rfl | h
        · omega
        · cases h
      · cases hb
/-- how many of the first g bits are set. -/
def cntF (f : Nat → Bool) (a : Nat) : Nat → Nat
  | 0 => 0
  | g + 1 => cntF f a g + if f (a + g) then 1 else 0
theorem pg_inv (f : Nat → Bool) (N a : Nat) : ∀ g, (pgLoop f N a g).2.2 = true → (pgLoop f N a g).1.Pairwise (· < ·) ∧ (∀ b ∈ (pgLoop f N a g).1, b < 16 * g ∧ f (a + b / 16) = true) ∧ (pgLoop f N a g).2.1 = a + 16 + 16 * cntF f a g
  | 0, _ => ⟨List.Pairwise.nil, (fun b h => nomatch h), rfl⟩
  | g + 1, h => by
    rw [pgLoop] at h ⊢
    by_cases h1 : (pgLoop f N a g).2.2 = true
    · obtain ⟨i1, i2, i3⟩ := pg_inv f N a g h1
      rw [if_pos h1] at h ⊢
      by_cases h2 : f (a + g) = true
      · rw [if_pos h2] at h ⊢
        by_cases h3 : N < (pgLoop f N a g).2.1 + 16
        · rw [if_pos h3] at h; cases h
        · rw [if_neg h3]
          refine ⟨?_, fun b hb => ?_, ?_⟩
          · rw [List.pairwise_append]
            exact ⟨i1, selN_pair f _ g 16, fun x hx y hy => by have := (i2 x hx).1; have := selN_mem f _ g 16 y hy; omega⟩
          · rcases List.mem_append.1 hb with hb | hb
            · have := i2 b hb; exact ⟨by omega, this.2⟩
            · have := selN_mem f _ g 16 b hb
              refine ⟨by omega, ?_⟩
              rw [show b / 16 = g by omega]; exact h2
          · simp only [cntF, i3, if_pos h2]; omega
      · rw [if_neg h2]
        refine ⟨i1, fun b hb => by have := i2 b hb; exact ⟨by omega, this.2⟩, ?_⟩
        simp only [cntF, i3, if_neg h2]; omega
    · rw [if_neg h1] at h; exact absurd h h1
theorem cnt_le (us : List Nat) (f : Nat → Bool) (a : Nat) (h : ∀ b ∈ us, f (a + b / 16) = true) : ∀ g, cntG us g ≤ cntF f a g
  | 0 => Nat.le_refl _
  | g + 1 => by
    have ih := cnt_le us f a h g
    rw [cntG, cntF]
    by_cases hz : grpN us g = 0
    · rw [if_pos hz]; split <;> omega
    · have : ∃ k, k < 16 ∧ 16 * g + k ∈ us := Classical.byContradiction fun hn => hz ((grpN_zero us g).2 fun k hk hm => hn ⟨k, hk, hm⟩)
      obtain ⟨k, hk, hm⟩ := this
      have hf := h _ hm
      rw [show (16 * g + k) / 16 = g by omega] at hf
      rw [if_neg hz, if_pos hf]; omega
/-- what is got rises, and is put in no more bits. -/
theorem got_puts (f : Nat → Bool) (N a : Nat) (o : List Nat) (p : Nat) (h : pickGet f N a = (o, p, 0)) : o ≠ [] ∧ o.Pairwise (· < ·) ∧ (∀ b ∈ o, b < 256) ∧ a + (putOf o).length ≤ p ∧ p ≤ N := by
  rw [pickGet] at h
  split at h
  · cases h
  · rename_i hN
    split at h
    · rename_i hok
      split at h
      · cases h
      · rename_i hne
        simp only [Prod.mk.injEq] at h
        obtain ⟨h1, h2, _⟩ := h
        obtain ⟨i1, i2, i3⟩ := pg_inv f N a 16 hok
        have hp := pg_place f N a (by omega) 16
        rw [h1] at i1 i2 hne
        rw [h2] at i3 hp
        have := cnt_le o f a (fun b hb => (i2 b hb).2) 16
        rw [putOf_cnt]
        exact ⟨hne, i1, fun b hb => (i2 b hb).1, by omega, hp.2⟩
    · cases h
theorem got_err (f : Nat → Bool) (N a : Nat) : (pickGet f N a).2.2 = 0 ∨ ((pickGet f N a).2.2 = 2 ∧ (pickGet f N a).1 = []) := by
  rw [pickGet]
  split
  · exact Or.inr ⟨rfl, rfl⟩
  · split
    · split
      · exact Or.inr ⟨rfl, rfl⟩
      · exact Or.inl rfl
    · exact Or.inr ⟨rfl, rfl⟩
theorem got_len (f : Nat → Bool) (N a : Nat) : (pickGet f N a).1.length ≤ 256 := by
  have h := pg_len f N a 16
  rw [pickGet]
  split
  · simp
  · split
    · split
      · simp
      · exact h
    · simp
/-- rising, as pairs. -/
theorem rises_pair (us : List Nat) : RisesP us ↔ us ≠ [] ∧ us.Pairwise (· < ·) := by
  constructor
  · rintro ⟨h0, h⟩
    refine ⟨fun e => by rw [e] at h0; exact Nat.lt_irrefl _ h0, ?_⟩
    rw [List.pairwise_iff_getElem]
    intro i j hi hj hij
    have step : ∀ d i (hi : i + d + 1 < us.length), us[i]'(by omega) < us[i + d + 1] := by
      intro d
      induction d with
      | zero => intro i hi; exact h i _ _ (List.getElem?_eq_getElem (by omega)) (List.getElem?_eq_getElem hi)
      | succ d ih =>
        intro i hi
        exact Nat.lt_trans (ih i (by omega)) (h (i + d + 1) _ _ (List.getElem?_eq_getElem (by omega)) (List.getElem?_eq_getElem hi))
    have := step (j - i - 1) i (by omega)
    simpa [show i + (j - i - 1) + 1 = j by omega] using this
  · rintro ⟨h0, h⟩
    refine ⟨List.length_pos_iff.2 h0, fun i x y hx hy => ?_⟩
    obtain ⟨hi, rfl⟩ := List.getElem?_eq_some_iff.1 hx
    obtain ⟨hj, rfl⟩ := List.getElem?_eq_some_iff.1 hy
    exact (List.pairwise_iff_getElem.1 h) i (i + 1) hi hj (by omega)
/-- put, and got out of the bytes. -/
theorem get_put_bytes (us : List Nat) (h : RisesP us) (hb : ∀ b ∈ us, b < 256) : pickGet (rbit true (packs true (putOf us))) (8 * (packs true (putOf us)).length) 0 = (us, (putOf us).length, 0) := by
  have hp := (rises_pair us).1 h
  have := get_put us hp.2 hp.1 hb (rbit true (packs true (putOf us))) (8 * (packs true (putOf us)).length) 0 (by rw [length_packs]; omega) (fun i hi => by rw [Nat.zero_add, rbit_packs])
  rwa [Nat.zero_add] at this
end Go.Proofs.Yteabjmebnbaonaa
