/- Plain laws of tables: what Get reads; what is put is got. -/
import Derived.Test.YteabjmebnbaonaaTabPut
import Derived.Test.YteabjmebnbaonaaBitsTwo
namespace Go.Proofs.Yteabjmebnbaonaa

/-- one length out of bits, from the length k at place p on; none: there is none. -/
def oneLen (f : Nat → Bool) (N : Nat) (k p : Nat) : Option (Nat × Nat) :=
  if k < 1 ∨ 20 < k ∨ N ≤ p then none
  else if f p = false then some (k, p + 1)
  else if N ≤ p + 1 then none
  else oneLen f N (if f (p + 1) then k - 1 else k + 1) (p + 2)
  termination_by N - p
  decreasing_by omega
def lenGet (f : Nat → Bool) (N : Nat) : Nat → Nat → Nat → Option (List Nat × Nat)
  | 0, _, p => some ([], p)
  | n + 1, k, p => (oneLen f N k p).bind fun x => (lenGet f N n x.1 x.2).map fun y => (x.1 :: y.1, y.2)
/-- n bits from a place on. -/
def fbits (f : Nat → Bool) (p n : Nat) : List Bool := (List.range n).map fun j => f (p + j)
def gLens (f : Nat → Bool) (N p n : Nat) : Option (List Nat × Nat) := if N < p + 5 then none else lenGet f N n (numOf true (fbits f p 5)) (p + 5)
theorem oneLen_ok (f : Nat → Bool) (N : Nat) : ∀ (d k p v q : Nat), N - p ≤ d → oneLen f N k p = some (v, q) → 1 ≤ v ∧ v ≤ 20 ∧ p < q ∧ q ≤ N := by
  intro d
  induction d with
  | zero => intro k p v q hd h; rw [oneLen, if_pos (by omega)] at h; cases h
  | succ d ih =>
    intro k p v q hd h
    rw [oneLen] at h
    by_cases h1 : k < 1 ∨ 20 < k ∨ N ≤ p
    · rw [if_pos h1] at h; cases h
    · rw [if_neg h1] at h
      by_cases h2 : f p = false
      · rw [if_pos h2] at h; cases h; omega
      · rw [if_neg h2] at h
        by_cases h3 : N ≤ p + 1
        · rw [if_pos h3] at h; cases h
        · rw [if_neg h3] at h
          have := ih _ _ _ _ (by omega) h
          omega
theorem lenGet_ok (f : Nat → Bool) (N : Nat) : ∀ (n k p : Nat) (l : List Nat) (q : Nat), p ≤ N → lenGet f N n k p = some (l, q) → l.length = n ∧ (∀ x ∈ l, 1 ≤ x ∧ x ≤ 20) ∧ q ≤ N ∧ p + n ≤ q := by
  intro n
  induction n with
  | zero => intro k p l q hp h; cases h; exact ⟨rfl, fun x hx => (by cases hx), hp, Nat.le_refl _⟩
  | succ n ih =>
    intro k p l q hp h
    rw [lenGet] at h
    cases h1 : oneLen f N k p with
    | none => rw [h1] at h; cases h
    | some x =>
      obtain ⟨v, r⟩ := x
      rw [h1] at h
      simp only [Option.bind_some] at h
      cases h2 : lenGet f N n v r with
      | none => rw [h2] at h; cases h
      | some y =>
        obtain ⟨m, s⟩ := y
        rw [h2] at h
        cases h
        have a := oneLen_ok f N _ k p v r (Nat.le_refl _) h1
        have b := ih v r m s (by omega) h2
        have b2 := b.2.2.2
        refine ⟨by rw [List.length_cons, b.1], fun x hx => ?_, b.2.2.1, by omega⟩
        rcases List.mem_cons.1 hx with rfl | hx
        · exact ⟨a.1, a.2.1⟩
        · exact b.2.1 x hx
theorem numOf_lt5 (l : List Bool) (n : Nat) (h : l.length = n) : numOf true l < 2 ^ n := h ▸ numOf_lt true l
theorem length_fbits (f : Nat → Bool) (p n : Nat) : (fbits f p n).length = n := by simp [fbits]

/-- bits stand at a place, as far as there are any. -/
def AtN (f : Nat → Bool) (N p : Nat) (l : List Bool) : Prop := ∀ i, i < l.length → p + i < N → f (p + i) = l.getD i false
theorem AtN.left {f : Nat → Bool} {N p : Nat} {l m : List Bool} (h : AtN f N p (l ++ m)) : AtN f N p l := fun i hi hN => by
  rw [h i (by simp; omega) hN]; simp [List.getD, List.getElem?_append_left hi]
theorem AtN.right {f : Nat → Bool} {N p : Nat} {l m : List Bool} (h : AtN f N p (l ++ m)) : AtN f N (p + l.length) m := fun i hi hN => by
  rw [Nat.add_assoc, h (l.length + i) (by simp; omega) (by omega)]; simp [List.getD, List.getElem?_append_right]
theorem AtN.fbits {f : Nat → Bool} {N p : Nat} {l : List Bool} {n : Nat} (h : AtN f N p l) (hl : l.length = n) (hN : p + n ≤ N) : fbits f p n = l := by
  apply List.ext_getElem
  · simp [Proofs.Yteabjmebnbaonaa.fbits, hl]
  · intro i h1 h2
    simp only [Proofs.Yteabjmebnbaonaa.fbits, List.getElem_map, List.getElem_range]
    rw [h i h2 (by omega)]; simp [List.getD, List.getElem?_eq_getElem h2]
def stepB (a n : Nat) : List Bool := upB (n - a) ++ (downB (a - n) ++ [false])
def lenFrom : Nat → List Nat → List Bool
  | _, [] => []
  | a, n :: r => stepB a n ++ lenFrom n r
theorem stepB_len (a n : Nat) : (stepB a n).length = 2 * (n - a) + 2 * (a - n) + 1 := by simp [stepB, upB_len, downB_len]; omega
theorem stepB_eq (a : Nat) : stepB a a = [false] := by simp [stepB, upB, downB]
theorem stepB_up {a n : Nat} (h : a < n) : stepB a n = [true, false] ++ stepB (a + 1) n := by
  rw [stepB, stepB, show n - a = (n - (a + 1)) + 1 by omega, show a - n = 0 by omega, show a + 1 - n = 0 by omega]
  simp [upB, downB, List.replicate_succ]
theorem stepB_down {a n : Nat} (h : n < a) : stepB a n = [true, true] ++ stepB (a - 1) n := by
  rw [stepB, stepB, show a - n = (a - 1 - n) + 1 by omega, show n - a = 0 by omega, show n - (a - 1) = 0 by omega]
  simp [upB, downB, List.replicate_succ]
theorem AtN.first {f : Nat → Bool} {N p : Nat} {b : Bool} {l : List Bool} (h : AtN f N p (b :: l)) (hN : p < N) : f p = b := by
  have := h 0 (by simp) (by simpa using hN)
  simpa using this
theorem AtN.tail {f : Nat → Bool} {N p : Nat} {b : Bool} {l : List Bool} (h : AtN f N p (b :: l)) : AtN f N (p + 1) l := by
  have := AtN.right (l := [b]) (m := l) h
  simpa using this
theorem oneLen_put (f : Nat → Bool) (N n : Nat) (hn1 : 1 ≤ n) (hn2 : n ≤ 20) : ∀ (d a p : Nat), (n - a) + (a - n) = d → 1 ≤ a → a ≤ 20 → AtN f N p (stepB a n) →
    oneLen f N a p = if p + (stepB a n).length ≤ N then some (n, p + (stepB a n).length) else none := by
  intro d
  induction d with
  | zero =>
    intro a p hd h1 h2 hat
    obtain rfl : a = n := by omega
    rw [stepB_eq] at hat ⊢
    rw [oneLen]
    simp only [List.length_cons, List.length_nil]
    by_cases hN : p + 1 ≤ N
    · rw [if_neg (by omega), hat.first (by omega), if_pos rfl, if_pos (by omega)]
    · rw [if_pos (by omega), if_neg (by omega)]
  | succ d ih =>
    intro a p hd h1 h2 hat
    rw [oneLen]
    have hl := stepB_len a n
    by_cases hlt : a < n
    · rw [stepB_up hlt] at hat
      have hl2 := stepB_len (a + 1) n
      by_cases hN : N ≤ p
      · rw [if_pos (by omega), if_neg (by omega)]
      · rw [if_neg (by omega), AtN.first hat (by omega), if_neg (by simp)]
        by_cases hN2 : N ≤ p + 1
        · rw [if_pos hN2, if_neg (by omega)]
        · have ht := AtN.tail hat
          rw [if_neg hN2, AtN.first ht (by omega)]
          rw [if_neg (by simp), ih (a + 1) (p + 2) (by omega) (by omega) (by omega) (AtN.tail ht)]
          by_cases hh : p + (stepB a n).length ≤ N
          · rw [if_pos (by omega), if_pos hh]; congr 2; omega
          · rw [if_neg (by omega), if_neg hh]
    · rw [stepB_down (by omega)] at hat
      have hl2 := stepB_len (a - 1) n
      by_cases hN : N ≤ p
      · rw [if_pos (by omega), if_neg (by omega)]
      · rw [if_neg (by omega), AtN.first hat (by omega), if_neg (by simp)]
        by_cases hN2 : N ≤ p + 1
        · rw [if_pos hN2, if_neg (by omega)]
        · have ht := AtN.tail hat
          rw [if_neg hN2, AtN.first ht (by omega)]
          rw [if_pos rfl, ih (a - 1) (p + 2) (by omega) (by omega) (by omega) (AtN.tail ht)]
          by_cases hh : p + (stepB a n).length ≤ N
          · rw [if_pos (by omega), if_pos hh]; congr 2; omega
          · rw [if_neg (by omega), if_neg hh]
theorem lenGet_put (f : Nat → Bool) (N : Nat) : ∀ (l : List Nat) (a p : Nat), p ≤ N → 1 ≤ a → a ≤ 20 → (∀ x ∈ l, 1 ≤ x ∧ x ≤ 20) → AtN f N p (lenFrom a l) →
    lenGet f N l.length a p = if p + (lenFrom a l).length ≤ N then some (l, p + (lenFrom a l).length) else none := by
  intro l
  induction l with
  | nil => intro a p hp _ _ _ _; simp [lenGet, lenFrom, hp]
  | cons n r ih =>
    intro a p hp h1 h2 hl hat
    have hn := hl n (List.mem_cons_self ..)
    rw [lenFrom] at hat ⊢
    rw [List.length_cons, lenGet, oneLen_put f N n hn.1 hn.2 _ a p rfl h1 h2 hat.left, List.length_append]
    by_cases hN : p + (stepB a n).length ≤ N
    · rw [if_pos hN, Option.bind_some, ih n _ hN hn.1 hn.2 (fun x hx => hl x (List.mem_cons_of_mem _ hx)) hat.right]
      by_cases hN2 : p + (stepB a n).length + (lenFrom n r).length ≤ N
      · rw [if_pos hN2, if_pos (by omega), Option.map_some]; congr 2; omega
      · rw [if_neg hN2, if_neg (by omega), Option.map_none]
    · rw [if_neg hN, if_neg (by omega), Option.bind_none]
theorem lenFrom_snoc (n : Nat) : ∀ (l : List Nat) (a : Nat), lenFrom a (l ++ [n]) = lenFrom a l ++ stepB (l.getLastD a) n
  | [], a => by simp [lenFrom]
  | x :: l, a => by
    rw [List.cons_append, lenFrom, lenFrom, lenFrom_snoc n l x, List.append_assoc, List.getLastD_cons]
theorem lenTo_from (bs : List Nat) : ∀ k, k ≤ bs.length → lenTo bs k = bitsOf true (bs.getD 0 0) 5 ++ lenFrom (bs.getD 0 0) (bs.take k)
  | 0, _ => by simp [lenTo, lenFrom]
  | k + 1, h => by
    rw [lenTo, lenTo_from bs k (by omega), List.take_succ_eq_append_getElem (show k < bs.length by omega), lenFrom_snoc, List.append_assoc]
    congr 2
    have e1 : bs.getD k 0 = bs[k] := by simp [List.getD, List.getElem?_eq_getElem (show k < bs.length by omega)]
    have e2 : (bs.take k).getLastD (bs.getD 0 0) = atK bs k := by
      rw [atK]
      by_cases h0 : k = 0
      · subst h0; simp
      · rw [if_neg h0, List.getLastD_eq_getLast?, List.getLast?_eq_getElem?, List.length_take, Nat.min_eq_left (by omega), List.getElem?_take, if_pos (by omega)]
        simp [List.getD, List.getElem?_eq_getElem (show k - 1 < bs.length by omega)]
    rw [e1, e2, stepB]
theorem lenBits_from (bs : List Nat) : lenBits bs = bitsOf true (bs.getD 0 0) 5 ++ lenFrom (bs.getD 0 0) bs := by rw [lenBits, lenTo_from bs _ (Nat.le_refl _), List.take_length]
/-- what is put is got; cut short it is none. -/
theorem gLens_put (f : Nat → Bool) (N p : Nat) (bs : List Nat) (hm : MayP bs) (hat : AtN f N p (lenBits bs)) :
    gLens f N p bs.length = if p + (lenBits bs).length ≤ N then some (bs, p + (lenBits bs).length) else none := by
  obtain ⟨m1, m2, m3⟩ := hm
  have h0 : 1 ≤ bs.getD 0 0 ∧ bs.getD 0 0 ≤ 20 := by
    have := m3 (bs[0]) (List.getElem_mem (by omega))
    simpa [List.getD, List.getElem?_eq_getElem (show 0 < bs.length by omega)] using this
  rw [lenBits_from] at hat ⊢
  generalize bs.getD 0 0 = a at *
  rw [gLens, List.length_append, length_bitsOf]
  by_cases hN : N < p + 5
  · rw [if_pos hN, if_neg (by omega)]
  · rw [if_neg hN, hat.left.fbits (length_bitsOf _ _ _) (by omega), numOf_bitsOf true a 5 (by omega)]
    have hr := hat.right
    rw [length_bitsOf] at hr
    rw [lenGet_put f N bs a (p + 5) (by omega) h0.1 h0.2 m3 hr]
    by_cases hN2 : p + 5 + (lenFrom a bs).length ≤ N
    · rw [if_pos hN2, if_pos (by omega)]; congr 2; omega
    · rw [if_neg hN2, if_neg (by omega)]
/-- what is got has no more bits when it is put. -/
theorem oneLen_size (f : Nat → Bool) (N : Nat) : ∀ (d k p v q : Nat), N - p ≤ d → oneLen f N k p = some (v, q) → p + (stepB k v).length ≤ q := by
  intro d
  induction d with
  | zero => intro k p v q hd h; rw [oneLen, if_pos (by omega)] at h; cases h
  | succ d ih =>
    intro k p v q hd h
    rw [oneLen] at h
    by_cases h1 : k < 1 ∨ 20 < k ∨ N ≤ p
    · rw [if_pos h1] at h; cases h
    · rw [if_neg h1] at h
      by_cases h2 : f p = false
      · rw [if_pos h2] at h; cases h; rw [stepB_len]; omega
      · rw [if_neg h2] at h
        by_cases h3 : N ≤ p + 1
        · rw [if_pos h3] at h; cases h
        · rw [if_neg h3] at h
          have := ih _ _ _ _ (by omega) h
          rw [stepB_len] at this ⊢
          split at this <;> omega
theorem lenGet_size (f : Nat → Bool) (N : Nat) : ∀ (n k p : Nat) (l : List Nat) (q : Nat), lenGet f N n k p = some (l, q) → p + (lenFrom k l).length ≤ q := by
  intro n
  induction n with
  | zero => intro k p l q h; cases h; simp [lenFrom]
  | succ n ih =>
    intro k p l q h
    rw [lenGet] at h
    cases h1 : oneLen f N k p with
    | none => rw [h1] at h; cases h
    | some x =>
      obtain ⟨v, r⟩ := x
      rw [h1] at h
      simp only [Option.bind_some] at h
      cases h2 : lenGet f N n v r with
      | none => rw [h2] at h; cases h
      | some y =>
        obtain ⟨m, s⟩ := y
        rw [h2] at h
        cases h
        have a := oneLen_size f N _ k p v r (Nat.le_refl _) h1
        have b := ih v r m s h2
        show p + (lenFrom k (v :: m)).length ≤ s
        rw [lenFrom, List.length_append]; omega
theorem lenFrom_head (k : Nat) (l : List Nat) (h0 : 0 < l.length) : (lenFrom (l.getD 0 0) l).length ≤ (lenFrom k l).length := by
  cases l with
  | nil => simp at h0
  | cons x r =>
    simp only [lenFrom, List.length_append, stepB_len, List.getD_cons_zero]; omega
theorem gLens_size (f : Nat → Bool) (N p n : Nat) (l : List Nat) (q : Nat) (h0 : 0 < n) (h : gLens f N p n = some (l, q)) : p + (lenBits l).length ≤ q ∧ q ≤ N ∧ l.length = n ∧ ∀ x ∈ l, 1 ≤ x ∧ x ≤ 20 := by
  rw [gLens] at h
  by_cases hN : N < p + 5
  · rw [if_pos hN] at h; cases h
  · rw [if_neg hN] at h
    have a := lenGet_ok f N n _ _ l q (by omega) h
    have b := lenGet_size f N n _ _ l q h
    have c := lenFrom_head (numOf true (fbits f p 5)) l (by omega)
    refine ⟨?_, a.2.2.1, a.1, a.2.1⟩
    rw [lenBits_from, List.length_append, length_bitsOf]; omega
end Go.Proofs.Yteabjmebnbaonaa
