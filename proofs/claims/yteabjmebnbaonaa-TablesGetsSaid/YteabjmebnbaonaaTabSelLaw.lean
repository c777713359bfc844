/- Plain laws of selectors: what Get reads; what is put is got; what is got is put by the same bits. -/
import Derived.Test.YteabjmebnbaonaaTabLaw
namespace Go.Proofs.Yteabjmebnbaonaa
set_option linter.unusedVariables false

def oneSel (f : Nat → Bool) (N t k p : Nat) : Option (Nat × Nat) :=
  if N ≤ p then none else if f p = false then some (k, p + 1) else if t ≤ k + 1 then none else oneSel f N t (k + 1) (p + 1)
  termination_by N - p
  decreasing_by omega
/-- a list with the element of a place at the front. -/
def mtf (l : List Nat) (k : Nat) : List Nat := l.getD k 0 :: (l.take k ++ l.drop (k + 1))
def selGet (f : Nat → Bool) (N t : Nat) : Nat → List Nat → Nat → Option (List Nat × Nat)
  | 0, _, p => some ([], p)
  | n + 1, lst, p => (oneSel f N t 0 p).bind fun x => (selGet f N t n (mtf lst x.1) x.2).map fun y => (lst.getD x.1 0 :: y.1, y.2)
def lst0 : List Nat := [0, 1, 2, 3, 4, 5]
def gSel (f : Nat → Bool) (N p t : Nat) : Option (List Nat × Nat) := if N < p + 15 then none else if numOf true (fbits f p 15) = 0 then none else selGet f N t (numOf true (fbits f p 15)) lst0 (p + 15)
/-- the place of a number in a list. -/
def idx : List Nat → Nat → Nat
  | [], _ => 0
  | x :: l, v => if x = v then 0 else idx l v + 1
def selFrom : List Nat → List Nat → List Bool
  | _, [] => []
  | lst, v :: r => List.replicate (idx lst v) true ++ false :: selFrom (mtf lst (idx lst v)) r
def selBits (vs : List Nat) : List Bool := bitsOf true vs.length 15 ++ selFrom lst0 vs
theorem idx_le : ∀ (l : List Nat) (v i : Nat), l[i]? = some v → idx l v ≤ i
  | [], v, i, h => by simp at h
  | x :: l, v, i, h => by
    rw [idx]
    split
    · omega
    · rename_i hne
      cases i with
      | zero => simp at h; exact absurd h hne
      | succ i => have := idx_le l v i (by simpa using h); omega
theorem idx_get : ∀ (l : List Nat) (v : Nat), v ∈ l → l[idx l v]? = some v
  | x :: l, v, h => by
    rw [idx]
    split
    · rename_i e; simp [e]
    · rename_i hne
      have : v ∈ l := by rcases List.mem_cons.1 h with e | e; exact absurd e.symm hne; exact e
      simpa using idx_get l v this
theorem idx_before : ∀ (l : List Nat) (v j : Nat), j < idx l v → l[j]? ≠ some v := fun l v j h e => by
  have := idx_le l v j e; omega
theorem idx_nodup (l : List Nat) (hn : l.Nodup) (v i : Nat) (h : l[i]? = some v) : idx l v = i := by
  have h1 := idx_le l v i h
  have h2 := idx_get l v (List.mem_of_getElem? h)
  have hi : i < l.length := (List.getElem?_eq_some_iff.1 h).1
  have := (List.getElem?_inj (by omega) hn).1 (h2.trans h.symm)
  exact this
/-- the first t of the six are those below t. -/
structure Good (t : Nat) (l : List Nat) : Prop where
  len : l.length = 6
  nodup : l.Nodup
  lt : ∀ i, i < t → l.getD i 0 < t
  all : ∀ v, v < t → ∃ i, i < t ∧ l.getD i 0 = v
theorem good0 (t : Nat) (h2 : 2 ≤ t) (h6 : t ≤ 6) : Good t lst0 := by
  have hg : ∀ i, i < 6 → lst0.getD i 0 = i := by decide
  exact ⟨rfl, by decide, fun i hi => by rw [hg i (by omega)]; exact hi, fun v hv => ⟨v, hv, hg v (by omega)⟩⟩
theorem mtf_get (l : List Nat) (k i : Nat) (hk : k < l.length) : (mtf l k).getD i 0 = if i = 0 then l.getD k 0 else if i ≤ k then l.getD (i - 1) 0 else l.getD i 0 := by
  cases i with
  | zero => rfl
  | succ i =>
    rw [mtf, List.getD_cons_succ, if_neg (by omega)]
    by_cases h : i + 1 ≤ k
    · rw [if_pos h]
      simp only [List.getD]
      rw [List.getElem?_append_left (by rw [List.length_take]; omega), List.getElem?_take, if_pos (by omega)]
      simp
    · rw [if_neg h]
      simp only [List.getD]
      rw [List.getElem?_append_right (by rw [List.length_take]; omega), List.getElem?_drop, List.length_take, Nat.min_eq_left (by omega)]
      congr 2; omega
theorem mtf_perm (l : List Nat) (k : Nat) (hk : k < l.length) : (mtf l k).Perm l := by
  have e : l = l.take k ++ l[k] :: l.drop (k + 1) := by rw [← List.drop_eq_getElem_cons hk, List.take_append_drop]
  have e2 : l.getD k 0 = l[k] := by simp [List.getD, hk]
  rw [mtf, e2]
  conv => rhs; rw [e]
  exact List.perm_middle.symm
theorem Good.mtf {t : Nat} {l : List Nat} (h : Good t l) (h6 : t ≤ 6) {k : Nat} (hk : k < t) : Good t (mtf l k) := by
  have hl := h.len
  have hp := mtf_perm l k (by omega)
  refine ⟨hp.length_eq.trans hl, hp.nodup_iff.2 h.nodup, fun i hi => ?_, fun v hv => ?_⟩
  · rw [mtf_get l k i (by omega)]
    split
    · exact h.lt k hk
    · split
      · exact h.lt _ (by omega)
      · exact h.lt i hi
  · obtain ⟨j, hj, e⟩ := h.all v hv
    by_cases h1 : j = k
    · exact ⟨0, by omega, by rw [mtf_get l k 0 (by omega), if_pos rfl, ← h1, e]⟩
    · by_cases h2 : j < k
      · exact ⟨j + 1, by omega, by rw [mtf_get l k _ (by omega), if_neg (by omega), if_pos (by omega), Nat.add_sub_cancel, e]⟩
      · exact ⟨j, hj, by rw [mtf_get l k _ (by omega), if_neg (by omega), if_neg (by omega), e]⟩
theorem Good.idx {t : Nat} {l : List Nat} (h : Good t l) (h6 : t ≤ 6) {v : Nat} (hv : v < t) : idx l v < t ∧ l.getD (idx l v) 0 = v := by
  obtain ⟨j, hj, e⟩ := h.all v hv
  have hjl : j < l.length := by have := h.len; omega
  have e2 : l[j]? = some v := by simpa [List.getD, hjl] using e
  rw [idx_nodup l h.nodup v j e2]
  exact ⟨hj, e⟩
theorem Good.at {t : Nat} {l : List Nat} (h : Good t l) (h6 : t ≤ 6) {k : Nat} (hk : k < t) : Proofs.Yteabjmebnbaonaa.idx l (l.getD k 0) = k := by
  have hkl : k < l.length := by have := h.len; omega
  exact idx_nodup l h.nodup _ k (by simp [List.getD, hkl])
theorem oneSel_put (f : Nat → Bool) (N t k : Nat) (hk : k < t) : ∀ (d i p : Nat), i + d = k → AtN f N p (List.replicate d true ++ [false]) →
    oneSel f N t i p = if p + d + 1 ≤ N then some (k, p + d + 1) else none := by
  intro d
  induction d with
  | zero =>
    intro i p hd hat
    rw [oneSel]
    by_cases hN : N ≤ p
    · rw [if_pos hN, if_neg (by omega)]
    · rw [if_neg hN, AtN.first (l := []) hat (by omega), if_pos rfl, if_pos (by omega)]
      congr 2
  | succ d ih =>
    intro i p hd hat
    rw [List.replicate_succ, List.cons_append] at hat
    rw [oneSel]
    by_cases hN : N ≤ p
    · rw [if_pos hN, if_neg (by omega)]
    · rw [if_neg hN, hat.first (by omega), if_neg (by simp), if_neg (by omega), ih (i + 1) (p + 1) (by omega) hat.tail]
      by_cases h : p + 1 + d + 1 ≤ N
      · rw [if_pos h, if_pos (by omega)]; congr 2; omega
      · rw [if_neg h, if_neg (by omega)]
theorem selGet_put (f : Nat → Bool) (N t : Nat) (h6 : t ≤ 6) : ∀ (vs lst : List Nat) (p : Nat), p ≤ N → Good t lst → (∀ v ∈ vs, v < t) → AtN f N p (selFrom lst vs) →
    selGet f N t vs.length lst p = if p + (selFrom lst vs).length ≤ N then some (vs, p + (selFrom lst vs).length) else none := by
  intro vs
  induction vs with
  | nil => intro lst p hp _ _ _; simp [selGet, selFrom, hp]
  | cons v r ih =>
    intro lst p hp hg hv hat
    obtain ⟨hi, hgv⟩ := hg.idx h6 (hv v (List.mem_cons_self ..))
    rw [selFrom] at hat ⊢
    generalize idx lst v = k at *
    have e : List.replicate k true ++ false :: selFrom (mtf lst k) r = (List.replicate k true ++ [false]) ++ selFrom (mtf lst k) r := by simp
    rw [e] at hat ⊢
    rw [List.length_cons, selGet, oneSel_put f N t k hi k 0 p (by omega) hat.left]
    have hat2 := hat.right
    simp only [List.length_append, List.length_replicate, List.length_cons, List.length_nil] at hat2 ⊢
    by_cases hN : p + k + 1 ≤ N
    · rw [if_pos hN, Option.bind_some]
      simp only
      rw [ih (mtf lst k) (p + k + 1) hN (hg.mtf h6 hi) (fun x hx => hv x (List.mem_cons_of_mem _ hx)) (by rw [show p + k + 1 = p + (k + (0 + 1)) by omega]; exact hat2), hgv]
      by_cases hN2 : p + k + 1 + (selFrom (mtf lst k) r).length ≤ N
      · rw [if_pos hN2, if_pos (by omega), Option.map_some]; congr 2; omega
      · rw [if_neg hN2, if_neg (by omega), Option.map_none]
    · rw [if_neg hN, if_neg (by omega), Option.bind_none]
/-- may selectors be? -/
def MayN (vs : List Nat) (t : Nat) : Prop := 2 ≤ t ∧ t ≤ 6 ∧ 0 < vs.length ∧ vs.length ≤ 32767 ∧ ∀ v ∈ vs, v < t
theorem gSel_put (f : Nat → Bool) (N p t : Nat) (vs : List Nat) (hm : MayN vs t) (hat : AtN f N p (selBits vs)) :
    gSel f N p t = if p + (selBits vs).length ≤ N then some (vs, p + (selBits vs).length) else none := by
  obtain ⟨h2, h6, h0, hl, hv⟩ := hm
  rw [selBits] at hat ⊢
  rw [gSel, List.length_append, length_bitsOf]
  by_cases hN : N < p + 15
  · rw [if_pos hN, if_neg (by omega)]
  · have hr := hat.right
    rw [length_bitsOf] at hr
    rw [if_neg hN, hat.left.fbits (length_bitsOf _ _ _) (by omega), numOf_bitsOf true _ 15 (by omega), if_neg (by omega), selGet_put f N t h6 vs lst0 (p + 15) (by omega) (good0 t h2 h6) hv hr]
    by_cases hN2 : p + 15 + (selFrom lst0 vs).length ≤ N
    · rw [if_pos hN2, if_pos (by omega)]; congr 2; omega
    · rw [if_neg hN2, if_neg (by omega)]
theorem oneSel_ok (f : Nat → Bool) (N t : Nat) : ∀ (d i p k q : Nat), N - p ≤ d → i < t → oneSel f N t i p = some (k, q) → i ≤ k ∧ k < t ∧ q = p + (k - i) + 1 ∧ q ≤ N := by
  intro d
  induction d with
  | zero => intro i p k q hd hi h; rw [oneSel, if_pos (by omega)] at h; cases h
  | succ d ih =>
    intro i p k q hd hi h
    rw [oneSel] at h
    by_cases h1 : N ≤ p
    · rw [if_pos h1] at h; cases h
    · rw [if_neg h1] at h
      by_cases h2 : f p = false
      · rw [if_pos h2] at h; cases h; omega
      · rw [if_neg h2] at h
        by_cases h3 : t ≤ i + 1
        · rw [if_pos h3] at h; cases h
        · rw [if_neg h3] at h
          have := ih _ _ _ _ (by omega) (by omega) h
          omega
theorem selGet_ok (f : Nat → Bool) (N t : Nat) (h2 : 2 ≤ t) (h6 : t ≤ 6) : ∀ (n : Nat) (lst : List Nat) (p : Nat) (l : List Nat) (q : Nat), p ≤ N → Good t lst → selGet f N t n lst p = some (l, q) →
    q = p + (selFrom lst l).length ∧ l.length = n ∧ (∀ x ∈ l, x < t) ∧ q ≤ N := by
  intro n
  induction n with
  | zero => intro lst p l q hp _ h; cases h; exact ⟨rfl, rfl, fun x hx => (by cases hx), hp⟩
  | succ n ih =>
    intro lst p l q hp hg h
    rw [selGet] at h
    cases h1 : oneSel f N t 0 p with
    | none => rw [h1] at h; cases h
    | some x =>
      obtain ⟨k, r⟩ := x
      rw [h1] at h
      simp only [Option.bind_some] at h
      obtain ⟨_, hk, hr, hrN⟩ := oneSel_ok f N t _ 0 p k r (Nat.le_refl _) (by omega) h1
      cases h3 : selGet f N t n (mtf lst k) r with
      | none => rw [h3] at h; cases h
      | some y =>
        obtain ⟨m, s⟩ := y
        rw [h3] at h
        cases h
        obtain ⟨a1, a2, a3, a4⟩ := ih (mtf lst k) r m s hrN (hg.mtf h6 hk) h3
        have hx := hg.at h6 hk
        refine ⟨?_, by rw [List.length_cons, a2], fun x hx => ?_, a4⟩
        · show s = p + (selFrom lst (lst.getD k 0 :: m)).length
          rw [selFrom, hx]
          simp only [List.length_append, List.length_replicate, List.length_cons]
          omega
        · rcases List.mem_cons.1 hx with rfl | hx
          · exact hg.lt k hk
          · exact a3 x hx
theorem gSel_ok (f : Nat → Bool) (N p t : Nat) (h2 : 2 ≤ t) (h6 : t ≤ 6) (l : List Nat) (q : Nat) (h : gSel f N p t = some (l, q)) : MayN l t ∧ q = p + (selBits l).length ∧ q ≤ N := by
  rw [gSel] at h
  by_cases hN : N < p + 15
  · rw [if_pos hN] at h; cases h
  · rw [if_neg hN] at h
    by_cases h0 : numOf true (fbits f p 15) = 0
    · rw [if_pos h0] at h; cases h
    · rw [if_neg h0] at h
      have hlt := numOf_lt5 (fbits f p 15) 15 (length_fbits _ _ _)
      obtain ⟨a1, a2, a3, a4⟩ := selGet_ok f N t h2 h6 _ _ _ _ _ (by omega) (good0 t h2 h6) h
      refine ⟨⟨h2, h6, by omega, by omega, a3⟩, ?_, a4⟩
      rw [selBits, List.length_append, length_bitsOf]; omega
theorem selFrom_zeros (n : Nat) : selFrom lst0 (List.replicate n 0) = List.replicate n false := by
  induction n with
  | zero => rfl
  | succ n ih =>
    rw [List.replicate_succ, selFrom, show idx lst0 0 = 0 from rfl, show mtf lst0 0 = lst0 from rfl, ih]
    rfl
theorem idx_lt (l : List Nat) (v : Nat) (h : v ∈ l) : idx l v < l.length := (List.getElem?_eq_some_iff.1 (idx_get l v h)).1
theorem selFrom_len : ∀ (vs lst : List Nat) (t : Nat), t ≤ 6 → Good t lst → (∀ v ∈ vs, v < t) → (selFrom lst vs).length ≤ 6 * vs.length
  | [], lst, t, _, _, _ => by simp [selFrom]
  | v :: r, lst, t, h6, hg, hv => by
    obtain ⟨hi, hgv⟩ := hg.idx h6 (hv v (List.mem_cons_self ..))
    have ih := selFrom_len r (mtf lst (idx lst v)) t h6 (hg.mtf h6 hi) (fun x hx => hv x (List.mem_cons_of_mem _ hx))
    rw [selFrom]
    simp only [List.length_append, List.length_replicate, List.length_cons]
    omega
theorem selBits_len (vs : List Nat) (t : Nat) (h : MayN vs t) : (selBits vs).length ≤ 15 + 6 * vs.length := by
  rw [selBits, List.length_append, length_bitsOf]
  have := selFrom_len vs lst0 t h.2.1 (good0 t h.1 h.2.1) h.2.2.2.2
  omega
end Go.Proofs.Yteabjmebnbaonaa
