/- Lengths and levels, plain: how many words a level has; Kraft's sum. No program is named here. -/
import Derived.Test.YtblbggdglndiiaaLimLaw
namespace Go.Proofs.Ytblbggdglndiiaa
set_option linter.unusedVariables false

/-- Kraft's sum of lengths of at most L, of which 1 is 2 to the power of L. -/
def kraftL (L : Nat) (ls : List Nat) : Nat := (ls.map fun l => 2 ^ (L - l)).sum
/-- how many are longer, at each of the levels. -/
def lvl (ls : List Nat) : Nat := (ls.filter fun l => decide (0 < l)).length
def levels : Nat → List Nat → List Nat
  | 0, _ => []
  | L + 1, ls => lvl ls :: levels L (ls.map (· - 1))
theorem levels_len (L : Nat) : ∀ ls, (levels L ls).length = L := by
  induction L with
  | zero => intro ls; rfl
  | succ L ih => intro ls; rw [levels, List.length_cons, ih]
theorem lvl_le (ls : List Nat) : lvl ls ≤ ls.length := List.length_filter_le _ _
theorem kraft_step (L : Nat) : ∀ ls : List Nat, kraftL (L + 1) ls + lvl ls * 2 ^ L = kraftL L (ls.map (· - 1)) + ls.length * 2 ^ L
  | [] => by simp [kraftL, lvl]
  | l :: ls => by
    have ih := kraft_step L ls
    have hp : 0 < 2 ^ L := Nat.two_pow_pos L
    by_cases h : 0 < l
    · have e1 : lvl (l :: ls) = lvl ls + 1 := by simp [lvl, h]
      have e2 : L + 1 - l = L - (l - 1) := by omega
      simp only [kraftL, List.map_cons, List.sum_cons, e2, e1, List.length_cons, Nat.add_mul, Nat.one_mul] at ih ⊢
      omega
    · obtain rfl : l = 0 := by omega
      have e1 : lvl (0 :: ls) = lvl ls := by simp [lvl]
      simp only [kraftL, List.map_cons, List.sum_cons, e1, List.length_cons, Nat.add_mul, Nat.one_mul, Nat.sub_zero, Nat.zero_sub, Nat.pow_succ] at ih ⊢
      omega
theorem kraft_le (L : Nat) : ∀ ls : List Nat, kraftL L ls ≤ ls.length * 2 ^ L
  | [] => by simp [kraftL]
  | l :: ls => by
    have ih := kraft_le L ls
    have h1 : 2 ^ (L - l) ≤ 2 ^ L := Nat.pow_le_pow_right (by decide) (by omega)
    simp only [kraftL, List.map_cons, List.sum_cons, List.length_cons, Nat.add_mul, Nat.one_mul] at ih ⊢
    omega
/-- lengths' levels fit. -/
theorem levels_fit : ∀ (L : Nat) (ls : List Nat) (t : Nat), (∀ l ∈ ls, l ≤ L) → 2 * kraftL L ls + t * 2 ^ L = 2 * ls.length * 2 ^ L → Fits ls.length (levels L ls) t
  | 0, ls, t, h, hk => by
    have e : kraftL 0 ls = ls.length := by
      clear hk h
      induction ls with
      | nil => rfl
      | cons l ls ih => simp only [kraftL, List.map_cons, List.sum_cons, Nat.zero_sub, Nat.pow_zero, List.length_cons] at ih ⊢; omega
    rw [e] at hk
    show t = 0
    simp at hk; omega
  | L + 1, ls, t, h, hk => by
    have hs := kraft_step L ls
    have hle := kraft_le L (ls.map (· - 1))
    have hl := lvl_le ls
    rw [List.length_map] at hle
    have hp : 0 < 2 ^ L := Nat.two_pow_pos L
    rw [Nat.pow_succ] at hk
    -- everything in units of 2 ^ L
    have hkt : lvl ls ≤ t := by
      apply Classical.byContradiction
      intro hn
      have h1 : (t + 1) * 2 ^ L ≤ lvl ls * 2 ^ L := Nat.mul_le_mul_right _ (by omega)
      rw [Nat.add_mul, Nat.one_mul] at h1
      have h2 : t * (2 ^ L * 2) = 2 * (t * 2 ^ L) := by rw [← Nat.mul_assoc, Nat.mul_comm]
      have h3 : 2 * ls.length * (2 ^ L * 2) = 4 * (ls.length * 2 ^ L) := by rw [← Nat.mul_assoc, Nat.mul_assoc 2, Nat.mul_comm _ 2, ← Nat.mul_assoc]
      rw [h2, h3] at hk
      omega
    have ih := levels_fit L (ls.map (· - 1)) (2 * (t - lvl ls)) (fun l hl => by
      obtain ⟨x, hx, rfl⟩ := List.mem_map.1 hl
      have := h x hx
      show x - 1 ≤ L
      omega) (by
      rw [List.length_map]
      have h2 : t * (2 ^ L * 2) = 2 * (t * 2 ^ L) := by rw [← Nat.mul_assoc, Nat.mul_comm]
      have h3 : 2 * ls.length * (2 ^ L * 2) = 4 * (ls.length * 2 ^ L) := by rw [← Nat.mul_assoc, Nat.mul_assoc 2, Nat.mul_comm _ 2, ← Nat.mul_assoc]
      rw [h2, h3] at hk
      obtain ⟨d, hd⟩ : ∃ d, t = lvl ls + d := ⟨t - lvl ls, by omega⟩
      rw [hd, Nat.add_mul] at hk
      rw [hd, Nat.add_sub_cancel_left, Nat.mul_assoc 2 d, Nat.mul_assoc 2 ls.length]
      omega)
    rw [List.length_map] at ih
    exact ⟨hl, hkt, ih⟩
/-- what lengths cost. -/
def dot : List Nat → List Nat → Nat
  | a :: as, b :: bs => a * b + dot as bs
  | _, _ => 0
theorem dot_split : ∀ (W ls : List Nat), dot W ls = dot W (ls.map (min 1)) + dot W (ls.map (· - 1))
  | [], ls => by cases ls <;> simp [dot]
  | _ :: _, [] => by simp [dot]
  | a :: W, l :: ls => by
    have ih := dot_split W ls
    have e : a * l = a * min 1 l + a * (l - 1) := by rw [← Nat.mul_add]; congr 1; omega
    simp only [dot, List.map_cons]
    omega
/-- so many of a rising row weigh no less than the first so many. -/
theorem dot_ones : ∀ (W ls : List Nat), Rises W → ls.length = W.length → sumT W (lvl ls) ≤ dot W (ls.map (min 1))
  | [], ls, _, h => by rw [sumT_nil]; exact Nat.zero_le _
  | a :: W, [], _, h => by simp at h
  | a :: W, l :: ls, hW, h => by
    have ih := dot_ones W ls hW.tail (by simpa using h)
    have hl := lvl_le ls
    simp only [dot, List.map_cons]
    by_cases h0 : 0 < l
    · have e1 : lvl (l :: ls) = lvl ls + 1 := by simp [lvl, h0]
      rw [e1, sumT_cons, show min 1 l = 1 by omega]; omega
    · obtain rfl : l = 0 := by omega
      have e1 : lvl (0 :: ls) = lvl ls := by simp [lvl]
      have key : ∀ (W : List Nat) (a k : Nat), Rises (a :: W) → k ≤ W.length → sumT (a :: W) k ≤ sumT W k := by
        intro W
        induction W with
        | nil => intro a k _ hk; obtain rfl : k = 0 := by simpa using hk
                 simp [sumT]
        | cons b W ihW =>
          intro a k hr hk
          cases k with
          | zero => simp [sumT]
          | succ k =>
            have := ihW b k hr.2 (by simpa using hk)
            rw [sumT_cons, sumT_cons]
            have := hr.1
            omega
      have h2 : ls.length = W.length := by simpa using h
      have := key W a (lvl ls) hW (by omega)
      rw [e1]; omega
/-- lengths cost no less than their levels' least. -/
theorem cost_ge {W : List Nat} (hW : Rises W) : ∀ (L : Nat) (ls : List Nat), ls.length = W.length → costL W (levels L ls) ≤ dot W ls
  | 0, ls, _ => by simp [levels, costL]
  | L + 1, ls, h => by
    have ih := cost_ge hW L (ls.map (· - 1)) (by simpa using h)
    have h1 := dot_ones W ls hW h
    rw [dot_split W ls]
    have e : costL W (levels (L + 1) ls) = sumT W (lvl ls) + costL W (levels L (ls.map (· - 1))) := by simp [levels, costL]
    rw [e]; omega
/-- the lengths that levels give: one more for each level that reaches so far. -/
def lenK (ks : List Nat) (r : Nat) : Nat := (ks.filter fun k => decide (r < k)).length
def lensK (ks : List Nat) (n : Nat) : List Nat := (List.range n).map (lenK ks)
theorem lensK_len (ks : List Nat) (n : Nat) : (lensK ks n).length = n := by simp [lensK]
theorem lenK_cons (k : Nat) (ks : List Nat) (r : Nat) : lenK (k :: ks) r = (if r < k then 1 else 0) + lenK ks r := by
  by_cases h : r < k
  · simp [lenK, h]; omega
  · simp [lenK, h]
/-- they fall. -/
def Falls : List Nat → Prop
  | a :: b :: l => b ≤ a ∧ Falls (b :: l)
  | _ => True
theorem Falls.tail {a : Nat} {l : List Nat} (h : Falls (a :: l)) : Falls l := by
  cases l with
  | nil => trivial
  | cons b l => exact h.2
theorem Falls.le {a : Nat} {l : List Nat} (h : Falls (a :: l)) : ∀ x ∈ l, x ≤ a := by
  induction l generalizing a with
  | nil => intro x hx; cases hx
  | cons b l ih =>
    intro x hx
    rcases List.mem_cons.1 hx with rfl | hx
    · exact h.1
    · exact Nat.le_trans (ih h.2 x hx) h.1
theorem lenK_none {ks : List Nat} {r : Nat} (h : ∀ k ∈ ks, k ≤ r) : lenK ks r = 0 := by
  rw [lenK, List.filter_eq_nil_iff.2 (fun k hk => by have := h k hk; simp; omega)]; rfl
theorem lvl_range (n k : Nat) (f : Nat → Nat) (hk : k ≤ n) (hf : ∀ r, 0 < f r ↔ r < k) : lvl ((List.range n).map f) = k := by
  rw [lvl, List.filter_map, List.length_map]
  have : ((List.range n).filter ((fun l => decide (0 < l)) ∘ f)) = (List.range n).filter (fun r => decide (r < k)) := by
    congr 1; funext r; simp [hf r]
  rw [this]
  clear this hf
  induction n with
  | zero => simp; omega
  | succ n ih =>
    rw [List.range_succ, List.filter_append, List.length_append]
    by_cases h : k ≤ n
    · rw [ih h]; simp; omega
    · obtain rfl : k = n + 1 := by omega
      have e : (List.range n).filter (fun r => decide (r < n + 1)) = List.range n := List.filter_eq_self.2 (fun r hr => by have := List.mem_range.1 hr; simp; omega)
      rw [e]; simp
/-- levels that fit give a full code. -/
theorem kraft_fits (n : Nat) : ∀ (ks : List Nat) (t : Nat), Falls ks → Fits n ks t → 2 * kraftL ks.length (lensK ks n) + t * 2 ^ ks.length = 2 * n * 2 ^ ks.length
  | [], t, _, h => by
    have h : t = 0 := h
    subst h
    have e : ∀ m, kraftL 0 (lensK [] m) = m := fun m => by
      have : ∀ m, (List.map (fun _ => 1) (List.range m)).sum = m := by
        intro m
        induction m with
        | zero => rfl
        | succ m ih => rw [List.range_succ, List.map_append, List.sum_append, ih]; rfl
      simp [kraftL, lensK, Function.comp_def, this]
    simp [e]
  | k :: ks, t, hf, h => by
    obtain ⟨h1, h2, h3⟩ := h
    have ih := kraft_fits n ks _ hf.tail h3
    have hs := kraft_step ks.length (lensK (k :: ks) n)
    have e1 : lvl (lensK (k :: ks) n) = k := lvl_range n k _ h1 (fun r => by
      rw [lenK_cons]
      by_cases hr : r < k
      · simp [hr]; omega
      · rw [if_neg hr, lenK_none (fun x hx => by have := hf.le x hx; omega)]; simp; omega)
    have e2 : (lensK (k :: ks) n).map (· - 1) = lensK ks n := by
      rw [lensK, lensK, List.map_map]
      refine List.map_congr_left (fun r _ => ?_)
      show lenK (k :: ks) r - 1 = lenK ks r
      rw [lenK_cons]
      by_cases hr : r < k
      · rw [if_pos hr]; omega
      · rw [if_neg hr, lenK_none (fun x hx => by have := hf.le x hx; omega)]
    rw [e1, e2, lensK_len] at hs
    rw [List.length_cons, Nat.pow_succ]
    obtain ⟨d, hd⟩ : ∃ d, t = k + d := ⟨t - k, by omega⟩
    rw [hd, Nat.add_sub_cancel_left, Nat.mul_assoc 2 d, Nat.mul_assoc 2 n] at ih
    have h3 : 2 * n * (2 ^ ks.length * 2) = 4 * (n * 2 ^ ks.length) := by rw [← Nat.mul_assoc, Nat.mul_assoc 2, Nat.mul_comm _ 2, ← Nat.mul_assoc]
    have h4 : t * (2 ^ ks.length * 2) = 2 * (k * 2 ^ ks.length) + 2 * (d * 2 ^ ks.length) := by rw [← Nat.mul_assoc, Nat.mul_comm, hd, Nat.add_mul]; omega
    rw [h3, h4]
    omega
theorem dot_add (W : List Nat) : ∀ (f g : Nat → Nat) (s n : Nat), dot W ((List.range' s n).map fun r => f r + g r) = dot W ((List.range' s n).map f) + dot W ((List.range' s n).map g) := by
  induction W with
  | nil => intro f g s n; cases n <;> simp [dot]
  | cons a W ih =>
    intro f g s n
    cases n with
    | zero => simp [dot]
    | succ n =>
      simp only [List.range'_succ, List.map_cons, dot, ih f g (s + 1) n, Nat.mul_add]
      omega
theorem dot_below : ∀ (W : List Nat) (k s n : Nat), n = W.length → k ≤ n → dot W ((List.range' s n).map fun r => if r < s + k then 1 else 0) = sumT W k
  | [], k, s, n, h, hk => by obtain rfl : k = 0 := by simp at h; omega
                             cases n <;> simp [dot, sumT]
  | a :: W, k, s, 0, h, hk => by simp at h
  | a :: W, 0, s, n + 1, h, hk => by
    have ih := dot_below W 0 (s + 1) n (by simpa using h) (Nat.zero_le _)
    simp only [List.range'_succ, List.map_cons, dot, sumT_zero] at ih ⊢
    have e : (List.range' (s + 1) n).map (fun r => if r < s + 0 then 1 else 0) = (List.range' (s + 1) n).map (fun r => if r < s + 1 + 0 then 1 else 0) := List.map_congr_left (fun r hr => by
      have := (List.mem_range'_1.1 hr).1
      rw [if_neg (by omega), if_neg (by omega)])
    rw [e, ih]; simp
  | a :: W, k + 1, s, n + 1, h, hk => by
    have ih := dot_below W k (s + 1) n (by simpa using h) (by omega)
    simp only [List.range'_succ, List.map_cons, dot, sumT_cons]
    rw [if_pos (by omega), show s + (k + 1) = s + 1 + k by omega, ih]; omega
/-- what levels' lengths cost. -/
theorem cost_eq (W : List Nat) : ∀ ks : List Nat, (∀ k ∈ ks, k ≤ W.length) → dot W (lensK ks W.length) = costL W ks
  | [], _ => by
    have : ∀ (W : List Nat) (s n : Nat), dot W ((List.range' s n).map fun _ => 0) = 0 := by
      intro W
      induction W with
      | nil => intro s n; cases n <;> simp [dot]
      | cons a W ih => intro s n; cases n with
        | zero => simp [dot]
        | succ n => simp only [List.range'_succ, List.map_cons, dot, ih]; omega
    rw [lensK, List.range_eq_range', show lenK [] = fun _ => 0 by funext r; simp [lenK], this]; simp [costL]
  | k :: ks, h => by
    have ih := cost_eq W ks (fun x hx => h x (List.mem_cons_of_mem _ hx))
    have hb := dot_below W k 0 W.length rfl (h k (List.mem_cons_self ..))
    rw [lensK, List.range_eq_range'] at ih ⊢
    have e : (List.range' 0 W.length).map (lenK (k :: ks)) = (List.range' 0 W.length).map (fun r => (if r < 0 + k then 1 else 0) + lenK ks r) := List.map_congr_left (fun r _ => by rw [lenK_cons, Nat.zero_add])
    rw [e, dot_add, hb, ih]; simp [costL]
theorem takes_head (W : List Nat) (i t : Nat) : ∃ l, takes W i t = syms (rowL W i) t :: l := by
  cases i with
  | zero => exact ⟨[], rfl⟩
  | succ i => exact ⟨_, rfl⟩
theorem takes_falls {W : List Nat} (hW : Rises W) : ∀ (i t : Nat), t ≤ (rowL W i).length → Falls (takes W i t)
  | 0, t, _ => trivial
  | i + 1, t, h => by
    have m := mix_take _ W (pairs (wts (rowL W i))) rfl t (by rw [rowL, mix_len _ W _ rfl] at h; exact h)
    have e : mix W (pairs (wts (rowL W i))) = rowL W (i + 1) := rfl
    rw [e, pairs_len, wts_len] at m
    have ih := takes_falls hW i (2 * (t - syms (rowL W (i + 1)) t)) (by have := m.2.2.1; omega)
    obtain ⟨l, hl⟩ := takes_head W i (2 * (t - syms (rowL W (i + 1)) t))
    rw [takes, hl]
    rw [hl] at ih
    exact ⟨takes_fall hW i t h, ih⟩
/-- the top row is long enough. -/
theorem row_long (W : List Nat) : ∀ i, 2 ^ i * (2 * W.length - 1 - (rowL W i).length) ≤ W.length - 1
  | 0 => by rw [row_len0, Nat.pow_zero, Nat.one_mul]; omega
  | i + 1 => by
    have ih := row_long W i
    have h : 2 * (2 * W.length - 1 - (rowL W (i + 1)).length) ≤ 2 * W.length - 1 - (rowL W i).length := by rw [row_len]; omega
    rw [Nat.pow_succ, Nat.mul_assoc]
    exact Nat.le_trans (Nat.mul_le_mul_left _ h) ih
theorem row_enough (W : List Nat) (i : Nat) (h : W.length ≤ 2 ^ (i + 1)) (h2 : 1 ≤ W.length) : 2 * W.length - 2 ≤ (rowL W i).length := by
  have k := row_long W i
  apply Classical.byContradiction
  intro hn
  have h3 : 2 ^ i * 2 ≤ 2 ^ i * (2 * W.length - 1 - (rowL W i).length) := Nat.mul_le_mul_left _ (by omega)
  rw [Nat.pow_succ] at h
  omega
/-- the lengths that the work finds, the rarest symbol's first. -/
def bestL (W : List Nat) (i : Nat) : List Nat := lensK (takes W i (2 * W.length - 2)) W.length
theorem best_full {W : List Nat} (hW : Rises W) (i : Nat) (h : W.length ≤ 2 ^ (i + 1)) (h2 : 1 ≤ W.length) : kraftL (i + 1) (bestL W i) = 2 ^ (i + 1) := by
  have ht := row_enough W i h h2
  obtain ⟨f1, _⟩ := takes_fit (W := W) i _ ht
  have k := kraft_fits W.length _ _ (takes_falls hW i _ ht) f1
  rw [takes_len] at k
  have hp := Nat.two_pow_pos (i + 1)
  obtain ⟨d, hd⟩ : ∃ d, W.length = d + 1 := ⟨W.length - 1, by omega⟩
  rw [hd, show 2 * (d + 1) - 2 = 2 * d by omega, Nat.mul_assoc, Nat.mul_assoc 2 (d + 1), Nat.add_mul] at k
  show kraftL (i + 1) (lensK _ W.length) = _
  rw [hd, show 2 * (d + 1) - 2 = 2 * d by omega]
  omega
/-- THE STAGE'S THEOREM, plain: whatever full lengths there are, they cost no less. -/
theorem best_least {W : List Nat} (hW : Rises W) (i : Nat) (h : W.length ≤ 2 ^ (i + 1)) (h2 : 1 ≤ W.length) (ls : List Nat) (hl : ls.length = W.length) (hle : ∀ l ∈ ls, l ≤ i + 1) (hk : kraftL (i + 1) ls = 2 ^ (i + 1)) : dot W (bestL W i) ≤ dot W ls := by
  have ht := row_enough W i h h2
  obtain ⟨f1, f2⟩ := takes_fit (W := W) i _ ht
  have hall : ∀ k ∈ takes W i (2 * W.length - 2), k ≤ W.length := by
    have : ∀ (ks : List Nat) (t : Nat), Fits W.length ks t → ∀ k ∈ ks, k ≤ W.length := by
      intro ks
      induction ks with
      | nil => intro t _ k hk; cases hk
      | cons a ks ih =>
        intro t hf k hk
        rcases List.mem_cons.1 hk with rfl | hk
        · exact hf.1
        · exact ih _ hf.2.2 k hk
    exact this _ _ f1
  have e := cost_eq W _ hall
  have g := cost_ge hW (i + 1) ls hl
  have fit := levels_fit (i + 1) ls (2 * W.length - 2) hle (by
    rw [hk, hl]
    obtain ⟨d, hd⟩ : ∃ d, W.length = d + 1 := ⟨W.length - 1, by omega⟩
    rw [hd, show 2 * (d + 1) - 2 = 2 * d by omega, Nat.mul_assoc, Nat.mul_assoc 2 (d + 1), Nat.add_mul]
    omega)
  rw [hl] at fit
  have c := (fits_ge hW (levels i (ls.map (· - 1))) (lvl ls) (2 * W.length - 2) fit).2
  rw [levels_len] at c
  show dot W (lensK _ _) ≤ _
  rw [e, f2]
  exact Nat.le_trans c g
theorem best_len (W : List Nat) (i : Nat) : (bestL W i).length = W.length := lensK_len _ _
theorem best_le (W : List Nat) (i : Nat) : ∀ l ∈ bestL W i, l ≤ i + 1 := by
  intro l hl
  obtain ⟨r, _, rfl⟩ := List.mem_map.1 hl
  have : lenK (takes W i (2 * W.length - 2)) r ≤ (takes W i (2 * W.length - 2)).length := List.length_filter_le _ _
  rw [takes_len] at this; exact this
end Go.Proofs.Ytblbggdglndiiaa
