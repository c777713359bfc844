/- Least costs of lengths, plain: rows, packages, what no choice goes below. No program is named here. -/
namespace Go.Proofs.Ytblbggdglndiiaa
set_option linter.unusedVariables false

/-- the sum of the first k. -/
def sumT (l : List Nat) (k : Nat) : Nat := (l.take k).sum
theorem sumT_zero (l : List Nat) : sumT l 0 = 0 := by simp [sumT]
theorem sumT_cons (a : Nat) (l : List Nat) (k : Nat) : sumT (a :: l) (k + 1) = a + sumT l k := by simp [sumT]
theorem sumT_nil (k : Nat) : sumT [] k = 0 := by simp [sumT]
/-- two by two, together. -/
def pairs : List Nat → List Nat
  | a :: b :: l => (a + b) :: pairs l
  | _ => []
theorem pairs_len : ∀ l : List Nat, (pairs l).length = l.length / 2
  | [] => rfl
  | [_] => by simp [pairs]
  | a :: b :: l => by simp [pairs, pairs_len l]; omega
theorem pairs_sum : ∀ (l : List Nat) (j : Nat), 2 * j ≤ l.length → sumT (pairs l) j = sumT l (2 * j)
  | l, 0, _ => by simp [sumT]
  | [], j + 1, h => by simp at h
  | [_], j + 1, h => by simp at h; omega
  | a :: b :: l, j + 1, h => by
    have ih := pairs_sum l j (by simp at h; omega)
    rw [pairs, sumT_cons, ih, show 2 * (j + 1) = (2 * j) + 1 + 1 by omega, sumT_cons, sumT_cons]; omega
/-- rising. -/
def Rises : List Nat → Prop
  | a :: b :: l => a ≤ b ∧ Rises (b :: l)
  | _ => True
theorem Rises.tail {a : Nat} {l : List Nat} (h : Rises (a :: l)) : Rises l := by
  cases l with
  | nil => trivial
  | cons b l => exact h.2
theorem Rises.le {a : Nat} {l : List Nat} (h : Rises (a :: l)) : ∀ x ∈ l, a ≤ x := by
  induction l generalizing a with
  | nil => intro x hx; cases hx
  | cons b l ih =>
    intro x hx
    rcases List.mem_cons.1 hx with rfl | hx
    · exact h.1
    · exact Nat.le_trans h.1 (ih h.2 x hx)
theorem pairs_rises : ∀ l : List Nat, Rises l → Rises (pairs l)
  | [], _ => trivial
  | [_], _ => trivial
  | [_, _], _ => trivial
  | [_, _, _], _ => trivial
  | a :: b :: c :: d :: l, h => by
    have h1 := h.1
    have h2 := h.2.1
    have h3 := h.2.2.1
    refine ⟨by omega, pairs_rises (c :: d :: l) h.2.2⟩
/-- the symbols' weights and packages, in order, a symbol first; each with whether it is a symbol. -/
def mix : List Nat → List Nat → List (Nat × Bool)
  | [], b => b.map fun x => (x, false)
  | a, [] => a.map fun x => (x, true)
  | x :: a, y :: b => if x ≤ y then (x, true) :: mix a (y :: b) else (y, false) :: mix (x :: a) b
termination_by a b => a.length + b.length
theorem mix_nil_l (b : List Nat) : mix [] b = b.map fun x => (x, false) := by rw [mix]
theorem mix_nil_r (a : List Nat) : mix a [] = a.map fun x => (x, true) := by cases a <;> simp [mix]
theorem mix_cons (x : Nat) (a : List Nat) (y : Nat) (b : List Nat) : mix (x :: a) (y :: b) = if x ≤ y then (x, true) :: mix a (y :: b) else (y, false) :: mix (x :: a) b := by rw [mix]
theorem filter_all : ∀ l : List Nat, List.filter (fun _ => true) l = l := fun l => List.filter_eq_self.2 (fun _ _ => rfl)
/-- how many of the first t are symbols. -/
def syms (l : List (Nat × Bool)) (t : Nat) : Nat := ((l.take t).filter (·.2)).length
def wts (l : List (Nat × Bool)) : List Nat := l.map (·.1)
theorem wts_cons (p : Nat × Bool) (l : List (Nat × Bool)) : wts (p :: l) = p.1 :: wts l := rfl
theorem mix_len : ∀ (n : Nat) (a b : List Nat), a.length + b.length = n → (mix a b).length = n := by
  intro n
  induction n with
  | zero => intro a b h; rw [List.eq_nil_of_length_eq_zero (l := a) (by omega), List.eq_nil_of_length_eq_zero (l := b) (by omega)]; simp [mix_nil_l]
  | succ n ih =>
    intro a b h
    cases a with
    | nil => simp [mix_nil_l] at h ⊢; omega
    | cons x a =>
      cases b with
      | nil => simp [mix_nil_r] at h ⊢; omega
      | cons y b =>
        rw [mix_cons]
        simp at h
        split
        · simp; exact ih _ _ (by simp; omega)
        · simp; exact ih _ _ (by simp; omega)
/-- the first t of the mixed row: so many symbols, so many packages. -/
theorem mix_take : ∀ (n : Nat) (a b : List Nat), a.length + b.length = n → ∀ t, t ≤ n →
    syms (mix a b) t ≤ a.length ∧ syms (mix a b) t ≤ t ∧ t - syms (mix a b) t ≤ b.length ∧ sumT (wts (mix a b)) t = sumT a (syms (mix a b) t) + sumT b (t - syms (mix a b) t) := by
  intro n
  induction n with
  | zero =>
    intro a b h t ht
    obtain rfl : t = 0 := by omega
    simp [syms, sumT]
  | succ n ih =>
    intro a b h t ht
    cases t with
    | zero => simp [syms, sumT]
    | succ t =>
      cases a with
      | nil =>
        have e : syms (mix [] b) (t + 1) = 0 := by simp [syms, mix_nil_l, ← List.map_take]
        rw [e]
        simp at h
        refine ⟨by simp, by omega, by omega, ?_⟩
        rw [mix_nil_l, sumT_nil]; simp [wts, sumT, Function.comp_def]
      | cons x a =>
        cases b with
        | nil =>
          have e : syms (mix (x :: a) []) (t + 1) = t + 1 := by
            simp at h
            simp [syms, mix_nil_r, ← List.map_take, List.filter_map, Function.comp_def, filter_all]; omega
          rw [e]
          simp at h
          refine ⟨by simp; omega, by omega, by omega, ?_⟩
          rw [mix_nil_r, Nat.sub_self, sumT_zero]; simp [wts, sumT, Function.comp_def]
        | cons y b =>
          rw [mix_cons]
          simp at h
          split
          · obtain ⟨i1, i2, i3, i4⟩ := ih a (y :: b) (by simp; omega) t (by omega)
            have e : syms ((x, true) :: mix a (y :: b)) (t + 1) = syms (mix a (y :: b)) t + 1 := by simp [syms]
            rw [e, show t + 1 - (syms (mix a (y :: b)) t + 1) = t - syms (mix a (y :: b)) t by omega, wts_cons, sumT_cons, sumT_cons, i4]
            exact ⟨by simp; omega, by omega, i3, by omega⟩
          · obtain ⟨i1, i2, i3, i4⟩ := ih (x :: a) b (by simp; omega) t (by omega)
            have e : syms ((y, false) :: mix (x :: a) b) (t + 1) = syms (mix (x :: a) b) t := by simp [syms]
            rw [e, show t + 1 - syms (mix (x :: a) b) t = (t - syms (mix (x :: a) b) t) + 1 by omega, wts_cons, sumT_cons, sumT_cons, i4]
            exact ⟨i1, by omega, by simp; omega, by omega⟩
/-- the first t of the mixed row are the least: no other share of both costs less. -/
theorem mix_least : ∀ (n : Nat) (a b : List Nat), a.length + b.length = n → Rises a → Rises b → ∀ i j, i ≤ a.length → j ≤ b.length → sumT (wts (mix a b)) (i + j) ≤ sumT a i + sumT b j := by
  intro n
  induction n with
  | zero =>
    intro a b h _ _ i j hi hj
    obtain rfl : i = 0 := by omega
    obtain rfl : j = 0 := by omega
    simp [sumT]
  | succ n ih =>
    intro a b h ha hb i j hi hj
    cases a with
    | nil =>
      obtain rfl : i = 0 := by simpa using hi
      rw [mix_nil_l, sumT_nil, Nat.zero_add, Nat.zero_add]; simp [wts, sumT, Function.comp_def]
    | cons x a =>
      cases b with
      | nil =>
        obtain rfl : j = 0 := by simpa using hj
        rw [mix_nil_r, sumT_zero, Nat.add_zero, Nat.add_zero]; simp [wts, sumT, Function.comp_def]
      | cons y b =>
        rw [mix_cons]
        simp at h hi hj
        split
        · rename_i hxy
          cases i with
          | succ i =>
            have := ih a (y :: b) (by simp; omega) ha.tail hb i j (by omega) (by simp; omega)
            rw [show i + 1 + j = (i + j) + 1 by omega, wts_cons, sumT_cons, sumT_cons]; omega
          | zero =>
            cases j with
            | zero => simp [sumT]
            | succ j =>
              -- the package y and j others: x is no more than the last of them
              have h1 := ih a (y :: b) (by simp; omega) ha.tail hb 0 j (by omega) (by simp; omega)
              rw [Nat.zero_add, sumT_zero, Nat.zero_add] at h1
              rw [Nat.zero_add, wts_cons, sumT_cons, sumT_zero, Nat.zero_add, sumT_cons]
              have h2 : sumT (y :: b) j ≤ sumT b j + y - 0 ∧ x + sumT (y :: b) j ≤ y + sumT b j := by
                have key : ∀ (l : List Nat) (y : Nat) (j : Nat), Rises (y :: l) → x ≤ y → j ≤ l.length → x + sumT (y :: l) j ≤ y + sumT l j := by
                  intro l
                  induction l with
                  | nil => intro y j _ hxy hj; obtain rfl : j = 0 := by simpa using hj
                           simp [sumT]; exact hxy
                  | cons z l ihl =>
                    intro y j hr hxy hj
                    cases j with
                    | zero => simp [sumT]; exact hxy
                    | succ j =>
                      have := ihl z j hr.2 (Nat.le_trans hxy hr.1) (by simpa using hj)
                      rw [sumT_cons, sumT_cons]; omega
                have := key b y j hb hxy (by omega)
                omega
              omega
        · rename_i hxy
          cases j with
          | succ j =>
            have := ih (x :: a) b (by simp; omega) ha hb.tail i j (by simp; omega) (by omega)
            rw [show i + (j + 1) = (i + j) + 1 by omega, wts_cons, sumT_cons, sumT_cons]; omega
          | zero =>
            cases i with
            | zero => simp [sumT]
            | succ i =>
              have h1 := ih (x :: a) b (by simp; omega) ha hb.tail i 0 (by simp; omega) (by omega)
              rw [Nat.add_zero, sumT_zero, Nat.add_zero] at h1
              rw [Nat.add_zero, wts_cons, sumT_cons, sumT_zero, Nat.add_zero, sumT_cons]
              have key : ∀ (l : List Nat) (x : Nat) (i : Nat), Rises (x :: l) → y ≤ x → i ≤ l.length → y + sumT (x :: l) i ≤ x + sumT l i := by
                intro l
                induction l with
                | nil => intro x i _ hyx hi; obtain rfl : i = 0 := by simpa using hi
                         simp [sumT]; exact hyx
                | cons z l ihl =>
                  intro x i hr hyx hi
                  cases i with
                  | zero => simp [sumT]; exact hyx
                  | succ i =>
                    have := ihl z i hr.2 (Nat.le_trans hyx hr.1) (by simpa using hi)
                    rw [sumT_cons, sumT_cons]; omega
              have := key a x i ha (by omega) (by omega)
              omega
/-- a row of the work: the first is the symbols alone. -/
def rowL (W : List Nat) : Nat → List (Nat × Bool)
  | 0 => mix W []
  | i + 1 => mix W (pairs (wts (rowL W i)))
theorem mix_rises : ∀ (n : Nat) (a b : List Nat), a.length + b.length = n → Rises a → Rises b → Rises (wts (mix a b)) ∧ (∀ z, (∀ x ∈ a, z ≤ x) → (∀ x ∈ b, z ≤ x) → ∀ x ∈ wts (mix a b), z ≤ x) := by
  intro n
  induction n with
  | zero => intro a b h _ _; rw [List.eq_nil_of_length_eq_zero (l := a) (by omega), List.eq_nil_of_length_eq_zero (l := b) (by omega)]; simp [mix_nil_l, wts, Rises]
  | succ n ih =>
    intro a b h ha hb
    cases a with
    | nil =>
      have e : wts (mix [] b) = b := by rw [mix_nil_l]; simp [wts, Function.comp_def]
      rw [e]; exact ⟨hb, fun z _ h2 => h2⟩
    | cons x a =>
      cases b with
      | nil =>
        have e : wts (mix (x :: a) []) = x :: a := by rw [mix_nil_r]; simp [wts, Function.comp_def]
        rw [e]; exact ⟨ha, fun z h1 _ => h1⟩
      | cons y b =>
        rw [mix_cons]
        simp at h
        have cons_rises : ∀ (u : Nat) (l : List Nat), (∀ v ∈ l, u ≤ v) → Rises l → Rises (u :: l) := by
          intro u l h1 h2
          cases l with
          | nil => trivial
          | cons v l => exact ⟨h1 v (List.mem_cons_self ..), h2⟩
        split
        · rename_i hxy
          obtain ⟨i1, i2⟩ := ih a (y :: b) (by simp; omega) ha.tail hb
          refine ⟨cons_rises x _ (i2 x ha.le (fun v hv => ?_)) i1, fun z h1 h2 v hv => ?_⟩
          · rcases List.mem_cons.1 hv with rfl | hv
            · exact hxy
            · exact Nat.le_trans hxy (hb.le v hv)
          · rw [wts_cons] at hv
            rcases List.mem_cons.1 hv with rfl | hv
            · exact h1 _ (List.mem_cons_self ..)
            · exact i2 z (fun u hu => h1 u (List.mem_cons_of_mem _ hu)) h2 v hv
        · rename_i hxy
          obtain ⟨i1, i2⟩ := ih (x :: a) b (by simp; omega) ha hb.tail
          refine ⟨cons_rises y _ (i2 y (fun v hv => ?_) hb.le) i1, fun z h1 h2 v hv => ?_⟩
          · rcases List.mem_cons.1 hv with rfl | hv
            · omega
            · have := ha.le v hv; omega
          · rw [wts_cons] at hv
            rcases List.mem_cons.1 hv with rfl | hv
            · exact h2 _ (List.mem_cons_self ..)
            · exact i2 z h1 (fun u hu => h2 u (List.mem_cons_of_mem _ hu)) v hv
theorem row_rises {W : List Nat} (h : Rises W) : ∀ i, Rises (wts (rowL W i))
  | 0 => (mix_rises _ W [] rfl h trivial).1
  | i + 1 => (mix_rises _ W _ rfl h (pairs_rises _ (row_rises h i))).1
theorem wts_len (l : List (Nat × Bool)) : (wts l).length = l.length := by simp [wts]
theorem row_len0 (W : List Nat) : (rowL W 0).length = W.length := by rw [rowL, mix_len _ W [] rfl]; simp
theorem row_len (W : List Nat) (i : Nat) : (rowL W (i + 1)).length = W.length + (rowL W i).length / 2 := by
  rw [rowL, mix_len _ W _ rfl, pairs_len, wts_len]
/-- so many symbols a level, from the top row on: what is taken of the next row. -/
def Fits (n : Nat) : List Nat → Nat → Prop
  | [], t => t = 0
  | k :: ks, t => k ≤ n ∧ k ≤ t ∧ Fits n ks (2 * (t - k))
def costL (W : List Nat) (ks : List Nat) : Nat := (ks.map (sumT W)).sum
/-- no share of the levels costs less than the top row's first ones; and there are as many. -/
theorem fits_ge {W : List Nat} (hW : Rises W) : ∀ (ks : List Nat) (k t : Nat), Fits W.length (k :: ks) t → t ≤ (rowL W ks.length).length ∧ sumT (wts (rowL W ks.length)) t ≤ costL W (k :: ks)
  | [], k, t, h => by
    obtain ⟨h1, h2, h3⟩ := h
    have hk : t = k := by have : 2 * (t - k) = 0 := h3; omega
    subst hk
    refine ⟨by show t ≤ (rowL W 0).length; rw [row_len0]; exact h1, ?_⟩
    have e : wts (rowL W 0) = W := by rw [rowL, mix_nil_r]; simp [wts, Function.comp_def]
    show sumT (wts (rowL W 0)) t ≤ _
    rw [e]; simp [costL]
  | k2 :: ks, k, t, h => by
    obtain ⟨h1, h2, h3⟩ := h
    obtain ⟨i1, i2⟩ := fits_ge hW ks k2 _ h3
    have hl : (pairs (wts (rowL W ks.length))).length = (rowL W ks.length).length / 2 := by rw [pairs_len, wts_len]
    have hj : t - k ≤ (pairs (wts (rowL W ks.length))).length := by rw [hl]; omega
    have m := mix_least _ W (pairs (wts (rowL W ks.length))) rfl hW (pairs_rises _ (row_rises hW _)) k (t - k) h1 hj
    rw [show k + (t - k) = t by omega, pairs_sum _ _ (by rw [wts_len]; omega)] at m
    refine ⟨?_, ?_⟩
    · show t ≤ (rowL W (ks.length + 1)).length
      rw [row_len]; omega
    · show sumT (wts (rowL W (ks.length + 1))) t ≤ _
      have e : costL W (k :: k2 :: ks) = sumT W k + costL W (k2 :: ks) := by simp [costL]
      rw [e]
      show sumT (wts (mix W (pairs (wts (rowL W ks.length))))) t ≤ _
      omega
/-- the shares that the work finds, from row i down. -/
def takes (W : List Nat) : Nat → Nat → List Nat
  | 0, t => [syms (rowL W 0) t]
  | i + 1, t => syms (rowL W (i + 1)) t :: takes W i (2 * (t - syms (rowL W (i + 1)) t))
theorem takes_len (W : List Nat) : ∀ i t, (takes W i t).length = i + 1
  | 0, _ => rfl
  | i + 1, t => by rw [takes, List.length_cons, takes_len W i]
theorem syms_row0 (W : List Nat) (t : Nat) (h : t ≤ W.length) : syms (rowL W 0) t = t := by
  rw [rowL, mix_nil_r]
  simp [syms, ← List.map_take, List.filter_map, Function.comp_def, filter_all]; omega
/-- they fit, and cost what the row's first ones do. -/
theorem takes_fit {W : List Nat} : ∀ (i t : Nat), t ≤ (rowL W i).length → Fits W.length (takes W i t) t ∧ costL W (takes W i t) = sumT (wts (rowL W i)) t
  | 0, t, h => by
    rw [row_len0] at h
    have e : wts (rowL W 0) = W := by rw [rowL, mix_nil_r]; simp [wts, Function.comp_def]
    rw [takes, syms_row0 W t h, e]
    refine ⟨⟨h, Nat.le_refl _, ?_⟩, by simp [costL]⟩
    show 2 * (t - t) = 0
    omega
  | i + 1, t, h => by
    have m := mix_take _ W (pairs (wts (rowL W i))) rfl t (by rw [rowL, mix_len _ W _ rfl] at h; exact h)
    have e : mix W (pairs (wts (rowL W i))) = rowL W (i + 1) := rfl
    rw [e, pairs_len, wts_len] at m
    obtain ⟨m1, m2, m3, m4⟩ := m
    obtain ⟨i1, i2⟩ := takes_fit (W := W) i (2 * (t - syms (rowL W (i + 1)) t)) (by omega)
    refine ⟨⟨m1, m2, i1⟩, ?_⟩
    rw [takes]
    have e2 : costL W (syms (rowL W (i + 1)) t :: takes W i (2 * (t - syms (rowL W (i + 1)) t))) = sumT W (syms (rowL W (i + 1)) t) + costL W (takes W i (2 * (t - syms (rowL W (i + 1)) t))) := by simp [costL]
    rw [e2, i2, m4, pairs_sum _ _ (by rw [wts_len]; omega)]
theorem getD_zero' (x : Nat) (l : List Nat) : (x :: l).getD 0 0 = x := rfl
theorem getD_succ' (x : Nat) (l : List Nat) (i : Nat) : (x :: l).getD (i + 1) 0 = l.getD i 0 := rfl
theorem Rises.getD {x : Nat} {l : List Nat} (h : Rises (x :: l)) (i : Nat) (hi : i < l.length + 1) : x ≤ (x :: l).getD i 0 := by
  cases i with
  | zero => exact Nat.le_refl _
  | succ i =>
    rw [getD_succ']
    have hl : i < l.length := by omega
    have : l.getD i 0 = l[i] := by simp [List.getD, hl]
    rw [this]; exact h.le _ (List.getElem_mem hl)
theorem syms_true (x : Nat) (l : List (Nat × Bool)) (t : Nat) : syms ((x, true) :: l) (t + 1) = syms l t + 1 := by simp [syms]
theorem syms_false (x : Nat) (l : List (Nat × Bool)) (t : Nat) : syms ((x, false) :: l) (t + 1) = syms l t := by simp [syms]
theorem syms_le (l : List (Nat × Bool)) (t : Nat) : syms l t ≤ t := by
  have h1 : syms l t ≤ (l.take t).length := List.length_filter_le _ _
  rw [List.length_take] at h1; omega
theorem syms_nil_l (b : List Nat) (t : Nat) : syms (mix [] b) t = 0 := by simp [syms, mix_nil_l, ← List.map_take]
/-- a symbol that is no heavier than the last package taken is taken. -/
theorem mix_before : ∀ (n : Nat) (a b : List Nat), a.length + b.length = n → Rises a → ∀ t i, t ≤ n → i < a.length → 1 ≤ t - syms (mix a b) t → a.getD i 0 ≤ b.getD (t - syms (mix a b) t - 1) 0 → i < syms (mix a b) t := by
  intro n
  induction n with
  | zero => intro a b h _ t i ht hi; omega
  | succ n ih =>
    intro a b h ha t i ht hi hj hle
    cases t with
    | zero => omega
    | succ t =>
      cases a with
      | nil => simp at hi
      | cons x a =>
        cases b with
        | nil =>
          have e : syms (mix (x :: a) []) (t + 1) = t + 1 := by
            simp at h
            simp [syms, mix_nil_r, ← List.map_take, List.filter_map, Function.comp_def, filter_all]; omega
          rw [e] at hj; omega
        | cons y b =>
          rw [mix_cons] at hj hle ⊢
          simp at h hi
          split
          · rename_i hxy
            rw [if_pos hxy] at hj hle
            rw [syms_true] at hj hle ⊢
            cases i with
            | zero => omega
            | succ i =>
              have := ih a (y :: b) (by simp; omega) ha.tail t i (by omega) (by omega) (by omega) (by rw [getD_succ'] at hle; rw [show t - syms (mix a (y :: b)) t - 1 = t + 1 - (syms (mix a (y :: b)) t + 1) - 1 by omega]; exact hle)
              omega
          · rename_i hxy
            rw [if_neg hxy] at hj hle
            rw [syms_false] at hj hle ⊢
            have hst := syms_le (mix (x :: a) b) t
            by_cases h0 : t - syms (mix (x :: a) b) t = 0
            · rw [show t + 1 - syms (mix (x :: a) b) t - 1 = 0 by omega, getD_zero'] at hle
              have := ha.getD i (by omega)
              omega
            · obtain ⟨q, hq⟩ : ∃ q, t - syms (mix (x :: a) b) t = q + 1 := ⟨t - syms (mix (x :: a) b) t - 1, by omega⟩
              rw [show t + 1 - syms (mix (x :: a) b) t - 1 = q + 1 by omega, getD_succ'] at hle
              exact ih (x :: a) b (by simp; omega) ha t i (by omega) (by simp; omega) (by omega) (by rw [hq]; exact hle)
/-- the last symbol taken is no heavier than the last item taken. -/
theorem mix_last : ∀ (n : Nat) (a b : List Nat), a.length + b.length = n → Rises a → Rises b → ∀ t, t ≤ n → 1 ≤ syms (mix a b) t → a.getD (syms (mix a b) t - 1) 0 ≤ (wts (mix a b)).getD (t - 1) 0 := by
  intro n
  induction n with
  | zero => intro a b h _ _ t ht hs; have := syms_le (mix a b) t; omega
  | succ n ih =>
    intro a b h ha hb t ht hs
    cases t with
    | zero => have := syms_le (mix a b) 0; omega
    | succ t =>
      cases a with
      | nil => rw [syms_nil_l] at hs; omega
      | cons x a =>
        cases b with
        | nil =>
          have e : syms (mix (x :: a) []) (t + 1) = t + 1 := by
            simp at h
            simp [syms, mix_nil_r, ← List.map_take, List.filter_map, Function.comp_def, filter_all]; omega
          have e2 : wts (mix (x :: a) []) = x :: a := by rw [mix_nil_r]; simp [wts, Function.comp_def]
          rw [e, e2]; exact Nat.le_refl _
        | cons y b =>
          have hr := (mix_rises _ (x :: a) (y :: b) rfl ha hb).1
          rw [mix_cons] at hs hr ⊢
          simp at h
          split
          · rename_i hxy
            rw [if_pos hxy] at hs hr
            rw [syms_true]
            rw [wts_cons] at hr ⊢
            rw [Nat.add_sub_cancel, Nat.add_sub_cancel]
            have hml : (wts (mix a (y :: b))).length = n := by rw [wts_len, mix_len n a (y :: b) (by simp; omega)]
            by_cases h0 : syms (mix a (y :: b)) t = 0
            · rw [h0, getD_zero']; exact hr.getD t (by omega)
            · have hst := syms_le (mix a (y :: b)) t
              have := ih a (y :: b) (by simp; omega) ha.tail hb t (by omega) (by omega)
              obtain ⟨q, hq⟩ : ∃ q, syms (mix a (y :: b)) t = q + 1 := ⟨syms (mix a (y :: b)) t - 1, by omega⟩
              obtain ⟨u, hu⟩ : ∃ u, t = u + 1 := ⟨t - 1, by omega⟩
              rw [hq, getD_succ', hu, getD_succ']
              rw [hq, hu] at this
              exact this
          · rename_i hxy
            rw [if_neg hxy] at hs hr
            rw [syms_false] at hs ⊢
            rw [wts_cons]
            have hst := syms_le (mix (x :: a) b) t
            have := ih (x :: a) b (by simp; omega) ha hb.tail t (by omega) hs
            obtain ⟨u, hu⟩ : ∃ u, t = u + 1 := ⟨t - 1, by omega⟩
            rw [Nat.add_sub_cancel, hu, getD_succ']
            rw [hu] at this
            exact this
theorem pairs_getD : ∀ (l : List Nat) (j : Nat), 2 * j + 1 < l.length → l.getD (2 * j + 1) 0 ≤ (pairs l).getD j 0
  | [], j, h => by simp at h
  | [_], j, h => by simp at h
  | a :: b :: l, 0, _ => by
    show b ≤ a + b
    omega
  | a :: b :: l, j + 1, h => by
    have := pairs_getD l j (by simp at h; omega)
    show (b :: l).getD (2 * (j + 1)) 0 ≤ (pairs l).getD j 0
    rw [show 2 * (j + 1) = (2 * j + 1) + 1 by omega, getD_succ']
    exact this
/-- the shares fall. -/
theorem takes_fall {W : List Nat} (hW : Rises W) (i t : Nat) (ht : t ≤ (rowL W (i + 1)).length) : syms (rowL W i) (2 * (t - syms (rowL W (i + 1)) t)) ≤ syms (rowL W (i + 1)) t := by
  have hl := ht
  rw [row_len] at hl
  have m := mix_take _ W (pairs (wts (rowL W i))) rfl t (by rw [rowL, mix_len _ W _ rfl] at ht; exact ht)
  have e : mix W (pairs (wts (rowL W i))) = rowL W (i + 1) := rfl
  rw [e, pairs_len, wts_len] at m
  obtain ⟨m1, m2, m3, m4⟩ := m
  obtain ⟨j, hj⟩ : ∃ j, j = t - syms (rowL W (i + 1)) t := ⟨_, rfl⟩
  obtain ⟨k', hk'⟩ : ∃ k', k' = syms (rowL W i) (2 * j) := ⟨_, rfl⟩
  rw [← hj, ← hk']
  apply Classical.byContradiction
  intro hn
  have hk1 : 1 ≤ k' := by omega
  have hj1 : 1 ≤ j := by have := syms_le (rowL W i) (2 * j); omega
  have hrow : ∃ b, rowL W i = mix W b ∧ Rises b := by
    cases i with
    | zero => exact ⟨[], rfl, trivial⟩
    | succ i => exact ⟨_, rfl, pairs_rises _ (row_rises hW i)⟩
  obtain ⟨b, hb, hbr⟩ := hrow
  have hlen : (rowL W i).length = W.length + b.length := by rw [hb, mix_len _ W b rfl]
  have h1 : k' ≤ W.length := by rw [hk', hb]; exact (mix_take _ W b rfl (2 * j) (by omega)).1
  have h2 := mix_last _ W b rfl hW hbr (2 * j) (by omega) (by rw [← hb, ← hk']; exact hk1)
  rw [← hb, ← hk'] at h2
  have h3 := pairs_getD (wts (rowL W i)) (j - 1) (by rw [wts_len]; omega)
  rw [show 2 * (j - 1) + 1 = 2 * j - 1 by omega] at h3
  have h4 := mix_before _ W (pairs (wts (rowL W i))) rfl hW t (k' - 1) (by rw [rowL, mix_len _ W _ rfl] at ht; exact ht) (by omega) (by rw [e]; omega) (by rw [e, ← hj]; exact Nat.le_trans h2 h3)
  rw [e] at h4
  omega
end Go.Proofs.Ytblbggdglndiiaa
