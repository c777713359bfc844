/- Least costs of lengths, plain: rows, packages, what no choice goes below. No program is named here. Lengths and levels, plain: how many words a level has; Kraft's sum. No program is named here. Lengths of symbols in any order, plain: what they cost and Kraft's sum are the same under a permutation. No program is named here. The two least put together, again and again: what comes of it is the least cost of a full code. No program is named here. The document's least cost, level by level, plain: it is what the levels that fit cost at least. No program is named here. Symbols in the order of their frequencies, plain: one order; the lengths symbol by symbol. No program is named here. What the statements about least lengths ask, plain: fall, growth, a nought put in, tight limits, no limit. No program is named here. Two rising halves, turned about, plain: what is below comes before what is above. No program is named here. Blocks in order, plain: what the stable sort's passes keep. No program is named here. Rows of the work as they lie: counts, and the steps of 'next', plain. No program is named here. How long and how heavy a row of the work may be, plain. No program is named here. The lengths that the program finds, reckoned; plain. No program is named here. -/
/-! Least costs of lengths, plain: rows, packages, what no choice goes below. No program is named here. -/
namespace Go.Proofs.Ytaabmlnbadpfgaa
set_option linter.unusedVariables false

/-- the sum of the first k. -/
def sumT (l : List Nat) (k : Nat) : Nat := (l.take k).sum
theorem sumT_zero (l : List Nat) : sumT l 0 = 0 := by simp [sumT]
theorem sumT_cons (a : Nat) (l : List Nat) (k : Nat) : sumT (a :: l) (k + 1) = a + sumT l k := by simp [sumT]
theorem sumT_nil (k : Nat) : sumT [] k = 0 := by simp [sumT]
/-- two by two, together. -/
def pairs : List Nat → List Nat
  | a :: b :: l => (a + b) :: pairs l
  | _ => []
theorem pairs_len : ∀ l : List Nat, (pairs l).length = l.length / 2
  | [] => rfl
  | [_] => by simp [pairs]
  | a :: b :: l => by simp [pairs, pairs_len l]; omega
theorem pairs_sum : ∀ (l : List Nat) (j : Nat), 2 * j ≤ l.length → sumT (pairs l) j = sumT l (2 * j)
  | l, 0, _ => by simp [sumT]
  | [], j + 1, h => by simp at h
  | [_], j + 1, h => by simp at h; omega
  | a :: b :: l, j + 1, h => by
    have ih := pairs_sum l j (by simp at h; omega)
    rw [pairs, sumT_cons, ih, show 2 * (j + 1) = (2 * j) + 1 + 1 by omega, sumT_cons, sumT_cons]; omega
/-- rising. -/
def Rises : List Nat → Prop
  | a :: b :: l => a ≤ b ∧ Rises (b :: l)
  | _ => True
theorem Rises.tail {a : Nat} {l : List Nat} (h : Rises (a :: l)) : Rises l := by
  cases l with
  | nil => trivial
  | cons b l => exact h.2
theorem Rises.le {a : Nat} {l : List Nat} (h : Rises (a :: l)) : ∀ x ∈ l, a ≤ x := by
  induction l generalizing a with
  | nil => intro x hx; cases hx
  | cons b l ih =>
    intro x hx
    rcases List.mem_cons.1 hx with rfl | hx
    · exact h.1
    · exact Nat.le_trans h.1 (ih h.2 x hx)
theorem pairs_rises : ∀ l : List Nat, Rises l → Rises (pairs l)
  | [], _ => trivial
  | [_], _ => trivial
  | [_, _], _ => trivial
  | [_, _, _], _ => trivial
  | a :: b :: c :: d :: l, h => by
    have h1 := h.1
    have h2 := h.2.1
    have h3 := h.2.2.1
    refine ⟨by omega, pairs_rises (c :: d :: l) h.2.2⟩
/-- the symbols' weights and packages, in order, a symbol first; each with whether it is a symbol. -/
def mix : List Nat → List Nat → List (Nat × Bool)
  | [], b => b.map fun x => (x, false)
  | a, [] => a.map fun x => (x, true)
  | x :: a, y :: b => if x ≤ y then (x, true) :: mix a (y :: b) else (y, false) :: mix (x :: a) b
  termination_by a b => a.length + b.length
theorem mix_nil_l (b : List Nat) : mix [] b = b.map fun x => (x, false) := by rw [mix]
theorem mix_nil_r (a : List Nat) : mix a [] = a.map fun x => (x, true) := by cases a <;> simp [mix]
theorem mix_cons (x : Nat) (a : List Nat) (y : Nat) (b : List Nat) : mix (x :: a) (y :: b) = if x ≤ y then (x, true) :: mix a (y :: b) else (y, false) :: mix (x :: a) b := by rw [mix]
theorem filter_all : ∀ l : List Nat, List.filter (fun _ => true) l = l := fun l => List.filter_eq_self.2 (fun _ _ => rfl)
/-- how many of the first t are symbols. -/
def syms (l : List (Nat × Bool)) (t : Nat) : Nat := ((l.take t).filter (·.2)).length
def wts (l : List (Nat × Bool)) : List Nat := l.map (·.1)
theorem wts_cons (p : Nat × Bool) (l : List (Nat × Bool)) : wts (p :: l) = p.1 :: wts l := rfl
theorem mix_len : ∀ (n : Nat) (a b : List Nat), a.length + b.length = n → (mix a b).length = n := by
  intro n
  induction n with
  | zero => intro a b h; rw [List.eq_nil_of_length_eq_zero (l := a) (by omega), List.eq_nil_of_length_eq_zero (l := b) (by omega)]; simp [mix_nil_l]
  | succ n ih =>
    intro a b h
    cases a with
    | nil => simp [mix_nil_l] at h ⊢; omega
    | cons x a =>
      cases b with
      | nil => simp [mix_nil_r] at h ⊢; omega
      | cons y b =>
        rw [mix_cons]
        simp at h
        split
        · simp; exact ih _ _ (by simp; omega)
        · simp; exact ih _ _ (by simp; omega)
/-- the first t of the mixed row: so many symbols, so many packages. -/
theorem mix_take : ∀ (n : Nat) (a b : List Nat), a.length + b.length = n → ∀ t, t ≤ n →
    syms (mix a b) t ≤ a.length ∧ syms (mix a b) t ≤ t ∧ t - syms (mix a b) t ≤ b.length ∧ sumT (wts (mix a b)) t = sumT a (syms (mix a b) t) + sumT b (t - syms (mix a b) t) := by
  intro n
  induction n with
  | zero =>
    intro a b h t ht
    obtain rfl : t = 0 := by omega
    simp [syms, sumT]
  | succ n ih =>
    intro a b h t ht
    cases t with
    | zero => simp [syms, sumT]
    | succ t =>
      cases a with
      | nil =>
        have e : syms (mix [] b) (t + 1) = 0 := by simp [syms, mix_nil_l, ← List.map_take]
        rw [e]
        simp at h
        refine ⟨by simp, by omega, by omega, ?_⟩
        rw [mix_nil_l, sumT_nil]; simp [wts, sumT, Function.comp_def]
      | cons x a =>
        cases b with
        | nil =>
          have e : syms (mix (x :: a) []) (t + 1) = t + 1 := by
            simp at h
            simp [syms, mix_nil_r, ← List.map_take, List.filter_map, Function.comp_def, filter_all]; omega
          rw [e]
          simp at h
          refine ⟨by simp; omega, by omega, by omega, ?_⟩
          rw [mix_nil_r, Nat.sub_self, sumT_zero]; simp [wts, sumT, Function.comp_def]
        | cons y b =>
          rw [mix_cons]
          simp at h
          split
          · obtain ⟨i1, i2, i3, i4⟩ := ih a (y :: b) (by simp; omega) t (by omega)
            have e : syms ((x, true) :: mix a (y :: b)) (t + 1) = syms (mix a (y :: b)) t + 1 := by simp [syms]
            rw [e, show t + 1 - (syms (mix a (y :: b)) t + 1) = t - syms (mix a (y :: b)) t by omega, wts_cons, sumT_cons, sumT_cons, i4]
            exact ⟨by simp; omega, by omega, i3, by omega⟩
          · obtain ⟨i1, i2, i3, i4⟩ := ih (x :: a) b (by simp; omega) t (by omega)
            have e : syms ((y, false) :: mix (x :: a) b) (t + 1) = syms (mix (x :: a) b) t := by simp [syms]
            rw [e, show t + 1 - syms (mix (x :: a) b) t = (t - syms (mix (x :: a) b) t) + 1 by omega, wts_cons, sumT_cons, sumT_cons, i4]
            exact ⟨i1, by omega, by simp; omega, by omega⟩
/-- the first t of the mixed row are the least: no other share of both costs less. -/
theorem mix_least : ∀ (n : Nat) (a b : List Nat), a.length + b.length = n → Rises a → Rises b → ∀ i j, i ≤ a.length → j ≤ b.length → sumT (wts (mix a b)) (i + j) ≤ sumT a i + sumT b j := by
  intro n
  induction n with
  | zero =>
    intro a b h _ _ i j hi hj
    obtain rfl : i = 0 := by omega
    obtain rfl : j = 0 := by omega
    simp [sumT]
  | succ n ih =>
    intro a b h ha hb i j hi hj
    cases a with
    | nil =>
      obtain rfl : i = 0 := by simpa using hi
      rw [mix_nil_l, sumT_nil, Nat.zero_add, Nat.zero_add]; simp [wts, sumT, Function.comp_def]
    | cons x a =>
      cases b with
      | nil =>
        obtain rfl : j = 0 := by simpa using hj
        rw [mix_nil_r, sumT_zero, Nat.add_zero, Nat.add_zero]; simp [wts, sumT, Function.comp_def]
      | cons y b =>
        rw [mix_cons]
        simp at h hi hj
        split
        · rename_i hxy
          cases i with
          | succ i =>
            have := ih a (y :: b) (by simp; omega) ha.tail hb i j (by omega) (by simp; omega)
            rw [show i + 1 + j = (i + j) + 1 by omega, wts_cons, sumT_cons, sumT_cons]; omega
          | zero =>
            cases j with
            | zero => simp [sumT]
            | succ j =>
              -- the package y and j others: x is no more than the last of them
              have h1 := ih a (y :: b) (by simp; omega) ha.tail hb 0 j (by omega) (by simp; omega)
              rw [Nat.zero_add, sumT_zero, Nat.zero_add] at h1
              rw [Nat.zero_add, wts_cons, sumT_cons, sumT_zero, Nat.zero_add, sumT_cons]
              have h2 : sumT (y :: b) j ≤ sumT b j + y - 0 ∧ x + sumT (y :: b) j ≤ y + sumT b j := by
                have key : ∀ (l : List Nat) (y : Nat) (j : Nat), Rises (y :: l) → x ≤ y → j ≤ l.length → x + sumT (y :: l) j ≤ y + sumT l j := by
                  intro l
                  induction l with
                  | nil => intro y j _ hxy hj; obtain rfl : j = 0 := by simpa using hj
                           simp [sumT]; exact hxy
                  | cons z l ihl =>
                    intro y j hr hxy hj
                    cases j with
                    | zero => simp [sumT]; exact hxy
                    | succ j =>
                      have := ihl z j hr.2 (Nat.le_trans hxy hr.1) (by simpa using hj)
                      rw [sumT_cons, sumT_cons]; omega
                have := key b y j hb hxy (by omega)
                omega
              omega
        · rename_i hxy
          cases j with
          | succ j =>
            have := ih (x :: a) b (by simp; omega) ha hb.tail i j (by simp; omega) (by omega)
            rw [show i + (j + 1) = (i + j) + 1 by omega, wts_cons, sumT_cons, sumT_cons]; omega
          | zero =>
            cases i with
            | zero => simp [sumT]
            | succ i =>
              have h1 := ih (x :: a) b (by simp; omega) ha hb.tail i 0 (by simp; omega) (by omega)
              rw [Nat.add_zero, sumT_zero, Nat.add_zero] at h1
              rw [Nat.add_zero, wts_cons, sumT_cons, sumT_zero, Nat.add_zero, sumT_cons]
              have key : ∀ (l : List Nat) (x : Nat) (i : Nat), Rises (x :: l) → y ≤ x → i ≤ l.length → y + sumT (x :: l) i ≤ x + sumT l i := by
                intro l
                induction l with
                | nil => intro x i _ hyx hi; obtain rfl : i = 0 := by simpa using hi
                         simp [sumT]; exact hyx
                | cons z l ihl =>
                  intro x i hr hyx hi
                  cases i with
                  | zero => simp [sumT]; exact hyx
                  | succ i =>
                    have := ihl z i hr.2 (Nat.le_trans hyx hr.1) (by simpa using hi)
                    rw [sumT_cons, sumT_cons]; omega
              have := key a x i ha (by omega) (by omega)
              omega
/-- a row of the work: the first is the symbols alone. -/
def rowL (W : List Nat) : Nat → List (Nat × Bool)
  | 0 => mix W []
  | i + 1 => mix W (pairs (wts (rowL W i)))
theorem mix_rises : ∀ (n : Nat) (a b : List Nat), a.length + b.length = n → Rises a → Rises b → Rises (wts (mix a b)) ∧ (∀ z, (∀ x ∈ a, z ≤ x) → (∀ x ∈ b, z ≤ x) → ∀ x ∈ wts (mix a b), z ≤ x) := by
  intro n
  induction n with
  | zero => intro a b h _ _; rw [List.eq_nil_of_length_eq_zero (l := a) (by omega), List.eq_nil_of_length_eq_zero (l := b) (by omega)]; simp [mix_nil_l, wts, Rises]
  | succ n ih =>
    intro a b h ha hb
    cases a with
    | nil =>
      have e : wts (mix [] b) = b := by rw [mix_nil_l]; simp [wts, Function.comp_def]
      rw [e]; exact ⟨hb, fun z _ h2 => h2⟩
    | cons x a =>
      cases b with
      | nil =>
        have e : wts (mix (x :: a) []) = x :: a := by rw [mix_nil_r]; simp [wts, Function.comp_def]
        rw [e]; exact ⟨ha, fun z h1 _ => h1⟩
      | cons y b =>
        rw [mix_cons]
        simp at h
        have cons_rises : ∀ (u : Nat) (l : List Nat), (∀ v ∈ l, u ≤ v) → Rises l → Rises (u :: l) := by
          intro u l h1 h2
          cases l with
          | nil => trivial
          | cons v l => exact ⟨h1 v (List.mem_cons_self ..), h2⟩
        split
        · rename_i hxy
          obtain ⟨i1, i2⟩ := ih a (y :: b) (by simp; omega) ha.tail hb
          refine ⟨cons_rises x _ (i2 x ha.le (fun v hv => ?_)) i1, fun z h1 h2 v hv => ?_⟩
          · rcases List.mem_cons.1 hv with rfl | hv
            · exact hxy
            · exact Nat.le_trans hxy (hb.le v hv)
          · rw [wts_cons] at hv
            rcases List.mem_cons.1 hv with rfl | hv
            · exact h1 _ (List.mem_cons_self ..)
            · exact i2 z (fun u hu => h1 u (List.mem_cons_of_mem _ hu)) h2 v hv
        · rename_i hxy
          obtain ⟨i1, i2⟩ := ih (x :: a) b (by simp; omega) ha hb.tail
          refine ⟨cons_rises y _ (i2 y (fun v hv => ?_) hb.le) i1, fun z h1 h2 v hv => ?_⟩
          · rcases List.mem_cons.1 hv with rfl | hv
            · omega
            · have := ha.le v hv; omega
          · rw [wts_cons] at hv
            rcases List.mem_cons.1 hv with rfl | hv
            · exact h2 _ (List.mem_cons_self ..)
            · exact i2 z h1 (fun u hu => h2 u (List.mem_cons_of_mem _ hu)) v hv
theorem row_rises {W : List Nat} (h : Rises W) : ∀ i, Rises (wts (rowL W i))
  | 0 => (mix_rises _ W [] rfl h trivial).1
  | i + 1 => (mix_rises _ W _ rfl h (pairs_rises _ (row_rises h i))).1
theorem wts_len (l : List (Nat × Bool)) : (wts l).length = l.length := by simp [wts]
theorem row_len0 (W : List Nat) : (rowL W 0).length = W.length := by rw [rowL, mix_len _ W [] rfl]; simp
theorem row_len (W : List Nat) (i : Nat) : (rowL W (i + 1)).length = W.length + (rowL W i).length / 2 := by
  rw [rowL, mix_len _ W _ rfl, pairs_len, wts_len]
/-- so many symbols a level, from the top row on: what is taken of the next row. -/
def Fits (n : Nat) : List Nat → Nat → Prop
  | [], t => t = 0
  | k :: ks, t => k ≤ n ∧ k ≤ t ∧ Fits n ks (2 * (t - k))
def costL (W : List Nat) (ks : List Nat) : Nat := (ks.map (sumT W)).sum
/-- no share of the levels costs less than the top row's first ones; and there are as many. -/
theorem fits_ge {W : List Nat} (hW : Rises W) : ∀ (ks : List Nat) (k t : Nat), Fits W.length (k :: ks) t → t ≤ (rowL W ks.length).length ∧ sumT (wts (rowL W ks.length)) t ≤ costL W (k :: ks)
  | [], k, t, h => by
    obtain ⟨h1, h2, h3⟩ := h
    have hk : t = k := by have : 2 * (t - k) = 0 := h3; omega
    subst hk
    refine ⟨by show t ≤ (rowL W 0).length; rw [row_len0]; exact h1, ?_⟩
    have e : wts (rowL W 0) = W := by rw [rowL, mix_nil_r]; simp [wts, Function.comp_def]
    show sumT (wts (rowL W 0)) t ≤ _
    rw [e]; simp [costL]
  | k2 :: ks, k, t, h => by
    obtain ⟨h1, h2, h3⟩ := h
    obtain ⟨i1, i2⟩ := fits_ge hW ks k2 _ h3
    have hl : (pairs (wts (rowL W ks.length))).length = (rowL W ks.length).length / 2 := by rw [pairs_len, wts_len]
    have hj : t - k ≤ (pairs (wts (rowL W ks.length))).length := by rw [hl]; omega
    have m := mix_least _ W (pairs (wts (rowL W ks.length))) rfl hW (pairs_rises _ (row_rises hW _)) k (t - k) h1 hj
    rw [show k + (t - k) = t by omega, pairs_sum _ _ (by rw [wts_len]; omega)] at m
    refine ⟨?_, ?_⟩
    · show t ≤ (rowL W (ks.length + 1)).length
      rw [row_len]; omega
    · show sumT (wts (rowL W (ks.length + 1))) t ≤ _
      have e : costL W (k :: k2 :: ks) = sumT W k + costL W (k2 :: ks) := by simp [costL]
      rw [e]
      show sumT (wts (mix W (pairs (wts (rowL W ks.length))))) t ≤ _
      omega
/-- the shares that the work finds, from row i down. -/
def takes (W : List Nat) : Nat → Nat → List Nat
  | 0, t => [syms (rowL W 0) t]
  | i + 1, t => syms (rowL W (i + 1)) t :: takes W i (2 * (t - syms (rowL W (i + 1)) t))
theorem takes_len (W : List Nat) : ∀ i t, (takes W i t).length = i + 1
  | 0, _ => rfl
  | i + 1, t => by rw [takes, List.length_cons, takes_len W i]
theorem syms_row0 (W : List Nat) (t : Nat) (h : t ≤ W.length) : syms (rowL W 0) t = t := by
  rw [rowL, mix_nil_r]
  simp [syms, ← List.map_take, List.filter_map, Function.comp_def, filter_all]; omega
/-- they fit, and cost what the row's first ones do. -/
theorem takes_fit {W : List Nat} : ∀ (i t : Nat), t ≤ (rowL W i).length → Fits W.length (takes W i t) t ∧ costL W (takes W i t) = sumT (wts (rowL W i)) t
  | 0, t, h => by
    rw [row_len0] at h
    have e : wts (rowL W 0) = W := by rw [rowL, mix_nil_r]; simp [wts, Function.comp_def]
    rw [takes, syms_row0 W t h, e]
    refine ⟨⟨h, Nat.le_refl _, ?_⟩, by simp [costL]⟩
    show 2 * (t - t) = 0
    omega
  | i + 1, t, h => by
    have m := mix_take _ W (pairs (wts (rowL W i))) rfl t (by rw [rowL, mix_len _ W _ rfl] at h; exact h)
    have e : mix W (pairs (wts (rowL W i))) = rowL W (i + 1) := rfl
    rw [e, pairs_len, wts_len] at m
    obtain ⟨m1, m2, m3, m4⟩ := m
    obtain ⟨i1, i2⟩ := takes_fit (W := W) i (2 * (t - syms (rowL W (i + 1)) t)) (by omega)
    refine ⟨⟨m1, m2, i1⟩, ?_⟩
    rw [takes]
    have e2 : costL W (syms (rowL W (i + 1)) t :: takes W i (2 * (t - syms (rowL W (i + 1)) t))) = sumT W (syms (rowL W (i + 1)) t) + costL W (takes W i (2 * (t - syms (rowL W (i + 1)) t))) := by simp [costL]
    rw [e2, i2, m4, pairs_sum _ _ (by rw [wts_len]; omega)]
theorem getD_zero' (x : Nat) (l : List Nat) : (x :: l).getD 0 0 = x := rfl
theorem getD_succ' (x : Nat) (l : List Nat) (i : Nat) : (x :: l).getD (i + 1) 0 = l.getD i 0 := rfl
theorem Rises.getD {x : Nat} {l : List Nat} (h : Rises (x :: l)) (i : Nat) (hi : i < l.length + 1) : x ≤ (x :: l).getD i 0 := by
  cases i with
  | zero => exact Nat.le_refl _
  | succ i =>
    rw [getD_succ']
    have hl : i < l.length := by omega
    have : l.getD i 0 = l[i] := by simp [List.getD, hl]
    rw [this]; exact h.le _ (List.getElem_mem hl)
theorem syms_true (x : Nat) (l : List (Nat × Bool)) (t : Nat) : syms ((x, true) :: l) (t + 1) = syms l t + 1 := by simp [syms]
theorem syms_false (x : Nat) (l : List (Nat × Bool)) (t : Nat) : syms ((x, false) :: l) (t + 1) = syms l t := by simp [syms]
theorem syms_le (l : List (Nat × Bool)) (t : Nat) : syms l t ≤ t := by
  have h1 : syms l t ≤ (l.take t).length := List.length_filter_le _ _
  rw [List.length_take] at h1; omega
theorem syms_nil_l (b : List Nat) (t : Nat) : syms (mix [] b) t = 0 := by simp [syms, mix_nil_l, ← List.map_take]
/-- a symbol that is no heavier than the last package taken is taken. -/
theorem mix_before : ∀ (n : Nat) (a b : List Nat), a.length + b.length = n → Rises a → ∀ t i, t ≤ n → i < a.length → 1 ≤ t - syms (mix a b) t → a.getD i 0 ≤ b.getD (t - syms (mix a b) t - 1) 0 → i < syms (mix a b) t := by
  intro n
  induction n with
  | zero => intro a b h _ t i ht hi; omega
  | succ n ih =>
    intro a b h ha t i ht hi hj hle
    cases t with
    | zero => omega
    | succ t =>
      cases a with
      | nil => simp at hi
      | cons x a =>
        cases b with
        | nil =>
          have e : syms (mix (x :: a) []) (t + 1) = t + 1 := by
            simp at h
            simp [syms, mix_nil_r, ← List.map_take, List.filter_map, Function.comp_def, filter_all]; omega
          rw [e] at hj; omega
        | cons y b =>
          rw [mix_cons] at hj hle ⊢
          simp at h hi
          split
          · rename_i hxy
            rw [if_pos hxy] at hj hle
            rw [syms_true] at hj hle ⊢
            cases i with
            | zero => omega
            | succ i =>
              have := ih a (y :: b) (by simp; omega) ha.tail t i (by omega) (by omega) (by omega) (by rw [getD_succ'] at hle; rw [show t - syms (mix a (y :: b)) t - 1 = t + 1 - (syms (mix a (y :: b)) t + 1) - 1 by omega]; exact hle)
              omega
          · rename_i hxy
            rw [if_neg hxy] at hj hle
            rw [syms_false] at hj hle ⊢
            have hst := syms_le (mix (x :: a) b) t
            by_cases h0 : t - syms (mix (x :: a) b) t = 0
            · rw [show t + 1 - syms (mix (x :: a) b) t - 1 = 0 by omega, getD_zero'] at hle
              have := ha.getD i (by omega)
              omega
            · obtain ⟨q, hq⟩ : ∃ q, t - syms (mix (x :: a) b) t = q + 1 := ⟨t - syms (mix (x :: a) b) t - 1, by omega⟩
              rw [show t + 1 - syms (mix (x :: a) b) t - 1 = q + 1 by omega, getD_succ'] at hle
              exact ih (x :: a) b (by simp; omega) ha t i (by omega) (by simp; omega) (by omega) (by rw [hq]; exact hle)
/-- the last symbol taken is no heavier than the last item taken. -/
theorem mix_last : ∀ (n : Nat) (a b : List Nat), a.length + b.length = n → Rises a → Rises b → ∀ t, t ≤ n → 1 ≤ syms (mix a b) t → a.getD (syms (mix a b) t - 1) 0 ≤ (wts (mix a b)).getD (t - 1) 0 := by
  intro n
  induction n with
  | zero => intro a b h _ _ t ht hs; have := syms_le (mix a b) t; omega
  | succ n ih =>
    intro a b h ha hb t ht hs
    cases t with
    | zero => have := syms_le (mix a b) 0; omega
    | succ t =>
      cases a with
      | nil => rw [syms_nil_l] at hs; omega
      | cons x a =>
        cases b with
        | nil =>
          have e : syms (mix (x :: a) []) (t + 1) = t + 1 := by
            simp at h
            simp [syms, mix_nil_r, ← List.map_take, List.filter_map, Function.comp_def, filter_all]; omega
          have e2 : wts (mix (x :: a) []) = x :: a := by rw [mix_nil_r]; simp [wts, Function.comp_def]
          rw [e, e2]; exact Nat.le_refl _
        | cons y b =>
          have hr := (mix_rises _ (x :: a) (y :: b) rfl ha hb).1
          rw [mix_cons] at hs hr ⊢
          simp at h
          split
          · rename_i hxy
            rw [if_pos hxy] at hs hr
            rw [syms_true]
            rw [wts_cons] at hr ⊢
            rw [Nat.add_sub_cancel, Nat.add_sub_cancel]
            have hml : (wts (mix a (y :: b))).length = n := by rw [wts_len, mix_len n a (y :: b) (by simp; omega)]
            by_cases h0 : syms (mix a (y :: b)) t = 0
            · rw [h0, getD_zero']; exact hr.getD t (by omega)
            · have hst := syms_le (mix a (y :: b)) t
              have := ih a (y :: b) (by simp; omega) ha.tail hb t (by omega) (by omega)
              obtain ⟨q, hq⟩ : ∃ q, syms (mix a (y :: b)) t = q + 1 := ⟨syms (mix a (y :: b)) t - 1, by omega⟩
              obtain ⟨u, hu⟩ : ∃ u, t = u + 1 := ⟨t - 1, by omega⟩
              rw [hq, getD_succ', hu, getD_succ']
              rw [hq, hu] at this
              exact this
          · rename_i hxy
            rw [if_neg hxy] at hs hr
            rw [syms_false] at hs ⊢
            rw [wts_cons]
            have hst := syms_le (mix (x :: a) b) t
            have := ih (x :: a) b (by simp; omega) ha hb.tail t (by omega) hs
            obtain ⟨u, hu⟩ : ∃ u, t = u + 1 := ⟨t - 1, by omega⟩
            rw [Nat.add_sub_cancel, hu, getD_succ']
            rw [hu] at this
            exact this
theorem pairs_getD : ∀ (l : List Nat) (j : Nat), 2 * j + 1 < l.length → l.getD (2 * j + 1) 0 ≤ (pairs l).getD j 0
  | [], j, h => by simp at h
  | [_], j, h => by simp at h
  | a :: b :: l, 0, _ => by
    show b ≤ a + b
    omega
  | a :: b :: l, j + 1, h => by
    have := pairs_getD l j (by simp at h; omega)
    show (b :: l).getD (2 * (j + 1)) 0 ≤ (pairs l).getD j 0
    rw [show 2 * (j + 1) = (2 * j + 1) + 1 by omega, getD_succ']
    exact this
/-- the shares fall. -/
theorem takes_fall {W : List Nat} (hW : Rises W) (i t : Nat) (ht : t ≤ (rowL W (i + 1)).length) : syms (rowL W i) (2 * (t - syms (rowL W (i + 1)) t)) ≤ syms (rowL W (i + 1)) t := by
  have hl := ht
  rw [row_len] at hl
  have m := mix_take _ W (pairs (wts (rowL W i))) rfl t (by rw [rowL, mix_len _ W _ rfl] at ht; exact ht)
  have e : mix W (pairs (wts (rowL W i))) = rowL W (i + 1) := rfl
  rw [e, pairs_len, wts_len] at m
  obtain ⟨m1, m2, m3, m4⟩ := m
  obtain ⟨j, hj⟩ : ∃ j, j = t - syms (rowL W (i + 1)) t := ⟨_, rfl⟩
  obtain ⟨k', hk'⟩ : ∃ k', k' = syms (rowL W i) (2 * j) := ⟨_, rfl⟩
  rw [← hj, ← hk']
  apply Classical.byContradiction
  intro hn
  have hk1 : 1 ≤ k' := by omega
  have hj1 : 1 ≤ j := by have := syms_le (rowL W i) (2 * j); omega
  have hrow : ∃ b, rowL W i = mix W b ∧ Rises b := by
    cases i with
    | zero => exact ⟨[], rfl, trivial⟩
    | succ i => exact ⟨_, rfl, pairs_rises _ (row_rises hW i)⟩
  obtain ⟨b, hb, hbr⟩ := hrow
  have hlen : (rowL W i).length = W.length + b.length := by rw [hb, mix_len _ W b rfl]
  have h1 : k' ≤ W.length := by rw [hk', hb]; exact (mix_take _ W b rfl (2 * j) (by omega)).1
  have h2 := mix_last _ W b rfl hW hbr (2 * j) (by omega) (by rw [← hb, ← hk']; exact hk1)
  rw [← hb, ← hk'] at h2
  have h3 := pairs_getD (wts (rowL W i)) (j - 1) (by rw [wts_len]; omega)
  rw [show 2 * (j - 1) + 1 = 2 * j - 1 by omega] at h3
  have h4 := mix_before _ W (pairs (wts (rowL W i))) rfl hW t (k' - 1) (by rw [rowL, mix_len _ W _ rfl] at ht; exact ht) (by omega) (by rw [e]; omega) (by rw [e, ← hj]; exact Nat.le_trans h2 h3)
  rw [e] at h4
  omega
end Go.Proofs.Ytaabmlnbadpfgaa

/-! Lengths and levels, plain: how many words a level has; Kraft's sum. No program is named here. -/
namespace Go.Proofs.Ytaabmlnbadpfgaa
set_option linter.unusedVariables false

/-- Kraft's sum of lengths of at most L, of which 1 is 2 to the power of L. -/
def kraftL (L : Nat) (ls : List Nat) : Nat := (ls.map fun l => 2 ^ (L - l)).sum
/-- how many are longer, at each of the levels. -/
def lvl (ls : List Nat) : Nat := (ls.filter fun l => decide (0 < l)).length
def levels : Nat → List Nat → List Nat
  | 0, _ => []
  | L + 1, ls => lvl ls :: levels L (ls.map (· - 1))
theorem levels_len (L : Nat) : ∀ ls, (levels L ls).length = L := by
  induction L with
  | zero => intro ls; rfl
  | succ L ih => intro ls; rw [levels, List.length_cons, ih]
theorem lvl_le (ls : List Nat) : lvl ls ≤ ls.length := List.length_filter_le _ _
theorem kraft_step (L : Nat) : ∀ ls : List Nat, kraftL (L + 1) ls + lvl ls * 2 ^ L = kraftL L (ls.map (· - 1)) + ls.length * 2 ^ L
  | [] => by simp [kraftL, lvl]
  | l :: ls => by
    have ih := kraft_step L ls
    have hp : 0 < 2 ^ L := Nat.two_pow_pos L
    by_cases h : 0 < l
    · have e1 : lvl (l :: ls) = lvl ls + 1 := by simp [lvl, h]
      have e2 : L + 1 - l = L - (l - 1) := by omega
      simp only [kraftL, List.map_cons, List.sum_cons, e2, e1, List.length_cons, Nat.add_mul, Nat.one_mul] at ih ⊢
      omega
    · obtain rfl : l = 0 := by omega
      have e1 : lvl (0 :: ls) = lvl ls := by simp [lvl]
      simp only [kraftL, List.map_cons, List.sum_cons, e1, List.length_cons, Nat.add_mul, Nat.one_mul, Nat.sub_zero, Nat.zero_sub, Nat.pow_succ] at ih ⊢
      omega
theorem kraft_le (L : Nat) : ∀ ls : List Nat, kraftL L ls ≤ ls.length * 2 ^ L
  | [] => by simp [kraftL]
  | l :: ls => by
    have ih := kraft_le L ls
    have h1 : 2 ^ (L - l) ≤ 2 ^ L := Nat.pow_le_pow_right (by decide) (by omega)
    simp only [kraftL, List.map_cons, List.sum_cons, List.length_cons, Nat.add_mul, Nat.one_mul] at ih ⊢
    omega
/-- lengths' levels fit. -/
theorem levels_fit : ∀ (L : Nat) (ls : List Nat) (t : Nat), (∀ l ∈ ls, l ≤ L) → 2 * kraftL L ls + t * 2 ^ L = 2 * ls.length * 2 ^ L → Fits ls.length (levels L ls) t
  | 0, ls, t, h, hk => by
    have e : kraftL 0 ls = ls.length := by
      clear hk h
      induction ls with
      | nil => rfl
      | cons l ls ih => simp only [kraftL, List.map_cons, List.sum_cons, Nat.zero_sub, Nat.pow_zero, List.length_cons] at ih ⊢; omega
    rw [e] at hk
    show t = 0
    simp at hk; omega
  | L + 1, ls, t, h, hk => by
    have hs := kraft_step L ls
    have hle := kraft_le L (ls.map (· - 1))
    have hl := lvl_le ls
    rw [List.length_map] at hle
    have hp : 0 < 2 ^ L := Nat.two_pow_pos L
    rw [Nat.pow_succ] at hk
    -- everything in units of 2 ^ L
    have hkt : lvl ls ≤ t := by
      apply Classical.byContradiction
      intro hn
      have h1 : (t + 1) * 2 ^ L ≤ lvl ls * 2 ^ L := Nat.mul_le_mul_right _ (by omega)
      rw [Nat.add_mul, Nat.one_mul] at h1
      have h2 : t * (2 ^ L * 2) = 2 * (t * 2 ^ L) := by rw [← Nat.mul_assoc, Nat.mul_comm]
      have h3 : 2 * ls.length * (2 ^ L * 2) = 4 * (ls.length * 2 ^ L) := by rw [← Nat.mul_assoc, Nat.mul_assoc 2, Nat.mul_comm _ 2, ← Nat.mul_assoc]
      rw [h2, h3] at hk
      omega
    have ih := levels_fit L (ls.map (· - 1)) (2 * (t - lvl ls)) (fun l hl => by
      obtain ⟨x, hx, rfl⟩ := List.mem_map.1 hl
      have := h x hx
      show x - 1 ≤ L
      omega) (by
      rw [List.length_map]
      have h2 : t * (2 ^ L * 2) = 2 * (t * 2 ^ L) := by rw [← Nat.mul_assoc, Nat.mul_comm]
      have h3 : 2 * ls.length * (2 ^ L * 2) = 4 * (ls.length * 2 ^ L) := by rw [← Nat.mul_assoc, Nat.mul_assoc 2, Nat.mul_comm _ 2, ← Nat.mul_assoc]
      rw [h2, h3] at hk
      obtain ⟨d, hd⟩ : ∃ d, t = lvl ls + d := ⟨t - lvl ls, by omega⟩
      rw [hd, Nat.add_mul] at hk
      rw [hd, Nat.add_sub_cancel_left, Nat.mul_assoc 2 d, Nat.mul_assoc 2 ls.length]
      omega)
    rw [List.length_map] at ih
    exact ⟨hl, hkt, ih⟩
/-- what lengths cost. -/
def dot : List Nat → List Nat → Nat
  | a :: as, b :: bs => a * b + dot as bs
  | _, _ => 0
theorem dot_split : ∀ (W ls : List Nat), dot W ls = dot W (ls.map (min 1)) + dot W (ls.map (· - 1))
  | [], ls => by cases ls <;> simp [dot]
  | _ :: _, [] => by simp [dot]
  | a :: W, l :: ls => by
    have ih := dot_split W ls
    have e : a * l = a * min 1 l + a * (l - 1) := by rw [← Nat.mul_add]; congr 1; omega
    simp only [dot, List.map_cons]
    omega
/-- so many of a rising row weigh no less than the first so many. -/
theorem dot_ones : ∀ (W ls : List Nat), Rises W → ls.length = W.length → sumT W (lvl ls) ≤ dot W (ls.map (min 1))
  | [], ls, _, h => by rw [sumT_nil]; exact Nat.zero_le _
  | a :: W, [], _, h => by simp at h
  | a :: W, l :: ls, hW, h => by
    have ih := dot_ones W ls hW.tail (by simpa using h)
    have hl := lvl_le ls
    simp only [dot, List.map_cons]
    by_cases h0 : 0 < l
    · have e1 : lvl (l :: ls) = lvl ls + 1 := by simp [lvl, h0]
      rw [e1, sumT_cons, show min 1 l = 1 by omega]; omega
    · obtain rfl : l = 0 := by omega
      have e1 : lvl (0 :: ls) = lvl ls := by simp [lvl]
      have key : ∀ (W : List Nat) (a k : Nat), Rises (a :: W) → k ≤ W.length → sumT (a :: W) k ≤ sumT W k := by
        intro W
        induction W with
        | nil => intro a k _ hk; obtain rfl : k = 0 := by simpa using hk
                 simp [sumT]
        | cons b W ihW =>
          intro a k hr hk
          cases k with
          | zero => simp [sumT]
          | succ k =>
            have := ihW b k hr.2 (by simpa using hk)
            rw [sumT_cons, sumT_cons]
            have := hr.1
            omega
      have h2 : ls.length = W.length := by simpa using h
      have := key W a (lvl ls) hW (by omega)
      rw [e1]; omega
/-- lengths cost no less than their levels' least. -/
theorem cost_ge {W : List Nat} (hW : Rises W) : ∀ (L : Nat) (ls : List Nat), ls.length = W.length → costL W (levels L ls) ≤ dot W ls
  | 0, ls, _ => by simp [levels, costL]
  | L + 1, ls, h => by
    have ih := cost_ge hW L (ls.map (· - 1)) (by simpa using h)
    have h1 := dot_ones W ls hW h
    rw [dot_split W ls]
    have e : costL W (levels (L + 1) ls) = sumT W (lvl ls) + costL W (levels L (ls.map (· - 1))) := by simp [levels, costL]
    rw [e]; omega
/-- the lengths that levels give: one more for each level that reaches so far. -/
def lenK (ks : List Nat) (r : Nat) : Nat := (ks.filter fun k => decide (r < k)).length
def lensK (ks : List Nat) (n : Nat) : List Nat := (List.range n).map (lenK ks)
theorem lensK_len (ks : List Nat) (n : Nat) : (lensK ks n).length = n := by simp [lensK]
theorem lenK_cons (k : Nat) (ks : List Nat) (r : Nat) : lenK (k :: ks) r = (if r < k then 1 else 0) + lenK ks r := by
  by_cases h : r < k
  · simp [lenK, h]; omega
  · simp [lenK, h]
/-- they fall. -/
def Falls : List Nat → Prop
  | a :: b :: l => b ≤ a ∧ Falls (b :: l)
  | _ => True
theorem Falls.tail {a : Nat} {l : List Nat} (h : Falls (a :: l)) : Falls l := by
  cases l with
  | nil => trivial
  | cons b l => exact h.2
theorem Falls.le {a : Nat} {l : List Nat} (h : Falls (a :: l)) : ∀ x ∈ l, x ≤ a := by
  induction l generalizing a with
  | nil => intro x hx; cases hx
  | cons b l ih =>
    intro x hx
    rcases List.mem_cons.1 hx with rfl | hx
    · exact h.1
    · exact Nat.le_trans (ih h.2 x hx) h.1
theorem lenK_none {ks : List Nat} {r : Nat} (h : ∀ k ∈ ks, k ≤ r) : lenK ks r = 0 := by
  rw [lenK, List.filter_eq_nil_iff.2 (fun k hk => by have := h k hk; simp; omega)]; rfl
theorem lvl_range (n k : Nat) (f : Nat → Nat) (hk : k ≤ n) (hf : ∀ r, 0 < f r ↔ r < k) : lvl ((List.range n).map f) = k := by
  rw [lvl, List.filter_map, List.length_map]
  have : ((List.range n).filter ((fun l => decide (0 < l)) ∘ f)) = (List.range n).filter (fun r => decide (r < k)) := by
    congr 1; funext r; simp [hf r]
  rw [this]
  clear this hf
  induction n with
  | zero => simp; omega
  | succ n ih =>
    rw [List.range_succ, List.filter_append, List.length_append]
    by_cases h : k ≤ n
    · rw [ih h]; simp; omega
    · obtain rfl : k = n + 1 := by omega
      have e : (List.range n).filter (fun r => decide (r < n + 1)) = List.range n := List.filter_eq_self.2 (fun r hr => by have := List.mem_range.1 hr; simp; omega)
      rw [e]; simp
/-- levels that fit give a full code. -/
theorem kraft_fits (n : Nat) : ∀ (ks : List Nat) (t : Nat), Falls ks → Fits n ks t → 2 * kraftL ks.length (lensK ks n) + t * 2 ^ ks.length = 2 * n * 2 ^ ks.length
  | [], t, _, h => by
    have h : t = 0 := h
    subst h
    have e : ∀ m, kraftL 0 (lensK [] m) = m := fun m => by
      have : ∀ m, (List.map (fun _ => 1) (List.range m)).sum = m := by
        intro m
        induction m with
        | zero => rfl
        | succ m ih => rw [List.range_succ, List.map_append, List.sum_append, ih]; rfl
      simp [kraftL, lensK, Function.comp_def, this]
    simp [e]
  | k :: ks, t, hf, h => by
    obtain ⟨h1, h2, h3⟩ := h
    have ih := kraft_fits n ks _ hf.tail h3
    have hs := kraft_step ks.length (lensK (k :: ks) n)
    have e1 : lvl (lensK (k :: ks) n) = k := lvl_range n k _ h1 (fun r => by
      rw [lenK_cons]
      by_cases hr : r < k
      · simp [hr]; omega
      · rw [if_neg hr, lenK_none (fun x hx => by have := hf.le x hx; omega)]; simp; omega)
    have e2 : (lensK (k :: ks) n).map (· - 1) = lensK ks n := by
      rw [lensK, lensK, List.map_map]
      refine List.map_congr_left (fun r _ => ?_)
      show lenK (k :: ks) r - 1 = lenK ks r
      rw [lenK_cons]
      by_cases hr : r < k
      · rw [if_pos hr]; omega
      · rw [if_neg hr, lenK_none (fun x hx => by have := hf.le x hx; omega)]
    rw [e1, e2, lensK_len] at hs
    rw [List.length_cons, Nat.pow_succ]
    obtain ⟨d, hd⟩ : ∃ d, t = k + d := ⟨t - k, by omega⟩
    rw [hd, Nat.add_sub_cancel_left, Nat.mul_assoc 2 d, Nat.mul_assoc 2 n] at ih
    have h3 : 2 * n * (2 ^ ks.length * 2) = 4 * (n * 2 ^ ks.length) := by rw [← Nat.mul_assoc, Nat.mul_assoc 2, Nat.mul_comm _ 2, ← Nat.mul_assoc]
    have h4 : t * (2 ^ ks.length * 2) = 2 * (k * 2 ^ ks.length) + 2 * (d * 2 ^ ks.length) := by rw [← Nat.mul_assoc, Nat.mul_comm, hd, Nat.add_mul]; omega
    rw [h3, h4]
    omega
theorem dot_add (W : List Nat) : ∀ (f g : Nat → Nat) (s n : Nat), dot W ((List.range' s n).map fun r => f r + g r) = dot W ((List.range' s n).map f) + dot W ((List.range' s n).map g) := by
  induction W with
  | nil => intro f g s n; cases n <;> simp [dot]
  | cons a W ih =>
    intro f g s n
    cases n with
    | zero => simp [dot]
    | succ n =>
      simp only [List.range'_succ, List.map_cons, dot, ih f g (s + 1) n, Nat.mul_add]
      omega
theorem dot_below : ∀ (W : List Nat) (k s n : Nat), n = W.length → k ≤ n → dot W ((List.range' s n).map fun r => if r < s + k then 1 else 0) = sumT W k
  | [], k, s, n, h, hk => by obtain rfl : k = 0 := by simp at h; omega
                             cases n <;> simp [dot, sumT]
  | a :: W, k, s, 0, h, hk => by simp at h
  | a :: W, 0, s, n + 1, h, hk => by
    have ih := dot_below W 0 (s + 1) n (by simpa using h) (Nat.zero_le _)
    simp only [List.range'_succ, List.map_cons, dot, sumT_zero] at ih ⊢
    have e : (List.range' (s + 1) n).map (fun r => if r < s + 0 then 1 else 0) = (List.range' (s + 1) n).map (fun r => if r < s + 1 + 0 then 1 else 0) := List.map_congr_left (fun r hr => by
      have := (List.mem_range'_1.1 hr).1
      rw [if_neg (by omega), if_neg (by omega)])
    rw [e, ih]; simp
  | a :: W, k + 1, s, n + 1, h, hk => by
    have ih := dot_below W k (s + 1) n (by simpa using h) (by omega)
    simp only [List.range'_succ, List.map_cons, dot, sumT_cons]
    rw [if_pos (by omega), show s + (k + 1) = s + 1 + k by omega, ih]; omega
/-- what levels' lengths cost. -/
theorem cost_eq (W : List Nat) : ∀ ks : List Nat, (∀ k ∈ ks, k ≤ W.length) → dot W (lensK ks W.length) = costL W ks
  | [], _ => by
    have : ∀ (W : List Nat) (s n : Nat), dot W ((List.range' s n).map fun _ => 0) = 0 := by
      intro W
      induction W with
      | nil => intro s n; cases n <;> simp [dot]
      | cons a W ih => intro s n; cases n with
        | zero => simp [dot]
        | succ n => simp only [List.range'_succ, List.map_cons, dot, ih]; omega
    rw [lensK, List.range_eq_range', show lenK [] = fun _ => 0 by funext r; simp [lenK], this]; simp [costL]
  | k :: ks, h => by
    have ih := cost_eq W ks (fun x hx => h x (List.mem_cons_of_mem _ hx))
    have hb := dot_below W k 0 W.length rfl (h k (List.mem_cons_self ..))
    rw [lensK, List.range_eq_range'] at ih ⊢
    have e : (List.range' 0 W.length).map (lenK (k :: ks)) = (List.range' 0 W.length).map (fun r => (if r < 0 + k then 1 else 0) + lenK ks r) := List.map_congr_left (fun r _ => by rw [lenK_cons, Nat.zero_add])
    rw [e, dot_add, hb, ih]; simp [costL]
theorem takes_head (W : List Nat) (i t : Nat) : ∃ l, takes W i t = syms (rowL W i) t :: l := by
  cases i with
  | zero => exact ⟨[], rfl⟩
  | succ i => exact ⟨_, rfl⟩
theorem takes_falls {W : List Nat} (hW : Rises W) : ∀ (i t : Nat), t ≤ (rowL W i).length → Falls (takes W i t)
  | 0, t, _ => trivial
  | i + 1, t, h => by
    have m := mix_take _ W (pairs (wts (rowL W i))) rfl t (by rw [rowL, mix_len _ W _ rfl] at h; exact h)
    have e : mix W (pairs (wts (rowL W i))) = rowL W (i + 1) := rfl
    rw [e, pairs_len, wts_len] at m
    have ih := takes_falls hW i (2 * (t - syms (rowL W (i + 1)) t)) (by have := m.2.2.1; omega)
    obtain ⟨l, hl⟩ := takes_head W i (2 * (t - syms (rowL W (i + 1)) t))
    rw [takes, hl]
    rw [hl] at ih
    exact ⟨takes_fall hW i t h, ih⟩
/-- the top row is long enough. -/
theorem row_long (W : List Nat) : ∀ i, 2 ^ i * (2 * W.length - 1 - (rowL W i).length) ≤ W.length - 1
  | 0 => by rw [row_len0, Nat.pow_zero, Nat.one_mul]; omega
  | i + 1 => by
    have ih := row_long W i
    have h : 2 * (2 * W.length - 1 - (rowL W (i + 1)).length) ≤ 2 * W.length - 1 - (rowL W i).length := by rw [row_len]; omega
    rw [Nat.pow_succ, Nat.mul_assoc]
    exact Nat.le_trans (Nat.mul_le_mul_left _ h) ih
theorem row_enough (W : List Nat) (i : Nat) (h : W.length ≤ 2 ^ (i + 1)) (h2 : 1 ≤ W.length) : 2 * W.length - 2 ≤ (rowL W i).length := by
  have k := row_long W i
  apply Classical.byContradiction
  intro hn
  have h3 : 2 ^ i * 2 ≤ 2 ^ i * (2 * W.length - 1 - (rowL W i).length) := Nat.mul_le_mul_left _ (by omega)
  rw [Nat.pow_succ] at h
  omega
/-- the lengths that the work finds, the rarest symbol's first. -/
def bestL (W : List Nat) (i : Nat) : List Nat := lensK (takes W i (2 * W.length - 2)) W.length
theorem best_full {W : List Nat} (hW : Rises W) (i : Nat) (h : W.length ≤ 2 ^ (i + 1)) (h2 : 1 ≤ W.length) : kraftL (i + 1) (bestL W i) = 2 ^ (i + 1) := by
  have ht := row_enough W i h h2
  obtain ⟨f1, _⟩ := takes_fit (W := W) i _ ht
  have k := kraft_fits W.length _ _ (takes_falls hW i _ ht) f1
  rw [takes_len] at k
  have hp := Nat.two_pow_pos (i + 1)
  obtain ⟨d, hd⟩ : ∃ d, W.length = d + 1 := ⟨W.length - 1, by omega⟩
  rw [hd, show 2 * (d + 1) - 2 = 2 * d by omega, Nat.mul_assoc, Nat.mul_assoc 2 (d + 1), Nat.add_mul] at k
  show kraftL (i + 1) (lensK _ W.length) = _
  rw [hd, show 2 * (d + 1) - 2 = 2 * d by omega]
  omega
/-- THE STAGE'S THEOREM, plain: whatever full lengths there are, they cost no less. -/
theorem best_least {W : List Nat} (hW : Rises W) (i : Nat) (h : W.length ≤ 2 ^ (i + 1)) (h2 : 1 ≤ W.length) (ls : List Nat) (hl : ls.length = W.length) (hle : ∀ l ∈ ls, l ≤ i + 1) (hk : kraftL (i + 1) ls = 2 ^ (i + 1)) : dot W (bestL W i) ≤ dot W ls := by
  have ht := row_enough W i h h2
  obtain ⟨f1, f2⟩ := takes_fit (W := W) i _ ht
  have hall : ∀ k ∈ takes W i (2 * W.length - 2), k ≤ W.length := by
    have : ∀ (ks : List Nat) (t : Nat), Fits W.length ks t → ∀ k ∈ ks, k ≤ W.length := by
      intro ks
      induction ks with
      | nil => intro t _ k hk; cases hk
      | cons a ks ih =>
        intro t hf k hk
        rcases List.mem_cons.1 hk with rfl | hk
        · exact hf.1
        · exact ih _ hf.2.2 k hk
    exact this _ _ f1
  have e := cost_eq W _ hall
  have g := cost_ge hW (i + 1) ls hl
  have fit := levels_fit (i + 1) ls (2 * W.length - 2) hle (by
    rw [hk, hl]
    obtain ⟨d, hd⟩ : ∃ d, W.length = d + 1 := ⟨W.length - 1, by omega⟩
    rw [hd, show 2 * (d + 1) - 2 = 2 * d by omega, Nat.mul_assoc, Nat.mul_assoc 2 (d + 1), Nat.add_mul]
    omega)
  rw [hl] at fit
  have c := (fits_ge hW (levels i (ls.map (· - 1))) (lvl ls) (2 * W.length - 2) fit).2
  rw [levels_len] at c
  show dot W (lensK _ _) ≤ _
  rw [e, f2]
  exact Nat.le_trans c g
theorem best_len (W : List Nat) (i : Nat) : (bestL W i).length = W.length := lensK_len _ _
theorem best_le (W : List Nat) (i : Nat) : ∀ l ∈ bestL W i, l ≤ i + 1 := by
  intro l hl
  obtain ⟨r, _, rfl⟩ := List.mem_map.1 hl
  have : lenK (takes W i (2 * W.length - 2)) r ≤ (takes W i (2 * W.length - 2)).length := List.length_filter_le _ _
  rw [takes_len] at this; exact this
end Go.Proofs.Ytaabmlnbadpfgaa

/-! Lengths of symbols in any order, plain: what they cost and Kraft's sum are the same under a permutation. No program is named here. -/
namespace Go.Proofs.Ytaabmlnbadpfgaa
set_option linter.unusedVariables false

theorem kraftL_perm (L : Nat) {a b : List Nat} (h : a.Perm b) : kraftL L a = kraftL L b := (h.map _).sum_nat
/-- weights with lengths. -/
def dotP (ps : List (Nat × Nat)) : Nat := (ps.map fun p => p.1 * p.2).sum
theorem dotP_cons (p : Nat × Nat) (ps : List (Nat × Nat)) : dotP (p :: ps) = p.1 * p.2 + dotP ps := by simp [dotP]
theorem dotP_perm {a b : List (Nat × Nat)} (h : a.Perm b) : dotP a = dotP b := (h.map _).sum_nat
theorem dotP_dot : ∀ ps : List (Nat × Nat), dotP ps = dot (ps.map (·.1)) (ps.map (·.2))
  | [] => rfl
  | p :: ps => by rw [dotP_cons, dotP_dot ps]; rfl
theorem rises_pairwise : ∀ l : List Nat, Rises l ↔ l.Pairwise (· ≤ ·)
  | [] => by simp [Rises]
  | a :: l => by
    rw [List.pairwise_cons, ← rises_pairwise l]
    refine ⟨fun h => ⟨h.le, h.tail⟩, fun h => ?_⟩
    cases l with
    | nil => trivial
    | cons b l => exact ⟨h.1 b (List.mem_cons_self ..), h.2⟩
/-- of the same numbers there is one rising order. -/
theorem rises_same : ∀ (a b : List Nat), a.Perm b → Rises a → Rises b → a = b
  | [], b, h, _, _ => (List.nil_perm.1 h).symm
  | x :: a, [], h, _, _ => absurd h.length_eq (by simp)
  | x :: a, y :: b, h, ha, hb => by
    have h1 : x ≤ y := by
      rcases List.mem_cons.1 (h.mem_iff.2 (List.mem_cons_self (a := y) (l := b))) with e | e
      · exact Nat.le_of_eq e.symm
      · exact ha.le y e
    have h2 : y ≤ x := by
      rcases List.mem_cons.1 (h.mem_iff.1 (List.mem_cons_self (a := x) (l := a))) with e | e
      · exact Nat.le_of_eq e.symm
      · exact hb.le x e
    obtain rfl : x = y := by omega
    rw [rises_same a b (List.Perm.cons_inv h) ha.tail hb.tail]
/-- pairs in the order of their weights. -/
theorem sorted_pairs (ps : List (Nat × Nat)) : ∃ qs : List (Nat × Nat), qs.Perm ps ∧ Rises (qs.map (·.1)) := by
  refine ⟨ps.mergeSort (fun a b => decide (a.1 ≤ b.1)), List.mergeSort_perm .., (rises_pairwise _).2 (List.pairwise_map.2 ?_)⟩
  have := List.pairwise_mergeSort (le := fun (a b : Nat × Nat) => decide (a.1 ≤ b.1)) (fun a b c h1 h2 => by simp at *; omega) (fun a b => by simp; omega) ps
  exact this.imp (fun h => by simpa using h)
/-- no lengths of at most i + 1 that make a full code cost less than the least, whatever the order of the symbols. -/
theorem perm_least {W : List Nat} (hW : Rises W) (i : Nat) (h : W.length ≤ 2 ^ (i + 1)) (h2 : 1 ≤ W.length) (ps : List (Nat × Nat)) (hp : (ps.map (·.1)).Perm W) (hle : ∀ p ∈ ps, p.2 ≤ i + 1) (hk : kraftL (i + 1) (ps.map (·.2)) = 2 ^ (i + 1)) : dot W (bestL W i) ≤ dotP ps := by
  obtain ⟨qs, hq, hr⟩ := sorted_pairs ps
  have e : qs.map (·.1) = W := rises_same _ _ ((hq.map _).trans hp) hr hW
  rw [← dotP_perm hq, dotP_dot, e]
  refine best_least hW i h h2 _ (by rw [← e]; simp) (fun l hl => ?_) (by rw [kraftL_perm _ (hq.map _)]; exact hk)
  obtain ⟨p, hpm, rfl⟩ := List.mem_map.1 hl
  exact hle p (hq.mem_iff.1 hpm)
/-- the lengths' own pairs: what they cost. -/
theorem zip_dot : ∀ (W ls : List Nat), W.length = ls.length → dotP (W.zip ls) = dot W ls
  | [], [], _ => rfl
  | a :: W, b :: ls, h => by rw [List.zip_cons_cons, dotP_cons, zip_dot W ls (by simpa using h)]; rfl
  | [], _ :: _, h => by simp at h
  | _ :: _, [], h => by simp at h
/-- 2 to the power of L lengths of at most L that make a full code are all L. -/
theorem kraft_tight (L : Nat) : ∀ ls : List Nat, (∀ l ∈ ls, l ≤ L) → ls.length ≤ kraftL L ls ∧ (kraftL L ls = ls.length → ∀ l ∈ ls, l = L)
  | [], _ => ⟨Nat.zero_le _, fun _ l hl => by cases hl⟩
  | l :: ls, h => by
    obtain ⟨i1, i2⟩ := kraft_tight L ls (fun x hx => h x (List.mem_cons_of_mem _ hx))
    have hl := h l (List.mem_cons_self ..)
    have e : kraftL L (l :: ls) = 2 ^ (L - l) + kraftL L ls := by simp [kraftL]
    have hp := Nat.two_pow_pos (L - l)
    rw [e, List.length_cons]
    refine ⟨by omega, fun hk x hx => ?_⟩
    rcases List.mem_cons.1 hx with rfl | hx
    · apply Classical.byContradiction
      intro hn
      have : 2 ^ 1 ≤ 2 ^ (L - x) := Nat.pow_le_pow_right (by decide) (by omega)
      omega
    · exact i2 (by omega) x hx
/-- lengths given in another order cost less by the exchange of a longer word of a heavier symbol. -/
theorem dotP_swap (a b x y : Nat) (ps : List (Nat × Nat)) : dotP ((a, x) :: (b, y) :: ps) + (b * x + a * y) = dotP ((a, y) :: (b, x) :: ps) + (a * x + b * y) := by
  rw [dotP_cons, dotP_cons, dotP_cons, dotP_cons]; show a * x + (b * y + dotP ps) + _ = a * y + (b * x + dotP ps) + _; omega
theorem swap_gain (a b x y : Nat) (hab : a < b) (hxy : x < y) : a * y + b * x < a * x + b * y := by
  obtain ⟨d, rfl⟩ : ∃ d, b = a + d + 1 := ⟨b - a - 1, by omega⟩
  obtain ⟨e, rfl⟩ : ∃ e, y = x + e + 1 := ⟨y - x - 1, by omega⟩
  simp only [Nat.add_mul, Nat.mul_add, Nat.one_mul, Nat.mul_one]
  omega
end Go.Proofs.Ytaabmlnbadpfgaa

/-! The two least put together, again and again: what comes of it is the least cost of a full code. No program is named here. -/
namespace Go.Proofs.Ytaabmlnbadpfgaa
set_option linter.unusedVariables false

/-- the two least are put together, again and again: the sums' sum. -/
inductive Huff : List Nat → Nat → Prop
  | one (a : Nat) : Huff [a] 0
  | step {l : List Nat} {a b : Nat} {r : List Nat} {c : Nat} : l.Perm (a :: b :: r) → a ≤ b → (∀ x ∈ r, b ≤ x) → Huff ((a + b) :: r) c → Huff l (a + b + c)
/-- a full code of words of at most L bits. -/
def Full (L : Nat) (ls : List Nat) : Prop := (∀ l ∈ ls, l ≤ L) ∧ kraftL L ls = 2 ^ L
theorem kraftL_cons (L l : Nat) (ls : List Nat) : kraftL L (l :: ls) = 2 ^ (L - l) + kraftL L ls := by simp [kraftL]
theorem kraftL_succ (L : Nat) : ∀ ls : List Nat, (∀ l ∈ ls, l ≤ L) → kraftL (L + 1) ls = 2 * kraftL L ls
  | [], _ => rfl
  | l :: ls, h => by
    have hl := h l (List.mem_cons_self ..)
    rw [kraftL_cons, kraftL_cons, kraftL_succ L ls (fun x hx => h x (List.mem_cons_of_mem _ hx)), show L + 1 - l = (L - l) + 1 by omega, Nat.pow_succ]; omega
/-- out of a list, by what a map says. -/
theorem perm_out {ps : List (Nat × Nat)} {f : Nat × Nat → Nat} {a : Nat} {l : List Nat} (h : (ps.map f).Perm (a :: l)) : ∃ p ps', ps.Perm (p :: ps') ∧ f p = a ∧ (ps'.map f).Perm l := by
  obtain ⟨p, hp, e⟩ := List.mem_map.1 (h.mem_iff.2 (List.mem_cons_self ..))
  refine ⟨p, ps.erase p, List.perm_cons_erase hp, e, ?_⟩
  have := ((List.perm_cons_erase hp).map f).symm.trans h
  rw [List.map_cons, e] at this
  exact List.Perm.cons_inv this
/-- it gives a full code that costs so much. -/
theorem huff_full {l : List Nat} {c : Nat} (h : Huff l c) : ∃ ps : List (Nat × Nat), (ps.map (·.1)).Perm l ∧ Full (l.length - 1) (ps.map (·.2)) ∧ dotP ps = c := by
  induction h with
  | one a => exact ⟨[(a, 0)], List.Perm.refl _, ⟨by simp, by simp [kraftL]⟩, by simp [dotP]⟩
  | @step l a b r c hp hab hr _ ih =>
    obtain ⟨ps, h1, ⟨h2, h3⟩, h4⟩ := ih
    obtain ⟨p, qs, q1, q2, q3⟩ := perm_out h1
    have q2 : p.1 = a + b := q2
    have hlen : l.length - 1 = (((a + b) :: r).length - 1) + 1 := by rw [hp.length_eq]; simp
    rw [hlen]
    generalize ((a + b) :: r).length - 1 = L at h2 h3 ⊢
    have hm : (ps.map (·.2)).Perm (p.2 :: qs.map (·.2)) := q1.map _
    have hp2 : p.2 ≤ L := h2 _ (hm.mem_iff.2 (List.mem_cons_self ..))
    have hq2 : ∀ x ∈ qs.map (·.2), x ≤ L := fun x hx => h2 _ (hm.mem_iff.2 (List.mem_cons_of_mem _ hx))
    refine ⟨(a, p.2 + 1) :: (b, p.2 + 1) :: qs, (((q3.cons b).cons a)).trans hp.symm, ⟨fun x hx => ?_, ?_⟩, ?_⟩
    · simp only [List.map_cons] at hx
      rcases List.mem_cons.1 hx with rfl | hx
      · omega
      · rcases List.mem_cons.1 hx with rfl | hx
        · omega
        · have := hq2 x hx; omega
    · rw [kraftL_perm _ hm, kraftL_cons] at h3
      simp only [List.map_cons]
      rw [kraftL_cons, kraftL_cons, kraftL_succ _ _ hq2, show L + 1 - (p.2 + 1) = L - p.2 by omega, Nat.pow_succ]
      omega
    · rw [← h4, dotP_perm q1, dotP_cons, dotP_cons, dotP_cons, q2]
      simp only [Nat.mul_add, Nat.add_mul, Nat.mul_one]
      omega
/-- the least weight may have the longest word: the cost grows by nothing. -/
theorem give_longest {a x m : Nat} {ps : List (Nat × Nat)} (ha : ∀ p ∈ ps, a ≤ p.1) (hx : x ≤ m) (hm : m = x ∨ m ∈ ps.map (·.2)) :
    ∃ qs : List (Nat × Nat), (qs.map (·.1)).Perm (ps.map (·.1)) ∧ (m :: qs.map (·.2)).Perm (x :: ps.map (·.2)) ∧ dotP ((a, m) :: qs) ≤ dotP ((a, x) :: ps) := by
  rcases hm with rfl | hm
  · exact ⟨ps, List.Perm.refl _, List.Perm.refl _, Nat.le_refl _⟩
  · obtain ⟨p, hp, rfl⟩ := List.mem_map.1 hm
    have hq := List.perm_cons_erase hp
    have hap := ha p hp
    refine ⟨(p.1, x) :: ps.erase p, ?_, ?_, ?_⟩
    · exact (hq.map (·.1)).symm
    · have e := (hq.map (fun z : Nat × Nat => z.2)).symm
      rw [List.map_cons] at e
      exact (List.Perm.swap _ _ _).trans (e.cons x)
    · rw [dotP_cons, dotP_cons, dotP_cons, dotP_perm hq, dotP_cons]
      obtain ⟨d, hd⟩ : ∃ d, p.1 = a + d := ⟨p.1 - a, by omega⟩
      obtain ⟨e, he⟩ : ∃ e, p.2 = x + e := ⟨p.2 - x, by omega⟩
      show a * p.2 + (p.1 * x + _) ≤ a * x + (p.1 * p.2 + _)
      rw [hd, he]
      simp only [Nat.add_mul, Nat.mul_add]
      omega
theorem kraft_even (L m : Nat) (hm : m ≤ L) : ∀ ls : List Nat, (∀ l ∈ ls, l < m) → ∃ q, kraftL L ls = 2 ^ (L - m) * (2 * q)
  | [], _ => ⟨0, by simp [kraftL]⟩
  | l :: ls, h => by
    obtain ⟨q, hq⟩ := kraft_even L m hm ls (fun x hx => h x (List.mem_cons_of_mem _ hx))
    have hl := h l (List.mem_cons_self ..)
    refine ⟨2 ^ (m - 1 - l) + q, ?_⟩
    rw [kraftL_cons, hq, show L - l = (L - m) + (m - 1 - l) + 1 by omega, Nat.pow_succ, Nat.pow_add, Nat.mul_add, Nat.mul_add, Nat.mul_comm 2 (2 ^ (m - 1 - l)), Nat.mul_assoc]
/-- of a full code's longest words there are two. -/
theorem two_longest {L m : Nat} {t : List Nat} (h : Full L (m :: t)) (hmax : ∀ l ∈ t, l ≤ m) (ht : t ≠ []) : m ∈ t ∧ 1 ≤ m := by
  obtain ⟨h1, h2⟩ := h
  have hmL := h1 m (List.mem_cons_self ..)
  have hmem : m ∈ t := by
    apply Classical.byContradiction
    intro hn
    have hlt : ∀ l ∈ t, l < m := fun l hl => by
      have := hmax l hl
      have : l ≠ m := fun e => hn (e ▸ hl)
      omega
    have hm1 : 1 ≤ m := by
      cases t with
      | nil => exact absurd rfl ht
      | cons l t => have := hlt l (List.mem_cons_self ..); omega
    obtain ⟨q, hq⟩ := kraft_even L m hmL t hlt
    rw [kraftL_cons, hq, show (2 : Nat) ^ L = 2 ^ (L - m) * (2 * 2 ^ (m - 1)) by
      rw [← Nat.pow_succ', ← Nat.pow_add]; congr 1; omega] at h2
    have hp := Nat.two_pow_pos (L - m)
    have e : 2 ^ (L - m) * (1 + 2 * q) = 2 ^ (L - m) * (2 * 2 ^ (m - 1)) := by rw [Nat.mul_add, Nat.mul_one]; exact h2
    have := Nat.eq_of_mul_eq_mul_left hp e
    omega
  refine ⟨hmem, ?_⟩
  apply Classical.byContradiction
  intro hn
  obtain rfl : m = 0 := by omega
  obtain ⟨p, hp⟩ : ∃ p, t.Perm (0 :: p) := ⟨_, List.perm_cons_erase hmem⟩
  rw [kraftL_cons, kraftL_perm _ hp, kraftL_cons] at h2
  have := Nat.two_pow_pos L
  simp only [Nat.sub_zero] at h2
  omega
theorem has_max : ∀ ls : List Nat, ls ≠ [] → ∃ m ∈ ls, ∀ l ∈ ls, l ≤ m
  | [], h => absurd rfl h
  | [a], _ => ⟨a, List.mem_cons_self .., by simp⟩
  | a :: b :: l, _ => by
    obtain ⟨m, h1, h2⟩ := has_max (b :: l) (by simp)
    by_cases h : a ≤ m
    · exact ⟨m, List.mem_cons_of_mem _ h1, fun x hx => by
        rcases List.mem_cons.1 hx with rfl | hx
        · exact h
        · exact h2 x hx⟩
    · exact ⟨a, List.mem_cons_self .., fun x hx => by
        rcases List.mem_cons.1 hx with rfl | hx
        · exact Nat.le_refl _
        · have := h2 x hx; omega⟩
theorem Full.perm {L : Nat} {a b : List Nat} (h : Full L a) (hp : a.Perm b) : Full L b :=
  ⟨fun l hl => h.1 l (hp.mem_iff.2 hl), by rw [← kraftL_perm L hp]; exact h.2⟩
/-- no full code costs less. -/
theorem huff_least {l : List Nat} {c : Nat} (h : Huff l c) : ∀ (L : Nat) (ps : List (Nat × Nat)), (ps.map (·.1)).Perm l → Full L (ps.map (·.2)) → c ≤ dotP ps := by
  induction h with
  | one a => intro L ps _ _; exact Nat.zero_le _
  | @step l a b r c hp hab hr _ ih =>
    intro L ps h1 h2
    obtain ⟨p, qs, q1, q2, q3⟩ := perm_out (h1.trans hp)
    have q2 : p.1 = a := q2
    have hl2 : (ps.map (·.2)).Perm (p.2 :: qs.map (·.2)) := q1.map _
    obtain ⟨m, m1, m2⟩ := has_max (p.2 :: qs.map (·.2)) (by simp)
    have hge : ∀ x ∈ b :: r, a ≤ x := fun x hx => by
      rcases List.mem_cons.1 hx with rfl | hx
      · exact hab
      · have := hr x hx; omega
    obtain ⟨us, u1, u2, u3⟩ := give_longest (a := a) (x := p.2) (m := m) (ps := qs) (fun z hz => hge _ (q3.mem_iff.1 (List.mem_map.2 ⟨z, hz, rfl⟩))) (m2 _ (List.mem_cons_self ..)) (List.mem_cons.1 m1)
    have hf1 : Full L (m :: us.map (·.2)) := (h2.perm hl2).perm u2.symm
    have hus : us.map (·.2) ≠ [] := by
      have := (u1.trans q3).length_eq
      intro e
      have e2 : us.length = 0 := by simpa using congrArg List.length e
      simp [e2] at this
    have hmax : ∀ z ∈ us.map (·.2), z ≤ m := fun z hz => m2 z (u2.mem_iff.1 (List.mem_cons_of_mem _ hz))
    obtain ⟨t1, t2⟩ := two_longest hf1 hmax hus
    obtain ⟨v, vs, v1, v2, v3⟩ := perm_out (u1.trans q3)
    have v2 : v.1 = b := v2
    have hv : (us.map (·.2)).Perm (v.2 :: vs.map (·.2)) := v1.map _
    obtain ⟨ws, w1, w2, w3⟩ := give_longest (a := b) (x := v.2) (m := m) (ps := vs) (fun z hz => hr _ (v3.mem_iff.1 (List.mem_map.2 ⟨z, hz, rfl⟩))) (hmax _ (hv.mem_iff.2 (List.mem_cons_self ..))) (List.mem_cons.1 (hv.mem_iff.1 t1))
    have hf2 : Full L (m :: m :: ws.map (·.2)) := hf1.perm ((hv.trans w2.symm).cons m)
    have hmL := hf2.1 m (List.mem_cons_self ..)
    have key := ih L ((a + b, m - 1) :: ws) ((w1.trans v3).cons (a + b)) ⟨fun z hz => by
      simp only [List.map_cons] at hz
      rcases List.mem_cons.1 hz with rfl | hz
      · omega
      · exact hf2.1 z (List.mem_cons_of_mem _ (List.mem_cons_of_mem _ hz)), by
      have := hf2.2
      rw [kraftL_cons, kraftL_cons] at this
      simp only [List.map_cons]
      rw [kraftL_cons, show L - (m - 1) = (L - m) + 1 by omega, Nat.pow_succ]; omega⟩
    rw [dotP_cons] at key w3 u3
    rw [dotP_cons] at w3 u3
    rw [dotP_perm v1, dotP_cons, v2] at u3
    rw [dotP_perm q1, dotP_cons, q2]
    obtain ⟨d, rfl⟩ : ∃ d, m = d + 1 := ⟨m - 1, by omega⟩
    simp only [Nat.add_mul, Nat.mul_add, Nat.mul_one, Nat.add_sub_cancel] at key w3 u3 ⊢
    omega
end Go.Proofs.Ytaabmlnbadpfgaa

/-! The document's least cost, level by level, plain: it is what the levels that fit cost at least. No program is named here. -/
namespace Go.Proofs.Ytaabmlnbadpfgaa
set_option linter.unusedVariables false

/-- no cost. -/
def noCost : Nat := 2 ^ 62
/-- the least of the first so many. -/
def leastN (f : Nat → Nat) : Nat → Nat
  | 0 => noCost
  | t + 1 => min (leastN f t) (f t)
theorem leastN_le (f : Nat → Nat) : ∀ (m t : Nat), t < m → leastN f m ≤ f t
  | 0, t, h => by omega
  | m + 1, t, h => by
    have := leastN_le f m t
    rw [leastN]
    by_cases e : t = m
    · subst e; exact Nat.min_le_right _ _
    · exact Nat.le_trans (Nat.min_le_left _ _) (this (by omega))
theorem leastN_none (f : Nat → Nat) : ∀ m, leastN f m ≤ noCost
  | 0 => Nat.le_refl _
  | m + 1 => Nat.le_trans (Nat.min_le_left _ _) (leastN_none f m)
theorem leastN_is (f : Nat → Nat) : ∀ m, leastN f m < noCost → ∃ t, t < m ∧ leastN f m = f t
  | 0, h => by rw [leastN] at h; omega
  | m + 1, h => by
    rw [leastN] at h ⊢
    by_cases e : leastN f m ≤ f m
    · rw [Nat.min_eq_left e] at h ⊢
      obtain ⟨t, h1, h2⟩ := leastN_is f m h
      exact ⟨t, by omega, h2⟩
    · rw [Nat.min_eq_right (by omega)] at h ⊢
      exact ⟨m, by omega, rfl⟩
/-- what it costs if so many are taken here. -/
def docTake (W : List Nat) (n k o : Nat) (g : Option (Nat → Nat → Nat)) (take : Nat) : Nat :=
  match g with
  | none => if o - take = 0 ∧ k + take = n then sumT W (n - k) else noCost
  | some g => if n + 1 < 2 * (o - take) then noCost else if g (k + take) (2 * (o - take)) < noCost then sumT W (n - k) + g (k + take) (2 * (o - take)) else noCost
def docAt (W : List Nat) (n : Nat) (g : Option (Nat → Nat → Nat)) (k o : Nat) : Nat :=
  if k = n then (if o = 0 then 0 else noCost) else if o = 0 ∨ n - k < o then noCost else leastN (docTake W n k o g) (o + 1)
/-- so many depths below. -/
def docOne (W : List Nat) (n : Nat) : Nat → Nat → Nat → Nat
  | 0 => docAt W n none
  | d + 1 => docAt W n (some (docOne W n d))
theorem fits_zeros (n : Nat) : ∀ d, Fits n (List.replicate d 0) 0
  | 0 => rfl
  | d + 1 => ⟨Nat.zero_le _, Nat.le_refl _, fits_zeros n d⟩
theorem cost_zeros (W : List Nat) : ∀ d, costL W (List.replicate d 0) = 0
  | 0 => rfl
  | d + 1 => by have := cost_zeros W d; simp only [costL, List.replicate_succ, List.map_cons, List.sum_cons, sumT_zero] at this ⊢; omega
theorem costL_cons (W : List Nat) (k : Nat) (ks : List Nat) : costL W (k :: ks) = sumT W k + costL W ks := by simp [costL]
/-- the document's cost is that of levels that fit. -/
theorem doc_fits (W : List Nat) (n : Nat) : ∀ (d k o : Nat), k ≤ n → docOne W n d k o < noCost → o ≤ n - k ∧ ∃ ks, ks.length = d ∧ Fits n ((n - k) :: ks) (2 * (n - k) - o) ∧ costL W ((n - k) :: ks) = docOne W n d k o := by
  intro d
  induction d with
  | zero =>
    intro k o hk h
    simp only [docOne, docAt] at h ⊢
    by_cases e : k = n
    · subst e
      rw [if_pos rfl] at h ⊢
      by_cases e2 : o = 0
      · subst e2
        rw [if_pos rfl]
        refine ⟨Nat.zero_le _, [], rfl, ⟨by omega, by omega, ?_⟩, by rw [costL_cons, Nat.sub_self, sumT_zero]; rfl⟩
        show 2 * (2 * (k - k) - 0 - (k - k)) = 0
        omega
      · rw [if_neg e2] at h; omega
    · rw [if_neg e] at h ⊢
      by_cases e2 : o = 0 ∨ n - k < o
      · rw [if_pos e2] at h; omega
      · rw [if_neg e2] at h ⊢
        obtain ⟨t, h1, h2⟩ := leastN_is _ _ h
        rw [h2] at h ⊢
        simp only [docTake] at h ⊢
        by_cases e3 : o - t = 0 ∧ k + t = n
        · rw [if_pos e3]
          refine ⟨by omega, [], rfl, ⟨by omega, by omega, ?_⟩, by rw [costL_cons]; rfl⟩
          show 2 * (2 * (n - k) - o - (n - k)) = 0
          omega
        · rw [if_neg e3] at h; omega
  | succ d ih =>
    intro k o hk h
    simp only [docOne, docAt] at h ⊢
    by_cases e : k = n
    · subst e
      rw [if_pos rfl] at h ⊢
      by_cases e2 : o = 0
      · subst e2
        rw [if_pos rfl]
        refine ⟨Nat.zero_le _, List.replicate (d + 1) 0, List.length_replicate, ⟨by omega, by omega, ?_⟩, by rw [costL_cons, Nat.sub_self, sumT_zero, cost_zeros]⟩
        rw [show 2 * (2 * (k - k) - 0 - (k - k)) = 0 by omega]
        exact fits_zeros k _
      · rw [if_neg e2] at h; omega
    · rw [if_neg e] at h ⊢
      by_cases e2 : o = 0 ∨ n - k < o
      · rw [if_pos e2] at h; omega
      · rw [if_neg e2] at h ⊢
        obtain ⟨t, h1, h2⟩ := leastN_is _ _ h
        rw [h2] at h ⊢
        simp only [docTake] at h ⊢
        by_cases e3 : n + 1 < 2 * (o - t)
        · rw [if_pos e3] at h; omega
        · rw [if_neg e3] at h ⊢
          by_cases e4 : docOne W n d (k + t) (2 * (o - t)) < noCost
          · rw [if_pos e4]
            obtain ⟨i0, ks, i1, i2, i3⟩ := ih (k + t) (2 * (o - t)) (by omega) e4
            refine ⟨by omega, (n - (k + t)) :: ks, by rw [List.length_cons, i1], ⟨by omega, by omega, ?_⟩, by rw [costL_cons, i3]⟩
            rw [show 2 * (2 * (n - k) - o - (n - k)) = 2 * (n - (k + t)) - 2 * (o - t) by omega]
            exact i2
          · rw [if_neg e4] at h; omega
/-- of falling levels: what is asked is at most twice the level. -/
theorem fits_half (n : Nat) : ∀ (ks : List Nat) (k t : Nat), Falls (k :: ks) → Fits n (k :: ks) t → t ≤ 2 * k ∧ (0 < k → t < 2 * k)
  | [], k, t, _, h => by
    obtain ⟨h1, h2, h3⟩ := h
    have h3 : 2 * (t - k) = 0 := h3
    omega
  | k2 :: ks, k, t, hf, h => by
    obtain ⟨h1, h2, h3⟩ := h
    have ih := fits_half n ks k2 _ hf.tail h3
    have := hf.1
    omega
/-- levels that fall and fit cost no less than the document's. -/
theorem doc_le (W : List Nat) (n : Nat) : ∀ (d k o : Nat) (ks : List Nat), ks.length = d → k ≤ n → o ≤ n - k → (k < n → 1 ≤ o) → Falls ((n - k) :: ks) → Fits n ((n - k) :: ks) (2 * (n - k) - o) → costL W ((n - k) :: ks) < noCost → docOne W n d k o ≤ costL W ((n - k) :: ks) := by
  intro d
  induction d with
  | zero =>
    intro k o ks hl hk ho ho1 hf hfit hc
    obtain rfl := List.eq_nil_of_length_eq_zero hl
    simp only [docOne, docAt]
    by_cases e : k = n
    · subst e
      rw [if_pos rfl, if_pos (by omega)]; exact Nat.zero_le _
    · have := ho1 (by omega)
      rw [if_neg e, if_neg (by omega)]
      obtain ⟨f1, f2, f3⟩ := hfit
      have f3 : 2 * (2 * (n - k) - o - (n - k)) = 0 := f3
      refine Nat.le_trans (leastN_le _ _ o (by omega)) ?_
      simp only [docTake]
      rw [if_pos (by omega), costL_cons]; omega
  | succ d ih =>
    intro k o ks hl hk ho ho1 hf hfit hc
    cases ks with
    | nil => simp at hl
    | cons k2 ks =>
      simp only [docOne, docAt]
      by_cases e : k = n
      · subst e
        rw [if_pos rfl, if_pos (by omega)]; exact Nat.zero_le _
      · have h1 := ho1 (by omega)
        rw [if_neg e, if_neg (by omega)]
        obtain ⟨f1, f2, f3⟩ := hfit
        have hk2 : k2 ≤ n - k := hf.1
        -- so many are taken
        obtain ⟨t, ht⟩ : ∃ t, t = n - k - k2 := ⟨_, rfl⟩
        have e2 : n - (k + t) = k2 := by omega
        obtain ⟨g1, g2, g3⟩ := f3
        have hh := fits_half n ks k2 _ hf.tail ⟨g1, g2, g3⟩
        have hto : t ≤ o ∧ 2 * (o - t) ≤ k2 ∧ (0 < k2 → 1 ≤ o - t) := by omega
        rw [costL_cons] at hc
        have i := ih (k + t) (2 * (o - t)) ks (by simpa using hl) (by omega) (by omega) (fun hlt => by omega) (by rw [e2]; exact hf.tail) (by
          rw [e2, show 2 * k2 - 2 * (o - t) = 2 * (2 * (n - k) - o - (n - k)) by omega]; exact ⟨g1, g2, g3⟩) (by rw [e2]; omega)
        rw [e2] at i
        refine Nat.le_trans (leastN_le _ _ t (by omega)) ?_
        simp only [docTake]
        rw [if_neg (by omega), if_pos (by omega), costL_cons]
        omega
theorem fits_mem (n : Nat) : ∀ (ks : List Nat) (t : Nat), Fits n ks t → ∀ k ∈ ks, k ≤ n
  | [], _, _, k, hk => by cases hk
  | a :: ks, t, hf, k, hk => by
    rcases List.mem_cons.1 hk with rfl | hk
    · exact hf.1
    · exact fits_mem n ks _ hf.2.2 k hk
/-- the document's least cost is that of the work. -/
theorem doc_least {W : List Nat} (hW : Rises W) (i : Nat) (h : W.length ≤ 2 ^ (i + 1)) (h2 : 2 ≤ W.length) (hs : dot W (bestL W i) < noCost) : docOne W W.length i 0 2 = dot W (bestL W i) := by
  have ht := row_enough W i h (by omega)
  obtain ⟨f1, f2⟩ := takes_fit (W := W) i _ ht
  have hfall := takes_falls hW i _ ht
  have e : dot W (bestL W i) = costL W (takes W i (2 * W.length - 2)) := cost_eq W _ (fits_mem _ _ _ f1)
  have hlen := takes_len W i (2 * W.length - 2)
  rw [e] at hs ⊢
  obtain ⟨l, hl⟩ := takes_head W i (2 * W.length - 2)
  rw [hl] at f1 hfall hs hlen ⊢
  rw [hl] at f2
  have hh := fits_half _ _ _ _ hfall f1
  have hk : syms (rowL W i) (2 * W.length - 2) = W.length - 0 := by have := f1.1; omega
  rw [hk] at f1 hfall hs ⊢
  have hle := doc_le W W.length i 0 2 l (by simpa using hlen) (Nat.zero_le _) (by omega) (fun _ => by decide) hfall (by rw [show 2 * (W.length - 0) - 2 = 2 * W.length - 2 by omega]; exact f1) hs
  obtain ⟨_, ks, k1, k2, k3⟩ := doc_fits W W.length i 0 2 (Nat.zero_le _) (Nat.lt_of_le_of_lt hle hs)
  have hge := (fits_ge hW ks _ _ k2).2
  rw [k1, k3, show 2 * (W.length - 0) - 2 = 2 * W.length - 2 by omega, ← f2, hk] at hge
  omega
end Go.Proofs.Ytaabmlnbadpfgaa

/-! Symbols in the order of their frequencies, plain: one order; the lengths symbol by symbol. No program is named here. -/
namespace Go.Proofs.Ytaabmlnbadpfgaa
set_option linter.unusedVariables false

/-- rarer, or as rare and before. -/
def Before (F : List Nat) (a b : Nat) : Prop := F.getD a 0 < F.getD b 0 ∨ (F.getD a 0 = F.getD b 0 ∧ a < b)
theorem Before.irrefl {F : List Nat} {a : Nat} (h : Before F a a) : False := by
  rcases h with h | h <;> omega
theorem Before.asymm {F : List Nat} {a b : Nat} (h : Before F a b) (h2 : Before F b a) : False := by
  rcases h with h | h <;> rcases h2 with h2 | h2 <;> omega
theorem Before.trans {F : List Nat} {a b c : Nat} (h : Before F a b) (h2 : Before F b c) : Before F a c := by
  rcases h with h | h <;> rcases h2 with h2 | h2 <;> simp only [Before] <;> omega
theorem Before.total {F : List Nat} {a b : Nat} (h : a ≠ b) : Before F a b ∨ Before F b a := by
  simp only [Before]; omega
/-- all symbols that occur, the rarest first. -/
structure IsOrd (F P : List Nat) : Prop where
  up : P.Pairwise (Before F)
  mem : ∀ s, s ∈ P ↔ s < F.length ∧ 0 < F.getD s 0
/-- of the same there is one order. -/
theorem before_same (F : List Nat) : ∀ P Q : List Nat, P.Pairwise (Before F) → Q.Pairwise (Before F) → (∀ s, s ∈ P ↔ s ∈ Q) → P = Q
  | [], [], _, _, _ => rfl
  | [], y :: Q, _, _, h => by have := (h y).2 (List.mem_cons_self ..); cases this
  | x :: P, [], _, _, h => by have := (h x).1 (List.mem_cons_self ..); cases this
  | x :: P, y :: Q, hp, hq, h => by
    rw [List.pairwise_cons] at hp hq
    obtain rfl : x = y := by
      rcases List.mem_cons.1 ((h x).1 (List.mem_cons_self ..)) with e | e
      · exact e
      · rcases List.mem_cons.1 ((h y).2 (List.mem_cons_self ..)) with e2 | e2
        · exact e2.symm
        · exact ((hp.1 y e2).asymm (hq.1 x e)).elim
    rw [before_same F P Q hp.2 hq.2 (fun s => ?_)]
    refine ⟨fun hs => ?_, fun hs => ?_⟩
    · rcases List.mem_cons.1 ((h s).1 (List.mem_cons_of_mem _ hs)) with rfl | e
      · exact (hp.1 s hs).irrefl.elim
      · exact e
    · rcases List.mem_cons.1 ((h s).2 (List.mem_cons_of_mem _ hs)) with rfl | e
      · exact (hq.1 s hs).irrefl.elim
      · exact e
theorem ord_same {F P Q : List Nat} (h : IsOrd F P) (h2 : IsOrd F Q) : P = Q :=
  before_same F P Q h.up h2.up (fun s => (h.mem s).trans (h2.mem s).symm)
theorem before_nodup {F P : List Nat} (h : P.Pairwise (Before F)) : P.Nodup := h.imp (fun h e => by subst e; exact h.irrefl)
def wtsOf (F P : List Nat) : List Nat := P.map fun s => F.getD s 0
theorem ord_rises {F P : List Nat} (h : IsOrd F P) : Rises (wtsOf F P) :=
  (rises_pairwise _).2 (List.pairwise_map.2 (h.up.imp (fun h => by rcases h with h | h <;> omega)))
theorem ord_perm {F P : List Nat} (h : IsOrd F P) : P.Perm ((List.range F.length).filter fun s => decide (0 < F.getD s 0)) :=
  (List.perm_ext_iff_of_nodup (before_nodup h.up) (List.Pairwise.filter _ List.nodup_range)).2 (fun s => by
    rw [h.mem, List.mem_filter, List.mem_range, decide_eq_true_iff])
/-- the lengths, symbol by symbol: one for each level that the symbol is in. -/
def outAt (P ks : List Nat) (s : Nat) : Nat := (ks.filter fun k => decide (s ∈ P.take k)).length
def outL (F P ks : List Nat) : List Nat := (List.range F.length).map (outAt P ks)
theorem outL_len (F P ks : List Nat) : (outL F P ks).length = F.length := by simp [outL]
theorem mem_take_nodup {P : List Nat} (h : P.Nodup) (r k : Nat) (hr : r < P.length) : P[r] ∈ P.take k ↔ r < k := by
  rw [List.mem_iff_getElem]
  constructor
  · rintro ⟨j, hj, e⟩
    rw [List.getElem_take] at e
    rw [List.length_take] at hj
    have hj2 : j < P.length := by omega
    have h3 := List.pairwise_iff_getElem.1 h
    by_cases e1 : j < r
    · exact absurd e (h3 j r hj2 hr e1)
    · by_cases e2 : r < j
      · exact absurd e.symm (h3 r j hr hj2 e2)
      · omega
  · intro hk
    exact ⟨r, by rw [List.length_take]; omega, by rw [List.getElem_take]⟩
theorem outAt_ord {P : List Nat} (h : P.Nodup) (ks : List Nat) (r : Nat) (hr : r < P.length) : outAt P ks P[r] = lenK ks r := by
  rw [outAt, lenK]
  congr 1
  refine List.filter_congr (fun k _ => ?_)
  rw [decide_eq_decide]
  exact mem_take_nodup h r k hr
theorem outAt_not {P : List Nat} (ks : List Nat) {s : Nat} (h : s ∉ P) : outAt P ks s = 0 := by
  rw [outAt, List.filter_eq_nil_iff.2 (fun k _ => by simp; exact fun hm => h (List.mem_of_mem_take hm))]; rfl
/-- in the order of the symbols: weights with lengths. -/
theorem out_pairs {F P : List Nat} (h : IsOrd F P) (ks : List Nat) : P.map (fun s => (F.getD s 0, outAt P ks s)) = (wtsOf F P).zip (lensK ks P.length) := by
  refine List.ext_getElem (by simp [wtsOf, lensK]) (fun r h1 h2 => ?_)
  simp only [List.length_map] at h1
  simp only [List.getElem_map, List.getElem_zip, wtsOf, lensK, List.getElem_range]
  rw [outAt_ord (before_nodup h.up) ks r h1]
theorem sum_filter_zero (f : Nat → Nat) (p : Nat → Bool) : ∀ l : List Nat, (∀ s ∈ l, p s = false → f s = 0) → ((l.filter p).map f).sum = (l.map f).sum
  | [], _ => rfl
  | a :: l, h => by
    have ih := sum_filter_zero f p l (fun s hs => h s (List.mem_cons_of_mem _ hs))
    have h0 := h a (List.mem_cons_self ..)
    cases e : p a with
    | true => rw [List.filter_cons_of_pos e, List.map_cons, List.map_cons, List.sum_cons, List.sum_cons, ih]
    | false => rw [List.filter_cons_of_neg (by rw [e]; decide), List.map_cons, List.sum_cons, ih, h0 e, Nat.zero_add]
/-- what lengths cost, symbol by symbol, whatever they are. -/
def costF (F : List Nat) (f : Nat → Nat) : Nat := ((List.range F.length).map fun s => F.getD s 0 * f s).sum
theorem costF_ord {F P : List Nat} (h : IsOrd F P) (f : Nat → Nat) : costF F f = dotP (P.map fun s => (F.getD s 0, f s)) := by
  rw [dotP, List.map_map, costF, ← sum_filter_zero (fun s => F.getD s 0 * f s) (fun s => decide (0 < F.getD s 0)) (List.range F.length) (fun s _ hs => by
    have : F.getD s 0 = 0 := by simpa using hs
    show F.getD s 0 * f s = 0
    rw [this, Nat.zero_mul])]
  exact ((ord_perm h).map _).symm.sum_nat
/-- the work's lengths cost the least. -/
theorem out_cost {F P : List Nat} (h : IsOrd F P) (i : Nat) : costF F (outAt P (takes (wtsOf F P) i (2 * P.length - 2))) = dot (wtsOf F P) (bestL (wtsOf F P) i) := by
  have hl : (wtsOf F P).length = P.length := by simp [wtsOf]
  rw [costF_ord h, out_pairs h, zip_dot _ _ (by rw [lensK_len, hl]), bestL, hl]
/-- no others cost less. -/
theorem out_least {F P : List Nat} (h : IsOrd F P) (i : Nat) (h1 : P.length ≤ 2 ^ (i + 1)) (h2 : 1 ≤ P.length) (f : Nat → Nat) (hf : Full (i + 1) (P.map f)) : costF F (outAt P (takes (wtsOf F P) i (2 * P.length - 2))) ≤ costF F f := by
  have hl : (wtsOf F P).length = P.length := by simp [wtsOf]
  rw [out_cost h, costF_ord h]
  refine perm_least (ord_rises h) i (by rw [hl]; exact h1) (by rw [hl]; exact h2) _ (by rw [List.map_map]; exact List.Perm.refl _) (fun p hp => ?_) (by rw [List.map_map]; exact hf.2)
  obtain ⟨s, hs, rfl⟩ := List.mem_map.1 hp
  exact hf.1 _ (List.mem_map.2 ⟨s, hs, rfl⟩)
/-- they are a full code. -/
theorem out_full {F P : List Nat} (h : IsOrd F P) (i : Nat) (h1 : P.length ≤ 2 ^ (i + 1)) (h2 : 1 ≤ P.length) : Full (i + 1) (P.map (outAt P (takes (wtsOf F P) i (2 * P.length - 2)))) := by
  have hl : (wtsOf F P).length = P.length := by simp [wtsOf]
  have e : P.map (outAt P (takes (wtsOf F P) i (2 * P.length - 2))) = bestL (wtsOf F P) i := by
    have := congrArg (List.map (·.2)) (out_pairs h (takes (wtsOf F P) i (2 * P.length - 2)))
    rw [List.map_map, List.map_snd_zip (by rw [lensK_len, hl]; omega)] at this
    rw [bestL, hl]; exact this
  rw [e]
  exact ⟨best_le _ _, best_full (ord_rises h) i (by rw [hl]; exact h1) (by rw [hl]; exact h2)⟩
end Go.Proofs.Ytaabmlnbadpfgaa

/-! What the statements about least lengths ask, plain: fall, growth, a nought put in, tight limits, no limit. No program is named here. -/
namespace Go.Proofs.Ytaabmlnbadpfgaa
set_option linter.unusedVariables false

/-- the work's length of a symbol, for two symbols or more. -/
def lenOf (F P : List Nat) (i : Nat) : Nat → Nat := outAt P (takes (wtsOf F P) i (2 * P.length - 2))
/-- who is more frequent has no longer word. -/
theorem outAt_falls {F P : List Nat} (h : IsOrd F P) (ks : List Nat) {a b : Nat} (ha : a ∈ P) (hab : Before F a b) : outAt P ks b ≤ outAt P ks a := by
  rw [outAt, outAt]
  rw [← List.countP_eq_length_filter, ← List.countP_eq_length_filter]
  refine List.countP_mono_left (fun k _ hk => ?_)
  rw [decide_eq_true_iff] at hk ⊢
  have hp := h.up
  rw [← List.take_append_drop k P] at ha hp
  rcases List.mem_append.1 ha with ha | ha
  · exact ha
  · exact (hab.asymm ((List.pairwise_append.1 hp).2.2 b hk a ha)).elim
theorem range_getD (F : List Nat) : (List.range F.length).map (fun s => F.getD s 0) = F := by
  refine List.ext_getElem (by simp) (fun i h1 h2 => ?_)
  rw [List.getElem_map, List.getElem_range, List.getD_eq_getElem?_getD, List.getElem?_eq_getElem h2]; rfl
/-- the weights are those above 0. -/
theorem wts_perm {F P : List Nat} (h : IsOrd F P) : (wtsOf F P).Perm (F.filter fun x => decide (0 < x)) := by
  have := (ord_perm h).map fun s => F.getD s 0
  have e := List.filter_map (f := fun s => F.getD s 0) (p := fun x => decide (0 < x)) (l := List.range F.length)
  rw [range_getD] at e
  rw [e]; exact this
/-- what it costs is said by the weights above 0 alone. -/
theorem cost_same {F P G Q : List Nat} (h : IsOrd F P) (g : IsOrd G Q) (i : Nat) (e : (F.filter fun x => decide (0 < x)).Perm (G.filter fun x => decide (0 < x))) : costF F (lenOf F P i) = costF G (lenOf G Q i) := by
  rw [lenOf, lenOf, out_cost h, out_cost g, rises_same _ _ ((wts_perm h).trans (e.trans (wts_perm g).symm)) (ord_rises h) (ord_rises g)]
theorem ord_len {F P : List Nat} (h : IsOrd F P) : P.length = (F.filter fun x => decide (0 < x)).length := by
  rw [← (wts_perm h).length_eq, wtsOf, List.length_map]
theorem nought_in (F : List Nat) (k : Nat) : ((F.take k ++ 0 :: F.drop k).filter fun x => decide (0 < x)) = F.filter fun x => decide (0 < x) := by
  rw [List.filter_append, List.filter_cons_of_neg (by decide), ← List.filter_append, List.take_append_drop]
/-- a symbol that does not occur has no word. -/
theorem outAt_nought {F P : List Nat} (h : IsOrd F P) (ks : List Nat) {s : Nat} (e : F.getD s 0 = 0) : outAt P ks s = 0 :=
  outAt_not ks (fun hm => by have := ((h.mem s).1 hm).2; omega)
theorem Full.up {L : Nat} {ls : List Nat} (h : Full L ls) : ∀ d, Full (L + d) ls
  | 0 => h
  | d + 1 => by
    have ih := h.up d
    refine ⟨fun l hl => by have := ih.1 l hl; omega, ?_⟩
    rw [← Nat.add_assoc, kraftL_succ _ _ ih.1, ih.2, Nat.pow_succ]; omega
/-- without a limit that counts: the two least put together, again and again. -/
theorem free_cost {F P : List Nat} (h : IsOrd F P) (i c : Nat) (h1 : P.length ≤ i + 2) (h2 : 1 ≤ P.length) (hc : Huff (wtsOf F P) c) : costF F (lenOf F P i) = c := by
  have hl : (wtsOf F P).length = P.length := by simp [wtsOf]
  have hpow : P.length ≤ 2 ^ (i + 1) := by
    have : i + 1 < 2 ^ (i + 1) := Nat.lt_two_pow_self
    omega
  obtain ⟨ps, p1, p2, p3⟩ := huff_full hc
  have p4 := p2.up (i + 1 - (P.length - 1))
  rw [hl, show P.length - 1 + (i + 1 - (P.length - 1)) = i + 1 by omega] at p4
  have a := perm_least (ord_rises h) i (by rw [hl]; exact hpow) (by rw [hl]; exact h2) ps p1 (fun p hp => p4.1 _ (List.mem_map.2 ⟨p, hp, rfl⟩)) p4.2
  have f := out_full h i hpow h2
  have b := huff_least hc (i + 1) (P.map fun s => (F.getD s 0, lenOf F P i s)) (by rw [List.map_map]; exact List.Perm.refl _) (by rw [List.map_map]; exact f)
  rw [← costF_ord h] at b
  have e : costF F (lenOf F P i) = _ := out_cost h i
  omega
/-- as many symbols as words: each has a word of the limit's length. -/
theorem tight_len {F P : List Nat} (h : IsOrd F P) (i : Nat) (h1 : P.length = 2 ^ (i + 1)) : ∀ s ∈ P, lenOf F P i s = i + 1 := by
  have hp := Nat.two_pow_pos (i + 1)
  have f := out_full h i (by omega) (by omega)
  intro s hs
  exact (kraft_tight (i + 1) _ f.1).2 (by rw [f.2, List.length_map, h1]) _ (List.mem_map.2 ⟨s, hs, rfl⟩)
theorem sum_oneF (f g : Nat → Nat) (k by' : Nat) : ∀ (n : Nat), k < n → (∀ s, s ≠ k → f s = g s) → f k = g k + by' → ((List.range n).map f).sum = ((List.range n).map g).sum + by'
  | 0, h, _, _ => by omega
  | n + 1, h, h1, h2 => by
    rw [List.range_succ, List.map_append, List.map_append, List.sum_append, List.sum_append]
    simp only [List.map_cons, List.map_nil, List.sum_cons, List.sum_nil]
    by_cases e : k = n
    · subst e
      have : (List.range k).map f = (List.range k).map g := List.map_congr_left (fun s hs => h1 s (by have := List.mem_range.1 hs; omega))
      rw [this, h2]; omega
    · rw [sum_oneF f g k by' n (by omega) h1 h2, h1 n (by omega)]; omega
/-- one frequency grown. -/
theorem cost_grown {F G : List Nat} {k b : Nat} (hl : G.length = F.length) (hk : k < F.length) (h1 : ∀ s, s ≠ k → G.getD s 0 = F.getD s 0) (h2 : G.getD k 0 = F.getD k 0 + b) (f : Nat → Nat) : costF G f = costF F f + b * f k := by
  rw [costF, costF, hl]
  exact sum_oneF _ _ k _ _ hk (fun s hs => by rw [h1 s hs]) (by show G.getD k 0 * f k = _; rw [h2, Nat.add_mul])
theorem grows {F P G Q : List Nat} (h : IsOrd F P) (g : IsOrd G Q) {k b : Nat} (hl : G.length = F.length) (hk : k < F.length) (h0 : 0 < F.getD k 0) (h1 : ∀ s, s ≠ k → G.getD s 0 = F.getD s 0) (h2 : G.getD k 0 = F.getD k 0 + b) (i : Nat) (hn : P.length ≤ 2 ^ (i + 1)) :
    costF F (lenOf F P i) + b * lenOf G Q i k ≤ costF G (lenOf G Q i) ∧ costF G (lenOf G Q i) ≤ costF F (lenOf F P i) + b * lenOf F P i k := by
  have hpq : P.Perm Q := (List.perm_ext_iff_of_nodup (before_nodup h.up) (before_nodup g.up)).2 (fun s => by
    rw [h.mem, g.mem, hl]
    by_cases e : s = k
    · subst e; rw [h2]; omega
    · rw [h1 s e])
  have hP : 1 ≤ P.length := List.length_pos_of_mem ((h.mem k).2 ⟨hk, h0⟩)
  have e := hpq.length_eq
  have a := out_least h i hn hP (lenOf G Q i) ((out_full g i (by omega) (by omega)).perm ((hpq.map _).symm))
  have c := out_least g i (by omega) (by omega) (lenOf F P i) ((out_full h i hn hP).perm (hpq.map _))
  refine ⟨?_, ?_⟩
  · rw [cost_grown hl hk h1 h2 (lenOf G Q i)]
    exact Nat.add_le_add_right a _
  · rw [← cost_grown hl hk h1 h2]
    exact c
end Go.Proofs.Ytaabmlnbadpfgaa

/-! Two rising halves, turned about, plain: what is below comes before what is above. No program is named here. -/
namespace Go.Proofs.Ytaabmlnbadpfgaa
set_option linter.unusedVariables false

theorem last_of {F : List Nat} : ∀ {l : List Nat} {x : Nat}, l.Pairwise (Before F) → x ∈ l → ∃ z, l.getLast? = some z ∧ (x = z ∨ Before F x z)
  | [], x, _, h => by cases h
  | [a], x, _, h => ⟨a, rfl, Or.inl (by simpa using h)⟩
  | a :: b :: l, x, hp, h => by
    rw [List.pairwise_cons] at hp
    obtain ⟨z, hz, _⟩ := last_of hp.2 (List.mem_cons_self (a := b) (l := l))
    have hl : (a :: b :: l).getLast? = some z := by rw [List.getLast?_cons_cons]; exact hz
    rcases List.mem_cons.1 h with rfl | h
    · exact ⟨z, hl, Or.inr (hp.1 z (List.mem_of_getLast? hz))⟩
    · obtain ⟨z2, hz2, h2⟩ := last_of hp.2 h
      rw [hz] at hz2
      cases hz2
      exact ⟨z, hl, h2⟩
theorem head_of {F : List Nat} {l : List Nat} {x : Nat} (hp : l.Pairwise (Before F)) (h : x ∈ l) : ∃ z, l.head? = some z ∧ (x = z ∨ Before F z x) := by
  cases l with
  | nil => cases h
  | cons a l =>
    refine ⟨a, rfl, ?_⟩
    rcases List.mem_cons.1 h with rfl | h
    · exact Or.inl rfl
    · exact Or.inr ((List.pairwise_cons.1 hp).1 x h)
/-- over a gap: the last of one before the first of the other. -/
theorem over_gap {F l m : List Nat} (hl : l.Pairwise (Before F)) (hm : m.Pairwise (Before F)) (h : ∀ x, l.getLast? = some x → ∀ y, m.head? = some y → Before F x y) : ∀ x ∈ l, ∀ y ∈ m, Before F x y := by
  intro x hx y hy
  obtain ⟨z, hz, h1⟩ := last_of hl hx
  obtain ⟨u, hu, h2⟩ := head_of hm hy
  have h3 := h z hz u hu
  rcases h1 with rfl | h1
  · rcases h2 with rfl | h2
    · exact h3
    · exact h3.trans h2
  · rcases h2 with rfl | h2
    · exact h1.trans h3
    · exact (h1.trans h3).trans h2
/-- both halves split so that what is below comes before what is above. -/
theorem split_before {F L1 L2 R1 R2 : List Nat} (hL : (L1 ++ L2).Pairwise (Before F)) (hR : (R1 ++ R2).Pairwise (Before F))
    (h1 : ∀ x, L1.getLast? = some x → ∀ y, R2.head? = some y → Before F x y) (h2 : ∀ x, R1.getLast? = some x → ∀ y, L2.head? = some y → Before F x y) : ∀ x ∈ L1 ++ R1, ∀ y ∈ L2 ++ R2, Before F x y := by
  obtain ⟨l1, l2, l3⟩ := List.pairwise_append.1 hL
  obtain ⟨r1, r2, r3⟩ := List.pairwise_append.1 hR
  intro x hx y hy
  rcases List.mem_append.1 hx with hx | hx <;> rcases List.mem_append.1 hy with hy | hy
  · exact l3 x hx y hy
  · exact over_gap l1 r2 h1 x hx y hy
  · exact over_gap r1 l2 h2 x hx y hy
  · exact r3 x hx y hy
/-- each part put in order: the whole is in order, and of the same. -/
theorem merged {F A B L1 L2 R1 R2 : List Nat} (h : ∀ x ∈ L1 ++ R1, ∀ y ∈ L2 ++ R2, Before F x y) (hA : A.Pairwise (Before F)) (hB : B.Pairwise (Before F)) (pA : A.Perm (L1 ++ R1)) (pB : B.Perm (L2 ++ R2)) :
    (A ++ B).Pairwise (Before F) ∧ (A ++ B).Perm ((L1 ++ L2) ++ (R1 ++ R2)) := by
  refine ⟨List.pairwise_append.2 ⟨hA, hB, fun x hx y hy => h x (pA.mem_iff.1 hx) y (pB.mem_iff.1 hy)⟩, (pA.append pB).trans ?_⟩
  rw [List.append_assoc, List.append_assoc]
  refine List.Perm.append_left _ ?_
  rw [← List.append_assoc, ← List.append_assoc]
  exact List.perm_append_comm.append_right _
/-- one put in where it belongs. -/
theorem put_in {F P1 P2 : List Nat} {x : Nat} (h : (P1 ++ P2).Pairwise (Before F)) (h2 : ∀ y ∈ P2, Before F x y) (h1 : ∀ z, P1.getLast? = some z → Before F z x) : (P1 ++ x :: P2).Pairwise (Before F) := by
  obtain ⟨p1, p2, p3⟩ := List.pairwise_append.1 h
  refine List.pairwise_append.2 ⟨p1, List.pairwise_cons.2 ⟨h2, p2⟩, fun z hz y hy => ?_⟩
  have hx : Before F z x := over_gap p1 (List.pairwise_singleton ..) (fun u hu v hv => by
    have : x = v := by simpa using hv
    exact this ▸ h1 u hu) z hz x (List.mem_singleton.2 rfl)
  rcases List.mem_cons.1 hy with rfl | hy
  · exact hx
  · exact hx.trans (h2 y hy)
/-- one step down: who is rarer goes before the one that lies ahead. -/
theorem put_step {F P1 P2 : List Nat} {x z : Nat} (h : ((P1 ++ [z]) ++ P2).Pairwise (Before F)) (h2 : ∀ y ∈ P2, Before F x y) (hx : F.getD x 0 < F.getD z 0) : (P1 ++ (z :: P2)).Pairwise (Before F) ∧ ∀ y ∈ z :: P2, Before F x y := by
  refine ⟨by simpa using h, fun y hy => ?_⟩
  rcases List.mem_cons.1 hy with rfl | hy
  · exact Or.inl hx
  · exact h2 y hy
/-- who is not rarer, and comes later, stays behind. -/
theorem put_stays {F : List Nat} {x z : Nat} (h : z < x) (hx : ¬ F.getD x 0 < F.getD z 0) : Before F z x := by
  simp only [Before]; omega
end Go.Proofs.Ytaabmlnbadpfgaa

/-! Blocks in order, plain: what the stable sort's passes keep. No program is named here. -/
namespace Go.Proofs.Ytaabmlnbadpfgaa
set_option linter.unusedVariables false

/-- blocks: what they were, and what they are. -/
abbrev Chs := List (List Nat × List Nat)
def fsts (G : Chs) : List Nat := (G.map Prod.fst).flatten
def snds (G : Chs) : List Nat := (G.map Prod.snd).flatten
theorem fsts_nil : fsts [] = [] := rfl
theorem snds_nil : snds [] = [] := rfl
theorem fsts_cons (c : List Nat × List Nat) (G : Chs) : fsts (c :: G) = c.1 ++ fsts G := by simp [fsts]
theorem snds_cons (c : List Nat × List Nat) (G : Chs) : snds (c :: G) = c.2 ++ snds G := by simp [snds]
theorem fsts_append (E G : Chs) : fsts (E ++ G) = fsts E ++ fsts G := by simp [fsts]
theorem snds_append (E G : Chs) : snds (E ++ G) = snds E ++ snds G := by simp [snds]
/-- each is in order, and of the same. -/
def OkC (F : List Nat) (G : Chs) : Prop := ∀ c ∈ G, c.2.Perm c.1 ∧ c.2.Pairwise (Before F) ∧ 0 < c.1.length
theorem OkC.nil (F : List Nat) : OkC F [] := fun c h => by cases h
theorem OkC.append {F : List Nat} {E G : Chs} (h : OkC F E) (h2 : OkC F G) : OkC F (E ++ G) := fun c hc => (List.mem_append.1 hc).elim (h c) (h2 c)
theorem OkC.one {F C0 C : List Nat} (h : C.Perm C0) (h2 : C.Pairwise (Before F)) (h3 : 0 < C0.length) : OkC F [(C0, C)] := fun c hc => by
  rw [List.mem_singleton.1 hc]; exact ⟨h, h2, h3⟩
theorem OkC.perm {F : List Nat} : ∀ {G : Chs}, OkC F G → (snds G).Perm (fsts G)
  | [], _ => List.Perm.refl _
  | c :: G, h => by
    rw [fsts_cons, snds_cons]
    exact (h c (List.mem_cons_self ..)).1.append (OkC.perm (fun d hd => h d (List.mem_cons_of_mem _ hd)))
theorem OkC.len {F : List Nat} {G : Chs} (h : OkC F G) : (snds G).length = (fsts G).length := h.perm.length_eq
/-- all of one length, but the last, that may be shorter. -/
def Shp (bs : Nat) : Chs → Prop
  | [] => True
  | [c] => c.1.length ≤ bs
  | c :: d :: G => c.1.length = bs ∧ Shp bs (d :: G)
/-- all of one length. -/
def FullB (bs : Nat) (E : Chs) : Prop := ∀ c ∈ E, c.1.length = bs
theorem FullB.nil (bs : Nat) : FullB bs [] := fun c h => by cases h
theorem FullB.snoc {bs : Nat} {E : Chs} {c : List Nat × List Nat} (h : FullB bs E) (h2 : c.1.length = bs) : FullB bs (E ++ [c]) := fun d hd => (List.mem_append.1 hd).elim (h d) (fun h => by rw [List.mem_singleton.1 h]; exact h2)
theorem FullB.shp {bs : Nat} : ∀ {E : Chs}, FullB bs E → Shp bs E
  | [], _ => trivial
  | [c], h => Nat.le_of_eq (h c (List.mem_cons_self ..))
  | c :: d :: G, h => ⟨h c (List.mem_cons_self ..), FullB.shp (E := d :: G) (fun e he => h e (List.mem_cons_of_mem _ he))⟩
theorem FullB.shp_last {bs : Nat} {c : List Nat × List Nat} (hc : c.1.length ≤ bs) : ∀ {E : Chs}, FullB bs E → Shp bs (E ++ [c])
  | [], _ => hc
  | [d], h => ⟨h d (List.mem_cons_self ..), hc⟩
  | d :: e :: G, h => ⟨h d (List.mem_cons_self ..), FullB.shp_last (E := e :: G) hc (fun e he => h e (List.mem_cons_of_mem _ he))⟩
theorem Shp.tail {bs : Nat} {c : List Nat × List Nat} : ∀ {G : Chs}, Shp bs (c :: G) → Shp bs G
  | [], _ => trivial
  | d :: G, h => h.2
/-- two whole ones lie ahead. -/
theorem Shp.two {F : List Nat} {bs : Nat} : ∀ {G : Chs}, Shp bs G → OkC F G → 2 * bs ≤ (fsts G).length → 0 < bs → ∃ c d G', G = c :: d :: G' ∧ c.1.length = bs ∧ d.1.length = bs ∧ Shp bs G'
  | [], _, _, h, hb => by simp [fsts] at h; omega
  | [c], h1, _, h, hb => by
    have : c.1.length ≤ bs := h1
    simp [fsts] at h
    omega
  | [c, d], h1, _, h, hb => by
    have a1 : c.1.length = bs := h1.1
    have a2 : d.1.length ≤ bs := h1.2
    simp [fsts] at h
    exact ⟨c, d, [], rfl, a1, by omega, trivial⟩
  | c :: d :: e :: G, h1, _, _, _ => ⟨c, d, e :: G, rfl, h1.1, h1.2.1, h1.2.2⟩
/-- one, and a shorter one. -/
theorem Shp.more {F : List Nat} {bs : Nat} : ∀ {G : Chs}, Shp bs G → OkC F G → bs < (fsts G).length → (fsts G).length < 2 * bs → ∃ c d, G = [c, d] ∧ c.1.length = bs ∧ d.1.length < bs
  | [], _, _, h, _ => by simp [fsts] at h
  | [c], h1, _, h, _ => by
    have : c.1.length ≤ bs := h1
    simp [fsts] at h
    omega
  | [c, d], h1, _, _, h => by
    have a1 : c.1.length = bs := h1.1
    simp [fsts] at h
    exact ⟨c, d, rfl, a1, by omega⟩
  | c :: d :: e :: G, h1, _, _, h => by
    have a1 : c.1.length = bs := h1.1
    have a2 : d.1.length = bs := h1.2.1
    simp [fsts] at h
    omega
/-- one at most. -/
theorem Shp.one {F : List Nat} {bs : Nat} : ∀ {G : Chs}, Shp bs G → OkC F G → (fsts G).length ≤ bs → G = [] ∨ ∃ c, G = [c]
  | [], _, _, _ => Or.inl rfl
  | [c], _, _, _ => Or.inr ⟨c, rfl⟩
  | c :: d :: G, h1, h2, h => by
    have a1 : c.1.length = bs := h1.1
    have a2 := (h2 d (List.mem_cons_of_mem _ (List.mem_cons_self ..))).2.2
    rw [fsts_cons, fsts_cons] at h
    simp at h
    omega
theorem Shp.sorted {F : List Nat} {bs : Nat} {G : Chs} (h1 : Shp bs G) (h2 : OkC F G) (h : (fsts G).length ≤ bs) : (snds G).Pairwise (Before F) := by
  rcases h1.one h2 h with rfl | ⟨c, rfl⟩
  · exact List.Pairwise.nil
  · rw [snds_cons, snds_nil, List.append_nil]; exact (h2 c (List.mem_cons_self ..)).2.1
/-- of rows that rise: what lies ahead is smaller. -/
theorem rise_apart {A C D B : List Nat} (h : (A ++ C ++ D ++ B).Pairwise (· < ·)) : (∀ x ∈ C, ∀ y ∈ D, x < y) ∧ C.Pairwise (· < ·) := by
  rw [List.append_assoc, List.append_assoc] at h
  obtain ⟨_, h2, _⟩ := List.pairwise_append.1 h
  obtain ⟨h3, _, h4⟩ := List.pairwise_append.1 h2
  exact ⟨fun x hx y hy => h4 x hx y (List.mem_append_left _ hy), h3⟩
end Go.Proofs.Ytaabmlnbadpfgaa

/-! Rows of the work as they lie: counts, and the steps of 'next', plain. No program is named here. -/
namespace Go.Proofs.Ytaabmlnbadpfgaa
set_option linter.unusedVariables false

/-- how many of the first, and of one more .., are symbols. -/
def cnts (l : List (Nat × Bool)) : List Nat := (List.range l.length).map fun i => syms l (i + 1)
theorem cnts_len (l : List (Nat × Bool)) : (cnts l).length = l.length := by simp [cnts]
theorem cnts_get (l : List (Nat × Bool)) (k : Nat) (hk : k ≤ l.length) : (if k = 0 then 0 else (cnts l).getD (k - 1) 0) = syms l k := by
  by_cases h : k = 0
  · rw [if_pos h, h]; simp [syms]
  · rw [if_neg h, List.getD_eq_getElem?_getD, cnts, List.getElem?_map, List.getElem?_range (by omega)]
    simp only [Option.map_some, Option.getD_some]
    rw [show k - 1 + 1 = k by omega]
theorem syms_snoc (l : List (Nat × Bool)) (e : Nat × Bool) : syms (l ++ [e]) (l.length + 1) = syms l l.length + (if e.2 then 1 else 0) := by
  rw [syms, List.take_of_length_le (by simp), List.filter_append, List.length_append, syms, List.take_length]
  cases h : e.2 <;> simp [h]
theorem syms_more (l : List (Nat × Bool)) (e : Nat × Bool) (k : Nat) (hk : k ≤ l.length) : syms (l ++ [e]) k = syms l k := by
  rw [syms, List.take_append_of_le_length hk, syms]
theorem cnts_snoc (l : List (Nat × Bool)) (e : Nat × Bool) : cnts (l ++ [e]) = cnts l ++ [syms l l.length + (if e.2 then 1 else 0)] := by
  rw [cnts, List.length_append, List.length_singleton, List.range_succ, List.map_append, List.map_singleton, syms_snoc]
  congr 1
  refine List.map_congr_left fun i hi => ?_
  rw [List.mem_range] at hi
  exact syms_more l e (i + 1) hi
theorem wts_snoc (l : List (Nat × Bool)) (e : Nat × Bool) : wts (l ++ [e]) = wts l ++ [e.1] := by simp [wts]
/-- what is still to be mixed. -/
def restM (W L : List Nat) (i k : Nat) : List (Nat × Bool) := mix (W.drop i) (pairs (L.drop k))
theorem drop_getD (l : List Nat) (i : Nat) (h : i < l.length) : l.drop i = l.getD i 0 :: l.drop (i + 1) := by
  rw [List.drop_eq_getElem_cons h, List.getD_eq_getElem?_getD, List.getElem?_eq_getElem h]; rfl
theorem pairs_more (L : List Nat) (k : Nat) (h : k + 1 < L.length) : pairs (L.drop k) = (L.getD k 0 + L.getD (k + 1) 0) :: pairs (L.drop (k + 2)) := by
  rw [drop_getD L k (by omega), drop_getD L (k + 1) h, pairs]
theorem pairs_out (L : List Nat) (k : Nat) (h : ¬ k + 1 < L.length) : pairs (L.drop k) = [] := by
  have : (L.drop k).length ≤ 1 := by rw [List.length_drop]; omega
  match hh : L.drop k with
  | [] => rfl
  | [_] => rfl
  | a :: b :: l => rw [hh] at this; simp at this
theorem rest_sym (W L : List Nat) (i k : Nat) (hi : i < W.length) (h : k + 1 < L.length → W.getD i 0 ≤ L.getD k 0 + L.getD (k + 1) 0) : restM W L i k = (W.getD i 0, true) :: restM W L (i + 1) k := by
  rw [restM, restM, drop_getD W i hi]
  by_cases hk : k + 1 < L.length
  · rw [pairs_more L k hk, mix_cons, if_pos (h hk)]
  · rw [pairs_out L k hk, mix_nil_r, mix_nil_r]; rfl
theorem rest_pack (W L : List Nat) (i k : Nat) (hk : k + 1 < L.length) (h : i < W.length → ¬ W.getD i 0 ≤ L.getD k 0 + L.getD (k + 1) 0) : restM W L i k = (L.getD k 0 + L.getD (k + 1) 0, false) :: restM W L i (k + 2) := by
  rw [restM, restM, pairs_more L k hk]
  by_cases hi : i < W.length
  · rw [drop_getD W i hi, mix_cons, if_neg (h hi)]
  · rw [List.drop_of_length_le (by omega), mix_nil_l, mix_nil_l]; rfl
theorem rest_end (W L : List Nat) (i k : Nat) (hi : ¬ i < W.length) (hk : ¬ k + 1 < L.length) : restM W L i k = [] := by
  rw [restM, pairs_out L k hk, List.drop_of_length_le (by omega), mix_nil_l]; rfl
end Go.Proofs.Ytaabmlnbadpfgaa

/-! How long and how heavy a row of the work may be, plain. No program is named here. -/
namespace Go.Proofs.Ytaabmlnbadpfgaa
set_option linter.unusedVariables false

theorem mix_mem : ∀ (n : Nat) (a b : List Nat), a.length + b.length = n → ∀ x ∈ wts (mix a b), x ∈ a ∨ x ∈ b
  | n, [], b, _, x, h => by
    rw [mix_nil_l] at h
    right
    simpa [wts] using h
  | n, a, [], _, x, h => by
    rw [mix_nil_r] at h
    left
    simpa [wts] using h
  | 0, x :: a, y :: b, h, _, _ => by simp at h
  | n + 1, x :: a, y :: b, h, z, hz => by
    rw [mix_cons] at hz
    simp only [List.length_cons] at h
    split at hz
    · rw [wts_cons] at hz
      rcases List.mem_cons.1 hz with rfl | hz
      · exact Or.inl (List.mem_cons_self ..)
      · rcases mix_mem n a (y :: b) (by simp; omega) z hz with h | h
        · exact Or.inl (List.mem_cons_of_mem _ h)
        · exact Or.inr h
    · rw [wts_cons] at hz
      rcases List.mem_cons.1 hz with rfl | hz
      · exact Or.inr (List.mem_cons_self ..)
      · rcases mix_mem n (x :: a) b (by simp; omega) z hz with h | h
        · exact Or.inl h
        · exact Or.inr (List.mem_cons_of_mem _ h)
theorem pairs_bound {M : Nat} : ∀ l : List Nat, (∀ x ∈ l, x ≤ M) → ∀ y ∈ pairs l, y ≤ 2 * M
  | [], _, y, h => by simp [pairs] at h
  | [_], _, y, h => by simp [pairs] at h
  | a :: b :: l, hl, y, h => by
    rw [pairs] at h
    rcases List.mem_cons.1 h with rfl | h
    · have := hl a (List.mem_cons_self ..)
      have := hl b (List.mem_cons_of_mem _ (List.mem_cons_self ..))
      omega
    · exact pairs_bound l (fun x hx => hl x (List.mem_cons_of_mem _ (List.mem_cons_of_mem _ hx))) y h
theorem row_bound {W : List Nat} {M : Nat} (h : ∀ x ∈ W, x ≤ M) : ∀ i, ∀ x ∈ wts (rowL W i), x ≤ M * 2 ^ i
  | 0, x, hx => by
    rw [rowL] at hx
    rcases mix_mem _ W [] rfl x hx with h2 | h2
    · have := h x h2; omega
    · cases h2
  | i + 1, x, hx => by
    rw [rowL] at hx
    rcases mix_mem _ W _ rfl x hx with h2 | h2
    · have := h x h2
      exact Nat.le_trans this (Nat.le_mul_of_pos_right _ (Nat.two_pow_pos _))
    · have := pairs_bound _ (row_bound h i) x h2
      rw [Nat.pow_succ]
      have e : M * (2 ^ i * 2) = 2 * (M * 2 ^ i) := by rw [Nat.mul_comm (2 ^ i) 2, Nat.mul_left_comm]
      omega
theorem row_short (W : List Nat) : ∀ i, (rowL W i).length ≤ 2 * W.length
  | 0 => by rw [row_len0]; omega
  | i + 1 => by rw [row_len]; have := row_short W i; omega
theorem outAt_cons (P ks : List Nat) (k s : Nat) : outAt P (ks ++ [k]) s = outAt P ks s + (if s ∈ P.take k then 1 else 0) := by
  rw [outAt, List.filter_append, List.length_append, outAt]
  by_cases h : s ∈ P.take k <;> simp [h]
/-- the share of one row, and of the rows below. -/
theorem takes_step (W : List Nat) (i t : Nat) (ht : t ≤ (rowL W (i + 1)).length) : takes W (i + 1) t = syms (rowL W (i + 1)) t :: takes W i (2 * (t - syms (rowL W (i + 1)) t)) ∧ 2 * (t - syms (rowL W (i + 1)) t) ≤ (rowL W i).length ∧ syms (rowL W (i + 1)) t ≤ W.length := by
  have hl := row_len W i
  obtain ⟨h1, _, h2, h3⟩ := mix_take _ W (pairs (wts (rowL W i))) rfl t (by rw [← mix_len _ W (pairs (wts (rowL W i))) rfl]; exact ht)
  rw [pairs_len, wts_len] at h2
  refine ⟨rfl, ?_, h1⟩
  rw [rowL]
  omega
theorem takes_end (W : List Nat) (t : Nat) (ht : t ≤ (rowL W 0).length) : takes W 0 t = [syms (rowL W 0) t] ∧ syms (rowL W 0) t ≤ W.length := ⟨rfl, by rw [row_len0] at ht; rw [syms_row0 W t ht]; exact ht⟩
theorem takes_nought (W : List Nat) : ∀ i, takes W i 0 = List.replicate (i + 1) 0
  | 0 => by simp [takes, syms]
  | i + 1 => by rw [takes]; simp [syms, takes_nought W i, List.replicate_succ]
theorem outAt_noughts (P : List Nat) (i s : Nat) : outAt P (List.replicate i 0) s = 0 := by
  rw [outAt, List.filter_eq_nil_iff.2]
  · rfl
  · intro k hk
    rw [List.mem_replicate] at hk
    rw [hk.2]
    simp
end Go.Proofs.Ytaabmlnbadpfgaa

/-! The lengths that the program finds, reckoned; plain. No program is named here. -/
namespace Go.Proofs.Ytaabmlnbadpfgaa
set_option linter.unusedVariables false

/-- 'mix', with rounds that are counted. -/
def mixF : Nat → List Nat → List Nat → List (Nat × Bool)
  | 0, _, _ => []
  | n + 1, [], [] => []
  | n + 1, [], y :: b => (y, false) :: mixF n [] b
  | n + 1, x :: a, [] => (x, true) :: mixF n a []
  | n + 1, x :: a, y :: b => if x ≤ y then (x, true) :: mixF n a (y :: b) else (y, false) :: mixF n (x :: a) b
theorem mixF_eq : ∀ (n : Nat) (a b : List Nat), a.length + b.length ≤ n → mixF n a b = mix a b
  | 0, [], [], _ => by rw [mix_nil_l]; rfl
  | 0, x :: a, b, h => by simp at h
  | 0, [], y :: b, h => by simp at h
  | n + 1, [], [], _ => by rw [mix_nil_l]; rfl
  | n + 1, [], y :: b, h => by
    rw [mixF, mixF_eq n [] b (by simp at h ⊢; omega), mix_nil_l, mix_nil_l]; rfl
  | n + 1, x :: a, [], h => by
    rw [mixF, mixF_eq n a [] (by simp at h ⊢; omega), mix_nil_r, mix_nil_r]; rfl
  | n + 1, x :: a, y :: b, h => by
    rw [mixF, mix_cons]
    simp only [List.length_cons] at h
    split
    · rw [mixF_eq n a (y :: b) (by simp; omega)]
    · rw [mixF_eq n (x :: a) b (by simp; omega)]
def rowF (W : List Nat) : Nat → List (Nat × Bool)
  | 0 => mixF W.length W []
  | i + 1 => let p := pairs (wts (rowF W i)); mixF (W.length + p.length) W p
theorem rowF_eq (W : List Nat) : ∀ i, rowF W i = rowL W i
  | 0 => by rw [rowF, rowL, mixF_eq _ _ _ (by simp)]
  | i + 1 => by
    simp only [rowF]
    rw [rowF_eq W i, rowL, mixF_eq _ _ _ (Nat.le_refl _)]
def takesF (W : List Nat) : Nat → Nat → List Nat
  | 0, t => [syms (rowF W 0) t]
  | i + 1, t => let k := syms (rowF W (i + 1)) t; k :: takesF W i (2 * (t - k))
theorem takesF_eq (W : List Nat) : ∀ i t, takesF W i t = takes W i t
  | 0, t => by rw [takesF, takes, rowF_eq]
  | i + 1, t => by
    simp only [takesF]
    rw [takes, rowF_eq, takesF_eq W i]
def lensF (F P : List Nat) (i : Nat) : List Nat :=
  let ks := takesF (wtsOf F P) i (2 * P.length - 2)
  (List.range F.length).map fun s => (if P.length = 1 ∧ s ∈ P then 1 else 0) + outAt P ks s
/-- is it the order? -/
def ordB (F P : List Nat) : Bool := (P.zip P.tail).all (fun p => decide (F.getD p.1 0 < F.getD p.2 0 ∨ (F.getD p.1 0 = F.getD p.2 0 ∧ p.1 < p.2))) && decide (P.length = (F.filter fun x => decide (0 < x)).length) && P.all (fun s => decide (s < F.length ∧ 0 < F.getD s 0))
end Go.Proofs.Ytaabmlnbadpfgaa
