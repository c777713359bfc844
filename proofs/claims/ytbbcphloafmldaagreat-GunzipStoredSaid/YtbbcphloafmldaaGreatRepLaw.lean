/- Plain laws on repetitions: what packs, what unpacks; no program is named here. -/
namespace Go.Proofs.YtbbcphloafmldaaGreat
set_option linter.unusedVariables false

/-- the lengths that a sign says. -/
def timesOf (s : Nat × Nat) : Nat := if s.1 < 16 then 1 else if s.1 < 18 then 3 + s.2 else 11 + s.2
/-- the next sign, n lengths k being left. -/
def signAt (k n : Nat) : Nat × Nat := if k = 0 ∧ 11 ≤ n then (18, min n 138 - 11) else if k = 0 ∧ 3 ≤ n then (17, n - 3) else if 3 ≤ n then (16, min n 6 - 3) else (k, 0)
theorem times_signAt {k n : Nat} (hk : k ≤ 15) (hn : 0 < n) : 0 < timesOf (signAt k n) ∧ timesOf (signAt k n) ≤ n := by
  unfold signAt
  split
  · simp only [timesOf]; simp; omega
  · split
    · simp only [timesOf]; simp; omega
    · split
      · simp only [timesOf]; simp; omega
      · simp only [timesOf]; rw [if_pos (by omega)]; omega
/-- the signs of n lengths k that are left. -/
def restOf (k n : Nat) : List (Nat × Nat) :=
  if h : 0 < n ∧ k ≤ 15 then signAt k n :: restOf k (n - timesOf (signAt k n)) else []
  termination_by n
  decreasing_by have := times_signAt h.2 h.1; omega
theorem restOf_zero (k : Nat) : restOf k 0 = [] := by rw [restOf]; simp
theorem restOf_step {k n : Nat} (hk : k ≤ 15) (hn : 0 < n) : restOf k n = signAt k n :: restOf k (n - timesOf (signAt k n)) := by
  rw [restOf, dif_pos ⟨hn, hk⟩]
def signsOf (k n : Nat) : List (Nat × Nat) := if k = 0 then restOf 0 n else (k, 0) :: restOf k (n - 1)
/-- how many lead that are k. -/
def lead (k : Nat) : List Nat → Nat
  | [] => 0
  | x :: l => if x = k then lead k l + 1 else 0
theorem lead_le (k : Nat) : ∀ l, lead k l ≤ l.length
  | [] => Nat.le_refl _
  | x :: l => by
    unfold lead
    have := lead_le k l
    split
    · simp; omega
    · simp
theorem lead_split (k : Nat) : ∀ l : List Nat, l = List.replicate (lead k l) k ++ l.drop (lead k l)
  | [] => rfl
  | x :: l => by
    unfold lead
    split
    · rename_i h; subst h
      rw [List.replicate_succ, List.drop_succ_cons, List.cons_append, ← lead_split]
    · simp
theorem lead_eq (k : Nat) : ∀ (n : Nat) (l : List Nat), (∀ j, j < n → l[j]? = some k) → l[n]? ≠ some k → lead k l = n
  | 0, [], _, _ => rfl
  | 0, x :: l, _, h => by
    unfold lead
    rw [if_neg (by simpa using h)]
  | n + 1, [], h, _ => by have := h 0 (by omega); simp at this
  | n + 1, x :: l, h, h2 => by
    have h0 := h 0 (by omega)
    simp at h0
    unfold lead
    rw [if_pos h0, lead_eq k n l (fun j hj => by have := h (j + 1) (by omega); simpa using this) (by simpa using h2)]
def runsL : List Nat → List (Nat × Nat)
  | [] => []
  | k :: t => (k, lead k t + 1) :: runsL (t.drop (lead k t))
  termination_by l => l.length
  decreasing_by simp; omega
theorem runsL_nil : runsL [] = [] := by rw [runsL]
theorem runsL_cons (k : Nat) (t : List Nat) : runsL (k :: t) = (k, lead k t + 1) :: runsL (t.drop (lead k t)) := by rw [runsL]
/-- a run at place i. -/
theorem runsL_at (l : List Nat) (i n k : Nat) (hk : l[i]? = some k) (hn : 0 < n) (h : ∀ j, j < n → l[i + j]? = some k) (he : l[i + n]? ≠ some k) : runsL (l.drop i) = (k, n) :: runsL (l.drop (i + n)) := by
  obtain ⟨hi, rfl⟩ := List.getElem?_eq_some_iff.1 hk
  rw [List.drop_eq_getElem_cons hi, runsL_cons]
  have hl : lead l[i] (l.drop (i + 1)) = n - 1 := by
    refine lead_eq _ _ _ (fun j hj => ?_) ?_
    · rw [List.getElem?_drop, show i + 1 + j = i + (j + 1) by omega]; exact h _ (by omega)
    · rw [List.getElem?_drop, show i + 1 + (n - 1) = i + n by omega]; exact he
  rw [hl, List.drop_drop, show i + 1 + (n - 1) = i + n by omega, show n - 1 + 1 = n by omega]
def packL (l : List Nat) : List (Nat × Nat) := (runsL l).flatMap fun r => signsOf r.1 r.2
theorem packL_at (l : List Nat) (i n k : Nat) (hk : l[i]? = some k) (hn : 0 < n) (h : ∀ j, j < n → l[i + j]? = some k) (he : l[i + n]? ≠ some k) : packL (l.drop i) = signsOf k n ++ packL (l.drop (i + n)) := by
  rw [packL, runsL_at l i n k hk hn h he, List.flatMap_cons]; rfl
theorem packL_nil : packL [] = [] := by rw [packL, runsL_nil]; rfl
theorem packL_cons (k : Nat) (t : List Nat) : packL (k :: t) = signsOf k (lead k t + 1) ++ packL (t.drop (lead k t)) := by rw [packL, runsL_cons, List.flatMap_cons]; rfl

/-- what signs say, behind acc. -/
def unp : List (Nat × Nat) → List Nat → Option (List Nat)
  | [], acc => some acc
  | s :: r, acc => if s.1 = 16 then (match acc.getLast? with | none => none | some k => unp r (acc ++ List.replicate (timesOf s) k)) else unp r (acc ++ List.replicate (timesOf s) (if s.1 < 16 then s.1 else 0))
theorem unp_len : ∀ (l : List (Nat × Nat)) (acc m : List Nat), unp l acc = some m → acc.length ≤ m.length
  | [], acc, m, h => by simp [unp] at h; subst h; exact Nat.le_refl _
  | s :: r, acc, m, h => by
    unfold unp at h
    split at h
    · split at h
      · cases h
      · have := unp_len r _ m h; simp at this; omega
    · have := unp_len r _ m h; simp at this; omega
theorem unp_len_cons {s : Nat × Nat} {r : List (Nat × Nat)} {acc m : List Nat} (h : unp (s :: r) acc = some m) : acc.length + timesOf s ≤ m.length := by
  unfold unp at h
  split at h
  · split at h
    · cases h
    · have := unp_len r _ m h; simpa using this
  · have := unp_len r _ m h; simpa using this
def bitsOfCode (c : Nat) : Nat := if c = 16 then 2 else if c = 17 then 3 else if c = 18 then 7 else 0
def okSign (s : Nat × Nat) : Bool := decide (s.1 ≤ 18) && decide (s.2 < 2 ^ bitsOfCode s.1)
/-- what Unpack answers. -/
def unpR (l : List (Nat × Nat)) (n : Int) : List Nat × Int :=
  if l.all okSign then (match unp l [] with | some m => if (m.length : Int) = n then (m, 0) else ([], 2) | none => ([], 2)) else ([], 5)
def okLens (l : List Nat) : Bool := l.all fun n => decide (n ≤ 15)
def packR (l : List Nat) : List (Nat × Nat) × Int := if okLens l then (packL l, 0) else ([], 5)

theorem unp_one {k n : Nat} (hk : k ≤ 15) (hn : 0 < n) (r : List (Nat × Nat)) (acc : List Nat) (h : k = 0 ∨ acc.getLast? = some k) : unp (signAt k n :: r) acc = unp r (acc ++ List.replicate (timesOf (signAt k n)) k) := by
  unfold signAt
  split
  · rename_i h1; rw [unp]; simp [h1.1]
  · split
    · rename_i h1; rw [unp]; simp [h1.1]
    · split
      · rename_i h1 h2 h3
        rcases h with h | h
        · omega
        · rw [unp]; simp [h]
      · rw [unp]; rw [if_neg (by simp; omega)]; simp; rw [if_pos (by omega)]
theorem getLast_rep (acc : List Nat) (k n : Nat) (hn : 0 < n) : (acc ++ List.replicate n k).getLast? = some k := by
  obtain ⟨m, rfl⟩ : ∃ m, n = m + 1 := ⟨n - 1, by omega⟩
  rw [List.replicate_succ', ← List.append_assoc]; simp
theorem unp_rest {k : Nat} (hk : k ≤ 15) (r : List (Nat × Nat)) : ∀ (n : Nat) (acc : List Nat), (k = 0 ∨ acc.getLast? = some k) → unp (restOf k n ++ r) acc = unp r (acc ++ List.replicate n k) := by
  intro n
  induction n using Nat.strongRecOn with
  | _ n ih =>
    intro acc h
    by_cases hn : 0 < n
    · obtain ⟨h1, h2⟩ := times_signAt hk hn
      rw [restOf_step hk hn, List.cons_append, unp_one hk hn _ _ h, ih _ (by omega) _ (Or.inr (getLast_rep _ _ _ h1)), List.append_assoc]
      congr 2
      rw [List.replicate_append_replicate]; congr 1; omega
    · obtain rfl : n = 0 := by omega
      rw [restOf_zero]; simp
theorem unp_signs {k n : Nat} (hk : k ≤ 15) (hn : 0 < n) (r : List (Nat × Nat)) (acc : List Nat) : unp (signsOf k n ++ r) acc = unp r (acc ++ List.replicate n k) := by
  unfold signsOf
  split
  · rename_i h; subst h
    exact unp_rest (by omega) r n acc (Or.inl rfl)
  · rename_i h
    rw [List.cons_append, unp, if_neg (by simp; omega)]
    simp only [if_pos (show k < 16 by omega), timesOf]
    rw [unp_rest hk r (n - 1) _ (Or.inr (by simp)), List.append_assoc, List.replicate_append_replicate]
    congr 3; omega
theorem unp_pack (r : List (Nat × Nat)) : ∀ (n : Nat) (l acc : List Nat), l.length ≤ n → okLens l = true → unp (packL l ++ r) acc = unp r (acc ++ l) := by
  intro n
  induction n with
  | zero =>
    intro l acc h _
    obtain rfl := List.eq_nil_of_length_eq_zero (show l.length = 0 by omega)
    rw [packL_nil]; simp
  | succ n ih =>
    intro l acc h hok
    cases l with
    | nil => rw [packL_nil]; simp
    | cons k t =>
      simp only [okLens, List.all_cons, Bool.and_eq_true, decide_eq_true_eq] at hok
      have h2 : okLens (t.drop (lead k t)) = true := by
        rw [okLens, List.all_eq_true]
        intro x hx
        exact List.all_eq_true.1 hok.2 x (List.mem_of_mem_drop hx)
      rw [packL_cons, List.append_assoc, unp_signs hok.1 (by omega), ih _ _ (by simp at h ⊢; omega) h2, List.append_assoc]
      congr 2
      rw [List.replicate_succ, List.cons_append, ← lead_split]
theorem len_rest {k : Nat} (hk : k ≤ 15) : ∀ n, (restOf k n).length ≤ n := by
  intro n
  induction n using Nat.strongRecOn with
  | _ n ih =>
    by_cases hn : 0 < n
    · obtain ⟨h1, h2⟩ := times_signAt hk hn
      rw [restOf_step hk hn, List.length_cons]
      have := ih (n - timesOf (signAt k n)) (by omega)
      omega
    · obtain rfl : n = 0 := by omega
      rw [restOf_zero]; simp
theorem len_signs {k n : Nat} (hk : k ≤ 15) (hn : 0 < n) : (signsOf k n).length ≤ n := by
  unfold signsOf
  split
  · exact len_rest (by omega) n
  · have := len_rest hk (n - 1); simp; omega
theorem len_pack : ∀ (n : Nat) (l : List Nat), l.length ≤ n → okLens l = true → (packL l).length ≤ l.length := by
  intro n
  induction n with
  | zero =>
    intro l h _
    obtain rfl := List.eq_nil_of_length_eq_zero (show l.length = 0 by omega)
    rw [packL_nil]; exact Nat.le_refl _
  | succ n ih =>
    intro l h hok
    cases l with
    | nil => rw [packL_nil]; exact Nat.le_refl _
    | cons k t =>
      simp only [okLens, List.all_cons, Bool.and_eq_true, decide_eq_true_eq] at hok
      have h2 : okLens (t.drop (lead k t)) = true := by
        rw [okLens, List.all_eq_true]
        intro x hx
        exact List.all_eq_true.1 hok.2 x (List.mem_of_mem_drop hx)
      have h3 := ih _ (by simp at h ⊢; omega) h2
      have h4 := len_signs hok.1 (show 0 < lead k t + 1 by omega)
      have h5 := lead_le k t
      rw [packL_cons, List.length_append]
      simp at h3 ⊢; omega
theorem ok_signAt {k n : Nat} (hk : k ≤ 15) : okSign (signAt k n) = true := by
  unfold signAt
  split
  · simp [okSign, bitsOfCode]; omega
  · split
    · simp [okSign, bitsOfCode]; omega
    · split
      · simp [okSign, bitsOfCode]; omega
      · simp [okSign]; exact ⟨by omega, Nat.two_pow_pos _⟩
theorem ok_rest {k : Nat} (hk : k ≤ 15) : ∀ n, (restOf k n).all okSign = true := by
  intro n
  induction n using Nat.strongRecOn with
  | _ n ih =>
    by_cases hn : 0 < n
    · obtain ⟨h1, h2⟩ := times_signAt hk hn
      rw [restOf_step hk hn, List.all_cons, ok_signAt hk, ih _ (by omega)]; rfl
    · obtain rfl : n = 0 := by omega
      rw [restOf_zero]; rfl
theorem ok_signs {k n : Nat} (hk : k ≤ 15) : (signsOf k n).all okSign = true := by
  unfold signsOf
  split
  · exact ok_rest (by omega) n
  · rw [List.all_cons, ok_rest hk]
    simp [okSign]; exact ⟨by omega, Nat.two_pow_pos _⟩
theorem ok_pack : ∀ (n : Nat) (l : List Nat), l.length ≤ n → okLens l = true → (packL l).all okSign = true := by
  intro n
  induction n with
  | zero =>
    intro l h _
    obtain rfl := List.eq_nil_of_length_eq_zero (show l.length = 0 by omega)
    rw [packL_nil]; rfl
  | succ n ih =>
    intro l h hok
    cases l with
    | nil => rw [packL_nil]; rfl
    | cons k t =>
      simp only [okLens, List.all_cons, Bool.and_eq_true, decide_eq_true_eq] at hok
      have h2 : okLens (t.drop (lead k t)) = true := by
        rw [okLens, List.all_eq_true]
        intro x hx
        exact List.all_eq_true.1 hok.2 x (List.mem_of_mem_drop hx)
      rw [packL_cons, List.all_append, ok_signs hok.1, ih _ (by simp at h ⊢; omega) h2]; rfl
/-- what was packed is unpacked. -/
theorem unpR_pack (l : List Nat) (hok : okLens l = true) (n : Int) : unpR (packL l) n = if (l.length : Int) = n then (l, 0) else ([], 2) := by
  have h := unp_pack [] l.length l [] (Nat.le_refl _) hok
  rw [List.append_nil, List.nil_append] at h
  rw [unpR, if_pos (ok_pack _ l (Nat.le_refl _) hok), h]; rfl
theorem unpR_join (a b : List Nat) (ha : okLens a = true) (hb : okLens b = true) : unpR (packL a ++ packL b) ((a.length : Int) + b.length) = (a ++ b, 0) := by
  have h := unp_pack (packL b) a.length a [] (Nat.le_refl _) ha
  have h2 := unp_pack [] b.length b ([] ++ a) (Nat.le_refl _) hb
  rw [List.append_nil] at h2
  rw [unpR, if_pos (by rw [List.all_append, ok_pack _ a (Nat.le_refl _) ha, ok_pack _ b (Nat.le_refl _) hb]; rfl), h, h2]
  simp [unp]
/-- how few signs a run has. -/
theorem len_rest0 : ∀ n, (restOf 0 n).length ≤ n / 138 + 2 := by
  intro n
  induction n using Nat.strongRecOn with
  | _ n ih =>
    by_cases hn : 0 < n
    · by_cases h138 : 138 ≤ n
      · rw [restOf_step (by omega) hn, show signAt 0 n = (18, 127) by (unfold signAt; rw [if_pos ⟨rfl, by omega⟩, show min n 138 = 138 by omega]), List.length_cons]
        have := ih (n - timesOf (18, 127)) (by simp [timesOf]; omega)
        simp [timesOf] at this ⊢; omega
      · by_cases h3 : 3 ≤ n
        · rw [restOf_step (by omega) hn]
          have ht : timesOf (signAt 0 n) = n := by
            unfold signAt
            by_cases h11 : 11 ≤ n
            · rw [if_pos ⟨rfl, h11⟩]; simp [timesOf]; omega
            · rw [if_neg (by omega), if_pos ⟨rfl, h3⟩]; simp [timesOf]; omega
          rw [ht, Nat.sub_self, restOf_zero]; simp
        · have := len_rest (k := 0) (by omega) n; omega
    · obtain rfl : n = 0 := by omega
      rw [restOf_zero]; simp
theorem len_restk {k : Nat} (hk : k ≤ 15) (h0 : k ≠ 0) : ∀ n, (restOf k n).length ≤ n / 6 + 2 := by
  intro n
  induction n using Nat.strongRecOn with
  | _ n ih =>
    by_cases h6 : 6 ≤ n
    · rw [restOf_step hk (by omega), show signAt k n = (16, 3) by (unfold signAt; rw [if_neg (by omega), if_neg (by omega), if_pos (by omega), show min n 6 = 6 by omega]), List.length_cons]
      have := ih (n - timesOf (16, 3)) (by simp [timesOf]; omega)
      simp [timesOf] at this ⊢; omega
    · by_cases h3 : 3 ≤ n
      · rw [restOf_step hk (by omega)]
        have ht : timesOf (signAt k n) = n := by simp [signAt, h0, h3, timesOf]; omega
        rw [ht, Nat.sub_self, restOf_zero]; simp
      · have := len_rest hk n; omega
theorem lead_rep (k n : Nat) : lead k (List.replicate n k) = n := by
  induction n with
  | zero => rfl
  | succ n ih => rw [List.replicate_succ, lead, if_pos rfl, ih]
theorem packL_rep (k n : Nat) : packL (List.replicate n k) = if n = 0 then [] else signsOf k n := by
  cases n with
  | zero => exact packL_nil
  | succ n => rw [List.replicate_succ, packL_cons, lead_rep, List.drop_of_length_le (by simp), packL_nil]; simp
theorem len_run (k n : Nat) (hk : k ≤ 15) : (packL (List.replicate n k)).length ≤ if 0 < k then n / 6 + 3 else n / 138 + 2 := by
  rw [packL_rep]
  split
  · simp
  · unfold signsOf
    by_cases h : k = 0
    · subst h; simpa using len_rest0 n
    · rw [if_neg h, if_pos (by omega), List.length_cons]
      have := len_restk hk h (n - 1)
      omega
theorem okLens_rep (k n : Nat) (hk : k ≤ 15) : okLens (List.replicate n k) = true := by
  rw [okLens, List.all_eq_true]
  intro x hx
  rw [List.eq_of_mem_replicate hx]; simpa using hk
end Go.Proofs.YtbbcphloafmldaaGreat
