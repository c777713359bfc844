/-
  A region that draws its order and whose operations may turn memory: each owned thing that stands in a slot is handed to the one operation that reads it, which may turn its blocks and no others. No program is named here.
-/
import Derived.Test.YtbbcphloafmldaaGreatGrowReZ
namespace Go.Proofs.YtbbcphloafmldaaGreat
open Go.RowKit
set_option linter.unusedVariables false

/-- whence operation i has what it reads in slot t: the place of the operation that wrote it; or l.length + t: it stood there when the region began. -/
def keyOf (l : List Oper) (i t : Nat) : Nat := if baseB l i t then l.length + t else ((List.range l.length).find? fun j => (l[j]?).bind (·.dst) == some t).getD l.length
def keysOf (l : List Oper) (i : Nat) : List Nat := match l[i]? with | some o => (reads l o).map (keyOf l i) | none => []
/-- what is owned is read once. -/
def linB (l : List Oper) (mem : List Nat) : Bool :=
  (List.range l.length).all fun i => (List.range l.length).all fun j => i == j || (keysOf l i).all fun x => !(mem.contains x) || !((keysOf l j).contains x)
abbrev Blocks := Nat → Prop
section
variable (P : Program) (l : List Oper) (w0 : World) (T0 : Blocks) (D : Nat → Value → World → Blocks → Prop) (mem : List Nat)
def KnowD (i : Nat) (ev : Operand → Value) (w : World) (Ss : Nat → Blocks) : List Nat → Prop
  | [] => True
  | t :: r => D (keyOf l i t) (ev (.tmp t)) w (Ss (keyOf l i t)) ∧ KnowD i ev w Ss r
/-- the blocks that operation i may turn. -/
def Handed (i : Nat) (Ss : Nat → Blocks) : Blocks := fun k => ∃ x, x ∈ keysOf l i ∧ x ∈ mem ∧ Ss x k
def OblD (i : Nat) (o : Oper) : Prop :=
  ∀ (ev : Operand → Value) (w : World) (Ss : Nat → Blocks), Evs ev → Touch T0 w0 w → KnowD l D i ev w Ss (reads l o) → (∀ x y, x ∈ keysOf l i → y ∈ keysOf l i → x ≠ y → ∀ k, Ss x k → ¬ Ss y k) → (∀ x, x ∈ keysOf l i → ∀ k, Ss x k → T0 k ∨ w0.heap.size ≤ k) →
    if Region.wanted o (saysOf l ev) then RunsTo P o ev w (fun v w' => Touch (Handed l mem i Ss) w w' ∧ ∃ S' : Blocks, (∀ k, S' k → Handed l mem i Ss k ∨ w.heap.size ≤ k) ∧ (o.dst.isSome = true → D i v w' S')) else o.dst.isSome = true → D i undef w (fun _ => False)
def OblDs : Nat → List Oper → Prop
  | _, [] => True
  | i, o :: r => OblD P l w0 T0 D mem i o ∧ OblDs (i + 1) r
end
section
variable {P : Program} {l : List Oper} {w0 : World} {T0 : Blocks} {D : Nat → Value → World → Blocks → Prop} {mem : List Nat} {a0 : Act} {B : List Nat}
theorem OblDs.get : ∀ {r : List Oper} {k : Nat}, OblDs P l w0 T0 D mem k r → ∀ i o, r[i]? = some o → OblD P l w0 T0 D mem (k + i) o
  | [], _, _, i, o, h => by simp at h
  | x :: r, k, h, i, o, ho => by
    cases i with
    | zero => simp at ho; subst ho; exact h.1
    | succ i =>
      have := OblDs.get h.2 i o (by simpa using ho)
      rw [show k + (i + 1) = k + 1 + i by omega]
      exact this
theorem knowD_all {i : Nat} {ev : Operand → Value} {w : World} {Ss : Nat → Blocks} : ∀ {r : List Nat}, (∀ t ∈ r, D (keyOf l i t) (ev (.tmp t)) w (Ss (keyOf l i t))) → KnowD l D i ev w Ss r
  | [], _ => trivial
  | t :: _, h => ⟨h t (List.mem_cons_self ..), knowD_all fun u hu => h u (List.mem_cons_of_mem _ hu)⟩
/-- has not been handed on yet. -/
def Live (l : List Oper) (mem : List Nat) (listed : Array Bool) (x : Nat) : Prop := ¬ (x ∈ mem ∧ ∃ i, listed.getD i false = true ∧ x ∈ keysOf l i)
def Here (l : List Oper) (B : List Nat) (listed : Array Bool) (x : Nat) : Prop := (x < l.length ∧ listed.getD x false = true ∧ ((l[x]?).bind (·.dst)).isSome = true) ∨ ∃ t, t ∈ B ∧ x = l.length + t
structure MidD (l : List Oper) (w0 : World) (T0 : Blocks) (D : Nat → Value → World → Blocks → Prop) (mem : List Nat) (a0 : Act) (B : List Nat) (listed : Array Bool) (a : Act) (w : World) (Ss : Nat → Blocks) : Prop where
  size : listed.size = l.length
  defers : a.defers = a0.defers
  tsize : a.tmps.size = a0.tmps.size
  others : ∀ t, t ∉ dsts l → a.tmps.getD t undef = a0.tmps.getD t undef
  closed : ∀ j oj, l[j]? = some oj → listed.getD j false = true → ∀ e ∈ oj.after, Region.binds .any e = true → listed.getD e.on false = true
  unw : ∀ j oj d, l[j]? = some oj → oj.dst = some d → listed.getD j false = false → a.tmps.getD d undef = a0.tmps.getD d undef
  touch : Touch T0 w0 w
  own : ∀ j oj d, l[j]? = some oj → oj.dst = some d → listed.getD j false = true → Live l mem listed j → D j (a.tmps.getD d undef) w (Ss j)
  base : ∀ t, t ∈ B → Live l mem listed (l.length + t) → D (l.length + t) (a0.tmps.getD t undef) w (Ss (l.length + t))
  sub : ∀ x, Here l B listed x → Live l mem listed x → ∀ k, Ss x k → T0 k ∨ w0.heap.size ≤ k
  dis : ∀ x y, Here l B listed x → Live l mem listed x → Here l B listed y → Live l mem listed y → x ≠ y → ∀ k, Ss x k → ¬ Ss y k

theorem mem_keys {i t : Nat} {o : Oper} (ho : l[i]? = some o) (ht : t ∈ reads l o) : keyOf l i t ∈ keysOf l i := by
  unfold keysOf; rw [ho]; exact List.mem_map.2 ⟨t, ht, rfl⟩
theorem lin_one (h : linB l mem = true) {i j x : Nat} (hi : i < l.length) (hj : j < l.length) (hx : x ∈ mem) (h1 : x ∈ keysOf l i) (h2 : x ∈ keysOf l j) : i = j := by
  have h3 := List.all_eq_true.1 (List.all_eq_true.1 h i (List.mem_range.2 hi)) j (List.mem_range.2 hj)
  rw [Bool.or_eq_true] at h3
  rcases h3 with h3 | h3
  · simpa using h3
  · have h4 := List.all_eq_true.1 h3 x h1
    simp [hx, h2] at h4
theorem keys_lt {i x : Nat} (h : x ∈ keysOf l i) : i < l.length := by
  unfold keysOf at h
  split at h
  · rename_i o ho; exact (List.getElem?_eq_some_iff.1 ho).1
  · cases h
/-- the writer of a slot. -/
theorem key_own (hone : onceB l = true) {i t j : Nat} {oj : Oper} (hb : ¬ baseB l i t = true) (hj : l[j]? = some oj) (hd : oj.dst = some t) : keyOf l i t = j := by
  unfold keyOf
  rw [if_neg hb]
  have hjl := (List.getElem?_eq_some_iff.1 hj).1
  cases hf : (List.range l.length).find? (fun j => (l[j]?).bind (·.dst) == some t) with
  | none =>
    have := List.find?_eq_none.1 hf j (List.mem_range.2 hjl)
    simp [hj, hd] at this
  | some k =>
    have hk := List.find?_some hf
    have hkl := List.mem_range.1 (List.mem_of_find?_eq_some hf)
    simp only [beq_iff_eq] at hk
    show k = j
    apply Classical.byContradiction
    intro hne
    have h1 := List.all_eq_true.1 (List.all_eq_true.1 hone k (List.mem_range.2 hkl)) j (List.mem_range.2 hjl)
    rw [hk, hj] at h1
    simp [hd, hne] at h1

/-- one operation that may come up. -/
theorem MidD.step (hst : ∀ x v w1 w2 S S', D x v w1 S → Touch S' w1 w2 → (∀ k, S k → ¬ S' k) → D x v w2 S) (hlt : ∀ x v w S, D x v w S → ∀ k, S k → k < w.heap.size) (hpure : ∀ x v w S, x ∉ mem → D x v w S → ∀ k, ¬ S k)
    (hone : onceB l = true) (hg : growB3 l = true) (hlin : linB l mem = true) (hd : ∀ d ∈ dsts l, d < a0.tmps.size)
    (hB : ∀ i o, l[i]? = some o → ∀ t ∈ reads l o, baseB l i t = true → t ∈ B) {Q : Exit → Act → World → Prop} {K : Act → World → Prop}
    {listed : Array Bool} {a : Act} {w : World} {Ss : Nat → Blocks} {i : Nat} (h : MidD l w0 T0 D mem a0 B listed a w Ss) (hi : i ∈ Region.ready .any l.toArray listed) (hopi : ∀ o, l[i]? = some o → OblD P l w0 T0 D mem i o)
    (hK : ∀ a' w' Ss', MidD l w0 T0 D mem a0 B (listed.setIfInBounds i true) a' w' Ss' → K a' w') : wpOp P l.toArray Q i K a w := by
  simp only [Region.ready, List.mem_filter, List.mem_range, List.size_toArray, Bool.and_eq_true] at hi
  obtain ⟨hil, hnl, haft⟩ := hi
  obtain ⟨o, ho⟩ : ∃ o, l[i]? = some o := ⟨_, List.getElem?_eq_getElem hil⟩
  have hgi := List.all_eq_true.1 hg i (List.mem_range.2 hil)
  simp only [ho, Bool.and_eq_true] at hgi
  obtain ⟨⟨⟨_, hr⟩, _⟩, _⟩ := hgi
  simp only [List.getElem?_toArray, ho, Option.map_some, Option.getD_some] at haft
  have haft2 : ∀ e ∈ o.after, Region.binds .any e = true → listed.getD e.on false = true := by
    intro e he hb
    obtain ⟨k, hk, rfl⟩ := Array.getElem_of_mem he
    have h3 := (Array.all_eq_true.1 haft) k hk
    simpa [hb] using h3
  have hisz : i < listed.size := by rw [h.size]; exact hil
  have hnl2 : listed.getD i false = false := by
    have : listed.getD i true = listed.getD i false := by simp only [Array.getD_eq_getD_getElem?, Array.getElem?_eq_getElem hisz, Option.getD_some]
    rw [← this]; simpa using hnl
  have hset : (listed.setIfInBounds i true).getD i false = true := by simp [Array.getD_eq_getD_getElem?, hisz]
  -- the sources are here, and live
  have hlive : ∀ x, x ∈ keysOf l i → Live l mem listed x := by
    rintro x hx ⟨hm, j, hj, hxj⟩
    have := lin_one hlin hil (keys_lt hxj) hm hx hxj
    rw [← this, hnl2] at hj; cases hj
  have hsrc : ∀ t ∈ reads l o, Here l B listed (keyOf l i t) ∧ D (keyOf l i t) (a.tmps.getD t undef) w (Ss (keyOf l i t)) := by
    intro t ht
    have hkl := hlive _ (mem_keys ho ht)
    by_cases hbs : baseB l i t = true
    · have hkey : keyOf l i t = l.length + t := by unfold keyOf; rw [if_pos hbs]
      rw [hkey] at hkl ⊢
      have htB := hB i o ho t ht hbs
      have hsame : a.tmps.getD t undef = a0.tmps.getD t undef := by
        simp only [baseB, Bool.or_eq_true, Bool.not_eq_true'] at hbs
        rcases hbs with hbs | hbs
        · exact h.others t (by simpa using hbs)
        · obtain ⟨j, hj, hjm⟩ := List.any_eq_true.1 hbs
          have hjl : j < l.length := List.mem_range.1 hj
          obtain ⟨oj, hoj⟩ : ∃ oj, l[j]? = some oj := ⟨_, List.getElem?_eq_getElem hjl⟩
          rw [hoj] at hjm
          simp only [Bool.and_eq_true, beq_iff_eq, Array.any_eq_true] at hjm
          obtain ⟨hjd, k, hk, hb2, hon⟩ := hjm
          refine h.unw j oj t hoj hjd ?_
          cases hlj : listed.getD j false with
          | false => rfl
          | true =>
            have := h.closed j oj hoj hlj _ (Array.getElem_mem hk) hb2
            rw [hon, hnl2] at this; cases this
      rw [hsame]
      exact ⟨Or.inr ⟨t, htB, rfl⟩, h.base t htB hkl⟩
    · have hdt : t ∈ dsts l := by
        apply Classical.byContradiction
        intro hn
        exact hbs (by simp [baseB, hn])
      obtain ⟨oj, hoj, hjd⟩ := List.mem_filterMap.1 hdt
      obtain ⟨j, hj⟩ := List.getElem?_of_mem hoj
      have hjl : j < l.length := (List.getElem?_eq_some_iff.1 hj).1
      have h0 := List.all_eq_true.1 hr t ht
      rw [Bool.or_eq_true] at h0
      have h1 := List.all_eq_true.1 (h0.resolve_left hbs) j (List.mem_range.2 hjl)
      simp only [hj, Option.bind_some, hjd, BEq.rfl, Bool.not_true, Bool.false_or, Array.any_eq_true, Bool.and_eq_true, beq_iff_eq] at h1
      obtain ⟨k, hk, hb, hon⟩ := h1
      have h2 := haft2 _ (Array.getElem_mem hk) hb
      rw [hon] at h2
      have hkey := key_own hone hbs hj hjd
      rw [hkey] at hkl ⊢
      exact ⟨Or.inl ⟨hjl, h2, by rw [hj]; simp [hjd]⟩, h.own j oj t hj hjd h2 hkl⟩
  have hhere : ∀ x, x ∈ keysOf l i → Here l B listed x := by
    intro x hx
    unfold keysOf at hx
    rw [ho] at hx
    obtain ⟨t, ht, rfl⟩ := List.mem_map.1 hx
    exact (hsrc t ht).1
  have hobl := hopi o ho a.eval w Ss ⟨fun _ => rfl, fun _ => rfl, fun _ => rfl⟩ h.touch (by exact knowD_all (fun t ht => (hsrc t ht).2)) (by exact fun x y hx hy hne => h.dis x y (hhere x hx) (hlive x hx) (hhere y hy) (hlive y hy) hne) (by exact fun x hx => h.sub x (hhere x hx) (hlive x hx))
  have hsay : saysOf l a.eval = yielded l.toArray a.tmps := funext (yielded_says a)
  rw [hsay] at hobl
  have hclosed : ∀ j oj, l[j]? = some oj → (listed.setIfInBounds i true).getD j false = true → ∀ e ∈ oj.after, Region.binds .any e = true → (listed.setIfInBounds i true).getD e.on false = true := by
    intro j oj hj hlj e he hb
    refine listed_put ?_
    rcases put_listed hlj with rfl | hlj
    · rw [ho] at hj; cases hj
      exact haft2 e he hb
    · exact h.closed j oj hj hlj e he hb
  have hput : ∀ v j oj d, l[j]? = some oj → oj.dst = some d → j ≠ i → (a.put o.dst v).tmps.getD d undef = a.tmps.getD d undef := by
    intro v j oj d hj hjd hij
    cases hod : o.dst with
    | none => rfl
    | some d' =>
      have hne : d ≠ d' := by
        intro e; subst e
        have hjl : j < l.length := (List.getElem?_eq_some_iff.1 hj).1
        have h1 := List.all_eq_true.1 (List.all_eq_true.1 hone j (List.mem_range.2 hjl)) i (List.mem_range.2 hil)
        simp [hj, ho, hjd, hod, hij] at h1
      exact getD_put_ne _ _ _ _ hne
  have hunw : ∀ v j oj d, l[j]? = some oj → oj.dst = some d → (listed.setIfInBounds i true).getD j false = false → (a.put o.dst v).tmps.getD d undef = a0.tmps.getD d undef := by
    intro v j oj d hj hjd hlj
    have hij : j ≠ i := by
      intro e
      rw [e, hset] at hlj; cases hlj
    have hlj2 : listed.getD j false = false := by
      simp only [Array.getD_eq_getD_getElem?] at hlj ⊢
      rwa [Array.getElem?_setIfInBounds_ne (Ne.symm hij)] at hlj
    rw [hput v j oj d hj hjd hij]
    exact h.unw j oj d hj hjd hlj2
  have hothers : ∀ v t, t ∉ dsts l → (a.put o.dst v).tmps.getD t undef = a0.tmps.getD t undef := by
    intro v t ht
    cases hod : o.dst with
    | none => exact h.others t ht
    | some d' =>
      have hne : t ≠ d' := by
        rintro rfl
        exact ht (List.mem_filterMap.2 ⟨o, List.mem_of_getElem? ho, hod⟩)
      rw [getD_put_ne _ _ _ _ hne]
      exact h.others t ht
  -- what lives behind it lived ahead of it, and was not handed to it
  have hlive2 : ∀ x, Live l mem (listed.setIfInBounds i true) x → Live l mem listed x ∧ ¬ (x ∈ keysOf l i ∧ x ∈ mem) := by
    intro x hx
    refine ⟨fun ⟨hm, j, hj, hxj⟩ => hx ⟨hm, j, listed_put hj, hxj⟩, fun ⟨h1, h2⟩ => hx ⟨h2, i, hset, h1⟩⟩
  have hhere2 : ∀ x, Here l B (listed.setIfInBounds i true) x → x ≠ i → Here l B listed x := by
    rintro x (⟨h1, h2, h3⟩ | h1) hne
    · exact Or.inl ⟨h1, (put_listed h2).resolve_left hne, h3⟩
    · exact Or.inr h1
  have hnotmem : ∀ x, Here l B listed x → Live l mem listed x → ¬ (x ∈ keysOf l i ∧ x ∈ mem) → ∀ k, Ss x k → ¬ Handed l mem i Ss k := by
    rintro x hx hlx hn k hk ⟨y, hy, hym, hyk⟩
    by_cases hxy : x = y
    · subst hxy; exact hn ⟨hy, hym⟩
    · exact h.dis x y hx hlx (hhere y hy) (hlive y hy) hxy k hk hyk
  have next : ∀ v w' (S' : Blocks), Touch (Handed l mem i Ss) w w' → (∀ k, S' k → Handed l mem i Ss k ∨ w.heap.size ≤ k) → (o.dst.isSome = true → D i v w' S') → K (a.put o.dst v) w' := by
    intro v w' S' t1 t2 t3
    have hT : ∀ k, Handed l mem i Ss k → T0 k ∨ w0.heap.size ≤ k := by
      rintro k ⟨x, hx, _, hk⟩
      exact h.sub x (hhere x hx) (hlive x hx) k hk
    have hD : ∀ x vx, Here l B listed x → Live l mem (listed.setIfInBounds i true) x → D x vx w (Ss x) → D x vx w' (Ss x) := fun x vx hx hlx hdx => by
      obtain ⟨h1, h2⟩ := hlive2 x hlx
      exact hst x vx w w' _ _ hdx t1 (hnotmem x hx h1 h2)
    have hbi : ∀ t, l.length + t ≠ i := fun t => by omega
    refine hK _ _ (fun x => if x = i then S' else Ss x) ⟨by simpa using h.size, by cases o.dst <;> simp [Act.put, h.defers], by cases o.dst <;> simp [Act.put, h.tsize], hothers v, hclosed, hunw v, ?_, ?_, ?_, ?_, ?_⟩
    · refine ⟨t1.os.trans h.touch.os, t1.tape.trans h.touch.tape, t1.output.trans h.touch.output, Nat.le_trans h.touch.size t1.size, fun k hk hn => (t1.block k (Nat.lt_of_lt_of_le hk h.touch.size) (fun hh => ?_)).trans (h.touch.block k hk hn)⟩
      rcases hT k hh with e | e
      · exact hn e
      · omega
    · intro j oj d hj hjd hlj hlv
      show D j _ w' (if j = i then S' else Ss j)
      by_cases hji : j = i
      · subst hji
        rw [if_pos rfl]
        rw [ho] at hj; cases hj
        have : d < a.tmps.size := by rw [h.tsize]; exact hd d (List.mem_filterMap.2 ⟨o, List.mem_of_getElem? ho, hjd⟩)
        rw [hjd, getD_put _ _ _ this]
        exact t3 (by rw [hjd]; rfl)
      · rw [if_neg hji, hput v j oj d hj hjd hji]
        have hlj2 := (put_listed hlj).resolve_left hji
        have hjl : j < l.length := (List.getElem?_eq_some_iff.1 hj).1
        exact hD j _ (Or.inl ⟨hjl, hlj2, by rw [hj]; simp [hjd]⟩) hlv (h.own j oj d hj hjd hlj2 (hlive2 j hlv).1)
    · intro t ht hlv
      show D (l.length + t) _ w' (if l.length + t = i then S' else Ss (l.length + t))
      rw [if_neg (hbi t)]
      exact hD _ _ (Or.inr ⟨t, ht, rfl⟩) hlv (h.base t ht (hlive2 _ hlv).1)
    · intro x hx hlv k hk
      have hk : (if x = i then S' else Ss x) k := hk
      by_cases hxi : x = i
      · rw [if_pos hxi] at hk
        rcases t2 k hk with e | e
        · exact hT k e
        · exact Or.inr (Nat.le_trans h.touch.size e)
      · rw [if_neg hxi] at hk
        exact h.sub x (hhere2 x hx hxi) (hlive2 x hlv).1 k hk
    · intro x y hx hlx hy hly hne k hk hk2
      have hk : (if x = i then S' else Ss x) k := hk
      have hk2 : (if y = i then S' else Ss y) k := hk2
      have hb : ∀ z, Here l B listed z → Live l mem listed z → Ss z k → k < w.heap.size := by
        rintro z (⟨z1, z2, z3⟩ | ⟨t, ht, rfl⟩) hlz hz
        · obtain ⟨oz, hoz⟩ : ∃ oz, l[z]? = some oz := ⟨_, List.getElem?_eq_getElem z1⟩
          rw [hoz] at z3
          obtain ⟨d, hd2⟩ := Option.isSome_iff_exists.1 z3
          exact hlt _ _ _ _ (h.own z oz d hoz (by simpa using hd2) z2 hlz) k hz
        · exact hlt _ _ _ _ (h.base t ht hlz) k hz
      by_cases hxi : x = i <;> by_cases hyi : y = i
      · omega
      · rw [if_pos hxi] at hk; rw [if_neg hyi] at hk2
        obtain ⟨hl1, hl2⟩ := hlive2 y hly
        rcases t2 k hk with e | e
        · exact hnotmem y (hhere2 y hy hyi) hl1 hl2 k hk2 e
        · have := hb y (hhere2 y hy hyi) hl1 hk2; omega
      · rw [if_neg hxi] at hk; rw [if_pos hyi] at hk2
        obtain ⟨hl1, hl2⟩ := hlive2 x hlx
        rcases t2 k hk2 with e | e
        · exact hnotmem x (hhere2 x hx hxi) hl1 hl2 k hk e
        · have := hb x (hhere2 x hx hxi) hl1 hk; omega
      · rw [if_neg hxi] at hk; rw [if_neg hyi] at hk2
        exact h.dis x y (hhere2 x hx hxi) (hlive2 x hlx).1 (hhere2 y hy hyi) (hlive2 y hly).1 hne k hk hk2
  unfold wpOp
  simp only [List.getElem?_toArray, ho]
  split
  · rename_i hw
    rw [if_pos hw] at hobl
    refine Or.inl ?_
    unfold RunsTo at hobl
    unfold Oper.wp
    generalize (execOp a.eval o).run P w = r at hobl
    cases r with
    | halt x w' => simp [runsUpon] at hobl
    | ok n w' =>
      cases n <;> simp only [runsUpon] at hobl <;> simp only [Oper.upon]
      case value v => obtain ⟨k1, S', k2, k3⟩ := hobl; exact next _ _ S' k1 k2 k3
      case skip => obtain ⟨k1, S', k2, k3⟩ := hobl; exact next _ _ S' k1 k2 k3
      case enter f args =>
        refine hobl.mono ?_
        rintro e w'' ⟨v, rfl, k1, S', k2, k3⟩
        exact next _ _ S' k1 k2 k3
  · rename_i hw
    rw [if_neg hw] at hobl
    exact next _ _ (fun _ => False) (Touch.refl _ _) (fun k hk => hk.elim) hobl

theorem own_any (hst : ∀ x v w1 w2 S S', D x v w1 S → Touch S' w1 w2 → (∀ k, S k → ¬ S' k) → D x v w2 S) (hlt : ∀ x v w S, D x v w S → ∀ k, S k → k < w.heap.size) (hpure : ∀ x v w S, x ∉ mem → D x v w S → ∀ k, ¬ S k)
    (hone : onceB l = true) (hg : growB3 l = true) (hlin : linB l mem = true) (hd : ∀ d ∈ dsts l, d < a0.tmps.size)
    (hB : ∀ i o, l[i]? = some o → ∀ t ∈ reads l o, baseB l i t = true → t ∈ B) (hops : OblDs P l w0 T0 D mem 0 l) {Q : Exit → Act → World → Prop}
    (hend : ∀ (a : Act) (w : World) (listed : Array Bool) Ss, MidD l w0 T0 D mem a0 B listed a w Ss → (∀ j, j < l.length → listed.getD j false = true) → Q .normal a w) :
    ∀ (fuel : Nat) (listed : Array Bool) (a : Act) (w : World) Ss, MidD l w0 T0 D mem a0 B listed a w Ss → (listed.toList.filter (! ·)).length ≤ fuel → wpAny P .any l.toArray Q fuel listed a w := by
  intro fuel
  induction fuel with
  | zero =>
    intro listed a w Ss h hf
    have hr : Region.ready .any l.toArray listed = [] := by
      rw [List.eq_nil_iff_forall_not_mem]
      intro i hi
      simp only [Region.ready, List.mem_filter, List.mem_range, List.size_toArray, Bool.and_eq_true] at hi
      have h0 : listed.toList.filter (! ·) = [] := List.eq_nil_of_length_eq_zero (by omega)
      have hil : i < listed.size := by rw [h.size]; exact hi.1
      have hm : listed[i] ∈ listed.toList := by simp
      have hx : (! listed[i]) = true := by
        have := hi.2.1
        simpa [Array.getD_eq_getD_getElem?, Array.getElem?_eq_getElem hil] using this
      have : listed[i] ∈ listed.toList.filter (! ·) := List.mem_filter.2 ⟨hm, hx⟩
      rw [h0] at this
      cases this
    exact ⟨hr, hend _ _ _ _ h (ready_all3 hg h.size hr)⟩
  | succ fuel ih =>
    intro listed a w Ss h hf
    refine ⟨fun hr => hend _ _ _ _ h (ready_all3 hg h.size hr), fun i hi => ?_⟩
    refine h.step hst hlt hpure hone hg hlin hd hB hi (fun o ho => by have q := OblDs.get hops i o ho; rwa [Nat.zero_add] at q) fun a' w' Ss' h' => ih _ _ _ _ h' ?_
    simp only [Region.ready, List.mem_filter, List.mem_range, List.size_toArray, Bool.and_eq_true] at hi
    have hil : i < listed.size := by rw [h.size]; exact hi.1
    have hx : listed[i] = false := by
      have := hi.2.1
      simpa [Array.getD_eq_getD_getElem?, Array.getElem?_eq_getElem hil] using this
    have key : ∀ (m : List Bool) (k : Nat), m[k]? = some false → ((m.set k true).filter (! ·)).length + 1 = (m.filter (! ·)).length := by
      intro m
      induction m with
      | nil => intro k hk; simp at hk
      | cons b m ihm =>
        intro k hk
        cases k with
        | zero => simp at hk; subst hk; simp
        | succ k =>
          simp only [List.set_cons_succ]
          have := ihm k (by simpa using hk)
          cases b <;> simp <;> omega
    have hk := key listed.toList i (by simp [Array.getElem?_toList, Array.getElem?_eq_getElem hil, hx])
    have e2 : (listed.setIfInBounds i true).toList = listed.toList.set i true := by simp
    rw [e2]; omega
end
/-- what is left behind: handed on, or still there. -/
def Left (l : List Oper) (mem : List Nat) (x : Nat) : Bool := !(mem.contains x && (List.range l.length).any fun i => (keysOf l i).contains x)
/-- what is known of the base's slots when the region begins. -/
structure BaseD (l : List Oper) (w0 : World) (T0 : Blocks) (D : Nat → Value → World → Blocks → Prop) (B : List Nat) (a : Act) : Prop where
  is : ∃ Ss : Nat → Blocks, (∀ t ∈ B, D (l.length + t) (a.tmps.getD t undef) w0 (Ss t) ∧ ∀ k, Ss t k → T0 k ∨ w0.heap.size ≤ k) ∧ ∀ t ∈ B, ∀ u ∈ B, t ≠ u → ∀ k, Ss t k → ¬ Ss u k
/-- **THE LAW**: a region that draws; each operation may turn what is handed to it. mem: the places (of operations; l.length + t: of slot t as the region begins) whose values own memory. -/
theorem wp_region_own {P : Program} {l : List Oper} {id : Nat} {Q : Exit → Act → World → Prop} {a : Act} {w : World} (n : Nat) (B dl : List Nat) (mem : List Nat) (T0 : Blocks) (D : Nat → Value → World → Blocks → Prop) (hm : P.follows .mixedOrders = true)
    (hst : ∀ x v w1 w2 S S', D x v w1 S → Touch S' w1 w2 → (∀ k, S k → ¬ S' k) → D x v w2 S) (hlt : ∀ x v w S, D x v w S → ∀ k, S k → k < w.heap.size) (hpure : ∀ x v w S, x ∉ mem → D x v w S → ∀ k, ¬ S k)
    (hB : (growB3 l && onceB l && linB l mem && ((dsts l).all fun d => decide (d < n)) && ((List.range l.length).all fun i => match l[i]? with | some o => (reads l o).all fun t => !baseB l i t || B.contains t | none => true)) = true) (hD : dsts l = dl)
    (hn : a.tmps.size = n) (hbase : BaseD l w.drew T0 D B a)
    (hops : OblDs P l w.drew T0 D mem 0 l)
    (hend : ∀ (vs : Nat → Value) (w' : World) (Ss : Nat → Blocks), Touch T0 w w' →
      (∀ j (oj : Oper) d, l[j]? = some oj → oj.dst = some d → Left l mem j = true → D j (vs d) w' (Ss j) ∧ ∀ k, Ss j k → T0 k ∨ w.heap.size ≤ k) →
      (∀ t ∈ B, Left l mem (l.length + t) = true → D (l.length + t) (a.tmps.getD t undef) w' (Ss (l.length + t)) ∧ ∀ k, Ss (l.length + t) k → T0 k ∨ w.heap.size ≤ k) →
      Q .normal (dl.foldl (fun a d => a.put (some d) (vs d)) a) w') : (Code.region id l.toArray true).wp P Q a w := by
  simp only [Bool.and_eq_true] at hB
  subst hn
  subst hD
  refine wp_region_any hm ?_
  have hrep : ∀ j, (Array.replicate l.toArray.size false).getD j false = false := by
    intro j
    simp only [Array.getD_eq_getD_getElem?, Array.getElem?_replicate]
    split <;> rfl
  obtain ⟨⟨S0, hb1, hb2⟩⟩ := hbase
  refine own_any (a0 := a) (D := D) (w0 := w.drew) (T0 := T0) (mem := mem) (B := B) hst hlt hpure hB.1.1.1.2 hB.1.1.1.1 hB.1.1.2 (fun d hd => of_decide_eq_true (List.all_eq_true.1 hB.1.2 d hd)) ?_ hops ?_ _ _ _ _ (fun x => S0 (x - l.length)) ?_ ?_
  · intro i o ho t ht hb
    have h1 := List.all_eq_true.1 hB.2 i (List.mem_range.2 (List.getElem?_eq_some_iff.1 ho).1)
    rw [ho] at h1
    have h2 := List.all_eq_true.1 h1 t ht
    simpa [hb] using h2
  · intro a' w' listed Ss h hall
    have hleft : ∀ x, Left l mem x = true → Live l mem listed x := by
      rintro x hx ⟨hm, i, _, hi⟩
      simp only [Left, Bool.not_eq_true', Bool.and_eq_false_iff] at hx
      rcases hx with hx | hx
      · simp [hm] at hx
      · have := List.any_eq_false.1 hx i (List.mem_range.2 (keys_lt hi))
        simp [hi] at this
    have e : a' = (dsts l).foldl (fun a d => a.put (some d) (a'.tmps.getD d undef)) a := by
      refine act_eq (by rw [puts_defers (fun d => a'.tmps.getD d undef)]; exact h.defers) (by rw [puts_size (fun d => a'.tmps.getD d undef)]; exact h.tsize) (fun t ht => ?_)
      rw [puts_get (fun d => a'.tmps.getD d undef) t _ _ (by have := h.tsize; omega)]
      by_cases ht2 : t ∈ dsts l
      · rw [if_pos ht2]
      · rw [if_neg ht2]; exact h.others t ht2
    rw [e]
    have ht : Touch T0 w w' := ⟨h.touch.os, h.touch.tape, h.touch.output, h.touch.size, h.touch.block⟩
    refine hend (fun d => a'.tmps.getD d undef) w' Ss ht (fun j oj d hj hjd hx => ?_) (fun t htB hx => ?_)
    · have hjl : j < l.length := (List.getElem?_eq_some_iff.1 hj).1
      exact ⟨h.own j oj d hj hjd (hall j hjl) (hleft j hx), h.sub j (Or.inl ⟨hjl, hall j hjl, by rw [hj]; simp [hjd]⟩) (hleft j hx)⟩
    · exact ⟨h.base t htB (hleft _ hx), h.sub _ (Or.inr ⟨t, htB, rfl⟩) (hleft _ hx)⟩
  · refine ⟨by simp, rfl, rfl, fun _ _ => rfl, fun j oj _ hl => ?_, fun _ _ _ _ _ _ => rfl, Touch.refl _ _, fun j oj d hj hd hl => ?_, fun t ht _ => ?_, fun x hx _ => ?_, fun x y hx _ hy _ hne => ?_⟩
    · rw [hrep] at hl; cases hl
    · rw [hrep] at hl; cases hl
    · have := (hb1 t ht).1
      show D (l.length + t) _ _ (S0 (l.length + t - l.length))
      rw [Nat.add_sub_cancel_left]
      exact this
    · rcases hx with ⟨_, h2, _⟩ | ⟨t, ht, rfl⟩
      · rw [hrep] at h2; cases h2
      · show ∀ k, S0 (l.length + t - l.length) k → _
        rw [Nat.add_sub_cancel_left]
        exact (hb1 t ht).2
    · rcases hx with ⟨_, h2, _⟩ | ⟨t, ht, rfl⟩
      · rw [hrep] at h2; cases h2
      · rcases hy with ⟨_, h2, _⟩ | ⟨u, hu, rfl⟩
        · rw [hrep] at h2; cases h2
        · show ∀ k, S0 (l.length + t - l.length) k → ¬ S0 (l.length + u - l.length) k
          rw [Nat.add_sub_cancel_left, Nat.add_sub_cancel_left]
          exact hb2 t ht u hu (fun e => hne (by rw [e]))
  · simp only [List.size_toArray, Array.toList_replicate]
    exact Nat.le_trans (List.length_filter_le _ _) (by simp)
/-- a word on what owns memory. -/
structure Word where
  has : Value → World → Blocks → Prop
  keep : ∀ {v : Value} {w w' : World} {S S' : Blocks}, has v w S → Touch S' w w' → (∀ k, S k → ¬ S' k) → has v w' S
  lt : ∀ {v : Value} {w : World} {S : Blocks}, has v w S → ∀ k, S k → k < w.heap.size
/-- a row that is owned. -/
def wOwn (ty : TypeId) (xs : List Value) : Word where
  has v w S := ∃ og, Owns w ty 1 v og xs.length xs ∧ ∀ k, S k ↔ og = some k
  keep := fun ⟨og, h, e⟩ t n => ⟨og, h.keep t (fun g eg => n g ((e g).2 eg)), e⟩
  lt := fun ⟨og, h, e⟩ k hk => h.lt k ((e k).1 hk)
/-- what is said of a place: its value; or a word of its own. -/
def PhiD (F : List (Nat × Value)) (W : List (Nat × Word)) (x : Nat) (v : Value) (w : World) (S : Blocks) : Prop :=
  match W.lookup x with
  | some T => T.has v w S
  | none => (match F.lookup x with | some c => v = c | none => True) ∧ ∀ k, ¬ S k
theorem lookup_some {α : Type} : ∀ {l : List (Nat × α)} {t : Nat}, t ∈ l.map (·.1) → ∃ x, l.lookup t = some x
  | [], t, h => by simp at h
  | y :: l, t, h => by
    simp only [List.lookup]
    split
    · exact ⟨_, rfl⟩
    · rename_i hne
      refine lookup_some ?_
      simp only [List.map_cons, List.mem_cons] at h
      rcases h with h | h
      · subst h; simp at hne
      · exact h
section
variable {P : Program} {l : List Oper} {w0 : World} {T0 : Blocks} {F : List (Nat × Value)} {W : List (Nat × Word)}
theorem PhiD.keep (x : Nat) (v : Value) (w1 w2 : World) (S S' : Blocks) (h : PhiD F W x v w1 S) (t : Touch S' w1 w2) (n : ∀ k, S k → ¬ S' k) : PhiD F W x v w2 S := by
  unfold PhiD at *
  cases hl : W.lookup x with
  | none => rw [hl] at h; exact h
  | some T => rw [hl] at h; exact T.keep h t n
theorem PhiD.lt (x : Nat) (v : Value) (w : World) (S : Blocks) (h : PhiD F W x v w S) : ∀ k, S k → k < w.heap.size := by
  unfold PhiD at h
  cases hl : W.lookup x with
  | none => rw [hl] at h; exact fun k hk => (h.2 k hk).elim
  | some T => rw [hl] at h; exact T.lt h
theorem PhiD.pure (x : Nat) (v : Value) (w : World) (S : Blocks) (hx : x ∉ W.map (·.1)) (h : PhiD F W x v w S) : ∀ k, ¬ S k := by
  unfold PhiD at h
  cases hl : W.lookup x with
  | none => rw [hl] at h; exact h.2
  | some T =>
    obtain ⟨t', ht⟩ := lookup_mem hl
    exfalso
    apply hx
    have : ∀ {l : List (Nat × Word)}, l.lookup x = some T → x ∈ l.map (·.1) := by
      intro l
      induction l with
      | nil => intro h; simp at h
      | cons y l ih =>
        intro h
        simp only [List.lookup] at h
        split at h
        · rename_i he; simp at he; simp [he]
        · simp only [List.map_cons, List.mem_cons]; exact Or.inr (ih h)
    exact this hl
theorem wp_region_owns {id : Nat} {Q : Exit → Act → World → Prop} {a : Act} {w : World} (n : Nat) (B dl mem : List Nat) (T0 : Blocks) (F : List (Nat × Value)) (W : List (Nat × Word)) (hm : P.follows .mixedOrders = true) (hW : W.map (·.1) = mem)
    (hB : (growB3 l && onceB l && linB l mem && ((dsts l).all fun d => decide (d < n)) && ((List.range l.length).all fun i => match l[i]? with | some o => (reads l o).all fun t => !baseB l i t || B.contains t | none => true)) = true) (hD : dsts l = dl)
    (hn : a.tmps.size = n) (hbase : BaseD l w.drew T0 (PhiD F W) B a)
    (hops : OblDs P l w.drew T0 (PhiD F W) mem 0 l)
    (hend : ∀ (vs : Nat → Value) (w' : World) (Ss : Nat → Blocks), Touch T0 w w' →
      (∀ j (oj : Oper) d, l[j]? = some oj → oj.dst = some d → Left l mem j = true → PhiD F W j (vs d) w' (Ss j) ∧ ∀ k, Ss j k → T0 k ∨ w.heap.size ≤ k) →
      (∀ t ∈ B, Left l mem (l.length + t) = true → PhiD F W (l.length + t) (a.tmps.getD t undef) w' (Ss (l.length + t)) ∧ ∀ k, Ss (l.length + t) k → T0 k ∨ w.heap.size ≤ k) →
      Q .normal (dl.foldl (fun a d => a.put (some d) (vs d)) a) w') : (Code.region id l.toArray true).wp P Q a w := by
  subst hW
  exact wp_region_own n B dl _ T0 (PhiD F W) hm PhiD.keep PhiD.lt PhiD.pure hB hD hn hbase hops hend
/-- an operation that yields this value, and turns nothing. -/
theorem OblD.val {D : Nat → Value → World → Blocks → Prop} {mem : List Nat} {i : Nat} {o : Oper} (c : Value)
    (h : ∀ (ev : Operand → Value) (w : World) (Ss : Nat → Blocks), Evs ev → Touch T0 w0 w → KnowD l D i ev w Ss (reads l o) → Region.wanted o (saysOf l ev) = true ∧ (execOp ev o).run P w = .ok (.value c) w)
    (hD : ∀ w, D i c w (fun _ => False)) : OblD P l w0 T0 D mem i o := by
  intro ev w Ss he ht hk _ _
  obtain ⟨h1, h2⟩ := h ev w Ss he ht hk
  rw [if_pos h1]
  unfold RunsTo
  rw [h2]
  exact ⟨Touch.refl _ _, fun _ => False, fun k hk => hk.elim, fun _ => hD w⟩
/-- an operation that may turn what it is handed. -/
theorem OblD.gen {D : Nat → Value → World → Blocks → Prop} {mem : List Nat} {i : Nat} {o : Oper}
    (h : ∀ (ev : Operand → Value) (w : World) (Ss : Nat → Blocks), Evs ev → Touch T0 w0 w → KnowD l D i ev w Ss (reads l o) → (∀ x y, x ∈ keysOf l i → y ∈ keysOf l i → x ≠ y → ∀ k, Ss x k → ¬ Ss y k) → (∀ x, x ∈ keysOf l i → ∀ k, Ss x k → T0 k ∨ w0.heap.size ≤ k) → Region.wanted o (saysOf l ev) = true ∧
      ∃ v w' S', (execOp ev o).run P w = .ok (.value v) w' ∧ Touch (Handed l mem i Ss) w w' ∧ (∀ k, S' k → Handed l mem i Ss k ∨ w.heap.size ≤ k) ∧ D i v w' S') : OblD P l w0 T0 D mem i o := by
  intro ev w Ss he ht hk hd hs
  obtain ⟨h1, v, w', S', h2, h3, h4, h5⟩ := h ev w Ss he ht hk hd hs
  rw [if_pos h1]
  unfold RunsTo
  rw [h2]
  exact ⟨h3, S', h4, fun _ => h5⟩
theorem OblD.call {D : Nat → Value → World → Blocks → Prop} {mem : List Nat} {i : Nat} {o : Oper} (f : FuncId) (args : (Operand → Value) → Array Value)
    (h : ∀ (ev : Operand → Value) (w : World) (Ss : Nat → Blocks), Evs ev → Touch T0 w0 w → KnowD l D i ev w Ss (reads l o) → (∀ x y, x ∈ keysOf l i → y ∈ keysOf l i → x ≠ y → ∀ k, Ss x k → ¬ Ss y k) → (∀ x, x ∈ keysOf l i → ∀ k, Ss x k → T0 k ∨ w0.heap.size ≤ k) → Region.wanted o (saysOf l ev) = true ∧ (execOp ev o).run P w = .ok (.enter f (args ev)) w ∧
      Calls P f (args ev) w fun e w' => ∃ v S', e = .returned v ∧ Touch (Handed l mem i Ss) w w' ∧ (∀ k, S' k → Handed l mem i Ss k ∨ w.heap.size ≤ k) ∧ D i v w' S') : OblD P l w0 T0 D mem i o := by
  intro ev w Ss he ht hk hd hs
  obtain ⟨h1, h2, h3⟩ := h ev w Ss he ht hk hd hs
  rw [if_pos h1]
  unfold RunsTo
  rw [h2]
  refine h3.mono ?_
  rintro e w' ⟨v, S', rfl, k1, k2, k3⟩
  exact ⟨v, rfl, k1, S', k2, fun _ => k3⟩
end
end Go.Proofs.YtbbcphloafmldaaGreat
