/- A region that draws its order and holds ONE operation that turns memory (c): the others only make memory, or read; each is obliged in the phase in which it may come up: 0: ahead of c · 1: behind c · 2: either. No program is named here. -/
import Derived.Test.YtbbcphloafmldaaGreatBnd10
namespace Go.Proofs.YtbbcphloafmldaaGreat
open Go.RowKit

def phase (I0 I1 : World → Prop) : Nat → World → Prop
  | 0 => I0
  | 1 => I1
  | _ => fun w => I0 w ∨ I1 w
/-- an operation on which c waits is of phase 0; one that waits on c of phase 1. -/
def twoB (l : List Oper) (c : Nat) (ks : List Nat) : Bool :=
  (List.range l.length).all fun j =>
    (!(ks.getD j 2 == 0) || (List.range l.length).any fun k => (k == c || ks.getD k 2 == 0) && (match l[k]? with | some o => o.after.any fun e => Region.binds .any e && e.on == j | none => false)) &&
    (!(ks.getD j 2 == 1) || (match l[j]? with | some o => o.after.any fun e => Region.binds .any e && (e.on == c || ks.getD e.on 2 == 1) | none => false))

/-- the slots that may be written ahead of c. -/
def openSlots (l : List Oper) (c : Nat) (ks : List Nat) : List Nat := (List.range l.length).filterMap fun j => if j == c || ks.getD j 2 == 1 then none else (l[j]?).bind (·.dst)
section
variable {P : Program} {l : List Oper} {I0 I1 : World → Prop} {Φ : Nat → Value → World → Prop} {a0 : Act}
/-- what is asked of c. -/
def OblC (P : Program) (l : List Oper) (I0 I1 : World → Prop) (Φ : Nat → Value → World → Prop) (S : List Nat) (o : Oper) : Prop :=
  ∀ (ev : Operand → Value) (w : World), I0 w → (∀ c, ev (.const c) = c) → (∀ f, ev (.func f) = .func (.func f) #[] #[]) → (∀ g, ev (.global g) = .pointer (some ⟨g, 0, none⟩)) → Know Φ ev w (reads l o) →
    Region.wanted o (saysOf l ev) = true ∧ RunsTo P o ev w (fun v w' => I1 w' ∧ (∀ t u, t ∈ S → Φ t u w → Φ t u w') ∧ ∀ d, o.dst = some d → Φ d v w')
def OblTwo (P : Program) (l : List Oper) (I0 I1 : World → Prop) (Φ : Nat → Value → World → Prop) (c : Nat) (ks : List Nat) : Nat → List Oper → Prop
  | _, [] => True
  | i, o :: r => (if i = c then OblC P l I0 I1 Φ (openSlots l c ks) o else Obl P l (phase I0 I1 (ks.getD i 2)) Φ o) ∧ OblTwo P l I0 I1 Φ c ks (i + 1) r
theorem OblTwo.get {c : Nat} {ks : List Nat} : ∀ {r : List Oper} {k : Nat}, OblTwo P l I0 I1 Φ c ks k r → ∀ i o, r[i]? = some o → (if k + i = c then OblC P l I0 I1 Φ (openSlots l c ks) o else Obl P l (phase I0 I1 (ks.getD (k + i) 2)) Φ o)
  | [], _, _, i, o, h => by simp at h
  | x :: r, k, h, i, o, ho => by
    cases i with
    | zero => simp at ho; subst ho; exact h.1
    | succ i =>
      have := OblTwo.get h.2 i o (by simpa using ho)
      rw [show k + (i + 1) = k + 1 + i by omega]
      exact this
theorem OblC.call {S : List Nat} {o : Oper} (f : FuncId) (args : Array Value)
    (h : ∀ (ev : Operand → Value) (w : World), I0 w → (∀ c, ev (.const c) = c) → (∀ f, ev (.func f) = .func (.func f) #[] #[]) → (∀ g, ev (.global g) = .pointer (some ⟨g, 0, none⟩)) → Know Φ ev w (reads l o) → Region.wanted o (saysOf l ev) = true ∧ (execOp ev o).run P w = .ok (.enter f args) w ∧
      Calls P f args w fun e w' => ∃ v, e = .returned v ∧ I1 w' ∧ (∀ t u, t ∈ S → Φ t u w → Φ t u w') ∧ ∀ d, o.dst = some d → Φ d v w') : OblC P l I0 I1 Φ S o := by
  intro ev w hI hc hf hg hev
  obtain ⟨h1, h2, h3⟩ := h ev w hI hc hf hg hev
  refine ⟨h1, ?_⟩
  unfold RunsTo
  rw [h2]
  exact h3

/-- c is no call: it turns memory by itself. -/
theorem OblC.val {S : List Nat} {o : Oper} (v : Value)
    (h : ∀ (ev : Operand → Value) (w : World), I0 w → (∀ c, ev (.const c) = c) → (∀ f, ev (.func f) = .func (.func f) #[] #[]) → (∀ g, ev (.global g) = .pointer (some ⟨g, 0, none⟩)) → Know Φ ev w (reads l o) → Region.wanted o (saysOf l ev) = true ∧ ∃ w', (execOp ev o).run P w = .ok (.value v) w' ∧
      I1 w' ∧ (∀ t u, t ∈ S → Φ t u w → Φ t u w') ∧ ∀ d, o.dst = some d → Φ d v w') : OblC P l I0 I1 Φ S o := by
  intro ev w hI hc hf hg hev
  obtain ⟨h1, w', h2, h3⟩ := h ev w hI hc hf hg hev
  refine ⟨h1, ?_⟩
  unfold RunsTo
  rw [h2]
  exact h3

/-- between two operations. -/
structure Mid2 (l : List Oper) (c : Nat) (I0 I1 : World → Prop) (Φ : Nat → Value → World → Prop) (a0 : Act) (listed : Array Bool) (a : Act) (w : World) : Prop where
  mid : Mid l (fun _ => True) Φ a0 listed a w
  closed : ∀ j oj, l[j]? = some oj → listed.getD j false = true → ∀ e ∈ oj.after, Region.binds .any e = true → listed.getD e.on false = true
  one : listed.getD c false = true → I1 w
  zero : listed.getD c false = false → I0 w

theorem put_listed {listed : Array Bool} {i j : Nat} (hj : (listed.setIfInBounds i true).getD j false = true) : j = i ∨ listed.getD j false = true := by
  by_cases h : j = i
  · exact Or.inl h
  · refine Or.inr ?_
    simp only [Array.getD_eq_getD_getElem?] at hj ⊢
    rwa [Array.getElem?_setIfInBounds_ne (Ne.symm h)] at hj
theorem listed_put {listed : Array Bool} {i j : Nat} (hj : listed.getD j false = true) : (listed.setIfInBounds i true).getD j false = true := by
  by_cases h : j = i
  · subst h
    have hl : j < listed.size := by
      apply Classical.byContradiction
      intro hn
      simp [Array.getD_eq_getD_getElem?, Array.getElem?_eq_none (Nat.le_of_not_lt hn)] at hj
    simp [Array.getD_eq_getD_getElem?, hl]
  · simp only [Array.getD_eq_getD_getElem?] at hj ⊢
    rwa [Array.getElem?_setIfInBounds_ne (Ne.symm h)]

theorem late_listed {c : Nat} {ks : List Nat} {listed : Array Bool} (h2 : twoB l c ks = true) (hg : growB l = true) (hc : ∀ j oj, l[j]? = some oj → listed.getD j false = true → ∀ e ∈ oj.after, Region.binds .any e = true → listed.getD e.on false = true) :
    ∀ j oj, l[j]? = some oj → ks.getD j 2 = 1 → (∀ e ∈ oj.after, Region.binds .any e = true → listed.getD e.on false = true) → listed.getD c false = true := by
  intro j
  induction j using Nat.strongRecOn with
  | _ j ih =>
    intro oj ho hk haft
    have hj : j < l.length := (List.getElem?_eq_some_iff.1 ho).1
    have h1 := List.all_eq_true.1 h2 j (List.mem_range.2 hj)
    simp only [Bool.and_eq_true, hk, ho] at h1
    have h3 := h1.2
    simp only [BEq.rfl, Bool.not_true, Bool.false_or, Array.any_eq_true, Bool.and_eq_true, Bool.or_eq_true, beq_iff_eq] at h3
    obtain ⟨k, hkl, hb, hon⟩ := h3
    have hl := haft _ (Array.getElem_mem hkl) hb
    rcases hon with hon | hon
    · rw [hon] at hl; exact hl
    · have hgj := List.all_eq_true.1 hg j (List.mem_range.2 hj)
      simp only [ho, Bool.and_eq_true] at hgj
      have h4 := (Array.all_eq_true.1 hgj.1.1.1) k hkl
      simp only [hb, Bool.not_true, Bool.false_or, decide_eq_true_eq] at h4
      obtain ⟨ok, hok⟩ : ∃ ok, l[oj.after[k].on]? = some ok := ⟨_, List.getElem?_eq_getElem (show oj.after[k].on < l.length by omega)⟩
      exact ih _ h4 ok hok hon (hc _ ok hok hl)
theorem early_listed {c : Nat} {ks : List Nat} {listed : Array Bool} (h2 : twoB l c ks = true) (hg : growB l = true) (hc : ∀ j oj, l[j]? = some oj → listed.getD j false = true → ∀ e ∈ oj.after, Region.binds .any e = true → listed.getD e.on false = true) (hl : listed.getD c false = true) :
    ∀ n j, l.length - j ≤ n → j < l.length → ks.getD j 2 = 0 → listed.getD j false = true := by
  intro n
  induction n with
  | zero => intro j h1 h2; omega
  | succ n ih =>
    intro j hn hj hk
    have h1 := List.all_eq_true.1 h2 j (List.mem_range.2 hj)
    simp only [Bool.and_eq_true, hk] at h1
    have h3 := h1.1
    simp only [BEq.rfl, Bool.not_true, Bool.false_or, List.any_eq_true, List.mem_range, Bool.and_eq_true, Bool.or_eq_true, beq_iff_eq] at h3
    obtain ⟨k, hkl, hkc, hm⟩ := h3
    obtain ⟨ok, hok⟩ : ∃ ok, l[k]? = some ok := ⟨_, List.getElem?_eq_getElem hkl⟩
    rw [hok] at hm
    simp only [Array.any_eq_true, Bool.and_eq_true, beq_iff_eq] at hm
    obtain ⟨e, hel, hb, hon⟩ := hm
    have hgk := List.all_eq_true.1 hg k (List.mem_range.2 hkl)
    simp only [hok, Bool.and_eq_true] at hgk
    have h4 := (Array.all_eq_true.1 hgk.1.1.1) e hel
    simp only [hb, Bool.not_true, Bool.false_or, decide_eq_true_eq] at h4
    have hlk : listed.getD k false = true := by
      rcases hkc with rfl | hk0
      · exact hl
      · exact ih k (by omega) hkl hk0
    have := hc k ok hok hlk _ (Array.getElem_mem hel) hb
    rwa [hon] at this

theorem open_mem {c : Nat} {ks : List Nat} {listed : Array Bool} (h2 : twoB l c ks = true) (hg : growB l = true) (hc : ∀ j oj, l[j]? = some oj → listed.getD j false = true → ∀ e ∈ oj.after, Region.binds .any e = true → listed.getD e.on false = true)
    (hcl : listed.getD c false = false) {j d : Nat} {oj : Oper} (hj : l[j]? = some oj) (hd : oj.dst = some d) (hl : listed.getD j false = true) : d ∈ openSlots l c ks := by
  have hjl : j < l.length := (List.getElem?_eq_some_iff.1 hj).1
  refine List.mem_filterMap.2 ⟨j, List.mem_range.2 hjl, ?_⟩
  have h1 : j ≠ c := fun e => by rw [e, hcl] at hl; cases hl
  have h3 : ¬ (ks.getD j 2 = 1) := fun e => by
    have := late_listed h2 hg hc j oj hj e (hc j oj hj hl)
    rw [hcl] at this; cases this
  have h4 : (j == c || ks.getD j 2 == 1) = false := by rw [Bool.or_eq_false_iff]; exact ⟨by simpa using h1, by simpa using h3⟩
  rw [h4, hj]
  simpa using hd
/-- one operation that may come up. -/
theorem Mid2.step {c : Nat} {ks : List Nat} (hst : ∀ t v w1 w2, Ext w1 w2 → Φ t v w1 → Φ t v w2) (hI0 : ∀ w1 w2, I0 w1 → Ext w1 w2 → I0 w2) (hI1 : ∀ w1 w2, I1 w1 → Ext w1 w2 → I1 w2) (hone : onceB l = true) (hg : growB l = true) (h2 : twoB l c ks = true)
    (hd : ∀ d ∈ dsts l, d < a0.tmps.size)
    (hbase : ∀ o ∈ l, ∀ t ∈ reads l o, t ∉ dsts l → ∀ w, Φ t (a0.tmps.getD t undef) w) (hops : OblTwo P l I0 I1 Φ c ks 0 l) {Q : Exit → Act → World → Prop} {K : Act → World → Prop}
    {listed : Array Bool} {a : Act} {w : World} {i : Nat} (h : Mid2 l c I0 I1 Φ a0 listed a w) (hi : i ∈ Region.ready .any l.toArray listed)
    (hK : ∀ a' w', Mid2 l c I0 I1 Φ a0 (listed.setIfInBounds i true) a' w' → K a' w') : wpOp P l.toArray Q i K a w := by
  simp only [Region.ready, List.mem_filter, List.mem_range, List.size_toArray, Bool.and_eq_true] at hi
  obtain ⟨hil, hnl, haft⟩ := hi
  obtain ⟨o, ho⟩ : ∃ o, l[i]? = some o := ⟨_, List.getElem?_eq_getElem hil⟩
  have hgi := List.all_eq_true.1 hg i (List.mem_range.2 hil)
  simp only [ho, Bool.and_eq_true] at hgi
  obtain ⟨⟨⟨_, hr⟩, _⟩, _⟩ := hgi
  simp only [List.getElem?_toArray, ho, Option.map_some, Option.getD_some] at haft
  have haft2 : ∀ e ∈ o.after, Region.binds .any e = true → listed.getD e.on false = true := by
    intro e he hb
    obtain ⟨k, hk, rfl⟩ := Array.getElem_of_mem he
    have h3 := (Array.all_eq_true.1 haft) k hk
    simpa [hb] using h3
  have hknow : Know Φ a.eval w (reads l o) := know_all (by
    intro t ht
    show Φ t (a.tmps.getD t undef) w
    by_cases hdt : t ∈ dsts l
    · obtain ⟨oj, hoj, hjd⟩ := List.mem_filterMap.1 hdt
      obtain ⟨j, hj⟩ := List.getElem?_of_mem hoj
      have hjl : j < l.length := (List.getElem?_eq_some_iff.1 hj).1
      have h1 := List.all_eq_true.1 (List.all_eq_true.1 hr t ht) j (List.mem_range.2 hjl)
      simp only [hj, Option.bind_some, hjd, BEq.rfl, Bool.not_true, Bool.false_or, Array.any_eq_true, Bool.and_eq_true, beq_iff_eq] at h1
      obtain ⟨k, hk, hb, hon⟩ := h1
      have h2 := haft2 _ (Array.getElem_mem hk) hb
      rw [hon] at h2
      exact h.mid.done j oj t hj hjd h2
    · rw [h.mid.others t hdt]
      exact hbase o (List.mem_of_getElem? ho) t ht hdt w)
  have hsay : saysOf l a.eval = yielded l.toArray a.tmps := funext (yielded_says a)
  have hclosed : ∀ j oj, l[j]? = some oj → (listed.setIfInBounds i true).getD j false = true → ∀ e ∈ oj.after, Region.binds .any e = true → (listed.setIfInBounds i true).getD e.on false = true := by
    intro j oj hj hlj e he hb
    refine listed_put ?_
    rcases put_listed hlj with rfl | hlj
    · rw [ho] at hj; cases hj
      exact haft2 e he hb
    · exact h.closed j oj hj hlj e he hb
  have hisz : i < listed.size := by rw [h.mid.size]; exact hil
  have hnl2 : listed.getD i false = false := by
    have : listed.getD i true = listed.getD i false := by simp only [Array.getD_eq_getD_getElem?, Array.getElem?_eq_getElem hisz, Option.getD_some]
    rw [← this]; simpa using hnl
  have hob := OblTwo.get hops i o ho
  rw [Nat.zero_add] at hob
  by_cases hic : i = c
  · rw [if_pos hic] at hob
    obtain ⟨hw, hrun⟩ := hob a.eval w (h.zero (by rw [← hic]; exact hnl2)) (fun _ => rfl) (fun _ => rfl) (fun _ => rfl) hknow
    rw [hsay] at hw
    have hcl0 : listed.getD c false = false := by rw [← hic]; exact hnl2
    have next : ∀ v w', I1 w' → (∀ t u, t ∈ openSlots l c ks → Φ t u w → Φ t u w') → (∀ d, o.dst = some d → Φ d v w') → K (a.put o.dst v) w' := by
      intro v w' k1 k2 k3
      refine hK _ _ ⟨?_, hclosed, fun _ => k1, fun hf => ?_⟩
      · refine (Mid.put (Φ := fun t u _ => Φ t u w') (w := w) (w' := w) (fun _ _ _ _ _ hp => hp) (fun _ _ _ _ => trivial) hone hd ⟨trivial, h.mid.size, h.mid.defers, h.mid.tsize, fun j oj d hj hdj hl => k2 _ _ (open_mem h2 hg h.closed hcl0 hj hdj hl) (h.mid.done j oj d hj hdj hl), h.mid.others⟩ ho (Ext.refl _) k3).rec ?_
        intro m1 m2 m3 m4 m5 m6
        exact ⟨trivial, m2, m3, m4, m5, m6⟩
      · exfalso
        rw [← hic] at hf
        simp [Array.getD_eq_getD_getElem?, hisz] at hf
    unfold wpOp
    simp only [List.getElem?_toArray, ho]
    rw [if_pos hw]
    refine Or.inl ?_
    unfold RunsTo at hrun
    unfold Oper.wp
    generalize (execOp a.eval o).run P w = r at hrun
    cases r with
    | halt x w' => simp [runsUpon] at hrun
    | ok n w' =>
      cases n <;> simp only [runsUpon] at hrun <;> simp only [Oper.upon]
      case value v => exact next _ _ hrun.1 hrun.2.1 hrun.2.2
      case skip => exact next _ _ hrun.1 hrun.2.1 hrun.2.2
      case enter f args =>
        refine hrun.mono ?_
        rintro e w'' ⟨v, rfl, k1, k2, k3⟩
        exact next _ _ k1 k2 k3
  · rw [if_neg hic] at hob
    have hph : phase I0 I1 (ks.getD i 2) w := by
      have hone' : listed.getD c false = true ∨ listed.getD c false = false := by cases listed.getD c false <;> simp
      generalize hk : ks.getD i 2 = k
      match k with
      | 0 =>
        rcases hone' with hc | hc
        · exfalso
          have := early_listed h2 hg h.closed hc _ i (Nat.le_refl _) hil hk
          rw [hnl2] at this; cases this
        · exact h.zero hc
      | 1 => exact h.one (late_listed h2 hg h.closed i o ho hk haft2)
      | k + 2 => exact hone'.elim (fun hc => Or.inr (h.one hc)) (fun hc => Or.inl (h.zero hc))
    have hobl := hob a.eval w hph (fun _ => rfl) (fun _ => rfl) (fun _ => rfl) hknow
    rw [hsay] at hobl
    have next : ∀ v w', Ext w w' → (∀ d, o.dst = some d → Φ d v w') → K (a.put o.dst v) w' := by
      intro v w' k1 k3
      have hsame : (listed.setIfInBounds i true).getD c false = listed.getD c false := by
        simp only [Array.getD_eq_getD_getElem?]
        rw [Array.getElem?_setIfInBounds_ne hic]
      exact hK _ _ ⟨h.mid.put hst (fun _ _ _ _ => trivial) hone hd ho k1 k3, hclosed, fun hc => hI1 _ _ (h.one (by rw [← hsame]; exact hc)) k1, fun hc => hI0 _ _ (h.zero (by rw [← hsame]; exact hc)) k1⟩
    unfold wpOp
    simp only [List.getElem?_toArray, ho]
    split
    · rename_i hw
      rw [if_pos hw] at hobl
      refine Or.inl ?_
      unfold RunsTo at hobl
      unfold Oper.wp
      generalize (execOp a.eval o).run P w = r at hobl
      cases r with
      | halt x w' => simp [runsUpon] at hobl
      | ok n w' =>
        cases n <;> simp only [runsUpon] at hobl <;> simp only [Oper.upon]
        case value v => exact next _ _ hobl.1 hobl.2
        case skip => exact next _ _ hobl.1 hobl.2
        case enter f args =>
          refine hobl.mono ?_
          rintro e w'' ⟨v, rfl, k1, k3⟩
          exact next _ _ k1 k3
    · rename_i hw
      rw [if_neg hw] at hobl
      exact next _ _ (Ext.refl _) hobl

theorem two_any {c : Nat} {ks : List Nat} (hst : ∀ t v w1 w2, Ext w1 w2 → Φ t v w1 → Φ t v w2) (hI0 : ∀ w1 w2, I0 w1 → Ext w1 w2 → I0 w2) (hI1 : ∀ w1 w2, I1 w1 → Ext w1 w2 → I1 w2) (hone : onceB l = true) (hg : growB l = true) (h2 : twoB l c ks = true) (hcl : c < l.length)
    (hd : ∀ d ∈ dsts l, d < a0.tmps.size)
    (hbase : ∀ o ∈ l, ∀ t ∈ reads l o, t ∉ dsts l → ∀ w, Φ t (a0.tmps.getD t undef) w) (hops : OblTwo P l I0 I1 Φ c ks 0 l) {Q : Exit → Act → World → Prop}
    (hend : ∀ a w, I1 w → a.defers = a0.defers → a.tmps.size = a0.tmps.size → (∀ d ∈ dsts l, Φ d (a.tmps.getD d undef) w) → (∀ t, t ∉ dsts l → a.tmps.getD t undef = a0.tmps.getD t undef) → Q .normal a w) :
    ∀ (fuel : Nat) (listed : Array Bool) (a : Act) (w : World), Mid2 l c I0 I1 Φ a0 listed a w → (listed.toList.filter (! ·)).length ≤ fuel → wpAny P .any l.toArray Q fuel listed a w := by
  intro fuel
  have fin : ∀ (listed : Array Bool) (a : Act) (w : World), Mid2 l c I0 I1 Φ a0 listed a w → Region.ready .any l.toArray listed = [] → Q .normal a w := by
    intro listed a w h hr
    refine hend a w (h.one (ready_all hg h.mid.size hr c hcl)) h.mid.defers h.mid.tsize ?_ h.mid.others
    intro d hd
    obtain ⟨oj, hoj, hjd⟩ := List.mem_filterMap.1 hd
    obtain ⟨j, hj⟩ := List.getElem?_of_mem hoj
    exact h.mid.done j oj d hj hjd (ready_all hg h.mid.size hr j (List.getElem?_eq_some_iff.1 hj).1)
  induction fuel with
  | zero =>
    intro listed a w h hf
    have hr : Region.ready .any l.toArray listed = [] := by
      rw [List.eq_nil_iff_forall_not_mem]
      intro i hi
      simp only [Region.ready, List.mem_filter, List.mem_range, List.size_toArray, Bool.and_eq_true] at hi
      have h0 : listed.toList.filter (! ·) = [] := List.eq_nil_of_length_eq_zero (by omega)
      have hil : i < listed.size := by rw [h.mid.size]; exact hi.1
      have hm : listed[i] ∈ listed.toList := by simp
      have hx : (! listed[i]) = true := by
        have := hi.2.1
        simpa [Array.getD_eq_getD_getElem?, Array.getElem?_eq_getElem hil] using this
      have : listed[i] ∈ listed.toList.filter (! ·) := List.mem_filter.2 ⟨hm, hx⟩
      rw [h0] at this
      cases this
    exact ⟨hr, fin _ _ _ h hr⟩
  | succ fuel ih =>
    intro listed a w h hf
    refine ⟨fun hr => fin _ _ _ h hr, fun i hi => ?_⟩
    refine h.step hst hI0 hI1 hone hg h2 hd hbase hops hi fun a' w' h' => ih _ _ _ h' ?_
    simp only [Region.ready, List.mem_filter, List.mem_range, List.size_toArray, Bool.and_eq_true] at hi
    have hil : i < listed.size := by rw [h.mid.size]; exact hi.1
    have hx : listed[i] = false := by
      have := hi.2.1
      simpa [Array.getD_eq_getD_getElem?, Array.getElem?_eq_getElem hil] using this
    have key : ∀ (m : List Bool) (k : Nat), m[k]? = some false → ((m.set k true).filter (! ·)).length + 1 = (m.filter (! ·)).length := by
      intro m
      induction m with
      | nil => intro k hk; simp at hk
      | cons b m ihm =>
        intro k hk
        cases k with
        | zero => simp at hk; subst hk; simp
        | succ k =>
          simp only [List.set_cons_succ]
          have := ihm k (by simpa using hk)
          cases b <;> simp <;> omega
    have hk := key listed.toList i (by simp [Array.getElem?_toList, Array.getElem?_eq_getElem hil, hx])
    have e2 : (listed.setIfInBounds i true).toList = listed.toList.set i true := by simp
    rw [e2]; omega
end
/-- **THE LAW**: a region that draws, of whose operations one turns memory. -/
theorem any_region_two {P : Program} {l : List Oper} {Q : Exit → Act → World → Prop} {a : Act} {w : World} (n : Nat) (B D : List Nat) (c : Nat) (ks : List Nat) (I0 I1 : World → Prop) (Φ : Nat → Value → World → Prop)
    (hst : Stab Φ) (hI0 : ∀ w1 w2, I0 w1 → Ext w1 w2 → I0 w2) (hI1 : ∀ w1 w2, I1 w1 → Ext w1 w2 → I1 w2)
    (hB : (growB l && onceB l && ((dsts l).all fun d => decide (d < n)) && ((l.flatMap (reads l)).all fun t => (dsts l).contains t || B.contains t) && twoB l c ks && decide (c < l.length)) = true) (hD : dsts l = D)
    (hn : a.tmps.size = n) (hbase : ∀ w' : World, Know Φ a.eval w' B) (hz : I0 w)
    (hops : OblTwo P l I0 I1 Φ c ks 0 l)
    (hend : ∀ (vs : Nat → Value) w', I1 w' → (∀ d ∈ D, Φ d (vs d) w') → Q .normal (D.foldl (fun a d => a.put (some d) (vs d)) a) w') : wpAny P .any l.toArray Q l.toArray.size (Array.replicate l.toArray.size false) a { w with drawn := w.drawn + 1 } := by
  simp only [Bool.and_eq_true, decide_eq_true_eq] at hB
  subst hn
  subst hD
  have hx : Ext w { w with drawn := w.drawn + 1 } := (Ext.refl w).drew
  have get : ∀ (r : List Nat) (w' : World), Know Φ a.eval w' r → ∀ t ∈ r, Φ t (a.tmps.getD t undef) w' := by
    intro r
    induction r with
    | nil => intro w' _ t ht; cases ht
    | cons x r ih =>
      intro w' hk t ht
      cases List.mem_cons.1 ht with
      | inl e => subst e; exact hk.1
      | inr e => exact ih w' hk.2 t e
  refine two_any (a0 := a) (Φ := Φ) (ks := ks) hst hI0 hI1 hB.1.1.1.1.2 hB.1.1.1.1.1 hB.1.2 hB.2 (fun d hd => of_decide_eq_true (List.all_eq_true.1 hB.1.1.1.2 d hd)) ?_ hops ?_ _ _ _ _ ?_ ?_
  · intro o ho t ht hd w'
    have h1 := List.all_eq_true.1 hB.1.1.2 t (List.mem_flatMap.2 ⟨o, ho, ht⟩)
    simp only [Bool.or_eq_true, List.contains_iff_mem] at h1
    exact get B w' (hbase w') t (h1.resolve_left hd)
  · intro a' w' hi hd hs hf ho
    have e : a' = (dsts l).foldl (fun a d => a.put (some d) (a'.tmps.getD d undef)) a := by
      refine act_eq (by rw [puts_defers (fun d => a'.tmps.getD d undef)]; exact hd) (by rw [puts_size (fun d => a'.tmps.getD d undef)]; exact hs) (fun t ht => ?_)
      rw [puts_get (fun d => a'.tmps.getD d undef) t _ _ (by omega)]
      by_cases h : t ∈ dsts l
      · rw [if_pos h]
      · rw [if_neg h]; exact ho t h
    rw [e]
    exact hend (fun d => a'.tmps.getD d undef) w' hi hf
  · have hrep : ∀ j, (Array.replicate l.toArray.size false).getD j false = false := by
      intro j
      simp only [Array.getD_eq_getD_getElem?, Array.getElem?_replicate]
      split <;> rfl
    refine ⟨⟨trivial, by simp, rfl, rfl, fun j o d hj hd hl => ?_, fun _ _ => rfl⟩, fun j oj _ hl => ?_, fun hl => ?_, fun _ => hI0 _ _ hz hx⟩
    · rw [hrep] at hl; cases hl
    · rw [hrep] at hl; cases hl
    · rw [hrep] at hl; cases hl
  · simp only [List.size_toArray, Array.toList_replicate]
    exact Nat.le_trans (List.length_filter_le _ _) (by simp)
theorem wp_region_two {P : Program} {l : List Oper} {id : Nat} {Q : Exit → Act → World → Prop} {a : Act} {w : World} (n : Nat) (B D : List Nat) (c : Nat) (ks : List Nat) (I0 I1 : World → Prop) (hm : P.follows .mixedOrders = true) (Φ : Nat → Value → World → Prop)
    (hst : Stab Φ) (hI0 : ∀ w1 w2, I0 w1 → Ext w1 w2 → I0 w2) (hI1 : ∀ w1 w2, I1 w1 → Ext w1 w2 → I1 w2)
    (hB : (growB l && onceB l && ((dsts l).all fun d => decide (d < n)) && ((l.flatMap (reads l)).all fun t => (dsts l).contains t || B.contains t) && twoB l c ks && decide (c < l.length)) = true) (hD : dsts l = D)
    (hn : a.tmps.size = n) (hbase : ∀ w' : World, Know Φ a.eval w' B) (hz : I0 w)
    (hops : OblTwo P l I0 I1 Φ c ks 0 l)
    (hend : ∀ (vs : Nat → Value) w', I1 w' → (∀ d ∈ D, Φ d (vs d) w') → Q .normal (D.foldl (fun a d => a.put (some d) (vs d)) a) w') : (Code.region id l.toArray true).wp P Q a w :=
  wp_region_any hm (any_region_two n B D c ks I0 I1 Φ hst hI0 hI1 hB hD hn hbase hz hops hend)
end Go.Proofs.YtbbcphloafmldaaGreat
