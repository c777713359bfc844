/- A region that draws its order, whose operations only read and whose calls only make memory: whatever the order, each slot ends as its own word says. No program is named here. A region that draws its order and only makes memory, with more code behind it: what all slots hold then. No program is named here. -/
import Derived.Test.YtbbcphloafmldaaGreatBnd1
import Derived.StillTactics
/-! A region that draws its order, whose operations only read and whose calls only make memory: whatever the order, each slot ends as its own word says. No program is named here. -/
namespace Go.Proofs.YtbbcphloafmldaaGreat
open Go.RowKit

/-- what an operation's run comes to: a value and a world. -/
def runsUpon (P : Program) (post : Value → World → Prop) : Result Next → Prop
  | .ok (.value v) w' => post v w'
  | .ok .skip w' => post undef w'
  | .ok (.enter f args) w' => Calls P f args w' fun e w'' => ∃ v, e = .returned v ∧ post v w''
  | _ => False
theorem runsUpon_value (P : Program) (post : Value → World → Prop) (v : Value) (w : World) : runsUpon P post (.ok (.value v) w) = post v w := rfl
theorem runsUpon_skip (P : Program) (post : Value → World → Prop) (w : World) : runsUpon P post (.ok .skip w) = post undef w := rfl
theorem runsUpon_enter (P : Program) (post : Value → World → Prop) (f : FuncId) (args : Array Value) (w : World) :
    runsUpon P post (.ok (.enter f args) w) = Calls P f args w fun e w'' => ∃ v, e = .returned v ∧ post v w'' := rfl
def RunsTo (P : Program) (o : Oper) (ev : Operand → Value) (w : World) (post : Value → World → Prop) : Prop := runsUpon P post ((execOp ev o).run P w)

/-- the slots that an operation reads; its guard's slot first. -/
def reads (l : List Oper) (o : Oper) : List Nat :=
  (match o.guard with | some (g, _) => (((l[g]?).bind (·.dst)).toList) | none => []) ++ o.op.operands.toList.filterMap fun | .tmp t => some t | _ => none
def dsts (l : List Oper) : List Nat := l.filterMap (·.dst)
/-- what a guard's slot says. -/
def saysOf (l : List Oper) (ev : Operand → Value) (j : Nat) : Option Bool :=
  match (l[j]?).bind (·.dst) with
  | some d => (match ev (.tmp d) with | .bool b => some b | _ => none)
  | none => none
/-- each slot that an operation reads is no slot of the region's own, or of an operation that comes ahead; no two write one slot; what waits, waits for what stands ahead. -/
def growB (l : List Oper) : Bool :=
  (List.range l.length).all fun i => match l[i]? with
    | none => true
    | some o =>
      (o.after.all fun e => !Region.binds .any e || decide (e.on < i)) &&
      ((reads l o).all fun t => (List.range l.length).all fun j => match (l[j]?).bind (·.dst) with
        | none => true
        | some d => !(d == t) || o.after.any fun e => Region.binds .any e && e.on == j) &&
      (match o.guard with | none => true | some (g, _) => ((l[g]?).bind (·.dst)).isSome) &&
      (match o.op with | .select .. => false | _ => true)
/-- no two operations write one slot. -/
def onceB (l : List Oper) : Bool := (List.range l.length).all fun i => (List.range l.length).all fun j => i == j || (match (l[i]?).bind (·.dst), (l[j]?).bind (·.dst) with | some a, some b => !(a == b) | _, _ => true)

/-- what is known of slots. -/
def Know (Φ : Nat → Value → World → Prop) (ev : Operand → Value) (w : World) : List Nat → Prop
  | [] => True
  | t :: r => Φ t (ev (.tmp t)) w ∧ Know Φ ev w r
theorem know_all {Φ : Nat → Value → World → Prop} {ev : Operand → Value} {w : World} : ∀ {r : List Nat}, (∀ t ∈ r, Φ t (ev (.tmp t)) w) → Know Φ ev w r
  | [], _ => trivial
  | t :: _, h => ⟨h t (List.mem_cons_self ..), know_all fun u hu => h u (List.mem_cons_of_mem _ hu)⟩
/-- what is asked of one operation. -/
def Obl (P : Program) (l : List Oper) (I : World → Prop) (Φ : Nat → Value → World → Prop) (o : Oper) : Prop :=
  ∀ (ev : Operand → Value) (w : World), I w → (∀ c, ev (.const c) = c) → (∀ f, ev (.func f) = .func (.func f) #[] #[]) → (∀ g, ev (.global g) = .pointer (some ⟨g, 0, none⟩)) → Know Φ ev w (reads l o) →
    if Region.wanted o (saysOf l ev) then RunsTo P o ev w (fun v w' => Ext w w' ∧ ∀ d, o.dst = some d → Φ d v w') else ∀ d, o.dst = some d → Φ d undef w
def OblAll (P : Program) (l : List Oper) (I : World → Prop) (Φ : Nat → Value → World → Prop) : List Oper → Prop
  | [] => True
  | o :: r => Obl P l I Φ o ∧ OblAll P l I Φ r
theorem OblAll.get {P : Program} {l : List Oper} {I : World → Prop} {Φ : Nat → Value → World → Prop} : ∀ {r : List Oper}, OblAll P l I Φ r → ∀ o ∈ r, Obl P l I Φ o
  | [], _, o, h => by cases h
  | x :: r, h, o, ho => by
    cases List.mem_cons.1 ho with
    | inl e => subst e; exact h.1
    | inr e => exact OblAll.get h.2 o e

section
variable {P : Program} {l : List Oper} {I : World → Prop} {Φ : Nat → Value → World → Prop} {a0 : Act}

/-- between two operations. -/
structure Mid (l : List Oper) (I : World → Prop) (Φ : Nat → Value → World → Prop) (a0 : Act) (listed : Array Bool) (a : Act) (w : World) : Prop where
  inv : I w
  size : listed.size = l.length
  defers : a.defers = a0.defers
  tsize : a.tmps.size = a0.tmps.size
  done : ∀ (j : Nat) (o : Oper) (d : Nat), l[j]? = some o → o.dst = some d → listed.getD j false = true → Φ d (a.tmps.getD d undef) w
  others : ∀ t, t ∉ dsts l → a.tmps.getD t undef = a0.tmps.getD t undef

theorem getD_put (a : Act) (d : Nat) (v : Value) (h : d < a.tmps.size) : (a.put (some d) v).tmps.getD d undef = v := by simp [Act.put, Array.getD, h]
theorem getD_put_ne (a : Act) (d t : Nat) (v : Value) (h : t ≠ d) : (a.put (some d) v).tmps.getD t undef = a.tmps.getD t undef := by
  simp only [Act.put, Array.getD_eq_getD_getElem?]
  rw [Array.getElem?_setIfInBounds_ne (Ne.symm h)]
theorem getD_none (a : Act) (v : Value) : a.put none v = a := rfl

theorem Mid.put (hst : ∀ t v w1 w2, Ext w1 w2 → Φ t v w1 → Φ t v w2) (hI : ∀ w1 w2, I w1 → Ext w1 w2 → I w2) (hone : onceB l = true) (hd : ∀ d ∈ dsts l, d < a0.tmps.size)
    {listed : Array Bool} {a : Act} {w w' : World} {i : Nat} {o : Oper} {v : Value} (h : Mid l I Φ a0 listed a w) (ho : l[i]? = some o) (he : Ext w w') (hv : ∀ d, o.dst = some d → Φ d v w') :
    Mid l I Φ a0 (listed.setIfInBounds i true) (a.put o.dst v) w' := by
  have hil : i < l.length := (List.getElem?_eq_some_iff.1 ho).1
  refine ⟨hI _ _ h.inv he, by simpa using h.size, by cases o.dst <;> simp [Act.put, h.defers], by cases o.dst <;> simp [Act.put, h.tsize], ?_, ?_⟩
  · intro j oj d hj hdj hl
    by_cases hij : j = i
    · subst hij
      rw [ho] at hj; cases hj
      have : d < a.tmps.size := by rw [h.tsize]; exact hd d (List.mem_filterMap.2 ⟨o, List.mem_of_getElem? ho, hdj⟩)
      rw [hdj, getD_put _ _ _ this]
      exact hv d hdj
    · have hl' : listed.getD j false = true := by
        rw [← hl]; simp only [Array.getD_eq_getD_getElem?]
        rw [Array.getElem?_setIfInBounds_ne (Ne.symm hij)]
      have hp := hst _ _ _ _ he (h.done j oj d hj hdj hl')
      cases hod : o.dst with
      | none => exact hp
      | some d' =>
        have hne : d ≠ d' := by
          intro e; subst e
          have hjl : j < l.length := (List.getElem?_eq_some_iff.1 hj).1
          have h1 := List.all_eq_true.1 (List.all_eq_true.1 hone j (List.mem_range.2 hjl)) i (List.mem_range.2 hil)
          simp [hj, ho, hdj, hod, hij] at h1
        rw [getD_put_ne _ _ _ _ hne]
        exact hp
  · intro t ht
    cases hod : o.dst with
    | none => exact h.others t ht
    | some d' =>
      have hne : t ≠ d' := by
        rintro rfl
        exact ht (List.mem_filterMap.2 ⟨o, List.mem_of_getElem? ho, hod⟩)
      rw [getD_put_ne _ _ _ _ hne]
      exact h.others t ht

theorem yielded_says (a : Act) (j : Nat) : saysOf l a.eval j = yielded l.toArray a.tmps j := by
  unfold saysOf yielded
  simp only [List.getElem?_toArray]
  cases (l[j]?).bind (·.dst) with
  | none => rfl
  | some d =>
    simp only [Act.eval, Option.bind_some]
    rw [Array.getD_eq_getD_getElem?]
    cases h : a.tmps[d]? with
    | none => simp [undef]
    | some x => cases x <;> rfl

/-- one operation that may come up. -/
theorem Mid.step (hst : ∀ t v w1 w2, Ext w1 w2 → Φ t v w1 → Φ t v w2) (hI : ∀ w1 w2, I w1 → Ext w1 w2 → I w2) (hone : onceB l = true) (hg : growB l = true) (hd : ∀ d ∈ dsts l, d < a0.tmps.size)
    (hbase : ∀ o ∈ l, ∀ t ∈ reads l o, t ∉ dsts l → ∀ w, I w → Φ t (a0.tmps.getD t undef) w) (hops : OblAll P l I Φ l) {Q : Exit → Act → World → Prop} {K : Act → World → Prop}
    {listed : Array Bool} {a : Act} {w : World} {i : Nat} (h : Mid l I Φ a0 listed a w) (hi : i ∈ Region.ready .any l.toArray listed)
    (hK : ∀ a' w', Mid l I Φ a0 (listed.setIfInBounds i true) a' w' → K a' w') : wpOp P l.toArray Q i K a w := by
  simp only [Region.ready, List.mem_filter, List.mem_range, List.size_toArray, Bool.and_eq_true] at hi
  obtain ⟨hil, hnl, haft⟩ := hi
  obtain ⟨o, ho⟩ : ∃ o, l[i]? = some o := ⟨_, List.getElem?_eq_getElem hil⟩
  have hgi := List.all_eq_true.1 hg i (List.mem_range.2 hil)
  simp only [ho, Bool.and_eq_true] at hgi
  obtain ⟨⟨⟨_, hr⟩, _⟩, _⟩ := hgi
  have hobl := OblAll.get hops o (List.mem_of_getElem? ho) a.eval w h.inv (fun _ => rfl) (fun _ => rfl) (fun _ => rfl) (know_all (by
    intro t ht
    show Φ t (a.tmps.getD t undef) w
    by_cases hdt : t ∈ dsts l
    · obtain ⟨oj, hoj, hjd⟩ := List.mem_filterMap.1 hdt
      obtain ⟨j, hj⟩ := List.getElem?_of_mem hoj
      have hjl : j < l.length := (List.getElem?_eq_some_iff.1 hj).1
      have h1 := List.all_eq_true.1 (List.all_eq_true.1 hr t ht) j (List.mem_range.2 hjl)
      simp only [hj, Option.bind_some, hjd, BEq.rfl, Bool.not_true, Bool.false_or, Array.any_eq_true, Bool.and_eq_true, beq_iff_eq] at h1
      obtain ⟨k, hk, hb, hon⟩ := h1
      simp only [List.getElem?_toArray, ho, Option.map_some, Option.getD_some, Array.all_eq_true, Bool.or_eq_true, Bool.not_eq_true'] at haft
      have h2 := haft k hk
      rw [hb, hon] at h2
      exact h.done j oj t hj hjd (by simpa using h2)
    · rw [h.others t hdt]
      exact hbase o (List.mem_of_getElem? ho) t ht hdt w h.inv))
  have hsay : saysOf l a.eval = yielded l.toArray a.tmps := funext (yielded_says a)
  rw [hsay] at hobl
  unfold wpOp
  simp only [List.getElem?_toArray, ho]
  split
  · rename_i hw
    rw [if_pos hw] at hobl
    refine Or.inl ?_
    unfold RunsTo at hobl
    unfold Oper.wp
    generalize (execOp a.eval o).run P w = r at hobl
    cases r with
    | halt x w' => simp [runsUpon] at hobl
    | ok n w' =>
      cases n <;> simp only [runsUpon] at hobl <;> simp only [Oper.upon]
      case value v => exact hK _ _ (h.put hst hI hone hd ho hobl.1 hobl.2)
      case skip => exact hK _ _ (h.put hst hI hone hd ho hobl.1 hobl.2)
      case enter f args =>
        refine hobl.mono ?_
        rintro e w'' ⟨v, rfl, h1, h2⟩
        exact hK _ _ (h.put hst hI hone hd ho h1 h2)
  · rename_i hw
    rw [if_neg hw] at hobl
    exact hK _ _ (h.put hst hI hone hd ho (Ext.refl _) hobl)

theorem ready_all (hg : growB l = true) {listed : Array Bool} (hs : listed.size = l.length) (h : Region.ready .any l.toArray listed = []) : ∀ j, j < l.length → listed.getD j false = true := by
  intro j
  induction j using Nat.strongRecOn with
  | _ j ih =>
    intro hj
    by_cases hl : listed.getD j false = true
    · exact hl
    exfalso
    have hn : j ∉ Region.ready .any l.toArray listed := by rw [h]; simp
    apply hn
    obtain ⟨o, ho⟩ : ∃ o, l[j]? = some o := ⟨_, List.getElem?_eq_getElem hj⟩
    simp only [Region.ready, List.mem_filter, List.mem_range, List.size_toArray, Bool.and_eq_true]
    refine ⟨hj, ?_, ?_⟩
    · have : listed.getD j true = listed.getD j false := by
        simp only [Array.getD_eq_getD_getElem?, Array.getElem?_eq_getElem (show j < listed.size by omega), Option.getD_some]
      rw [this]; simpa using hl
    · have hgi := List.all_eq_true.1 hg j (List.mem_range.2 hj)
      simp only [ho, Bool.and_eq_true] at hgi
      have h1 := hgi.1.1.1
      simp only [List.getElem?_toArray, ho, Option.map_some, Option.getD_some]
      rw [Array.all_eq_true] at h1 ⊢
      intro k hk
      have h2 := h1 k hk
      simp only [Bool.or_eq_true, decide_eq_true_eq] at h2 ⊢
      rcases h2 with h2 | h2
      · exact Or.inl h2
      · exact Or.inr (ih _ h2 (by omega))

theorem grow_any (hst : ∀ t v w1 w2, Ext w1 w2 → Φ t v w1 → Φ t v w2) (hI : ∀ w1 w2, I w1 → Ext w1 w2 → I w2) (hone : onceB l = true) (hg : growB l = true) (hd : ∀ d ∈ dsts l, d < a0.tmps.size)
    (hbase : ∀ o ∈ l, ∀ t ∈ reads l o, t ∉ dsts l → ∀ w, I w → Φ t (a0.tmps.getD t undef) w) (hops : OblAll P l I Φ l) {Q : Exit → Act → World → Prop}
    (hend : ∀ a w, I w → a.defers = a0.defers → a.tmps.size = a0.tmps.size → (∀ d ∈ dsts l, Φ d (a.tmps.getD d undef) w) → (∀ t, t ∉ dsts l → a.tmps.getD t undef = a0.tmps.getD t undef) → Q .normal a w) :
    ∀ (fuel : Nat) (listed : Array Bool) (a : Act) (w : World), Mid l I Φ a0 listed a w → (∀ n, n ≤ fuel → True) → (listed.toList.filter (! ·)).length ≤ fuel → wpAny P .any l.toArray Q fuel listed a w := by
  intro fuel
  have fin : ∀ (listed : Array Bool) (a : Act) (w : World), Mid l I Φ a0 listed a w → Region.ready .any l.toArray listed = [] → Q .normal a w := by
    intro listed a w h hr
    refine hend a w h.inv h.defers h.tsize ?_ h.others
    intro d hd
    obtain ⟨oj, hoj, hjd⟩ := List.mem_filterMap.1 hd
    obtain ⟨j, hj⟩ := List.getElem?_of_mem hoj
    exact h.done j oj d hj hjd (ready_all hg h.size hr j (List.getElem?_eq_some_iff.1 hj).1)
  induction fuel with
  | zero =>
    intro listed a w h _ hf
    have hr : Region.ready .any l.toArray listed = [] := by
      rw [List.eq_nil_iff_forall_not_mem]
      intro i hi
      simp only [Region.ready, List.mem_filter, List.mem_range, List.size_toArray, Bool.and_eq_true] at hi
      have h0 : listed.toList.filter (! ·) = [] := List.eq_nil_of_length_eq_zero (by omega)
      have hil : i < listed.size := by rw [h.size]; exact hi.1
      have hm : listed[i] ∈ listed.toList := by simp
      have hx : (! listed[i]) = true := by
        have := hi.2.1
        simpa [Array.getD_eq_getD_getElem?, Array.getElem?_eq_getElem hil] using this
      have : listed[i] ∈ listed.toList.filter (! ·) := List.mem_filter.2 ⟨hm, hx⟩
      rw [h0] at this
      cases this
    exact ⟨hr, fin _ _ _ h hr⟩
  | succ fuel ih =>
    intro listed a w h _ hf
    refine ⟨fun hr => fin _ _ _ h hr, fun i hi => ?_⟩
    refine h.step hst hI hone hg hd hbase hops hi fun a' w' h' => ih _ _ _ h' (fun _ _ => trivial) ?_
    simp only [Region.ready, List.mem_filter, List.mem_range, List.size_toArray, Bool.and_eq_true] at hi
    have hil : i < listed.size := by rw [h.size]; exact hi.1
    have hx : listed[i] = false := by
      have := hi.2.1
      simpa [Array.getD_eq_getD_getElem?, Array.getElem?_eq_getElem hil] using this
    have key : ∀ (m : List Bool) (k : Nat), m[k]? = some false → ((m.set k true).filter (! ·)).length + 1 = (m.filter (! ·)).length := by
      intro m
      induction m with
      | nil => intro k hk; simp at hk
      | cons b m ihm =>
        intro k hk
        cases k with
        | zero => simp at hk; subst hk; simp
        | succ k =>
          simp only [List.set_cons_succ]
          have := ihm k (by simpa using hk)
          cases b <;> simp <;> omega
    have hk := key listed.toList i (by simp [Array.getElem?_toList, Array.getElem?_eq_getElem hil, hx])
    rw [Array.toList_setIfInBounds]
    omega
end

theorem wanted_of {l : List Oper} {ev : Operand → Value} {o : Oper} {g d : Nat} {b : Bool} (hg : o.guard = some (g, b)) (hd : (l[g]?).bind (·.dst) = some d) (he : ev (.tmp d) = .bool b) : Region.wanted o (saysOf l ev) = true := by
  simp [Region.wanted, hg, saysOf, hd, he]
/-- an operation that yields this value, in whatever world. -/
theorem Obl.val {P : Program} {l : List Oper} {I : World → Prop} {Φ : Nat → Value → World → Prop} {o : Oper} (v : Value)
    (h : ∀ (ev : Operand → Value) (w : World), (∀ c, ev (.const c) = c) → (∀ f, ev (.func f) = .func (.func f) #[] #[]) → (∀ g, ev (.global g) = .pointer (some ⟨g, 0, none⟩)) → Know Φ ev w (reads l o) → Region.wanted o (saysOf l ev) = true ∧ (execOp ev o).run P w = .ok (.value v) w)
    (hv : ∀ d, o.dst = some d → ∀ w, Φ d v w) : Obl P l I Φ o := by
  intro ev w _ hc hf hg hev
  obtain ⟨h1, h2⟩ := h ev w hc hf hg hev
  rw [if_pos h1]
  unfold RunsTo
  rw [h2]
  exact ⟨Ext.refl _, fun d hd => hv d hd w⟩
/-- an operation that comes to a call. -/
theorem Obl.call {P : Program} {l : List Oper} {I : World → Prop} {Φ : Nat → Value → World → Prop} {o : Oper} (f : FuncId) (args : Array Value)
    (h : ∀ (ev : Operand → Value) (w : World), I w → (∀ c, ev (.const c) = c) → (∀ f, ev (.func f) = .func (.func f) #[] #[]) → (∀ g, ev (.global g) = .pointer (some ⟨g, 0, none⟩)) → Know Φ ev w (reads l o) → Region.wanted o (saysOf l ev) = true ∧ (execOp ev o).run P w = .ok (.enter f args) w ∧
      Calls P f args w fun e w' => ∃ v, e = .returned v ∧ Ext w w' ∧ ∀ d, o.dst = some d → Φ d v w') : Obl P l I Φ o := by
  intro ev w hI hc hf hg hev
  obtain ⟨h1, h2, h3⟩ := h ev w hI hc hf hg hev
  rw [if_pos h1]
  unfold RunsTo
  rw [h2]
  exact h3

/-- what is said of slots stays true. -/
def Stab (Φ : Nat → Value → World → Prop) : Prop := ∀ t v w1 w2, Ext w1 w2 → Φ t v w1 → Φ t v w2
/-- **THE LAW**: a region that draws, whose operations and callees turn nothing that was there. B: the slots that it reads and does not write. -/
theorem wp_region_grow {P : Program} {l : List Oper} {id : Nat} {Q : Exit → Act → World → Prop} {a : Act} {w : World} (n : Nat) (B : List Nat) (hm : P.follows .mixedOrders = true) (Φ : Nat → Value → World → Prop)
    (hst : Stab Φ) (hB : (growB l && onceB l && ((dsts l).all fun d => decide (d < n)) && ((l.flatMap (reads l)).all fun t => (dsts l).contains t || B.contains t)) = true)
    (hn : a.tmps.size = n) (hbase : ∀ w' : World, Know Φ a.eval w' B)
    (hops : OblAll P l (Ext w) Φ l)
    (hend : ∀ a' w', Ext w w' → a'.defers = a.defers → (∀ d ∈ dsts l, Φ d (a'.tmps.getD d undef) w') → Q .normal a' w') : (Code.region id l.toArray true).wp P Q a w := by
  simp only [Bool.and_eq_true] at hB
  subst hn
  refine wp_region_any hm ?_
  have hx : Ext w { w with drawn := w.drawn + 1 } := (Ext.refl w).drew
  have get : ∀ (r : List Nat) (w' : World), Know Φ a.eval w' r → ∀ t ∈ r, Φ t (a.tmps.getD t undef) w' := by
    intro r
    induction r with
    | nil => intro w' _ t ht; cases ht
    | cons x r ih =>
      intro w' hk t ht
      cases List.mem_cons.1 ht with
      | inl e => subst e; exact hk.1
      | inr e => exact ih w' hk.2 t e
  refine grow_any (a0 := a) (I := Ext w) (Φ := Φ) hst (fun _ _ h k => h.trans k) hB.1.1.2 hB.1.1.1 (fun d hd => of_decide_eq_true (List.all_eq_true.1 hB.1.2 d hd)) ?_ hops ?_ _ _ _ _ ?_ (fun _ _ => trivial) ?_
  · intro o ho t ht hd w' _
    have h1 := List.all_eq_true.1 hB.2 t (List.mem_flatMap.2 ⟨o, ho, ht⟩)
    simp only [Bool.or_eq_true, List.contains_iff_mem] at h1
    exact get B w' (hbase w') t (h1.resolve_left hd)
  · intro a' w' hi hd _ hf _
    exact hend a' w' hi hd hf
  · exact ⟨hx, by simp, rfl, rfl, fun j o d hj hd hl => by (simp [Array.getD_eq_getD_getElem?, Array.getElem?_replicate] at hl; split at hl <;> simp at hl), fun _ _ => rfl⟩
  · simp only [List.size_toArray, Array.toList_replicate]
    exact Nat.le_trans (List.length_filter_le _ _) (by simp)
/-- what each slot holds: by a word of its own (S), or just this value (F). -/
def Phi (F : List (Nat × Value)) (S : List (Nat × (Value → World → Prop))) (t : Nat) (v : Value) (w : World) : Prop :=
  match S.lookup t with
  | some p => p v w
  | none => match F.lookup t with
    | some c => v = c
    | none => True
theorem lookup_mem {α : Type} {l : List (Nat × α)} {t : Nat} {x : α} (h : l.lookup t = some x) : ∃ t', (t', x) ∈ l := by
  induction l with
  | nil => simp at h
  | cons y l ih =>
    simp only [List.lookup] at h
    split at h
    · cases h; exact ⟨y.1, by simp⟩
    · obtain ⟨t', ht⟩ := ih h; exact ⟨t', List.mem_cons_of_mem _ ht⟩
theorem Phi.stable {F : List (Nat × Value)} {S : List (Nat × (Value → World → Prop))} (h : ∀ x ∈ S, ∀ v w1 w2, Ext w1 w2 → x.2 v w1 → x.2 v w2) : Stab (Phi F S) := by
  intro t v w1 w2 he hp
  unfold Phi at *
  cases hs : S.lookup t with
  | none => rw [hs] at hp; exact hp
  | some p =>
    rw [hs] at hp
    obtain ⟨t', ht⟩ := lookup_mem hs
    exact h _ ht v w1 w2 he hp
end Go.Proofs.YtbbcphloafmldaaGreat

/-! A region that draws its order and only makes memory, with more code behind it: what all slots hold then. No program is named here. -/
namespace Go.Proofs.YtbbcphloafmldaaGreat
open Go.RowKit

theorem puts_defers (vs : Nat → Value) : ∀ (D : List Nat) (a : Act), (D.foldl (fun a d => a.put (some d) (vs d)) a).defers = a.defers
  | [], _ => rfl
  | d :: D, a => by rw [List.foldl_cons, puts_defers vs D]; rfl
theorem puts_size (vs : Nat → Value) : ∀ (D : List Nat) (a : Act), (D.foldl (fun a d => a.put (some d) (vs d)) a).tmps.size = a.tmps.size
  | [], _ => rfl
  | d :: D, a => by rw [List.foldl_cons, puts_size vs D]; simp [Act.put]
theorem puts_get (vs : Nat → Value) (t : Nat) : ∀ (D : List Nat) (a : Act), t < a.tmps.size → (D.foldl (fun a d => a.put (some d) (vs d)) a).tmps.getD t undef = if t ∈ D then vs t else a.tmps.getD t undef
  | [], _, _ => by simp
  | d :: D, a, h => by
    rw [List.foldl_cons, puts_get vs t D _ (by simpa [Act.put] using h)]
    by_cases hD : t ∈ D
    · simp [hD]
    · rw [if_neg hD]
      by_cases hd : t = d
      · subst hd; rw [getD_put _ _ _ h]; simp
      · rw [getD_put_ne _ _ _ _ hd]; simp [hD, hd]
theorem act_eq {a b : Act} (hd : a.defers = b.defers) (hs : a.tmps.size = b.tmps.size) (h : ∀ t, t < a.tmps.size → a.tmps.getD t undef = b.tmps.getD t undef) : a = b := by
  obtain ⟨x, y⟩ := a
  obtain ⟨u, v⟩ := b
  simp only at hd hs h
  subst hd
  congr 1
  apply Array.ext hs
  intro i h1 h2
  have := h i h1
  simpa [Array.getD, h1, h2] using this
/-- as wp_region_grow; behind it stands what each slot of the region's holds, the others as they were. -/
theorem wp_region_grow_on {P : Program} {l : List Oper} {id : Nat} {Q : Exit → Act → World → Prop} {a : Act} {w : World} (n : Nat) (B D : List Nat) (hm : P.follows .mixedOrders = true) (Φ : Nat → Value → World → Prop)
    (hst : Stab Φ) (hB : (growB l && onceB l && ((dsts l).all fun d => decide (d < n)) && ((l.flatMap (reads l)).all fun t => (dsts l).contains t || B.contains t)) = true) (hD : dsts l = D)
    (hn : a.tmps.size = n) (hbase : ∀ w' : World, Know Φ a.eval w' B)
    (hops : OblAll P l (Ext w) Φ l)
    (hend : ∀ (vs : Nat → Value) w', Ext w w' → (∀ d ∈ D, Φ d (vs d) w') → Q .normal (D.foldl (fun a d => a.put (some d) (vs d)) a) w') : (Code.region id l.toArray true).wp P Q a w := by
  simp only [Bool.and_eq_true] at hB
  subst hn
  subst hD
  refine wp_region_any hm ?_
  have hx : Ext w { w with drawn := w.drawn + 1 } := (Ext.refl w).drew
  have get : ∀ (r : List Nat) (w' : World), Know Φ a.eval w' r → ∀ t ∈ r, Φ t (a.tmps.getD t undef) w' := by
    intro r
    induction r with
    | nil => intro w' _ t ht; cases ht
    | cons x r ih =>
      intro w' hk t ht
      cases List.mem_cons.1 ht with
      | inl e => subst e; exact hk.1
      | inr e => exact ih w' hk.2 t e
  refine grow_any (a0 := a) (I := Ext w) (Φ := Φ) hst (fun _ _ h k => h.trans k) hB.1.1.2 hB.1.1.1 (fun d hd => of_decide_eq_true (List.all_eq_true.1 hB.1.2 d hd)) ?_ hops ?_ _ _ _ _ ?_ (fun _ _ => trivial) ?_
  · intro o ho t ht hd w' _
    have h1 := List.all_eq_true.1 hB.2 t (List.mem_flatMap.2 ⟨o, ho, ht⟩)
    simp only [Bool.or_eq_true, List.contains_iff_mem] at h1
    exact get B w' (hbase w') t (h1.resolve_left hd)
  · intro a' w' hi hd hs hf ho
    have e : a' = (dsts l).foldl (fun a d => a.put (some d) (a'.tmps.getD d undef)) a := by
      refine act_eq (by rw [puts_defers (fun d => a'.tmps.getD d undef)]; exact hd) (by rw [puts_size (fun d => a'.tmps.getD d undef)]; exact hs) (fun t ht => ?_)
      rw [puts_get (fun d => a'.tmps.getD d undef) t _ _ (by omega)]
      by_cases h : t ∈ dsts l
      · rw [if_pos h]
      · rw [if_neg h]; exact ho t h
    rw [e]
    exact hend (fun d => a'.tmps.getD d undef) w' hi hf
  · exact ⟨hx, by simp, rfl, rfl, fun j o d hj hd hl => by (simp [Array.getD_eq_getD_getElem?, Array.getElem?_replicate] at hl; split at hl <;> simp at hl), fun _ _ => rfl⟩
  · simp only [List.size_toArray, Array.toList_replicate]
    exact Nat.le_trans (List.length_filter_le _ _) (by simp)
/-- an operation that yields some value of its word, in the worlds of I. -/
theorem Obl.some {P : Program} {l : List Oper} {I : World → Prop} {Φ : Nat → Value → World → Prop} {o : Oper}
    (h : ∀ (ev : Operand → Value) (w : World), I w → (∀ c, ev (.const c) = c) → (∀ f, ev (.func f) = .func (.func f) #[] #[]) → (∀ g, ev (.global g) = .pointer (some ⟨g, 0, none⟩)) → Know Φ ev w (reads l o) → Region.wanted o (saysOf l ev) = true ∧ ∃ v, (execOp ev o).run P w = .ok (.value v) w ∧ ∀ d, o.dst = some d → Φ d v w) : Obl P l I Φ o := by
  intro ev w hI hc hf hg hev
  obtain ⟨h1, v, h2, h3⟩ := h ev w hI hc hf hg hev
  rw [if_pos h1]
  unfold RunsTo
  rw [h2]
  exact ⟨Ext.refl _, h3⟩
end Go.Proofs.YtbbcphloafmldaaGreat
