/- A region that draws its order, inside a round of a range over a function: what the plain law says of it holds there too. No program is named here. A region that draws its order, by an invariant of what has been listed, of the slots and of the world. No program is named here. A region that draws its order and ends in ONE operation (c) that turns memory and waits for all others, which only make memory: what c finds is told with the values that stand in the slots. No program is named here. -/
import Derived.Test.YtbbcphloafmldaaGreatGrowTwoZ
import Derived.Stop.RegionWithIn
import Derived.RangeFuncCalls
import Derived.Test.YtbbcphloafmldaaGreatGrowReZ
/-! A region that draws its order, inside a round of a range over a function: what the plain law says of it holds there too. No program is named here. -/
namespace Go.Proofs.YtbbcphloafmldaaGreat
open Go.RowKit
set_option linter.unusedVariables false
/-- c is a store. -/
theorem OblC.skip {P : Program} {l : List Oper} {I0 I1 : World → Prop} {Φ : Nat → Value → World → Prop} {S : List Nat} {o : Oper}
    (h : ∀ (ev : Operand → Value) (w : World), I0 w → (∀ c, ev (.const c) = c) → (∀ f, ev (.func f) = .func (.func f) #[] #[]) → (∀ g, ev (.global g) = .pointer (some ⟨g, 0, none⟩)) → Know Φ ev w (reads l o) → Region.wanted o (saysOf l ev) = true ∧ ∃ w', (execOp ev o).run P w = .ok .skip w' ∧
      I1 w' ∧ (∀ t u, t ∈ S → Φ t u w → Φ t u w') ∧ ∀ d, o.dst = some d → Φ d undef w') : OblC P l I0 I1 Φ S o := by
  intro ev w hI hc hf hg hev
  obtain ⟨h1, w', h2, h3⟩ := h ev w hI hc hf hg hev
  refine ⟨h1, ?_⟩
  unfold RunsTo
  rw [h2]
  exact h3
/-- an operation that makes memory. -/
theorem obl_mem {P : Program} {l : List Oper} {I : World → Prop} {Φ : Nat → Value → World → Prop} {o : Oper}
    (h : ∀ (ev : Operand → Value) (w : World), I w → (∀ c, ev (.const c) = c) → (∀ f, ev (.func f) = .func (.func f) #[] #[]) → (∀ g, ev (.global g) = .pointer (some ⟨g, 0, none⟩)) → Know Φ ev w (reads l o) → Region.wanted o (saysOf l ev) = true ∧ ∃ v w', (execOp ev o).run P w = .ok (.value v) w' ∧ Ext w w' ∧ ∀ d, o.dst = some d → Φ d v w') : Obl P l I Φ o := by
  intro ev w hI hc hf hg hev
  obtain ⟨h1, v, w', h2, h3⟩ := h ev w hI hc hf hg hev
  rw [if_pos h1]
  unfold RunsTo
  rw [h2]
  exact h3
/-- a call whose arguments are found as it comes up. -/
theorem obl_callx {P : Program} {l : List Oper} {I : World → Prop} {Φ : Nat → Value → World → Prop} {o : Oper}
    (h : ∀ (ev : Operand → Value) (w : World), I w → (∀ c, ev (.const c) = c) → (∀ f, ev (.func f) = .func (.func f) #[] #[]) → (∀ g, ev (.global g) = .pointer (some ⟨g, 0, none⟩)) → Know Φ ev w (reads l o) → Region.wanted o (saysOf l ev) = true ∧ ∃ f args, (execOp ev o).run P w = .ok (.enter f args) w ∧
      Calls P f args w fun e w' => ∃ v, e = .returned v ∧ Ext w w' ∧ ∀ d, o.dst = some d → Φ d v w') : Obl P l I Φ o := by
  intro ev w hI hc hf hg hev
  obtain ⟨h1, f, args, h2, h3⟩ := h ev w hI hc hf hg hev
  rw [if_pos h1]
  unfold RunsTo
  rw [h2]
  exact h3
/-- what is said of slots stays true where the special words do. -/
theorem Phi.mono {F : List (Nat × Value)} {S : List (Nat × (Value → World → Prop))} {w1 w2 : World} (h : ∀ x ∈ S, ∀ v, x.2 v w1 → x.2 v w2) {t : Nat} {v : Value} (hp : Phi F S t v w1) : Phi F S t v w2 := by
  unfold Phi at *
  cases hs : S.lookup t with
  | none => rw [hs] at hp; exact hp
  | some p =>
    rw [hs] at hp
    obtain ⟨t', ht⟩ := lookup_mem hs
    exact h _ ht v hp
/-- an exit that is plain. -/
def Nrm (Q : Exit → Act → World → Prop) (e : Exit) (a : Act) (w : World) : Prop := e = .normal ∧ Q .normal a w
theorem Nrm.letsOut {Q : Exit → Act → World → Prop} (h : LetsOut (Nrm Q)) : False := by
  obtain ⟨a, w, h, _⟩ := h
  cases h
theorem rows_in {P : Program} {l n : Nat} {row : String} {args : Array Value} {w : World} {R : Value → World → Prop} (h : Rows P row args w R) : RowsIn (Fence.wide.inRound l) n P row args w R := by
  intro c cs _
  obtain ⟨v, w', hr, hs⟩ := h c cs
  exact ⟨v, w', hr, stepsIn_wide.2 hs⟩
/-- no operation defers. -/
def plainB (l : List Oper) : Bool := l.all fun o => match o.op with | .defer _ => false | _ => true
theorem wpOp_in {P : Program} {ops : List Oper} {Q : Exit → Act → World → Prop} {K K' : Act → World → Prop} {i l n : Nat} {a : Act} {w : World} (hd : plainB ops = true) (hKK : ∀ a w, K a w → K' a w) (h : wpOp P ops.toArray (Nrm Q) i K a w) : wpOpIn (Fence.wide.inRound l) n P ops.toArray Q i K' a w := by
  unfold wpOp at h
  unfold wpOpIn
  simp only [List.getElem?_toArray] at h ⊢
  cases ho : ops[i]? with
  | none => rw [ho] at h; exact hKK _ _ h
  | some o =>
    rw [ho] at h
    simp only at h ⊢
    have hdo : ∀ c : Call, o.op ≠ Op.defer c := by
      intro c e
      have := List.all_eq_true.1 hd o (List.mem_of_getElem? ho)
      rw [e] at this
      exact Bool.noConfusion this
    by_cases hw : Region.wanted o (yielded ops.toArray a.tmps) = true
    · rw [if_pos hw] at h ⊢
      rcases h with h | ⟨_, h⟩
      · refine ⟨fun _ _ => trivial, ?_⟩
        rw [show (Fence.wide.inRound l).round = some l from rfl, Oper.semAt_some l a.eval o hdo]
        unfold Oper.wp at h
        generalize Sem.run P (execOp a.eval o) w = r at h ⊢
        cases r with
        | halt x w' =>
          cases x <;> simp only [Oper.upon] at h <;> simp only [Oper.uponIn]
          all_goals first | exact h.elim | (cases h.1)
        | ok x w' =>
          cases x <;> simp only [Oper.upon] at h <;> simp only [Oper.uponIn]
          case value v => exact hKK _ _ h
          case skip => exact hKK _ _ h
          case defer d => exact hKK _ _ h
          case enter f args =>
            refine ⟨(fun h => by cases h), (CallsIn.inRound l (callsIn_wide.2 h)).mono ?_⟩
            rintro e w'' h
            cases e with
            | returned v => exact hKK _ _ h
            | panicked c => cases h.1
            | outgrown => exact (Nrm.letsOut h).elim
          case row row args =>
            refine ⟨(fun h => by cases h), ?_⟩
            intro c cs _
            obtain ⟨v, w'', hr, hs⟩ := h c cs
            exact ⟨v, w'', hKK _ _ hr, stepsIn_wide.2 hs⟩
      · exact (Nrm.letsOut h).elim
    · rw [if_neg hw] at h ⊢
      exact ⟨fun _ _ => trivial, hKK _ _ h⟩
theorem any_in {P : Program} {ops : List Oper} {Q : Exit → Act → World → Prop} {l n : Nat} (hd : plainB ops = true) : ∀ (fuel : Nat) (listed : Array Bool) (a : Act) (w : World), wpAny P .any ops.toArray (Nrm Q) fuel listed a w → wpAnyIn (Fence.wide.inRound l) n P .any ops.toArray Q fuel listed a w
  | 0, listed, a, w, h => ⟨h.1, h.2.2⟩
  | fuel + 1, listed, a, w, h => ⟨fun hr => (h.1 hr).2, fun i hi => wpOp_in hd (fun a w h => any_in hd fuel _ a w h) (h.2 i hi)⟩
/-- **THE LAW**: a region that draws, in a round. -/
theorem wpIn_region_round {P : Program} {ops : List Oper} {Q : Exit → Act → World → Prop} {id l n : Nat} {a : Act} {w : World} (hm : P.follows .mixedOrders = true) (hd : plainB ops = true)
    (h : wpAny P .any ops.toArray (Nrm Q) ops.toArray.size (Array.replicate ops.toArray.size false) a { w with drawn := w.drawn + 1 }) : (Code.region id ops.toArray true).wpIn (Fence.wide.inRound l) n P Q a w :=
  wpIn_region_any hm (any_in hd _ _ _ _ h)
end Go.Proofs.YtbbcphloafmldaaGreat

/-! A region that draws its order, by an invariant of what has been listed, of the slots and of the world. No program is named here. -/
namespace Go.Proofs.YtbbcphloafmldaaGreat
open Go.RowKit
set_option linter.unusedVariables false
section
variable {P : Program} {l : List Oper}
def onL (L : Nat → Bool) (i : Nat) : Nat → Bool := fun j => if j = i then true else L j
def putV (V : Nat → Value) (d : Option Nat) (v : Value) : Nat → Value := match d with | none => V | some d => fun t => if t = d then v else V t
theorem onL_same (L : Nat → Bool) (i : Nat) : onL L i i = true := if_pos rfl
theorem onL_ne {L : Nat → Bool} {i j : Nat} (h : j ≠ i) : onL L i j = L j := if_neg h
/-- what is asked of one operation. -/
def StepI (P : Program) (l : List Oper) (M : (Nat → Bool) → (Nat → Value) → World → Prop) (i : Nat) (o : Oper) : Prop :=
  ∀ (L : Nat → Bool) (V : Nat → Value) (w : World) (ev : Operand → Value), Evs ev → (∀ t, ev (.tmp t) = V t) → L i = false → (∀ e ∈ o.after.toList, Region.binds .any e = true → L e.on = true) → (∀ (j : Nat) (oj : Oper), l[j]? = some oj → L j = true → ∀ e ∈ oj.after.toList, Region.binds .any e = true → L e.on = true) → M L V w →
    Region.wanted o (saysOf l ev) = true ∧ RunsTo P o ev w fun v w' => M (onL L i) (putV V o.dst v) w'
def StepIs (P : Program) (l : List Oper) (M : (Nat → Bool) → (Nat → Value) → World → Prop) : Nat → List Oper → Prop
  | _, [] => True
  | i, o :: r => StepI P l M i o ∧ StepIs P l M (i + 1) r
theorem StepIs.get {M : (Nat → Bool) → (Nat → Value) → World → Prop} : ∀ {r : List Oper} {k : Nat}, StepIs P l M k r → ∀ i o, r[i]? = some o → StepI P l M (k + i) o
  | [], _, _, i, o, h => by simp at h
  | x :: r, k, h, i, o, ho => by
    cases i with
    | zero => simp at ho; subst ho; exact h.1
    | succ i =>
      have := StepIs.get h.2 i o (by simpa using ho)
      rw [show k + (i + 1) = k + 1 + i by omega]
      exact this
theorem inv_any {M : (Nat → Bool) → (Nat → Value) → World → Prop} {a0 : Act} (hg : growB l = true) (hd : ∀ d ∈ dsts l, d < a0.tmps.size) (hops : StepIs P l M 0 l) {Q : Exit → Act → World → Prop}
    (hend : ∀ (a : Act) (w : World) (L : Nat → Bool), (∀ j, j < l.length → L j = true) → a.defers = a0.defers → a.tmps.size = a0.tmps.size → (∀ t, t ∉ dsts l → a.tmps.getD t undef = a0.tmps.getD t undef) → M L (fun t => a.tmps.getD t undef) w → Q .normal a w) :
    ∀ (fuel : Nat) (listed : Array Bool) (a : Act) (w : World), listed.size = l.length → a.defers = a0.defers → a.tmps.size = a0.tmps.size → (∀ t, t ∉ dsts l → a.tmps.getD t undef = a0.tmps.getD t undef) → (∀ (j : Nat) (oj : Oper), l[j]? = some oj → listed.getD j false = true → ∀ e ∈ oj.after.toList, Region.binds .any e = true → listed.getD e.on false = true) →
      M (fun j => listed.getD j false) (fun t => a.tmps.getD t undef) w → (listed.toList.filter (! ·)).length ≤ fuel → wpAny P .any l.toArray Q fuel listed a w := by
  intro fuel
  induction fuel with
  | zero =>
    intro listed a w hs hdf hts hoth hcl hM hf
    have hr : Region.ready .any l.toArray listed = [] := by
      rw [List.eq_nil_iff_forall_not_mem]
      intro i hi
      simp only [Region.ready, List.mem_filter, List.mem_range, List.size_toArray, Bool.and_eq_true] at hi
      have h0 : listed.toList.filter (! ·) = [] := List.eq_nil_of_length_eq_zero (by omega)
      have hil : i < listed.size := by rw [hs]; exact hi.1
      have hm : listed[i] ∈ listed.toList := by simp
      have hx : (! listed[i]) = true := by
        have := hi.2.1
        simpa [Array.getD_eq_getD_getElem?, Array.getElem?_eq_getElem hil] using this
      have : listed[i] ∈ listed.toList.filter (! ·) := List.mem_filter.2 ⟨hm, hx⟩
      rw [h0] at this
      cases this
    exact ⟨hr, hend a w _ (ready_all hg hs hr) hdf hts hoth hM⟩
  | succ fuel ih =>
    intro listed a w hs hdf hts hoth hcl hM hf
    refine ⟨fun hr => hend a w _ (ready_all hg hs hr) hdf hts hoth hM, fun i hi => ?_⟩
    simp only [Region.ready, List.mem_filter, List.mem_range, List.size_toArray, Bool.and_eq_true] at hi
    obtain ⟨hil, hnl, haft⟩ := hi
    obtain ⟨o, ho⟩ : ∃ o, l[i]? = some o := ⟨_, List.getElem?_eq_getElem hil⟩
    simp only [List.getElem?_toArray, ho, Option.map_some, Option.getD_some] at haft
    have haft2 : ∀ e ∈ o.after.toList, Region.binds .any e = true → listed.getD e.on false = true := by
      intro e he hb
      obtain ⟨k, hk, rfl⟩ := List.getElem_of_mem he
      have h3 := (Array.all_eq_true.1 haft) k (by simpa using hk)
      simp only [Array.getElem_toList] at hb ⊢
      simpa [hb] using h3
    have hsay : saysOf l a.eval = yielded l.toArray a.tmps := funext (yielded_says a)
    have hisz : i < listed.size := by rw [hs]; exact hil
    have hnl2 : listed.getD i false = false := by
      have : listed.getD i true = listed.getD i false := by simp only [Array.getD_eq_getD_getElem?, Array.getElem?_eq_getElem hisz, Option.getD_some]
      rw [← this]; simpa using hnl
    have hob := StepIs.get hops i o ho
    rw [Nat.zero_add] at hob
    obtain ⟨hw, hrun⟩ := hob (fun j => listed.getD j false) (fun t => a.tmps.getD t undef) w a.eval ⟨fun _ => rfl, fun _ => rfl, fun _ => rfl⟩ (fun _ => rfl) hnl2 haft2 hcl hM
    rw [hsay] at hw
    have next : ∀ v w', M (onL (fun j => listed.getD j false) i) (putV (fun t => a.tmps.getD t undef) o.dst v) w' → wpAny P .any l.toArray Q fuel (listed.setIfInBounds i true) (a.put o.dst v) w' := by
      intro v w' k
      have eL : (fun j => (listed.setIfInBounds i true).getD j false) = onL (fun j => listed.getD j false) i := by
        funext j
        by_cases h : j = i
        · subst h; simp [onL, Array.getD_eq_getD_getElem?, hisz]
        · rw [onL_ne h]; simp only [Array.getD_eq_getD_getElem?]; rw [Array.getElem?_setIfInBounds_ne (Ne.symm h)]
      have eV : (fun t => (a.put o.dst v).tmps.getD t undef) = putV (fun t => a.tmps.getD t undef) o.dst v := by
        funext t
        cases hod : o.dst with
        | none => rfl
        | some d =>
          show _ = if t = d then v else _
          by_cases h : t = d
          · subst h; rw [if_pos rfl]; exact getD_put _ _ _ (by rw [hts]; exact hd t (List.mem_filterMap.2 ⟨o, List.mem_of_getElem? ho, hod⟩))
          · rw [if_neg h]; exact getD_put_ne _ _ _ _ h
      refine ih _ _ _ (by simpa using hs) (by cases o.dst <;> simp [Act.put, hdf]) (by cases o.dst <;> simp [Act.put, hts]) (fun t ht => ?_) ?_ (by rw [eL, eV]; exact k) ?_
      · rw [congrFun eV t]
        cases hod : o.dst with
        | none => exact hoth t ht
        | some d =>
          show (if t = d then v else _) = _
          rw [if_neg (fun e => ht (List.mem_filterMap.2 ⟨o, List.mem_of_getElem? ho, by rw [hod, e]⟩))]
          exact hoth t ht
      · intro j oj hj hlj e he hb
        refine listed_put ?_
        rcases put_listed hlj with rfl | hlj
        · rw [ho] at hj; cases hj
          exact haft2 e he hb
        · exact hcl j oj hj hlj e he hb
      · have hx : listed[i] = false := by simpa [Array.getD_eq_getD_getElem?, Array.getElem?_eq_getElem hisz] using hnl2
        have key : ∀ (m : List Bool) (k : Nat), m[k]? = some false → ((m.set k true).filter (! ·)).length + 1 = (m.filter (! ·)).length := by
          intro m
          induction m with
          | nil => intro k hk; simp at hk
          | cons b m ihm =>
            intro k hk
            cases k with
            | zero => simp at hk; subst hk; simp
            | succ k =>
              simp only [List.set_cons_succ]
              have := ihm k (by simpa using hk)
              cases b <;> simp <;> omega
        have hk := key listed.toList i (by simp [Array.getElem?_toList, Array.getElem?_eq_getElem hisz, hx])
        have e2 : (listed.setIfInBounds i true).toList = listed.toList.set i true := by simp
        rw [e2]; omega
    unfold wpOp
    simp only [List.getElem?_toArray, ho]
    rw [if_pos hw]
    refine Or.inl ?_
    unfold RunsTo at hrun
    unfold Oper.wp
    generalize (execOp a.eval o).run P w = r at hrun
    cases r with
    | halt x w' => simp [runsUpon] at hrun
    | ok n w' =>
      cases n <;> simp only [runsUpon] at hrun <;> simp only [Oper.upon]
      case value v => exact next _ _ hrun
      case skip =>
        have e : a.put o.dst undef = a.put o.dst undef := rfl
        exact next _ _ hrun
      case enter f args =>
        refine hrun.mono ?_
        rintro e w'' ⟨v, rfl, k⟩
        exact next _ _ k
end
/-- **THE LAW**. -/
theorem any_region_inv {P : Program} {l : List Oper} {Q : Exit → Act → World → Prop} {a : Act} {w : World} (n : Nat) (M : (Nat → Bool) → (Nat → Value) → World → Prop)
    (hB : (growB l && (dsts l).all fun d => decide (d < n)) = true) (hn : a.tmps.size = n) (h0 : M (fun _ => false) (fun t => a.tmps.getD t undef) { w with drawn := w.drawn + 1 }) (hops : StepIs P l M 0 l)
    (hend : ∀ (V : Nat → Value) (w' : World) (L : Nat → Bool), (∀ j, j < l.length → L j = true) → M L V w' → Q .normal ((dsts l).foldl (fun a d => a.put (some d) (V d)) a) w') :
    wpAny P .any l.toArray Q l.toArray.size (Array.replicate l.toArray.size false) a { w with drawn := w.drawn + 1 } := by
  simp only [Bool.and_eq_true] at hB
  subst hn
  have hrep : ∀ j, (Array.replicate l.toArray.size false).getD j false = false := by
    intro j
    simp only [Array.getD_eq_getD_getElem?, Array.getElem?_replicate]
    split <;> rfl
  refine inv_any (a0 := a) hB.1 (fun d hd => of_decide_eq_true (List.all_eq_true.1 hB.2 d hd)) hops ?_ _ _ _ _ (by simp) rfl rfl (fun _ _ => rfl) (fun j oj _ hl => ?_) ?_ ?_
  · intro a' w' L hL hdf hts hoth hM
    have e : a' = (dsts l).foldl (fun a d => a.put (some d) (a'.tmps.getD d undef)) a := by
      refine act_eq (by rw [puts_defers (fun d => a'.tmps.getD d undef)]; exact hdf) (by rw [puts_size (fun d => a'.tmps.getD d undef)]; exact hts) (fun t ht => ?_)
      rw [puts_get (fun d => a'.tmps.getD d undef) t _ _ (by omega)]
      by_cases h : t ∈ dsts l
      · rw [if_pos h]
      · rw [if_neg h]; exact hoth t h
    rw [e]
    exact hend (fun d => a'.tmps.getD d undef) w' L hL hM
  · rw [hrep] at hl; cases hl
  · have : (fun j => (Array.replicate l.toArray.size false).getD j false) = fun _ => false := funext hrep
    rw [this]; exact h0
  · simp only [List.size_toArray, Array.toList_replicate]
    exact Nat.le_trans (List.length_filter_le _ _) (by simp)
end Go.Proofs.YtbbcphloafmldaaGreat

/-! A region that draws its order and ends in ONE operation (c) that turns memory and waits for all others, which only make memory: what c finds is told with the values that stand in the slots. No program is named here. -/
namespace Go.Proofs.YtbbcphloafmldaaGreat
open Go.RowKit
set_option linter.unusedVariables false
section
variable {P : Program} {l : List Oper} {Φ : Nat → Value → World → Prop} {a0 : Act}
/-- what is asked of all operations but c. -/
def OblBut (P : Program) (l : List Oper) (I : World → Prop) (Φ : Nat → Value → World → Prop) (c : Nat) : Nat → List Oper → Prop
  | _, [] => True
  | i, o :: r => (i ≠ c → Obl P l I Φ o) ∧ OblBut P l I Φ c (i + 1) r
theorem OblBut.get {I : World → Prop} {c : Nat} : ∀ {r : List Oper} {k : Nat}, OblBut P l I Φ c k r → ∀ i o, r[i]? = some o → k + i ≠ c → Obl P l I Φ o
  | [], _, _, i, o, h, _ => by simp at h
  | x :: r, k, h, i, o, ho, hc => by
    cases i with
    | zero => simp at ho; subst ho; exact h.1 hc
    | succ i => exact OblBut.get h.2 i o (by simpa using ho) (by omega)
theorem last_any {w0 : World} {c : Nat} {ks : List Nat} (hst : ∀ t v w1 w2, Ext w1 w2 → Φ t v w1 → Φ t v w2) (hone : onceB l = true) (hg : growB l = true) (h2 : twoB l c ks = true) (hks : ∀ j, j < l.length → j ≠ c → ks.getD j 2 = 0) (hcl : c < l.length) (hcd : (l[c]?).bind (·.dst) = none)
    (hd : ∀ d ∈ dsts l, d < a0.tmps.size) (hbase : ∀ o ∈ l, ∀ t ∈ reads l o, t ∉ dsts l → ∀ w, Φ t (a0.tmps.getD t undef) w) (hops : OblBut P l (Ext w0) Φ c 0 l) {Q : Exit → Act → World → Prop}
    (hlast : ∀ a w o, l[c]? = some o → Ext w0 w → a.defers = a0.defers → a.tmps.size = a0.tmps.size → (∀ d ∈ dsts l, Φ d (a.tmps.getD d undef) w) → (∀ t, t ∉ dsts l → a.tmps.getD t undef = a0.tmps.getD t undef) → Region.wanted o (saysOf l a.eval) = true ∧ ∃ w', (execOp a.eval o).run P w = .ok .skip w' ∧ Q .normal a w') :
    ∀ (fuel : Nat) (listed : Array Bool) (a : Act) (w : World), ((Mid2 l c (Ext w0) (fun _ => True) Φ a0 listed a w ∧ listed.getD c false = false ∧ (listed.toList.filter (! ·)).length ≤ fuel) ∨ (listed.size = l.length ∧ (∀ j, j < l.length → listed.getD j false = true) ∧ Q .normal a w)) → wpAny P .any l.toArray Q fuel listed a w := by
  intro fuel
  have done : ∀ (listed : Array Bool), listed.size = l.length → (∀ j, j < l.length → listed.getD j false = true) → ∀ i, i ∉ Region.ready .any l.toArray listed := by
    intro listed hs hall i hi
    simp only [Region.ready, List.mem_filter, List.mem_range, List.size_toArray, Bool.and_eq_true] at hi
    have h1 := hall i hi.1
    have h3 : listed.getD i true = listed.getD i false := by simp only [Array.getD_eq_getD_getElem?, Array.getElem?_eq_getElem (show i < listed.size by omega), Option.getD_some]
    have h4 := hi.2.1
    rw [h3, h1] at h4
    simp at h4
  induction fuel with
  | zero =>
    rintro listed a w (⟨h, hc, hf⟩ | ⟨hs, hall, hq⟩)
    · exfalso
      have hil : c < listed.size := by rw [h.mid.size]; exact hcl
      have h0 : listed.toList.filter (! ·) = [] := List.eq_nil_of_length_eq_zero (by omega)
      have hm : listed[c] ∈ listed.toList := by simp
      have hx : (! listed[c]) = true := by simpa [Array.getD_eq_getD_getElem?, Array.getElem?_eq_getElem hil] using hc
      have : listed[c] ∈ listed.toList.filter (! ·) := List.mem_filter.2 ⟨hm, hx⟩
      rw [h0] at this
      cases this
    · exact ⟨List.eq_nil_iff_forall_not_mem.2 (done listed hs hall), hq⟩
  | succ fuel ih =>
    rintro listed a w (⟨h, hc, hf⟩ | ⟨hs, hall, hq⟩)
    · refine ⟨fun hr => ?_, fun i hi => ?_⟩
      · have := ready_all hg h.mid.size hr c hcl
        rw [hc] at this; cases this
      have hi0 := hi
      simp only [Region.ready, List.mem_filter, List.mem_range, List.size_toArray, Bool.and_eq_true] at hi
      obtain ⟨hil, hnl, haft⟩ := hi
      obtain ⟨o, ho⟩ : ∃ o, l[i]? = some o := ⟨_, List.getElem?_eq_getElem hil⟩
      have hgi := List.all_eq_true.1 hg i (List.mem_range.2 hil)
      simp only [ho, Bool.and_eq_true] at hgi
      obtain ⟨⟨⟨_, hr⟩, _⟩, _⟩ := hgi
      simp only [List.getElem?_toArray, ho, Option.map_some, Option.getD_some] at haft
      have haft2 : ∀ e ∈ o.after, Region.binds .any e = true → listed.getD e.on false = true := by
        intro e he hb
        obtain ⟨k, hk, rfl⟩ := Array.getElem_of_mem he
        have h3 := (Array.all_eq_true.1 haft) k hk
        simpa [hb] using h3
      have hsay : saysOf l a.eval = yielded l.toArray a.tmps := funext (yielded_says a)
      have hclosed : ∀ j oj, l[j]? = some oj → (listed.setIfInBounds i true).getD j false = true → ∀ e ∈ oj.after, Region.binds .any e = true → (listed.setIfInBounds i true).getD e.on false = true := by
        intro j oj hj hlj e he hb
        refine listed_put ?_
        rcases put_listed hlj with rfl | hlj
        · rw [ho] at hj; cases hj
          exact haft2 e he hb
        · exact h.closed j oj hj hlj e he hb
      have hisz : i < listed.size := by rw [h.mid.size]; exact hil
      have hnl2 : listed.getD i false = false := by
        have : listed.getD i true = listed.getD i false := by simp only [Array.getD_eq_getD_getElem?, Array.getElem?_eq_getElem hisz, Option.getD_some]
        rw [← this]; simpa using hnl
      have hit : (listed.setIfInBounds i true).getD i false = true := by simp [Array.getD_eq_getD_getElem?, hisz]
      by_cases hic : i = c
      · have hct : (listed.setIfInBounds i true).getD c false = true := by rw [← hic]; exact hit
        have hothers : ∀ j, j < l.length → (listed.setIfInBounds i true).getD j false = true := fun j hj => by
          by_cases hjc : j = c
          · rw [hjc]; exact hct
          · exact early_listed h2 hg hclosed hct _ j (Nat.le_refl _) hj (hks j hj hjc)
        have hod : o.dst = none := by
          have h5 := hcd
          rw [← hic, ho] at h5
          exact h5
        obtain ⟨hw, w', hrun, hq⟩ := hlast a w o (by rw [← hic]; exact ho) (h.zero hc) h.mid.defers h.mid.tsize (fun d hdm => by
          obtain ⟨oj, hoj, hjd⟩ := List.mem_filterMap.1 hdm
          obtain ⟨j, hj⟩ := List.getElem?_of_mem hoj
          have hjl : j < l.length := (List.getElem?_eq_some_iff.1 hj).1
          have hji : j ≠ i := fun e => by rw [e, ho] at hj; cases hj; rw [hod] at hjd; cases hjd
          have hlj : listed.getD j false = true := by
            rcases put_listed (hothers j hjl) with e | e
            · exact absurd e hji
            · exact e
          exact h.mid.done j oj d hj hjd hlj) h.mid.others
        rw [hsay] at hw
        unfold wpOp
        simp only [List.getElem?_toArray, ho]
        rw [if_pos hw]
        refine Or.inl ?_
        unfold Oper.wp
        rw [hrun]
        simp only [Oper.upon]
        rw [hod]
        exact ih _ _ _ (Or.inr ⟨by simpa using h.mid.size, hothers, hq⟩)
      · have hknow : Know Φ a.eval w (reads l o) := know_all (by
          intro t ht
          show Φ t (a.tmps.getD t undef) w
          by_cases hdt : t ∈ dsts l
          · obtain ⟨oj, hoj, hjd⟩ := List.mem_filterMap.1 hdt
            obtain ⟨j, hj⟩ := List.getElem?_of_mem hoj
            have hjl : j < l.length := (List.getElem?_eq_some_iff.1 hj).1
            have h1 := List.all_eq_true.1 (List.all_eq_true.1 hr t ht) j (List.mem_range.2 hjl)
            simp only [hj, Option.bind_some, hjd, BEq.rfl, Bool.not_true, Bool.false_or, Array.any_eq_true, Bool.and_eq_true, beq_iff_eq] at h1
            obtain ⟨k, hk, hb, hon⟩ := h1
            have h2 := haft2 _ (Array.getElem_mem hk) hb
            rw [hon] at h2
            exact h.mid.done j oj t hj hjd h2
          · rw [h.mid.others t hdt]
            exact hbase o (List.mem_of_getElem? ho) t ht hdt w)
        have hobl := (OblBut.get hops i o ho (by omega)) a.eval w (h.zero hc) (fun _ => rfl) (fun _ => rfl) (fun _ => rfl) hknow
        rw [hsay] at hobl
        have next : ∀ v w', Ext w w' → (∀ d, o.dst = some d → Φ d v w') → wpAny P .any l.toArray Q fuel (listed.setIfInBounds i true) (a.put o.dst v) w' := by
          intro v w' k1 k3
          have hsame : (listed.setIfInBounds i true).getD c false = listed.getD c false := by
            simp only [Array.getD_eq_getD_getElem?]
            rw [Array.getElem?_setIfInBounds_ne hic]
          refine ih _ _ _ (Or.inl ⟨⟨h.mid.put hst (fun _ _ _ _ => trivial) hone hd ho k1 k3, hclosed, fun _ => trivial, fun _ => (h.zero hc).trans k1⟩, by rw [hsame]; exact hc, ?_⟩)
          have hx : listed[i] = false := by simpa [Array.getD_eq_getD_getElem?, Array.getElem?_eq_getElem hisz] using hnl2
          have key : ∀ (m : List Bool) (k : Nat), m[k]? = some false → ((m.set k true).filter (! ·)).length + 1 = (m.filter (! ·)).length := by
            intro m
            induction m with
            | nil => intro k hk; simp at hk
            | cons b m ihm =>
              intro k hk
              cases k with
              | zero => simp at hk; subst hk; simp
              | succ k =>
                simp only [List.set_cons_succ]
                have := ihm k (by simpa using hk)
                cases b <;> simp <;> omega
          have hk := key listed.toList i (by simp [Array.getElem?_toList, Array.getElem?_eq_getElem hisz, hx])
          have e2 : (listed.setIfInBounds i true).toList = listed.toList.set i true := by simp
          rw [e2]; omega
        unfold wpOp
        simp only [List.getElem?_toArray, ho]
        split
        · rename_i hw
          rw [if_pos hw] at hobl
          refine Or.inl ?_
          unfold RunsTo at hobl
          unfold Oper.wp
          generalize (execOp a.eval o).run P w = r at hobl
          cases r with
          | halt x w' => simp [runsUpon] at hobl
          | ok n w' =>
            cases n <;> simp only [runsUpon] at hobl <;> simp only [Oper.upon]
            case value v => exact next _ _ hobl.1 hobl.2
            case skip => exact next _ _ hobl.1 hobl.2
            case enter f args =>
              refine hobl.mono ?_
              rintro e w'' ⟨v, rfl, k1, k3⟩
              exact next _ _ k1 k3
        · rename_i hw
          rw [if_neg hw] at hobl
          exact next _ _ (Ext.refl _) hobl
    · exact ⟨fun _ => hq, fun i hi => absurd hi (done listed hs hall i)⟩
end
/-- **THE LAW**: the last operation turns memory. -/
theorem wp_region_last {P : Program} {l : List Oper} {id : Nat} {Q : Exit → Act → World → Prop} {a : Act} {w : World} (n : Nat) (B D : List Nat) (c : Nat) (hm : P.follows .mixedOrders = true) (Φ : Nat → Value → World → Prop)
    (hst : Stab Φ)
    (hB : (growB l && onceB l && ((dsts l).all fun d => decide (d < n)) && ((l.flatMap (reads l)).all fun t => (dsts l).contains t || B.contains t) && twoB l c ((List.range l.length).map fun j => if j == c then 2 else 0) && decide (c < l.length) && ((l[c]?).bind (·.dst)).isNone) = true) (hD : dsts l = D)
    (hn : a.tmps.size = n) (hbase : ∀ w' : World, Know Φ a.eval w' B)
    (hops : OblBut P l (Ext w) Φ c 0 l)
    (hend : ∀ (vs : Nat → Value) w' o, l[c]? = some o → Ext w w' → (∀ d ∈ D, Φ d (vs d) w') → Region.wanted o (saysOf l (D.foldl (fun a d => a.put (some d) (vs d)) a).eval) = true ∧ ∃ w'', (execOp (D.foldl (fun a d => a.put (some d) (vs d)) a).eval o).run P w' = .ok .skip w'' ∧ Q .normal (D.foldl (fun a d => a.put (some d) (vs d)) a) w'') : (Code.region id l.toArray true).wp P Q a w := by
  simp only [Bool.and_eq_true, decide_eq_true_eq] at hB
  subst hn
  subst hD
  refine wp_region_any hm ?_
  have hx : Ext w { w with drawn := w.drawn + 1 } := (Ext.refl w).drew
  have get : ∀ (r : List Nat) (w' : World), Know Φ a.eval w' r → ∀ t ∈ r, Φ t (a.tmps.getD t undef) w' := by
    intro r
    induction r with
    | nil => intro w' _ t ht; cases ht
    | cons x r ih =>
      intro w' hk t ht
      cases List.mem_cons.1 ht with
      | inl e => subst e; exact hk.1
      | inr e => exact ih w' hk.2 t e
  have hrep : ∀ j, (Array.replicate l.toArray.size false).getD j false = false := by
    intro j
    simp only [Array.getD_eq_getD_getElem?, Array.getElem?_replicate]
    split <;> rfl
  refine last_any (a0 := a) (Φ := Φ) (w0 := w) (c := c) (ks := (List.range l.length).map fun j => if j == c then 2 else 0) hst hB.1.1.1.1.1.2 hB.1.1.1.1.1.1 hB.1.1.2 (fun j hj hne => by simp [List.getD, hj, hne]) hB.1.2 (by simpa using hB.2) (fun d hd => of_decide_eq_true (List.all_eq_true.1 hB.1.1.1.1.2 d hd)) ?_ hops ?_ _ _ _ _ (Or.inl ⟨⟨⟨trivial, by simp, rfl, rfl, fun j o d hj hd hl => ?_, fun _ _ => rfl⟩, fun j oj _ hl => ?_, fun _ => trivial, fun _ => hx⟩, hrep c, ?_⟩)
  · intro o ho t ht hd w'
    have h1 := List.all_eq_true.1 hB.1.1.1.2 t (List.mem_flatMap.2 ⟨o, ho, ht⟩)
    simp only [Bool.or_eq_true, List.contains_iff_mem] at h1
    exact get B w' (hbase w') t (h1.resolve_left hd)
  · intro a' w' o hco hi hd hs hf ho
    have e : a' = (dsts l).foldl (fun a d => a.put (some d) (a'.tmps.getD d undef)) a := by
      refine act_eq (by rw [puts_defers (fun d => a'.tmps.getD d undef)]; exact hd) (by rw [puts_size (fun d => a'.tmps.getD d undef)]; exact hs) (fun t ht => ?_)
      rw [puts_get (fun d => a'.tmps.getD d undef) t _ _ (by omega)]
      by_cases h : t ∈ dsts l
      · rw [if_pos h]
      · rw [if_neg h]; exact ho t h
    rw [e]
    exact hend (fun d => a'.tmps.getD d undef) w' o hco hi hf
  · rw [hrep] at hl; cases hl
  · rw [hrep] at hl; cases hl
  · simp only [List.size_toArray, Array.toList_replicate]
    exact Nat.le_trans (List.length_filter_le _ _) (by simp)
end Go.Proofs.YtbbcphloafmldaaGreat
