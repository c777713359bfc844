/- A region that draws its order, inside a round of a range over a function: what the plain law says of it holds there too. No program is named here. -/
import Derived.Test.YtaabmlnbadpfgaaBnd3
import Derived.Stop.RegionWithIn
import Derived.RangeFuncCalls
namespace Go.Proofs.Ytaabmlnbadpfgaa
open Go.RowKit
set_option linter.unusedVariables false
/-- c is a store. -/
theorem OblC.skip {P : Program} {l : List Oper} {I0 I1 : World → Prop} {Φ : Nat → Value → World → Prop} {S : List Nat} {o : Oper}
    (h : ∀ (ev : Operand → Value) (w : World), I0 w → (∀ c, ev (.const c) = c) → (∀ f, ev (.func f) = .func (.func f) #[] #[]) → (∀ g, ev (.global g) = .pointer (some ⟨g, 0, none⟩)) → Know Φ ev w (reads l o) → Region.wanted o (saysOf l ev) = true ∧ ∃ w', (execOp ev o).run P w = .ok .skip w' ∧
      I1 w' ∧ (∀ t u, t ∈ S → Φ t u w → Φ t u w') ∧ ∀ d, o.dst = some d → Φ d undef w') : OblC P l I0 I1 Φ S o := by
  intro ev w hI hc hf hg hev
  obtain ⟨h1, w', h2, h3⟩ := h ev w hI hc hf hg hev
  refine ⟨h1, ?_⟩
  unfold RunsTo
  rw [h2]
  exact h3
/-- an operation that makes memory. -/
theorem obl_mem {P : Program} {l : List Oper} {I : World → Prop} {Φ : Nat → Value → World → Prop} {o : Oper}
    (h : ∀ (ev : Operand → Value) (w : World), I w → (∀ c, ev (.const c) = c) → (∀ f, ev (.func f) = .func (.func f) #[] #[]) → (∀ g, ev (.global g) = .pointer (some ⟨g, 0, none⟩)) → Know Φ ev w (reads l o) → Region.wanted o (saysOf l ev) = true ∧ ∃ v w', (execOp ev o).run P w = .ok (.value v) w' ∧ Ext w w' ∧ ∀ d, o.dst = some d → Φ d v w') : Obl P l I Φ o := by
  intro ev w hI hc hf hg hev
  obtain ⟨h1, v, w', h2, h3⟩ := h ev w hI hc hf hg hev
  rw [if_pos h1]
  unfold RunsTo
  rw [h2]
  exact h3
/-- a call whose arguments are found as it comes up. -/
theorem obl_callx {P : Program} {l : List Oper} {I : World → Prop} {Φ : Nat → Value → World → Prop} {o : Oper}
    (h : ∀ (ev : Operand → Value) (w : World), I w → (∀ c, ev (.const c) = c) → (∀ f, ev (.func f) = .func (.func f) #[] #[]) → (∀ g, ev (.global g) = .pointer (some ⟨g, 0, none⟩)) → Know Φ ev w (reads l o) → Region.wanted o (saysOf l ev) = true ∧ ∃ f args, (execOp ev o).run P w = .ok (.enter f args) w ∧
      Calls P f args w fun e w' => ∃ v, e = .returned v ∧ Ext w w' ∧ ∀ d, o.dst = some d → Φ d v w') : Obl P l I Φ o := by
  intro ev w hI hc hf hg hev
  obtain ⟨h1, f, args, h2, h3⟩ := h ev w hI hc hf hg hev
  rw [if_pos h1]
  unfold RunsTo
  rw [h2]
  exact h3
/-- what is said of slots stays true where the special words do. -/
theorem Phi.mono {F : List (Nat × Value)} {S : List (Nat × (Value → World → Prop))} {w1 w2 : World} (h : ∀ x ∈ S, ∀ v, x.2 v w1 → x.2 v w2) {t : Nat} {v : Value} (hp : Phi F S t v w1) : Phi F S t v w2 := by
  unfold Phi at *
  cases hs : S.lookup t with
  | none => rw [hs] at hp; exact hp
  | some p =>
    rw [hs] at hp
    obtain ⟨t', ht⟩ := lookup_mem hs
    exact h _ ht v hp
/-- an exit that is plain. -/
def Nrm (Q : Exit → Act → World → Prop) (e : Exit) (a : Act) (w : World) : Prop := e = .normal ∧ Q .normal a w
theorem Nrm.letsOut {Q : Exit → Act → World → Prop} (h : LetsOut (Nrm Q)) : False := by
  obtain ⟨a, w, h, _⟩ := h
  cases h
theorem rows_in {P : Program} {l n : Nat} {row : String} {args : Array Value} {w : World} {R : Value → World → Prop} (h : Rows P row args w R) : RowsIn (Fence.wide.inRound l) n P row args w R := by
  intro c cs _
  obtain ⟨v, w', hr, hs⟩ := h c cs
  exact ⟨v, w', hr, stepsIn_wide.2 hs⟩
/-- no operation defers. -/
def plainB (l : List Oper) : Bool := l.all fun o => match o.op with | .defer _ => false | _ => true
theorem wpOp_in {P : Program} {ops : List Oper} {Q : Exit → Act → World → Prop} {K K' : Act → World → Prop} {i l n : Nat} {a : Act} {w : World} (hd : plainB ops = true) (hKK : ∀ a w, K a w → K' a w) (h : wpOp P ops.toArray (Nrm Q) i K a w) : wpOpIn (Fence.wide.inRound l) n P ops.toArray Q i K' a w := by
  unfold wpOp at h
  unfold wpOpIn
  simp only [List.getElem?_toArray] at h ⊢
  cases ho : ops[i]? with
  | none => rw [ho] at h; exact hKK _ _ h
  | some o =>
    rw [ho] at h
    simp only at h ⊢
    have hdo : ∀ c : Call, o.op ≠ Op.defer c := by
      intro c e
      have := List.all_eq_true.1 hd o (List.mem_of_getElem? ho)
      rw [e] at this
      exact Bool.noConfusion this
    by_cases hw : Region.wanted o (yielded ops.toArray a.tmps) = true
    · rw [if_pos hw] at h ⊢
      rcases h with h | ⟨_, h⟩
      · refine ⟨fun _ _ => trivial, ?_⟩
        rw [show (Fence.wide.inRound l).round = some l from rfl, Oper.semAt_some l a.eval o hdo]
        unfold Oper.wp at h
        generalize Sem.run P (execOp a.eval o) w = r at h ⊢
        cases r with
        | halt x w' =>
          cases x <;> simp only [Oper.upon] at h <;> simp only [Oper.uponIn]
          all_goals first | exact h.elim | (cases h.1)
        | ok x w' =>
          cases x <;> simp only [Oper.upon] at h <;> simp only [Oper.uponIn]
          case value v => exact hKK _ _ h
          case skip => exact hKK _ _ h
          case defer d => exact hKK _ _ h
          case enter f args =>
            refine ⟨(fun h => by cases h), (CallsIn.inRound l (callsIn_wide.2 h)).mono ?_⟩
            rintro e w'' h
            cases e with
            | returned v => exact hKK _ _ h
            | panicked c => cases h.1
            | outgrown => exact (Nrm.letsOut h).elim
          case row row args =>
            refine ⟨(fun h => by cases h), ?_⟩
            intro c cs _
            obtain ⟨v, w'', hr, hs⟩ := h c cs
            exact ⟨v, w'', hKK _ _ hr, stepsIn_wide.2 hs⟩
      · exact (Nrm.letsOut h).elim
    · rw [if_neg hw] at h ⊢
      exact ⟨fun _ _ => trivial, hKK _ _ h⟩
theorem any_in {P : Program} {ops : List Oper} {Q : Exit → Act → World → Prop} {l n : Nat} (hd : plainB ops = true) : ∀ (fuel : Nat) (listed : Array Bool) (a : Act) (w : World), wpAny P .any ops.toArray (Nrm Q) fuel listed a w → wpAnyIn (Fence.wide.inRound l) n P .any ops.toArray Q fuel listed a w
  | 0, listed, a, w, h => ⟨h.1, h.2.2⟩
  | fuel + 1, listed, a, w, h => ⟨fun hr => (h.1 hr).2, fun i hi => wpOp_in hd (fun a w h => any_in hd fuel _ a w h) (h.2 i hi)⟩
/-- **THE LAW**: a region that draws, in a round. -/
theorem wpIn_region_round {P : Program} {ops : List Oper} {Q : Exit → Act → World → Prop} {id l n : Nat} {a : Act} {w : World} (hm : P.follows .mixedOrders = true) (hd : plainB ops = true)
    (h : wpAny P .any ops.toArray (Nrm Q) ops.toArray.size (Array.replicate ops.toArray.size false) a { w with drawn := w.drawn + 1 }) : (Code.region id ops.toArray true).wpIn (Fence.wide.inRound l) n P Q a w :=
  wpIn_region_any hm (any_in hd _ _ _ _ h)
end Go.Proofs.Ytaabmlnbadpfgaa
