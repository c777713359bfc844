/- A region that draws its order, by an invariant of what has been listed, of the slots and of the world; operations may be guarded. No program is named here. -/
import Derived.Test.YtbbcphloafmldaaTokColZ
namespace Go.Proofs.Ytbbcphloafmldaa
open Go.RowKit
set_option linter.unusedVariables false
section
variable {P : Program} {l : List Oper}
/-- what is asked of one operation. -/
def StepG (P : Program) (l : List Oper) (M : (Nat → Bool) → (Nat → Value) → World → Prop) (i : Nat) (o : Oper) : Prop :=
  ∀ (L : Nat → Bool) (V : Nat → Value) (w : World) (ev : Operand → Value), Evs ev → (∀ t, ev (.tmp t) = V t) → L i = false → (∀ e ∈ o.after.toList, Region.binds .any e = true → L e.on = true) → (∀ (j : Nat) (oj : Oper), l[j]? = some oj → L j = true → ∀ e ∈ oj.after.toList, Region.binds .any e = true → L e.on = true) → M L V w →
    if Region.wanted o (saysOf l ev) = true then RunsTo P o ev w fun v w' => M (onL L i) (putV V o.dst v) w' else M (onL L i) (putV V o.dst undef) w
def StepGs (P : Program) (l : List Oper) (M : (Nat → Bool) → (Nat → Value) → World → Prop) : Nat → List Oper → Prop
  | _, [] => True
  | i, o :: r => StepG P l M i o ∧ StepGs P l M (i + 1) r
theorem StepGs.get {M : (Nat → Bool) → (Nat → Value) → World → Prop} : ∀ {r : List Oper} {k : Nat}, StepGs P l M k r → ∀ i o, r[i]? = some o → StepG P l M (k + i) o
  | [], _, _, i, o, h => by simp at h
  | x :: r, k, h, i, o, ho => by
    cases i with
    | zero => simp at ho; subst ho; exact h.1
    | succ i =>
      have := StepGs.get h.2 i o (by simpa using ho)
      rw [show k + (i + 1) = k + 1 + i by omega]
      exact this
theorem inv_anyG {M : (Nat → Bool) → (Nat → Value) → World → Prop} {a0 : Act} (hg : growB l = true) (hd : ∀ d ∈ dsts l, d < a0.tmps.size) (hops : StepGs P l M 0 l) {Q : Exit → Act → World → Prop}
    (hend : ∀ (a : Act) (w : World) (L : Nat → Bool), (∀ j, j < l.length → L j = true) → a.defers = a0.defers → a.tmps.size = a0.tmps.size → (∀ t, t ∉ dsts l → a.tmps.getD t undef = a0.tmps.getD t undef) → M L (fun t => a.tmps.getD t undef) w → Q .normal a w) :
    ∀ (fuel : Nat) (listed : Array Bool) (a : Act) (w : World), listed.size = l.length → a.defers = a0.defers → a.tmps.size = a0.tmps.size → (∀ t, t ∉ dsts l → a.tmps.getD t undef = a0.tmps.getD t undef) → (∀ (j : Nat) (oj : Oper), l[j]? = some oj → listed.getD j false = true → ∀ e ∈ oj.after.toList, Region.binds .any e = true → listed.getD e.on false = true) →
      M (fun j => listed.getD j false) (fun t => a.tmps.getD t undef) w → (listed.toList.filter (! ·)).length ≤ fuel → wpAny P .any l.toArray Q fuel listed a w := by
  intro fuel
  induction fuel with
  | zero =>
    intro listed a w hs hdf hts hoth hcl hM hf
    have hr : Region.ready .any l.toArray listed = [] := by
      rw [List.eq_nil_iff_forall_not_mem]
      intro i hi
      simp only [Region.ready, List.mem_filter, List.mem_range, List.size_toArray, Bool.and_eq_true] at hi
      have h0 : listed.toList.filter (! ·) = [] := List.eq_nil_of_length_eq_zero (by omega)
      have hil : i < listed.size := by rw [hs]; exact hi.1
      have hm : listed[i] ∈ listed.toList := by simp
      have hx : (! listed[i]) = true := by
        have := hi.2.1
        simpa [Array.getD_eq_getD_getElem?, Array.getElem?_eq_getElem hil] using this
      have : listed[i] ∈ listed.toList.filter (! ·) := List.mem_filter.2 ⟨hm, hx⟩
      rw [h0] at this
      cases this
    exact ⟨hr, hend a w _ (ready_all hg hs hr) hdf hts hoth hM⟩
  | succ fuel ih =>
    intro listed a w hs hdf hts hoth hcl hM hf
    refine ⟨fun hr => hend a w _ (ready_all hg hs hr) hdf hts hoth hM, fun i hi => ?_⟩
    simp only [Region.ready, List.mem_filter, List.mem_range, List.size_toArray, Bool.and_eq_true] at hi
    obtain ⟨hil, hnl, haft⟩ := hi
    obtain ⟨o, ho⟩ : ∃ o, l[i]? = some o := ⟨_, List.getElem?_eq_getElem hil⟩
    simp only [List.getElem?_toArray, ho, Option.map_some, Option.getD_some] at haft
    have haft2 : ∀ e ∈ o.after.toList, Region.binds .any e = true → listed.getD e.on false = true := by
      intro e he hb
      obtain ⟨k, hk, rfl⟩ := List.getElem_of_mem he
      have h3 := (Array.all_eq_true.1 haft) k (by simpa using hk)
      simp only [Array.getElem_toList] at hb ⊢
      simpa [hb] using h3
    have hsay : saysOf l a.eval = yielded l.toArray a.tmps := funext (yielded_says a)
    have hisz : i < listed.size := by rw [hs]; exact hil
    have hnl2 : listed.getD i false = false := by
      have : listed.getD i true = listed.getD i false := by simp only [Array.getD_eq_getD_getElem?, Array.getElem?_eq_getElem hisz, Option.getD_some]
      rw [← this]; simpa using hnl
    have hob := StepGs.get hops i o ho
    rw [Nat.zero_add] at hob
    have hstep := hob (fun j => listed.getD j false) (fun t => a.tmps.getD t undef) w a.eval ⟨fun _ => rfl, fun _ => rfl, fun _ => rfl⟩ (fun _ => rfl) hnl2 haft2 hcl hM
    rw [hsay] at hstep
    have next : ∀ v w', M (onL (fun j => listed.getD j false) i) (putV (fun t => a.tmps.getD t undef) o.dst v) w' → wpAny P .any l.toArray Q fuel (listed.setIfInBounds i true) (a.put o.dst v) w' := by
      intro v w' k
      have eL : (fun j => (listed.setIfInBounds i true).getD j false) = onL (fun j => listed.getD j false) i := by
        funext j
        by_cases h : j = i
        · subst h; simp [onL, Array.getD_eq_getD_getElem?, hisz]
        · rw [onL_ne h]; simp only [Array.getD_eq_getD_getElem?]; rw [Array.getElem?_setIfInBounds_ne (Ne.symm h)]
      have eV : (fun t => (a.put o.dst v).tmps.getD t undef) = putV (fun t => a.tmps.getD t undef) o.dst v := by
        funext t
        cases hod : o.dst with
        | none => rfl
        | some d =>
          show _ = if t = d then v else _
          by_cases h : t = d
          · subst h; rw [if_pos rfl]; exact getD_put _ _ _ (by rw [hts]; exact hd t (List.mem_filterMap.2 ⟨o, List.mem_of_getElem? ho, hod⟩))
          · rw [if_neg h]; exact getD_put_ne _ _ _ _ h
      refine ih _ _ _ (by simpa using hs) (by cases o.dst <;> simp [Act.put, hdf]) (by cases o.dst <;> simp [Act.put, hts]) (fun t ht => ?_) ?_ (by rw [eL, eV]; exact k) ?_
      · rw [congrFun eV t]
        cases hod : o.dst with
        | none => exact hoth t ht
        | some d =>
          show (if t = d then v else _) = _
          rw [if_neg (fun e => ht (List.mem_filterMap.2 ⟨o, List.mem_of_getElem? ho, by rw [hod, e]⟩))]
          exact hoth t ht
      · intro j oj hj hlj e he hb
        refine listed_put ?_
        rcases put_listed hlj with rfl | hlj
        · rw [ho] at hj; cases hj
          exact haft2 e he hb
        · exact hcl j oj hj hlj e he hb
      · have hx : listed[i] = false := by simpa [Array.getD_eq_getD_getElem?, Array.getElem?_eq_getElem hisz] using hnl2
        have key : ∀ (m : List Bool) (k : Nat), m[k]? = some false → ((m.set k true).filter (! ·)).length + 1 = (m.filter (! ·)).length := by
          intro m
          induction m with
          | nil => intro k hk; simp at hk
          | cons b m ihm =>
            intro k hk
            cases k with
            | zero => simp at hk; subst hk; simp
            | succ k =>
              simp only [List.set_cons_succ]
              have := ihm k (by simpa using hk)
              cases b <;> simp <;> omega
        have hk := key listed.toList i (by simp [Array.getElem?_toList, Array.getElem?_eq_getElem hisz, hx])
        have e2 : (listed.setIfInBounds i true).toList = listed.toList.set i true := by simp
        rw [e2]; omega
    unfold wpOp
    simp only [List.getElem?_toArray, ho]
    by_cases hw : Region.wanted o (yielded l.toArray a.tmps) = true
    rotate_left
    · rw [if_neg hw] at hstep ⊢
      exact next _ _ hstep
    rw [if_pos hw] at hstep ⊢
    have hrun := hstep
    refine Or.inl ?_
    unfold RunsTo at hrun
    unfold Oper.wp
    generalize (execOp a.eval o).run P w = r at hrun
    cases r with
    | halt x w' => simp [runsUpon] at hrun
    | ok n w' =>
      cases n <;> simp only [runsUpon] at hrun <;> simp only [Oper.upon]
      case value v => exact next _ _ hrun
      case skip =>
        have e : a.put o.dst undef = a.put o.dst undef := rfl
        exact next _ _ hrun
      case enter f args =>
        refine hrun.mono ?_
        rintro e w'' ⟨v, rfl, k⟩
        exact next _ _ k
end
/-- **THE LAW**. -/
theorem any_region_invG {P : Program} {l : List Oper} {Q : Exit → Act → World → Prop} {a : Act} {w : World} (n : Nat) (M : (Nat → Bool) → (Nat → Value) → World → Prop)
    (hB : (growB l && (dsts l).all fun d => decide (d < n)) = true) (hn : a.tmps.size = n) (h0 : M (fun _ => false) (fun t => a.tmps.getD t undef) { w with drawn := w.drawn + 1 }) (hops : StepGs P l M 0 l)
    (hend : ∀ (V : Nat → Value) (w' : World) (L : Nat → Bool), (∀ j, j < l.length → L j = true) → M L V w' → Q .normal ((dsts l).foldl (fun a d => a.put (some d) (V d)) a) w') :
    wpAny P .any l.toArray Q l.toArray.size (Array.replicate l.toArray.size false) a { w with drawn := w.drawn + 1 } := by
  simp only [Bool.and_eq_true] at hB
  subst hn
  have hrep : ∀ j, (Array.replicate l.toArray.size false).getD j false = false := by
    intro j
    simp only [Array.getD_eq_getD_getElem?, Array.getElem?_replicate]
    split <;> rfl
  refine inv_anyG (a0 := a) hB.1 (fun d hd => of_decide_eq_true (List.all_eq_true.1 hB.2 d hd)) hops ?_ _ _ _ _ (by simp) rfl rfl (fun _ _ => rfl) (fun j oj _ hl => ?_) ?_ ?_
  · intro a' w' L hL hdf hts hoth hM
    have e : a' = (dsts l).foldl (fun a d => a.put (some d) (a'.tmps.getD d undef)) a := by
      refine act_eq (by rw [puts_defers (fun d => a'.tmps.getD d undef)]; exact hdf) (by rw [puts_size (fun d => a'.tmps.getD d undef)]; exact hts) (fun t ht => ?_)
      rw [puts_get (fun d => a'.tmps.getD d undef) t _ _ (by omega)]
      by_cases h : t ∈ dsts l
      · rw [if_pos h]
      · rw [if_neg h]; exact hoth t h
    rw [e]
    exact hend (fun d => a'.tmps.getD d undef) w' L hL hM
  · rw [hrep] at hl; cases hl
  · have : (fun j => (Array.replicate l.toArray.size false).getD j false) = fun _ => false := funext hrep
    rw [this]; exact h0
  · simp only [List.size_toArray, Array.toList_replicate]
    exact Nat.le_trans (List.length_filter_le _ _) (by simp)
theorem StepG.of {P : Program} {l : List Oper} {M : (Nat → Bool) → (Nat → Value) → World → Prop} {o : Oper} (i : Nat) (ho : l[i]? = some o) (h : ∀ (L : Nat → Bool) (V : Nat → Value) (w : World) (ev : Operand → Value), Evs ev → (∀ t, ev (.tmp t) = V t) → L i = false → (∀ k, (aft l i).contains k = true → L k = true) → (∀ j k, (aft l j).contains k = true → L j = true → L k = true) → M L V w → if Region.wanted o (saysOf l ev) = true then RunsTo P o ev w fun v w' => M (onL L i) (putV V o.dst v) w' else M (onL L i) (putV V o.dst undef) w) : StepG P l M i o := by
  intro L V w ev hE hV hi haft hcl hM
  have key : ∀ (j : Nat) (oj : Oper), l[j]? = some oj → (∀ e ∈ oj.after.toList, Region.binds .any e = true → L e.on = true) → ∀ k, (aft l j).contains k = true → L k = true := by
    intro j oj hj ha k hk
    unfold aft at hk
    rw [hj] at hk
    simp only [List.contains_iff_mem, List.mem_map, List.mem_filter] at hk
    obtain ⟨e, ⟨he, hb⟩, rfl⟩ := hk
    exact ha e he hb
  refine h L V w ev hE hV hi (key i o ho haft) (fun j k hk hj => ?_) hM
  cases hlj : l[j]? with
  | none => unfold aft at hk; rw [hlj] at hk; simp at hk
  | some oj => exact key j oj hlj (hcl j oj hlj hj) k hk
theorem stepG_on {P : Program} {l : List Oper} {o : Oper} {ev : Operand → Value} {w : World} {post : Value → World → Prop} {X : Prop} (hw : Region.wanted o (saysOf l ev) = true) (h : RunsTo P o ev w post) : if Region.wanted o (saysOf l ev) = true then RunsTo P o ev w post else X := by rw [if_pos hw]; exact h
theorem stepG_off {P : Program} {l : List Oper} {o : Oper} {ev : Operand → Value} {w : World} {post : Value → World → Prop} {X : Prop} (hw : Region.wanted o (saysOf l ev) = false) (h : X) : if Region.wanted o (saysOf l ev) = true then RunsTo P o ev w post else X := by rw [if_neg (by rw [hw]; decide)]; exact h
end Go.Proofs.Ytbbcphloafmldaa
