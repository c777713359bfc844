/-
  XOwnReg's law where one operation is a call that panics: the region ends there, wherever it comes up. No program is named here.
-/
import Derived.Test.YtbbcphloafmldaaGreatOwnUseZ
namespace Go.Proofs.YtbbcphloafmldaaGreat
open Go.RowKit
set_option linter.unusedVariables false
section
variable {P : Program} {l : List Oper} {w0 : World} {T0 : Blocks} {D : Nat → Value → World → Blocks → Prop} {mem : List Nat} {a0 : Act} {B : List Nat}
theorem MidD.know (hst : ∀ x v w1 w2 S S', D x v w1 S → Touch S' w1 w2 → (∀ k, S k → ¬ S' k) → D x v w2 S) (hlt : ∀ x v w S, D x v w S → ∀ k, S k → k < w.heap.size) (hpure : ∀ x v w S, x ∉ mem → D x v w S → ∀ k, ¬ S k)
    (hone : onceB l = true) (hg : growB3 l = true) (hlin : linB l mem = true) (hd : ∀ d ∈ dsts l, d < a0.tmps.size)
    (hB : ∀ i o, l[i]? = some o → ∀ t ∈ reads l o, baseB l i t = true → t ∈ B)
    {listed : Array Bool} {a : Act} {w : World} {Ss : Nat → Blocks} {i : Nat} (h : MidD l w0 T0 D mem a0 B listed a w Ss) (hi : i ∈ Region.ready .any l.toArray listed) : ∃ o, l[i]? = some o ∧ KnowD l D i a.eval w Ss (reads l o):= by
  simp only [Region.ready, List.mem_filter, List.mem_range, List.size_toArray, Bool.and_eq_true] at hi
  obtain ⟨hil, hnl, haft⟩ := hi
  obtain ⟨o, ho⟩ : ∃ o, l[i]? = some o := ⟨_, List.getElem?_eq_getElem hil⟩
  have hgi := List.all_eq_true.1 hg i (List.mem_range.2 hil)
  simp only [ho, Bool.and_eq_true] at hgi
  obtain ⟨⟨⟨_, hr⟩, _⟩, _⟩ := hgi
  simp only [List.getElem?_toArray, ho, Option.map_some, Option.getD_some] at haft
  have haft2 : ∀ e ∈ o.after, Region.binds .any e = true → listed.getD e.on false = true := by
    intro e he hb
    obtain ⟨k, hk, rfl⟩ := Array.getElem_of_mem he
    have h3 := (Array.all_eq_true.1 haft) k hk
    simpa [hb] using h3
  have hisz : i < listed.size := by rw [h.size]; exact hil
  have hnl2 : listed.getD i false = false := by
    have : listed.getD i true = listed.getD i false := by simp only [Array.getD_eq_getD_getElem?, Array.getElem?_eq_getElem hisz, Option.getD_some]
    rw [← this]; simpa using hnl
  have hset : (listed.setIfInBounds i true).getD i false = true := by simp [Array.getD_eq_getD_getElem?, hisz]
  -- the sources are here, and live
  have hlive : ∀ x, x ∈ keysOf l i → Live l mem listed x := by
    rintro x hx ⟨hm, j, hj, hxj⟩
    have := lin_one hlin hil (keys_lt hxj) hm hx hxj
    rw [← this, hnl2] at hj; cases hj
  have hsrc : ∀ t ∈ reads l o, Here l B listed (keyOf l i t) ∧ D (keyOf l i t) (a.tmps.getD t undef) w (Ss (keyOf l i t)) := by
    intro t ht
    have hkl := hlive _ (mem_keys ho ht)
    by_cases hbs : baseB l i t = true
    · have hkey : keyOf l i t = l.length + t := by unfold keyOf; rw [if_pos hbs]
      rw [hkey] at hkl ⊢
      have htB := hB i o ho t ht hbs
      have hsame : a.tmps.getD t undef = a0.tmps.getD t undef := by
        simp only [baseB, Bool.or_eq_true, Bool.not_eq_true'] at hbs
        rcases hbs with hbs | hbs
        · exact h.others t (by simpa using hbs)
        · obtain ⟨j, hj, hjm⟩ := List.any_eq_true.1 hbs
          have hjl : j < l.length := List.mem_range.1 hj
          obtain ⟨oj, hoj⟩ : ∃ oj, l[j]? = some oj := ⟨_, List.getElem?_eq_getElem hjl⟩
          rw [hoj] at hjm
          simp only [Bool.and_eq_true, beq_iff_eq, Array.any_eq_true] at hjm
          obtain ⟨hjd, k, hk, hb2, hon⟩ := hjm
          refine h.unw j oj t hoj hjd ?_
          cases hlj : listed.getD j false with
          | false => rfl
          | true =>
            have := h.closed j oj hoj hlj _ (Array.getElem_mem hk) hb2
            rw [hon, hnl2] at this; cases this
      rw [hsame]
      exact ⟨Or.inr ⟨t, htB, rfl⟩, h.base t htB hkl⟩
    · have hdt : t ∈ dsts l := by
        apply Classical.byContradiction
        intro hn
        exact hbs (by simp [baseB, hn])
      obtain ⟨oj, hoj, hjd⟩ := List.mem_filterMap.1 hdt
      obtain ⟨j, hj⟩ := List.getElem?_of_mem hoj
      have hjl : j < l.length := (List.getElem?_eq_some_iff.1 hj).1
      have h0 := List.all_eq_true.1 hr t ht
      rw [Bool.or_eq_true] at h0
      have h1 := List.all_eq_true.1 (h0.resolve_left hbs) j (List.mem_range.2 hjl)
      simp only [hj, Option.bind_some, hjd, BEq.rfl, Bool.not_true, Bool.false_or, Array.any_eq_true, Bool.and_eq_true, beq_iff_eq] at h1
      obtain ⟨k, hk, hb, hon⟩ := h1
      have h2 := haft2 _ (Array.getElem_mem hk) hb
      rw [hon] at h2
      have hkey := key_own hone hbs hj hjd
      rw [hkey] at hkl ⊢
      exact ⟨Or.inl ⟨hjl, h2, by rw [hj]; simp [hjd]⟩, h.own j oj t hj hjd h2 hkl⟩
  have hhere : ∀ x, x ∈ keysOf l i → Here l B listed x := by
    intro x hx
    unfold keysOf at hx
    rw [ho] at hx
    obtain ⟨t, ht, rfl⟩ := List.mem_map.1 hx
    exact (hsrc t ht).1
  exact ⟨o, ho, knowD_all (fun t ht => (hsrc t ht).2)⟩
/-- what cannot come up ahead of operation ip. -/
def needB (l : List Oper) (ip i : Nat) : Bool := i == ip || match l[i]? with | some o => o.after.any (fun e => Region.binds .any e && e.on == ip) | none => false
def OblDsX (P : Program) (l : List Oper) (w0 : World) (T0 : Blocks) (D : Nat → Value → World → Blocks → Prop) (mem : List Nat) (ip : Nat) : Nat → List Oper → Prop
  | _, [] => True
  | i, o :: r => (needB l ip i = false → OblD P l w0 T0 D mem i o) ∧ OblDsX P l w0 T0 D mem ip (i + 1) r
theorem OblDsX.get {ip : Nat} : ∀ {r : List Oper} {k : Nat}, OblDsX P l w0 T0 D mem ip k r → ∀ i o, r[i]? = some o → needB l ip (k + i) = false → OblD P l w0 T0 D mem (k + i) o
  | [], _, _, i, o, h, _ => by simp at h
  | x :: r, k, h, i, o, ho, hn => by
    cases i with
    | zero => simp at ho; subst ho; exact h.1 hn
    | succ i =>
      rw [show k + (i + 1) = k + 1 + i by omega] at hn ⊢
      exact OblDsX.get h.2 i o (by simpa using ho) hn
theorem own_anyP (ip : Nat) (op : Oper) (hop : l[ip]? = some op) (hst : ∀ x v w1 w2 S S', D x v w1 S → Touch S' w1 w2 → (∀ k, S k → ¬ S' k) → D x v w2 S) (hlt : ∀ x v w S, D x v w S → ∀ k, S k → k < w.heap.size) (hpure : ∀ x v w S, x ∉ mem → D x v w S → ∀ k, ¬ S k)
    (hone : onceB l = true) (hg : growB3 l = true) (hlin : linB l mem = true) (hd : ∀ d ∈ dsts l, d < a0.tmps.size)
    (hB : ∀ i o, l[i]? = some o → ∀ t ∈ reads l o, baseB l i t = true → t ∈ B) (hops : OblDsX P l w0 T0 D mem ip 0 l) {Q : Exit → Act → World → Prop}
    (hpan : ∀ (a : Act) (w1 : World) Ss, Evs a.eval → Touch T0 w0 w1 → KnowD l D ip a.eval w1 Ss (reads l op) → a.defers = a0.defers → Region.wanted op (saysOf l a.eval) = true ∧ ∃ f args, (execOp a.eval op).run P w1 = .ok (.enter f args) w1 ∧ Calls P f args w1 fun e w' => ∃ c, e = .panicked c ∧ Q (.panic c) a w') :
    ∀ (fuel : Nat) (listed : Array Bool) (a : Act) (w : World) Ss, MidD l w0 T0 D mem a0 B listed a w Ss → listed.getD ip false = false → (listed.toList.filter (! ·)).length ≤ fuel → wpAny P .any l.toArray Q fuel listed a w := by
  have hipl : ip < l.length := (List.getElem?_eq_some_iff.1 hop).1
  intro fuel
  induction fuel with
  | zero =>
    intro listed a w Ss h hip hf
    exfalso
    have h0 : listed.toList.filter (! ·) = [] := List.eq_nil_of_length_eq_zero (by omega)
    have hil : ip < listed.size := by rw [h.size]; exact hipl
    have hm : listed[ip] ∈ listed.toList := by simp
    have hx : (! listed[ip]) = true := by
      simpa [Array.getD_eq_getD_getElem?, Array.getElem?_eq_getElem hil] using hip
    have : listed[ip] ∈ listed.toList.filter (! ·) := List.mem_filter.2 ⟨hm, hx⟩
    rw [h0] at this
    cases this
  | succ fuel ih =>
    intro listed a w Ss h hip hf
    refine ⟨fun hr => ?_, fun i hi => ?_⟩
    · have := ready_all3 hg h.size hr ip hipl
      rw [hip] at this; cases this
    by_cases hii : i = ip
    · subst hii
      obtain ⟨o, ho, hk⟩ := h.know hst hlt hpure hone hg hlin hd hB hi
      rw [hop] at ho; cases ho
      obtain ⟨h1, f, args, h2, h3⟩ := hpan a w Ss ⟨fun _ => rfl, fun _ => rfl, fun _ => rfl⟩ h.touch hk h.defers
      unfold wpOp
      simp only [List.getElem?_toArray, hop]
      have hsay : saysOf l a.eval = yielded l.toArray a.tmps := funext (yielded_says a)
      rw [hsay] at h1
      rw [if_pos h1]
      refine Or.inl ?_
      unfold Oper.wp
      rw [h2]
      simp only [Oper.upon]
      refine h3.mono ?_
      rintro e w'' ⟨c, rfl, hq⟩
      exact hq
    · have hready := hi
      simp only [Region.ready, List.mem_filter, List.mem_range, List.size_toArray, Bool.and_eq_true] at hi
      obtain ⟨hil0, hnl, haft⟩ := hi
      have hil : i < listed.size := by rw [h.size]; exact hil0
      have hnx : needB l ip i = false := by
        cases hb : needB l ip i with
        | false => rfl
        | true =>
          exfalso
          obtain ⟨o, ho⟩ : ∃ o, l[i]? = some o := ⟨_, List.getElem?_eq_getElem hil0⟩
          unfold needB at hb
          rw [Bool.or_eq_true] at hb
          rcases hb with hb | hb
          · exact hii (by simpa using hb)
          · rw [ho] at hb
            obtain ⟨k, hk, hb2⟩ := Array.any_eq_true.1 hb
            simp only [Bool.and_eq_true, beq_iff_eq] at hb2
            simp only [List.getElem?_toArray, ho, Option.map_some, Option.getD_some] at haft
            have h3 := (Array.all_eq_true.1 haft) k hk
            simp only [hb2.1, hb2.2, Bool.not_true, Bool.false_or] at h3
            have h4 : listed.getD ip false = true := by simpa using h3
            rw [hip] at h4; cases h4
      refine h.step hst hlt hpure hone hg hlin hd hB hready (fun o ho => by have q := OblDsX.get hops i o ho (by rw [Nat.zero_add]; exact hnx); rwa [Nat.zero_add] at q) fun a' w' Ss' h' => ih _ _ _ _ h' ?_ ?_
      · simp only [Array.getD_eq_getD_getElem?] at hip ⊢
        rwa [Array.getElem?_setIfInBounds_ne hii]
      · have hx : listed[i] = false := by
          simpa [Array.getD_eq_getD_getElem?, Array.getElem?_eq_getElem hil] using hnl
        have key : ∀ (m : List Bool) (k : Nat), m[k]? = some false → ((m.set k true).filter (! ·)).length + 1 = (m.filter (! ·)).length := by
          intro m
          induction m with
          | nil => intro k hk; simp at hk
          | cons b m ihm =>
            intro k hk
            cases k with
            | zero => simp at hk; subst hk; simp
            | succ k =>
              simp only [List.set_cons_succ]
              have := ihm k (by simpa using hk)
              cases b <;> simp <;> omega
        have hk := key listed.toList i (by simp [Array.getElem?_toList, Array.getElem?_eq_getElem hil, hx])
        have e2 : (listed.setIfInBounds i true).toList = listed.toList.set i true := by simp
        rw [e2]; omega
end
/-- **THE LAW**: a region that draws, and that holds a call that panics: nothing else of it turns memory ahead of that. -/
theorem wp_region_pan {P : Program} {l : List Oper} {id : Nat} {Q : Exit → Act → World → Prop} {a : Act} {w : World} (ip : Nat) (op : Oper) (n : Nat) (B : List Nat) (F : List (Nat × Value)) (hm : P.follows .mixedOrders = true) (hop : l[ip]? = some op)
    (hB : (growB3 l && onceB l && linB l [] && ((dsts l).all fun d => decide (d < n)) && ((List.range l.length).all fun i => match l[i]? with | some o => (reads l o).all fun t => !baseB l i t || B.contains t | none => true)) = true)
    (hn : a.tmps.size = n) (hbase : BaseD l w.drew (fun _ => False) (PhiD F []) B a)
    (hops : OblDsX P l w.drew (fun _ => False) (PhiD F []) [] ip 0 l)
    (hpan : ∀ (a' : Act) (w1 : World) Ss, Evs a'.eval → Touch (fun _ => False) w.drew w1 → KnowD l (PhiD F []) ip a'.eval w1 Ss (reads l op) → a'.defers = a.defers → Region.wanted op (saysOf l a'.eval) = true ∧ ∃ f args, (execOp a'.eval op).run P w1 = .ok (.enter f args) w1 ∧ Calls P f args w1 fun e w' => ∃ c, e = .panicked c ∧ Q (.panic c) a' w') :
    (Code.region id l.toArray true).wp P Q a w := by
  simp only [Bool.and_eq_true] at hB
  subst hn
  refine wp_region_any hm ?_
  have hrep : ∀ j, (Array.replicate l.toArray.size false).getD j false = false := by
    intro j
    simp only [Array.getD_eq_getD_getElem?, Array.getElem?_replicate]
    split <;> rfl
  obtain ⟨⟨S0, hb1, hb2⟩⟩ := hbase
  refine own_anyP (a0 := a) (D := PhiD F []) (w0 := w.drew) (T0 := fun _ => False) (mem := []) (B := B) ip op hop PhiD.keep PhiD.lt (fun x v w S _ hp => PhiD.pure (W := []) x v w S (by simp) hp) hB.1.1.1.2 hB.1.1.1.1 hB.1.1.2 (fun d hd => of_decide_eq_true (List.all_eq_true.1 hB.1.2 d hd)) ?_ hops hpan _ _ _ _ (fun x => S0 (x - l.length)) ?_ (hrep ip) ?_
  · intro i o ho t ht hb
    have h1 := List.all_eq_true.1 hB.2 i (List.mem_range.2 (List.getElem?_eq_some_iff.1 ho).1)
    rw [ho] at h1
    have h2 := List.all_eq_true.1 h1 t ht
    simpa [hb] using h2
  · refine ⟨by simp, rfl, rfl, fun _ _ => rfl, fun j oj _ hl => ?_, fun _ _ _ _ _ _ => rfl, Touch.refl _ _, fun j oj d hj hd hl => ?_, fun t ht _ => ?_, fun x hx _ => ?_, fun x y hx _ hy _ hne => ?_⟩
    · rw [hrep] at hl; cases hl
    · rw [hrep] at hl; cases hl
    · have := (hb1 t ht).1
      show PhiD F [] (l.length + t) _ _ (S0 (l.length + t - l.length))
      rw [Nat.add_sub_cancel_left]
      exact this
    · rcases hx with ⟨_, h2, _⟩ | ⟨t, ht, rfl⟩
      · rw [hrep] at h2; cases h2
      · show ∀ k, S0 (l.length + t - l.length) k → _
        rw [Nat.add_sub_cancel_left]
        exact (hb1 t ht).2
    · rcases hx with ⟨_, h2, _⟩ | ⟨t, ht, rfl⟩
      · rw [hrep] at h2; cases h2
      · rcases hy with ⟨_, h2, _⟩ | ⟨u, hu, rfl⟩
        · rw [hrep] at h2; cases h2
        · show ∀ k, S0 (l.length + t - l.length) k → ¬ S0 (l.length + u - l.length) k
          rw [Nat.add_sub_cancel_left, Nat.add_sub_cancel_left]
          exact hb2 t ht u hu (fun e => hne (by rw [e]))
  · simp only [List.size_toArray, Array.toList_replicate]
    exact Nat.le_trans (List.length_filter_le _ _) (by simp)
end Go.Proofs.YtbbcphloafmldaaGreat
