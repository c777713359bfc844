/- A region that draws its order, by an invariant of what has been listed, of the slots and of the world; operations may be guarded. No program is named here. A range over a function whose iterator turns blocks of its own, and whose elements bring memory of their own (what comes next is told of the world, too): the law. T: the blocks that the iterator turns; they hold cells and lay there ahead of the loop. No program's function is named here. -/
import Derived.Test.YtbbcphloafmldaaGreatTokColZ
import Derived.Test.YtbbcphloafmldaaGreatBnd13
/-! A region that draws its order, by an invariant of what has been listed, of the slots and of the world; operations may be guarded. No program is named here. -/
namespace Go.Proofs.YtbbcphloafmldaaGreat
open Go.RowKit
set_option linter.unusedVariables false
section
variable {P : Program} {l : List Oper}
/-- what is asked of one operation. -/
def StepG (P : Program) (l : List Oper) (M : (Nat → Bool) → (Nat → Value) → World → Prop) (i : Nat) (o : Oper) : Prop :=
  ∀ (L : Nat → Bool) (V : Nat → Value) (w : World) (ev : Operand → Value), Evs ev → (∀ t, ev (.tmp t) = V t) → L i = false → (∀ e ∈ o.after.toList, Region.binds .any e = true → L e.on = true) → (∀ (j : Nat) (oj : Oper), l[j]? = some oj → L j = true → ∀ e ∈ oj.after.toList, Region.binds .any e = true → L e.on = true) → M L V w →
    if Region.wanted o (saysOf l ev) = true then RunsTo P o ev w fun v w' => M (onL L i) (putV V o.dst v) w' else M (onL L i) (putV V o.dst undef) w
def StepGs (P : Program) (l : List Oper) (M : (Nat → Bool) → (Nat → Value) → World → Prop) : Nat → List Oper → Prop
  | _, [] => True
  | i, o :: r => StepG P l M i o ∧ StepGs P l M (i + 1) r
theorem StepGs.get {M : (Nat → Bool) → (Nat → Value) → World → Prop} : ∀ {r : List Oper} {k : Nat}, StepGs P l M k r → ∀ i o, r[i]? = some o → StepG P l M (k + i) o
  | [], _, _, i, o, h => by simp at h
  | x :: r, k, h, i, o, ho => by
    cases i with
    | zero => simp at ho; subst ho; exact h.1
    | succ i =>
      have := StepGs.get h.2 i o (by simpa using ho)
      rw [show k + (i + 1) = k + 1 + i by omega]
      exact this
theorem inv_anyG {M : (Nat → Bool) → (Nat → Value) → World → Prop} {a0 : Act} (hg : growB l = true) (hd : ∀ d ∈ dsts l, d < a0.tmps.size) (hops : StepGs P l M 0 l) {Q : Exit → Act → World → Prop}
    (hend : ∀ (a : Act) (w : World) (L : Nat → Bool), (∀ j, j < l.length → L j = true) → a.defers = a0.defers → a.tmps.size = a0.tmps.size → (∀ t, t ∉ dsts l → a.tmps.getD t undef = a0.tmps.getD t undef) → M L (fun t => a.tmps.getD t undef) w → Q .normal a w) :
    ∀ (fuel : Nat) (listed : Array Bool) (a : Act) (w : World), listed.size = l.length → a.defers = a0.defers → a.tmps.size = a0.tmps.size → (∀ t, t ∉ dsts l → a.tmps.getD t undef = a0.tmps.getD t undef) → (∀ (j : Nat) (oj : Oper), l[j]? = some oj → listed.getD j false = true → ∀ e ∈ oj.after.toList, Region.binds .any e = true → listed.getD e.on false = true) →
      M (fun j => listed.getD j false) (fun t => a.tmps.getD t undef) w → (listed.toList.filter (! ·)).length ≤ fuel → wpAny P .any l.toArray Q fuel listed a w := by
  intro fuel
  induction fuel with
  | zero =>
    intro listed a w hs hdf hts hoth hcl hM hf
    have hr : Region.ready .any l.toArray listed = [] := by
      rw [List.eq_nil_iff_forall_not_mem]
      intro i hi
      simp only [Region.ready, List.mem_filter, List.mem_range, List.size_toArray, Bool.and_eq_true] at hi
      have h0 : listed.toList.filter (! ·) = [] := List.eq_nil_of_length_eq_zero (by omega)
      have hil : i < listed.size := by rw [hs]; exact hi.1
      have hm : listed[i] ∈ listed.toList := by simp
      have hx : (! listed[i]) = true := by
        have := hi.2.1
        simpa [Array.getD_eq_getD_getElem?, Array.getElem?_eq_getElem hil] using this
      have : listed[i] ∈ listed.toList.filter (! ·) := List.mem_filter.2 ⟨hm, hx⟩
      rw [h0] at this
      cases this
    exact ⟨hr, hend a w _ (ready_all hg hs hr) hdf hts hoth hM⟩
  | succ fuel ih =>
    intro listed a w hs hdf hts hoth hcl hM hf
    refine ⟨fun hr => hend a w _ (ready_all hg hs hr) hdf hts hoth hM, fun i hi => ?_⟩
    simp only [Region.ready, List.mem_filter, List.mem_range, List.size_toArray, Bool.and_eq_true] at hi
    obtain ⟨hil, hnl, haft⟩ := hi
    obtain ⟨o, ho⟩ : ∃ o, l[i]? = some o := ⟨_, List.getElem?_eq_getElem hil⟩
    simp only [List.getElem?_toArray, ho, Option.map_some, Option.getD_some] at haft
    have haft2 : ∀ e ∈ o.after.toList, Region.binds .any e = true → listed.getD e.on false = true := by
      intro e he hb
      obtain ⟨k, hk, rfl⟩ := List.getElem_of_mem he
      have h3 := (Array.all_eq_true.1 haft) k (by simpa using hk)
      simp only [Array.getElem_toList] at hb ⊢
      simpa [hb] using h3
    have hsay : saysOf l a.eval = yielded l.toArray a.tmps := funext (yielded_says a)
    have hisz : i < listed.size := by rw [hs]; exact hil
    have hnl2 : listed.getD i false = false := by
      have : listed.getD i true = listed.getD i false := by simp only [Array.getD_eq_getD_getElem?, Array.getElem?_eq_getElem hisz, Option.getD_some]
      rw [← this]; simpa using hnl
    have hob := StepGs.get hops i o ho
    rw [Nat.zero_add] at hob
    have hstep := hob (fun j => listed.getD j false) (fun t => a.tmps.getD t undef) w a.eval ⟨fun _ => rfl, fun _ => rfl, fun _ => rfl⟩ (fun _ => rfl) hnl2 haft2 hcl hM
    rw [hsay] at hstep
    have next : ∀ v w', M (onL (fun j => listed.getD j false) i) (putV (fun t => a.tmps.getD t undef) o.dst v) w' → wpAny P .any l.toArray Q fuel (listed.setIfInBounds i true) (a.put o.dst v) w' := by
      intro v w' k
      have eL : (fun j => (listed.setIfInBounds i true).getD j false) = onL (fun j => listed.getD j false) i := by
        funext j
        by_cases h : j = i
        · subst h; simp [onL, Array.getD_eq_getD_getElem?, hisz]
        · rw [onL_ne h]; simp only [Array.getD_eq_getD_getElem?]; rw [Array.getElem?_setIfInBounds_ne (Ne.symm h)]
      have eV : (fun t => (a.put o.dst v).tmps.getD t undef) = putV (fun t => a.tmps.getD t undef) o.dst v := by
        funext t
        cases hod : o.dst with
        | none => rfl
        | some d =>
          show _ = if t = d then v else _
          by_cases h : t = d
          · subst h; rw [if_pos rfl]; exact getD_put _ _ _ (by rw [hts]; exact hd t (List.mem_filterMap.2 ⟨o, List.mem_of_getElem? ho, hod⟩))
          · rw [if_neg h]; exact getD_put_ne _ _ _ _ h
      refine ih _ _ _ (by simpa using hs) (by cases o.dst <;> simp [Act.put, hdf]) (by cases o.dst <;> simp [Act.put, hts]) (fun t ht => ?_) ?_ (by rw [eL, eV]; exact k) ?_
      · rw [congrFun eV t]
        cases hod : o.dst with
        | none => exact hoth t ht
        | some d =>
          show (if t = d then v else _) = _
          rw [if_neg (fun e => ht (List.mem_filterMap.2 ⟨o, List.mem_of_getElem? ho, by rw [hod, e]⟩))]
          exact hoth t ht
      · intro j oj hj hlj e he hb
        refine listed_put ?_
        rcases put_listed hlj with rfl | hlj
        · rw [ho] at hj; cases hj
          exact haft2 e he hb
        · exact hcl j oj hj hlj e he hb
      · have hx : listed[i] = false := by simpa [Array.getD_eq_getD_getElem?, Array.getElem?_eq_getElem hisz] using hnl2
        have key : ∀ (m : List Bool) (k : Nat), m[k]? = some false → ((m.set k true).filter (! ·)).length + 1 = (m.filter (! ·)).length := by
          intro m
          induction m with
          | nil => intro k hk; simp at hk
          | cons b m ihm =>
            intro k hk
            cases k with
            | zero => simp at hk; subst hk; simp
            | succ k =>
              simp only [List.set_cons_succ]
              have := ihm k (by simpa using hk)
              cases b <;> simp <;> omega
        have hk := key listed.toList i (by simp [Array.getElem?_toList, Array.getElem?_eq_getElem hisz, hx])
        have e2 : (listed.setIfInBounds i true).toList = listed.toList.set i true := by simp
        rw [e2]; omega
    unfold wpOp
    simp only [List.getElem?_toArray, ho]
    by_cases hw : Region.wanted o (yielded l.toArray a.tmps) = true
    rotate_left
    · rw [if_neg hw] at hstep ⊢
      exact next _ _ hstep
    rw [if_pos hw] at hstep ⊢
    have hrun := hstep
    refine Or.inl ?_
    unfold RunsTo at hrun
    unfold Oper.wp
    generalize (execOp a.eval o).run P w = r at hrun
    cases r with
    | halt x w' => simp [runsUpon] at hrun
    | ok n w' =>
      cases n <;> simp only [runsUpon] at hrun <;> simp only [Oper.upon]
      case value v => exact next _ _ hrun
      case skip =>
        have e : a.put o.dst undef = a.put o.dst undef := rfl
        exact next _ _ hrun
      case enter f args =>
        refine hrun.mono ?_
        rintro e w'' ⟨v, rfl, k⟩
        exact next _ _ k
end
/-- **THE LAW**. -/
theorem any_region_invG {P : Program} {l : List Oper} {Q : Exit → Act → World → Prop} {a : Act} {w : World} (n : Nat) (M : (Nat → Bool) → (Nat → Value) → World → Prop)
    (hB : (growB l && (dsts l).all fun d => decide (d < n)) = true) (hn : a.tmps.size = n) (h0 : M (fun _ => false) (fun t => a.tmps.getD t undef) { w with drawn := w.drawn + 1 }) (hops : StepGs P l M 0 l)
    (hend : ∀ (V : Nat → Value) (w' : World) (L : Nat → Bool), (∀ j, j < l.length → L j = true) → M L V w' → Q .normal ((dsts l).foldl (fun a d => a.put (some d) (V d)) a) w') :
    wpAny P .any l.toArray Q l.toArray.size (Array.replicate l.toArray.size false) a { w with drawn := w.drawn + 1 } := by
  simp only [Bool.and_eq_true] at hB
  subst hn
  have hrep : ∀ j, (Array.replicate l.toArray.size false).getD j false = false := by
    intro j
    simp only [Array.getD_eq_getD_getElem?, Array.getElem?_replicate]
    split <;> rfl
  refine inv_anyG (a0 := a) hB.1 (fun d hd => of_decide_eq_true (List.all_eq_true.1 hB.2 d hd)) hops ?_ _ _ _ _ (by simp) rfl rfl (fun _ _ => rfl) (fun j oj _ hl => ?_) ?_ ?_
  · intro a' w' L hL hdf hts hoth hM
    have e : a' = (dsts l).foldl (fun a d => a.put (some d) (a'.tmps.getD d undef)) a := by
      refine act_eq (by rw [puts_defers (fun d => a'.tmps.getD d undef)]; exact hdf) (by rw [puts_size (fun d => a'.tmps.getD d undef)]; exact hts) (fun t ht => ?_)
      rw [puts_get (fun d => a'.tmps.getD d undef) t _ _ (by omega)]
      by_cases h : t ∈ dsts l
      · rw [if_pos h]
      · rw [if_neg h]; exact hoth t h
    rw [e]
    exact hend (fun d => a'.tmps.getD d undef) w' L hL hM
  · rw [hrep] at hl; cases hl
  · have : (fun j => (Array.replicate l.toArray.size false).getD j false) = fun _ => false := funext hrep
    rw [this]; exact h0
  · simp only [List.size_toArray, Array.toList_replicate]
    exact Nat.le_trans (List.length_filter_le _ _) (by simp)
theorem StepG.of {P : Program} {l : List Oper} {M : (Nat → Bool) → (Nat → Value) → World → Prop} {o : Oper} (i : Nat) (ho : l[i]? = some o) (h : ∀ (L : Nat → Bool) (V : Nat → Value) (w : World) (ev : Operand → Value), Evs ev → (∀ t, ev (.tmp t) = V t) → L i = false → (∀ k, (aft l i).contains k = true → L k = true) → (∀ j k, (aft l j).contains k = true → L j = true → L k = true) → M L V w → if Region.wanted o (saysOf l ev) = true then RunsTo P o ev w fun v w' => M (onL L i) (putV V o.dst v) w' else M (onL L i) (putV V o.dst undef) w) : StepG P l M i o := by
  intro L V w ev hE hV hi haft hcl hM
  have key : ∀ (j : Nat) (oj : Oper), l[j]? = some oj → (∀ e ∈ oj.after.toList, Region.binds .any e = true → L e.on = true) → ∀ k, (aft l j).contains k = true → L k = true := by
    intro j oj hj ha k hk
    unfold aft at hk
    rw [hj] at hk
    simp only [List.contains_iff_mem, List.mem_map, List.mem_filter] at hk
    obtain ⟨e, ⟨he, hb⟩, rfl⟩ := hk
    exact ha e he hb
  refine h L V w ev hE hV hi (key i o ho haft) (fun j k hk hj => ?_) hM
  cases hlj : l[j]? with
  | none => unfold aft at hk; rw [hlj] at hk; simp at hk
  | some oj => exact key j oj hlj (hcl j oj hlj hj) k hk
theorem stepG_on {P : Program} {l : List Oper} {o : Oper} {ev : Operand → Value} {w : World} {post : Value → World → Prop} {X : Prop} (hw : Region.wanted o (saysOf l ev) = true) (h : RunsTo P o ev w post) : if Region.wanted o (saysOf l ev) = true then RunsTo P o ev w post else X := by rw [if_pos hw]; exact h
theorem stepG_off {P : Program} {l : List Oper} {o : Oper} {ev : Operand → Value} {w : World} {post : Value → World → Prop} {X : Prop} (hw : Region.wanted o (saysOf l ev) = false) (h : X) : if Region.wanted o (saysOf l ev) = true then RunsTo P o ev w post else X := by rw [if_neg (by rw [hw]; decide)]; exact h
end Go.Proofs.YtbbcphloafmldaaGreat

/-! A range over a function whose iterator turns blocks of its own, and whose elements bring memory of their own (what comes next is told of the world, too): the law. T: the blocks that the iterator turns; they hold cells and lay there ahead of the loop. No program's function is named here. -/
namespace Go.Proofs.YtbbcphloafmldaaGreat
open Go.RowKit
set_option linter.unusedVariables false

variable {F : Fence} {n : Nat} {P : Program}
/-- what an iterator that turns T does, whoever runs the rounds. -/
def SeqW {α : Type} (T : Nat → Prop) (F : Fence) (n : Nat) (P : Program) (g : Nat) (lb : Array Value) (encs : α → Array Value) (Kp : World → World → Prop) (Nx : List α → α → World → Prop) (S Sp : List α → Prop) (N : Nat) (w : World) : Prop :=
  ∀ (l : Nat) (J Jx : List α → World → Prop) (W : World), Below w.heap.size w W → AbT T W.heap.size J → AbT T W.heap.size Jx →
    (∀ pre x W1, J pre W1 → pre.length < N → Nx pre x W1 → YieldAt F (n - 1) P l (encs x) W1 fun e W' =>
      (e = .returned (.bool true) ∧ J (pre ++ [x]) W' ∧ Kp W1 W') ∨ (e = .returned (.bool false) ∧ Jx (pre ++ [x]) W')) →
    J [] W →
    CallsIn F n P g (#[.func (.yield l) #[] #[]] ++ lb) W fun e W' => (∃ v, e = .returned v) ∧ ((∃ xs, S xs ∧ J xs W') ∨ (∃ pre, Sp pre ∧ Jx pre W'))
theorem wpIn_range_W {α : Type} {T : Nat → Prop} {g : Operand} {ps : Array Tmp} {assign body : Code} {Q : Exit → Act → World → Prop} {a : Act} {w : World}
    (hro : F.round = none) (h1 : 1 ≤ n) {gf : Nat} {lb : Array Value} (hg : a.eval g = .func (.func gf) #[] lb) (hFg : F.fn gf) (eg : ∀ args w, (callFunc gf args).run P w = .ok (.enter gf args) w)
    (hTw : ∀ k, T k → k < w.heap.size)
    {encs : α → Array Value} {Kp : World → World → Prop} {Nx : List α → α → World → Prop} {S Sp : List α → Prop} {N : Nat} {w0 : World} (hseq : SeqW T F (n - 1) P gf lb encs Kp Nx S Sp N w0)
    (hKt : ∀ {A B C : World}, Kp A B → Kp B C → Kp A C) (hKb : ∀ (W : World) (l : Nat) (o o' : Obj), w.heap.size ≤ l → W.heap[l]? = some o → o.isCells = false → o.isWalk = false → Kp W (W.putObj l o')) (hb0 : Below w0.heap.size w0 w) (hps : ∀ x, (encs x).size = ps.size)
    (hNb : ∀ (pre : List α) (x : α) (W : World) (l : Nat) (o o' : Obj), Nx pre x W → w.heap.size ≤ l → W.heap[l]? = some o → o.isCells = false → Nx pre x (W.putObj l o'))
    (I : List α → World → Prop) (Ix : Code → List α → World → Prop) (hI : OwnT T w.heap.size I) (hIx : ∀ c, OwnT T w.heap.size (Ix c)) (h0 : I [] w) (Ax : α → Act → World → Prop)
    (hNe : ∀ (pre : List α) (x : α) (W W' : World), Nx pre x W → W.grownBy W' none → Nx pre x W') (hKe : ∀ (W W' : World), W.grownBy W' none → Kp W W')
    (hAb : ∀ (x : α) (a' : Act) (W : World) (l : Nat) (o o' : Obj), Ax x a' W → w.heap.size ≤ l → W.heap[l]? = some o → o.isCells = false → Ax x a' (W.putObj l o'))
    (hassign : ∀ (l : Nat) (pre : List α) (x : α) (W : World) (K : Act → World → Prop), I pre W → Nx pre x W → (∀ a' W', W.grownBy W' none → Ax x a' W' → K a' W') →
      assign.wpIn (F.inRound l) (n - 1 - 1) P (Exit.then K (fun _ _ _ => False)) { tmps := (ps.zip (encs x)).foldl (fun t (p, v) => t.setIfInBounds p v) a.tmps, defers := [] } W)
    (hbody : ∀ (l : Nat) (pre : List α) (x : α) (a' : Act) (W : World), I pre W → pre.length < N → Nx pre x W → Ax x a' W → body.wpIn (F.inRound l) (n - 1 - 1) P (ownPostG w.heap.size Kp I Ix (pre ++ [x]) W) a' W)
    (hdone : ∀ (D : Nat) (xs : List α) (W : World), w.heap.size ≤ D → S xs → I xs W → W.heap[D]? = some (.deferred (some [])) → Q .normal { a with defers := { target := .collected D, args := #[] } :: a.defers } W)
    (hstop : ∀ (D : Nat) (c : Code) (pre : List α) (W : World), w.heap.size ≤ D → Sp pre → Ix c pre W → W.heap[D]? = some (.deferred (some [])) → c.wpIn F n P Q { a with defers := { target := .collected D, args := #[] } :: a.defers } W) :
    (Code.rangeFunc g ps assign body).wpIn F n P Q a w := by
  refine wpIn_rangeFunc ?_
  intro fn hfn
  rw [hro]
  -- the loop's record in block d + 1, the rounds' deferred calls in block d
  obtain ⟨d, hd⟩ : ∃ d, d = w.heap.size := ⟨_, rfl⟩
  obtain ⟨rec, hrec⟩ : ∃ rec : LoopState → Option Code → Loop, rec = fun st pe => { state := st, pending := pe, fn, tmps := a.tmps, params := ps, assign, body, defers := d } := ⟨_, rfl⟩
  obtain ⟨V, hV⟩ : ∃ V, (w.alloc (.deferred (some []))).alloc (.loop (rec .ready none)) = V := ⟨_, rfl⟩
  have vsz : V.heap.size = d + 2 := by rw [← hV, hd]; simp
  have vl : V.heap[d + 1]? = some (.loop (rec .ready none)) := by
    have h := World.alloc_heap_new (w.alloc (.deferred (some []))) (.loop (rec .ready none))
    rw [World.size_alloc] at h
    rw [← hV, hd]; exact h
  have vk : V.heap[d]? = some (.deferred (some [])) := by
    rw [← hV, hd]; exact (Below.heap_alloc _ _ _ (by simp)).trans (World.alloc_heap_new w _)
  have vI : I [] V := by rw [← hV]; exact hI.new _ (hI.new _ h0)
  have vb : Below w0.heap.size w0 V := by
    rw [← hV]; exact hb0.trans ((((Below.refl _ w).alloc (Nat.le_refl _) _).alloc (by simp) _).mono hb0.size)
  have nT : ∀ k, d ≤ k → ¬ T k := fun k hk hT => by have := hTw k hT; omega
  -- the iterator's steps, as the caller sees them
  have low : ∀ {A : World} {row : Option Nat}, (∀ r, row = some r → T r ∨ (V.heap.size ≤ r ∧ ∃ o : Obj, A.heap[r]? = some o ∧ o.isWalk = true)) → (∀ r, row = some r → T r ∨ (w.heap.size ≤ r ∧ ∃ o : Obj, A.heap[r]? = some o ∧ o.isCells = false)) :=
    fun hr r e => by
      rcases hr r e with h | ⟨hB, o, ho, hw⟩
      · exact Or.inl h
      · exact Or.inr ⟨by omega, o, ho, Obj.not_cells_of_walk hw⟩
  refine ⟨d + 1, [{ target := .collected d, args := #[] }], V, { target := .fn (.func gf) lb, args := #[.func (.yield (d + 1)) #[] #[]] }, V, gf, #[.func (.yield (d + 1)) #[] #[]] ++ lb, V, ?_, ?_, ?_, ?_, fun _ => h1, ?_⟩
  · rw [← hV, hrec, hd]; exact run_enterLoop_outer _ _ _ _ _
  · simp only [resolve, hg]
    simp [go_sem]
  · intro f' hf'; simp [Target.leads] at hf'; subst hf'; exact hFg
  · simp [invoke, go_sem, eg]
  · have keepJ : AbT T V.heap.size (fun (pre : List α) W => I pre W ∧ W.heap[d + 1]? = some (.loop (rec .ready none)) ∧ W.heap[d]? = some (.deferred (some []))) :=
      fun s A B row hs hg' hr => ⟨hI s A B row hs.1 hg' (low hr), abT_keeps hg' hr hs.2.1 rfl (nT _ (by omega)), abT_keeps hg' hr hs.2.2 rfl (nT _ (Nat.le_refl _))⟩
    have keepX : AbT T V.heap.size (fun (pre : List α) W => ∃ c, Ix c pre W ∧ W.heap[d + 1]? = some (.loop (rec .done (some c))) ∧ W.heap[d]? = some (.deferred (some []))) :=
      fun s A B row hs hg' hr => by
        obtain ⟨c, hc, hl, hk⟩ := hs
        exact ⟨c, hIx c s A B row hc hg' (low hr), abT_keeps hg' hr hl rfl (nT _ (by omega)), abT_keeps hg' hr hk rfl (nT _ (Nat.le_refl _))⟩
    refine (hseq (d + 1) _ _ V vb keepJ keepX ?_ ⟨vI, vl, vk⟩).mono ?_
    · -- one round
      rintro pre x Wy ⟨hiy, hly, hky⟩ hlen hnxy
      have hl := hly
      have hy := run_yield (P := P) (args := encs x) hl (by rw [hrec]; exact hps x)
      rw [hrec] at hy
      refine ⟨fn, _, assign, body, hy, roundIn_of_wpIn hfn (hassign _ pre x Wy _ hiy hnxy (fun a' W hgr hax => ?_))⟩
      have keep0 : ∀ (k : Nat) (o : Obj), Wy.heap[k]? = some o → W.heap[k]? = some o := fun k o h => (hgr.block k (Array.getElem?_eq_some_iff.1 h).1 (fun e => by cases e)).trans h
      have hl := keep0 _ _ hly
      have hk := keep0 _ _ hky
      have hi := hI pre Wy W none hiy hgr (fun r e => by cases e)
      have hnx := hNe pre x Wy W hnxy hgr
      have hK0 := hKe Wy W hgr
      have hlt : d + 1 < W.heap.size := (Array.getElem?_eq_some_iff.1 hl).1
      refine ⟨_, run_beginRound hl (by rw [hrec]), ?_⟩
      obtain ⟨U, hU⟩ : ∃ U, W.putObj (d + 1) (.loop { rec .ready none with state := .busy }) = U := ⟨_, rfl⟩
      have ul : U.heap[d + 1]? = some (.loop { rec .ready none with state := .busy }) := by rw [← hU]; exact World.putObj_heap_same hlt
      have uk : U.heap[d]? = some (.deferred (some [])) := by rw [← hU]; exact (World.putObj_heap_other (by omega)).trans hk
      have uK : Kp W U := by rw [← hU]; exact hKb _ _ _ _ (by omega) hl rfl rfl
      have uN : Nx pre x U := by rw [← hU]; exact hNb _ _ _ _ _ _ hnx (by omega) hl rfl
      have uA : Ax x a' U := by rw [← hU]; exact hAb _ _ _ _ _ _ hax (by omega) hl rfl
      have uI : I pre U := by rw [← hU]; exact hI.put _ hi (by omega) hl rfl
      rw [hU]
      refine wpIn_mono (hbody _ pre x a' U uI hlen uN uA) ?_
      have fin : ∀ (jump : Option Code) (Z : World), KeepsFrom w.heap.size U Z →
          (Instr.endRound (d + 1) jump).run P Z = .ok (.bool jump.isNone) (Z.putObj (d + 1) (.loop (rec (if jump.isNone then .ready else .done) jump))) ∧
          Z.heap[d + 1]? = some (.loop { rec .ready none with state := .busy }) ∧
          (Z.putObj (d + 1) (.loop (rec (if jump.isNone then .ready else .done) jump))).heap[d + 1]? = some (.loop (rec (if jump.isNone then .ready else .done) jump)) ∧
          (Z.putObj (d + 1) (.loop (rec (if jump.isNone then .ready else .done) jump))).heap[d]? = some (.deferred (some [])) := fun jump Z hz => by
        have zl := hz.same _ _ (by omega) ul rfl
        have h := run_endRound (P := P) jump zl
        rw [hrec] at h ⊢
        exact ⟨h, by rw [hrec] at zl; exact zl, World.putObj_heap_same (Array.getElem?_eq_some_iff.1 zl).1, (World.putObj_heap_other (by omega)).trans (hz.same _ _ (by omega) uk rfl)⟩
      rintro e a3 Z hp
      cases e with
      | normal =>
        obtain ⟨q1, q2, q3⟩ := hp
        obtain ⟨r1, r2, r3, r4⟩ := fin none Z q1
        exact ⟨_, _, r1, .inl ⟨rfl, ⟨hI.put _ q3 (by omega) r2 rfl, r3, r4⟩, hKt hK0 (hKt (hKt uK q2) (hKb _ _ _ _ (by omega) r2 rfl rfl))⟩⟩
      | ret =>
        obtain ⟨q1, q3⟩ := hp
        obtain ⟨r1, r2, r3, r4⟩ := fin (some .ret) Z q1
        exact ⟨_, _, r1, .inr ⟨rfl, .ret, (hIx _).put _ q3 (by omega) r2 rfl, r3, r4⟩⟩
      | exit id =>
        obtain ⟨q1, q3⟩ := hp
        obtain ⟨r1, r2, r3, r4⟩ := fin (some (.exit id)) Z q1
        exact ⟨_, _, r1, .inr ⟨rfl, .exit id, (hIx _).put _ q3 (by omega) r2 rfl, r3, r4⟩⟩
      | goto t =>
        obtain ⟨q1, q3⟩ := hp
        obtain ⟨r1, r2, r3, r4⟩ := fin (some (.goto t)) Z q1
        exact ⟨_, _, r1, .inr ⟨rfl, .goto t, (hIx _).put _ q3 (by omega) r2 rfl, r3, r4⟩⟩
      | panic ch => exact hp.elim
      | outgrown => exact hp.elim
    · -- behind the iterator
      rintro e W2 ⟨⟨v, rfl⟩, (⟨xs, hS, hi, hl, hk⟩ | ⟨pre, hSp, c, hi, hl, hk⟩)⟩
      · exact ⟨none, _, by have h := run_endLoop (P := P) hl (by rw [hrec]; simp); rw [hrec] at h; exact h, hdone d xs _ (by omega) hS (hI.put _ hi (by omega) hl rfl) ((World.putObj_heap_other (by omega)).trans hk)⟩
      · exact ⟨some c, _, by have h := run_endLoop (P := P) hl (by rw [hrec]; simp); rw [hrec] at h; exact h, hstop d c pre _ (by omega) hSp ((hIx c).put _ hi (by omega) hl rfl) ((World.putObj_heap_other (by omega)).trans hk)⟩
end Go.Proofs.YtbbcphloafmldaaGreat
