/- A range over a function whose iterator turns blocks of its own (the box of a variable that it keeps): the law. T: the blocks that the iterator turns; they hold cells and lay there ahead of the loop. No program's function is named here. A region that draws its order, inside a round of a range over a function: what the plain law says of it holds there too. No program is named here. -/
import Derived.RangeFuncWrites
import Derived.Test.YtbbcphloafmldaaGrowTwoZ
import Derived.Stop.RegionWithIn
import Derived.RangeFuncCalls
/-! A range over a function whose iterator turns blocks of its own (the box of a variable that it keeps): the law. T: the blocks that the iterator turns; they hold cells and lay there ahead of the loop. No program's function is named here. -/
namespace Go.Proofs.Ytbbcphloafmldaa
open Go.RowKit
set_option linter.unusedVariables false

variable {F : Fence} {n : Nat} {P : Program}
/-- kept through what the iterator does: it turns T, and walks' objects from B on. -/
def AbT {β : Type} (T : Nat → Prop) (B : Nat) (J : β → World → Prop) : Prop :=
  ∀ s W W' row, J s W → W.grownBy W' row → (∀ r, row = some r → T r ∨ (B ≤ r ∧ ∃ o : Obj, W.heap[r]? = some o ∧ o.isWalk = true)) → J s W'
def OwnT {β : Type} (T : Nat → Prop) (B : Nat) (I : β → World → Prop) : Prop :=
  ∀ s W W' row, I s W → W.grownBy W' row → (∀ r, row = some r → T r ∨ (B ≤ r ∧ ∃ o : Obj, W.heap[r]? = some o ∧ o.isCells = false)) → I s W'
theorem OwnT.put {β : Type} {T : Nat → Prop} {B : Nat} {I : β → World → Prop} (h : OwnT T B I) {s : β} {W : World} {l : Nat} {o : Obj} (o' : Obj) (hs : I s W) (hB : B ≤ l) (hl : W.heap[l]? = some o) (ho : o.isCells = false) : I s (W.putObj l o') :=
  h s W _ (some l) hs (grownBy_putObj' W l o') (fun r e => by cases e; exact Or.inr ⟨hB, o, hl, ho⟩)
theorem OwnT.new {β : Type} {T : Nat → Prop} {B : Nat} {I : β → World → Prop} (h : OwnT T B I) {s : β} {W : World} (o : Obj) (hs : I s W) : I s (W.alloc o) :=
  h s W _ none hs (World.grownBy_alloc W o none) (fun r e => by cases e)
theorem OwnT.and {β : Type} {T : Nat → Prop} {B : Nat} {I J : β → World → Prop} (h : OwnT T B I) (k : OwnT T B J) : OwnT T B (fun s W => I s W ∧ J s W) :=
  fun s W W' row hs hg hr => ⟨h s W W' row hs.1 hg hr, k s W W' row hs.2 hg hr⟩
/-- what an iterator that turns T does, whoever runs the rounds. -/
def SeqT {α : Type} (T : Nat → Prop) (F : Fence) (n : Nat) (P : Program) (g : Nat) (lb : Array Value) (encs : α → Array Value) (Kp : World → World → Prop) (Nx : List α → α → Prop) (S Sp : List α → Prop) (N : Nat) (w : World) : Prop :=
  ∀ (l : Nat) (J Jx : List α → World → Prop) (W : World), Below w.heap.size w W → AbT T W.heap.size J → AbT T W.heap.size Jx →
    (∀ pre x W1, J pre W1 → pre.length < N → Nx pre x → YieldAt F (n - 1) P l (encs x) W1 fun e W' =>
      (e = .returned (.bool true) ∧ J (pre ++ [x]) W' ∧ Kp W1 W') ∨ (e = .returned (.bool false) ∧ Jx (pre ++ [x]) W')) →
    J [] W →
    CallsIn F n P g (#[.func (.yield l) #[] #[]] ++ lb) W fun e W' => (∃ v, e = .returned v) ∧ ((∃ xs, S xs ∧ J xs W') ∨ (∃ pre, Sp pre ∧ Jx pre W'))
/-- what is neither turned nor a walk's object lies as it lay. -/
theorem abT_keeps {T : Nat → Prop} {B : Nat} {W W' : World} {row : Option Nat} (hg : W.grownBy W' row) (hr : ∀ r, row = some r → T r ∨ (B ≤ r ∧ ∃ o : Obj, W.heap[r]? = some o ∧ o.isWalk = true)) {k : Nat} {o : Obj} (hk : W.heap[k]? = some o) (hw : o.isWalk = false) (hT : ¬ T k) : W'.heap[k]? = some o := by
  refine (hg.block k (Array.getElem?_eq_some_iff.1 hk).1 fun e => ?_).trans hk
  rcases hr k e.symm with h | ⟨_, o', ho', hw'⟩
  · exact hT h
  · rw [hk] at ho'; cases ho'; rw [hw] at hw'; cases hw'

theorem wpIn_range_T {α : Type} {T : Nat → Prop} {g : Operand} {ps : Array Tmp} {assign body : Code} {Q : Exit → Act → World → Prop} {a : Act} {w : World}
    (hro : F.round = none) (h1 : 1 ≤ n) {gf : Nat} {lb : Array Value} (hg : a.eval g = .func (.func gf) #[] lb) (hFg : F.fn gf) (eg : ∀ args w, (callFunc gf args).run P w = .ok (.enter gf args) w)
    (hTw : ∀ k, T k → k < w.heap.size)
    {encs : α → Array Value} {Kp : World → World → Prop} {Nx : List α → α → Prop} {S Sp : List α → Prop} {N : Nat} {w0 : World} (hseq : SeqT T F (n - 1) P gf lb encs Kp Nx S Sp N w0)
    (hKt : ∀ {A B C : World}, Kp A B → Kp B C → Kp A C) (hKb : ∀ (W : World) (l : Nat) (o o' : Obj), w.heap.size ≤ l → W.heap[l]? = some o → o.isCells = false → o.isWalk = false → Kp W (W.putObj l o')) (hb0 : Below w0.heap.size w0 w) (hps : ∀ x, (encs x).size = ps.size)
    (I : List α → World → Prop) (Ix : Code → List α → World → Prop) (hI : OwnT T w.heap.size I) (hIx : ∀ c, OwnT T w.heap.size (Ix c)) (h0 : I [] w) (a₁ : α → Act)
    (hassign : ∀ (l : Nat) (x : α) (W : World) (K : Act → World → Prop), K (a₁ x) W →
      assign.wpIn (F.inRound l) (n - 1 - 1) P (Exit.then K (fun _ _ _ => False)) { tmps := (ps.zip (encs x)).foldl (fun t (p, v) => t.setIfInBounds p v) a.tmps, defers := [] } W)
    (hbody : ∀ (l : Nat) (pre : List α) (x : α) (W : World), I pre W → pre.length < N → Nx pre x → body.wpIn (F.inRound l) (n - 1 - 1) P (ownPostG w.heap.size Kp I Ix (pre ++ [x]) W) (a₁ x) W)
    (hdone : ∀ (D : Nat) (xs : List α) (W : World), w.heap.size ≤ D → S xs → I xs W → W.heap[D]? = some (.deferred (some [])) → Q .normal { a with defers := { target := .collected D, args := #[] } :: a.defers } W)
    (hstop : ∀ (D : Nat) (c : Code) (pre : List α) (W : World), w.heap.size ≤ D → Sp pre → Ix c pre W → W.heap[D]? = some (.deferred (some [])) → c.wpIn F n P Q { a with defers := { target := .collected D, args := #[] } :: a.defers } W) :
    (Code.rangeFunc g ps assign body).wpIn F n P Q a w := by
  refine wpIn_rangeFunc ?_
  intro fn hfn
  rw [hro]
  -- the loop's record in block d + 1, the rounds' deferred calls in block d
  obtain ⟨d, hd⟩ : ∃ d, d = w.heap.size := ⟨_, rfl⟩
  obtain ⟨rec, hrec⟩ : ∃ rec : LoopState → Option Code → Loop, rec = fun st pe => { state := st, pending := pe, fn, tmps := a.tmps, params := ps, assign, body, defers := d } := ⟨_, rfl⟩
  obtain ⟨V, hV⟩ : ∃ V, (w.alloc (.deferred (some []))).alloc (.loop (rec .ready none)) = V := ⟨_, rfl⟩
  have vsz : V.heap.size = d + 2 := by rw [← hV, hd]; simp
  have vl : V.heap[d + 1]? = some (.loop (rec .ready none)) := by
    have h := World.alloc_heap_new (w.alloc (.deferred (some []))) (.loop (rec .ready none))
    rw [World.size_alloc] at h
    rw [← hV, hd]; exact h
  have vk : V.heap[d]? = some (.deferred (some [])) := by
    rw [← hV, hd]; exact (Below.heap_alloc _ _ _ (by simp)).trans (World.alloc_heap_new w _)
  have vI : I [] V := by rw [← hV]; exact hI.new _ (hI.new _ h0)
  have vb : Below w0.heap.size w0 V := by
    rw [← hV]; exact hb0.trans ((((Below.refl _ w).alloc (Nat.le_refl _) _).alloc (by simp) _).mono hb0.size)
  have nT : ∀ k, d ≤ k → ¬ T k := fun k hk hT => by have := hTw k hT; omega
  -- the iterator's steps, as the caller sees them
  have low : ∀ {A : World} {row : Option Nat}, (∀ r, row = some r → T r ∨ (V.heap.size ≤ r ∧ ∃ o : Obj, A.heap[r]? = some o ∧ o.isWalk = true)) → (∀ r, row = some r → T r ∨ (w.heap.size ≤ r ∧ ∃ o : Obj, A.heap[r]? = some o ∧ o.isCells = false)) :=
    fun hr r e => by
      rcases hr r e with h | ⟨hB, o, ho, hw⟩
      · exact Or.inl h
      · exact Or.inr ⟨by omega, o, ho, Obj.not_cells_of_walk hw⟩
  refine ⟨d + 1, [{ target := .collected d, args := #[] }], V, { target := .fn (.func gf) lb, args := #[.func (.yield (d + 1)) #[] #[]] }, V, gf, #[.func (.yield (d + 1)) #[] #[]] ++ lb, V, ?_, ?_, ?_, ?_, fun _ => h1, ?_⟩
  · rw [← hV, hrec, hd]; exact run_enterLoop_outer _ _ _ _ _
  · simp only [resolve, hg]
    simp [go_sem]
  · intro f' hf'; simp [Target.leads] at hf'; subst hf'; exact hFg
  · simp [invoke, go_sem, eg]
  · have keepJ : AbT T V.heap.size (fun (pre : List α) W => I pre W ∧ W.heap[d + 1]? = some (.loop (rec .ready none)) ∧ W.heap[d]? = some (.deferred (some []))) :=
      fun s A B row hs hg' hr => ⟨hI s A B row hs.1 hg' (low hr), abT_keeps hg' hr hs.2.1 rfl (nT _ (by omega)), abT_keeps hg' hr hs.2.2 rfl (nT _ (Nat.le_refl _))⟩
    have keepX : AbT T V.heap.size (fun (pre : List α) W => ∃ c, Ix c pre W ∧ W.heap[d + 1]? = some (.loop (rec .done (some c))) ∧ W.heap[d]? = some (.deferred (some []))) :=
      fun s A B row hs hg' hr => by
        obtain ⟨c, hc, hl, hk⟩ := hs
        exact ⟨c, hIx c s A B row hc hg' (low hr), abT_keeps hg' hr hl rfl (nT _ (by omega)), abT_keeps hg' hr hk rfl (nT _ (Nat.le_refl _))⟩
    refine (hseq (d + 1) _ _ V vb keepJ keepX ?_ ⟨vI, vl, vk⟩).mono ?_
    · -- one round
      rintro pre x W ⟨hi, hl, hk⟩ hlen hnx
      have hlt : d + 1 < W.heap.size := (Array.getElem?_eq_some_iff.1 hl).1
      have hy := run_yield (P := P) (args := encs x) hl (by rw [hrec]; exact hps x)
      rw [hrec] at hy
      refine ⟨fn, _, assign, body, hy, roundIn_of_wpIn hfn (hassign _ x W _ ⟨_, run_beginRound hl (by rw [hrec]), ?_⟩)⟩
      obtain ⟨U, hU⟩ : ∃ U, W.putObj (d + 1) (.loop { rec .ready none with state := .busy }) = U := ⟨_, rfl⟩
      have ul : U.heap[d + 1]? = some (.loop { rec .ready none with state := .busy }) := by rw [← hU]; exact World.putObj_heap_same hlt
      have uk : U.heap[d]? = some (.deferred (some [])) := by rw [← hU]; exact (World.putObj_heap_other (by omega)).trans hk
      have uK : Kp W U := by rw [← hU]; exact hKb _ _ _ _ (by omega) hl rfl rfl
      have uI : I pre U := by rw [← hU]; exact hI.put _ hi (by omega) hl rfl
      rw [hU]
      refine wpIn_mono (hbody _ pre x U uI hlen hnx) ?_
      have fin : ∀ (jump : Option Code) (Z : World), KeepsFrom w.heap.size U Z →
          (Instr.endRound (d + 1) jump).run P Z = .ok (.bool jump.isNone) (Z.putObj (d + 1) (.loop (rec (if jump.isNone then .ready else .done) jump))) ∧
          Z.heap[d + 1]? = some (.loop { rec .ready none with state := .busy }) ∧
          (Z.putObj (d + 1) (.loop (rec (if jump.isNone then .ready else .done) jump))).heap[d + 1]? = some (.loop (rec (if jump.isNone then .ready else .done) jump)) ∧
          (Z.putObj (d + 1) (.loop (rec (if jump.isNone then .ready else .done) jump))).heap[d]? = some (.deferred (some [])) := fun jump Z hz => by
        have zl := hz.same _ _ (by omega) ul rfl
        have h := run_endRound (P := P) jump zl
        rw [hrec] at h ⊢
        exact ⟨h, by rw [hrec] at zl; exact zl, World.putObj_heap_same (Array.getElem?_eq_some_iff.1 zl).1, (World.putObj_heap_other (by omega)).trans (hz.same _ _ (by omega) uk rfl)⟩
      rintro e a3 Z hp
      cases e with
      | normal =>
        obtain ⟨q1, q2, q3⟩ := hp
        obtain ⟨r1, r2, r3, r4⟩ := fin none Z q1
        exact ⟨_, _, r1, .inl ⟨rfl, ⟨hI.put _ q3 (by omega) r2 rfl, r3, r4⟩, hKt (hKt uK q2) (hKb _ _ _ _ (by omega) r2 rfl rfl)⟩⟩
      | ret =>
        obtain ⟨q1, q3⟩ := hp
        obtain ⟨r1, r2, r3, r4⟩ := fin (some .ret) Z q1
        exact ⟨_, _, r1, .inr ⟨rfl, .ret, (hIx _).put _ q3 (by omega) r2 rfl, r3, r4⟩⟩
      | exit id =>
        obtain ⟨q1, q3⟩ := hp
        obtain ⟨r1, r2, r3, r4⟩ := fin (some (.exit id)) Z q1
        exact ⟨_, _, r1, .inr ⟨rfl, .exit id, (hIx _).put _ q3 (by omega) r2 rfl, r3, r4⟩⟩
      | goto t =>
        obtain ⟨q1, q3⟩ := hp
        obtain ⟨r1, r2, r3, r4⟩ := fin (some (.goto t)) Z q1
        exact ⟨_, _, r1, .inr ⟨rfl, .goto t, (hIx _).put _ q3 (by omega) r2 rfl, r3, r4⟩⟩
      | panic ch => exact hp.elim
      | outgrown => exact hp.elim
    · -- behind the iterator
      rintro e W2 ⟨⟨v, rfl⟩, (⟨xs, hS, hi, hl, hk⟩ | ⟨pre, hSp, c, hi, hl, hk⟩)⟩
      · exact ⟨none, _, by have h := run_endLoop (P := P) hl (by rw [hrec]; simp); rw [hrec] at h; exact h, hdone d xs _ (by omega) hS (hI.put _ hi (by omega) hl rfl) ((World.putObj_heap_other (by omega)).trans hk)⟩
      · exact ⟨some c, _, by have h := run_endLoop (P := P) hl (by rw [hrec]; simp); rw [hrec] at h; exact h, hstop d c pre _ (by omega) hSp ((hIx c).put _ hi (by omega) hl rfl) ((World.putObj_heap_other (by omega)).trans hk)⟩
end Go.Proofs.Ytbbcphloafmldaa

/-! A region that draws its order, inside a round of a range over a function: what the plain law says of it holds there too. No program is named here. -/
namespace Go.Proofs.Ytbbcphloafmldaa
open Go.RowKit
set_option linter.unusedVariables false
/-- c is a store. -/
theorem OblC.skip {P : Program} {l : List Oper} {I0 I1 : World → Prop} {Φ : Nat → Value → World → Prop} {S : List Nat} {o : Oper}
    (h : ∀ (ev : Operand → Value) (w : World), I0 w → (∀ c, ev (.const c) = c) → (∀ f, ev (.func f) = .func (.func f) #[] #[]) → (∀ g, ev (.global g) = .pointer (some ⟨g, 0, none⟩)) → Know Φ ev w (reads l o) → Region.wanted o (saysOf l ev) = true ∧ ∃ w', (execOp ev o).run P w = .ok .skip w' ∧
      I1 w' ∧ (∀ t u, t ∈ S → Φ t u w → Φ t u w') ∧ ∀ d, o.dst = some d → Φ d undef w') : OblC P l I0 I1 Φ S o := by
  intro ev w hI hc hf hg hev
  obtain ⟨h1, w', h2, h3⟩ := h ev w hI hc hf hg hev
  refine ⟨h1, ?_⟩
  unfold RunsTo
  rw [h2]
  exact h3
/-- an operation that makes memory. -/
theorem obl_mem {P : Program} {l : List Oper} {I : World → Prop} {Φ : Nat → Value → World → Prop} {o : Oper}
    (h : ∀ (ev : Operand → Value) (w : World), I w → (∀ c, ev (.const c) = c) → (∀ f, ev (.func f) = .func (.func f) #[] #[]) → (∀ g, ev (.global g) = .pointer (some ⟨g, 0, none⟩)) → Know Φ ev w (reads l o) → Region.wanted o (saysOf l ev) = true ∧ ∃ v w', (execOp ev o).run P w = .ok (.value v) w' ∧ Ext w w' ∧ ∀ d, o.dst = some d → Φ d v w') : Obl P l I Φ o := by
  intro ev w hI hc hf hg hev
  obtain ⟨h1, v, w', h2, h3⟩ := h ev w hI hc hf hg hev
  rw [if_pos h1]
  unfold RunsTo
  rw [h2]
  exact h3
/-- a call whose arguments are found as it comes up. -/
theorem obl_callx {P : Program} {l : List Oper} {I : World → Prop} {Φ : Nat → Value → World → Prop} {o : Oper}
    (h : ∀ (ev : Operand → Value) (w : World), I w → (∀ c, ev (.const c) = c) → (∀ f, ev (.func f) = .func (.func f) #[] #[]) → (∀ g, ev (.global g) = .pointer (some ⟨g, 0, none⟩)) → Know Φ ev w (reads l o) → Region.wanted o (saysOf l ev) = true ∧ ∃ f args, (execOp ev o).run P w = .ok (.enter f args) w ∧
      Calls P f args w fun e w' => ∃ v, e = .returned v ∧ Ext w w' ∧ ∀ d, o.dst = some d → Φ d v w') : Obl P l I Φ o := by
  intro ev w hI hc hf hg hev
  obtain ⟨h1, f, args, h2, h3⟩ := h ev w hI hc hf hg hev
  rw [if_pos h1]
  unfold RunsTo
  rw [h2]
  exact h3
/-- what is said of slots stays true where the special words do. -/
theorem Phi.mono {F : List (Nat × Value)} {S : List (Nat × (Value → World → Prop))} {w1 w2 : World} (h : ∀ x ∈ S, ∀ v, x.2 v w1 → x.2 v w2) {t : Nat} {v : Value} (hp : Phi F S t v w1) : Phi F S t v w2 := by
  unfold Phi at *
  cases hs : S.lookup t with
  | none => rw [hs] at hp; exact hp
  | some p =>
    rw [hs] at hp
    obtain ⟨t', ht⟩ := lookup_mem hs
    exact h _ ht v hp
/-- an exit that is plain. -/
def Nrm (Q : Exit → Act → World → Prop) (e : Exit) (a : Act) (w : World) : Prop := e = .normal ∧ Q .normal a w
theorem Nrm.letsOut {Q : Exit → Act → World → Prop} (h : LetsOut (Nrm Q)) : False := by
  obtain ⟨a, w, h, _⟩ := h
  cases h
theorem rows_in {P : Program} {l n : Nat} {row : String} {args : Array Value} {w : World} {R : Value → World → Prop} (h : Rows P row args w R) : RowsIn (Fence.wide.inRound l) n P row args w R := by
  intro c cs _
  obtain ⟨v, w', hr, hs⟩ := h c cs
  exact ⟨v, w', hr, stepsIn_wide.2 hs⟩
/-- no operation defers. -/
def plainB (l : List Oper) : Bool := l.all fun o => match o.op with | .defer _ => false | _ => true
theorem wpOp_in {P : Program} {ops : List Oper} {Q : Exit → Act → World → Prop} {K K' : Act → World → Prop} {i l n : Nat} {a : Act} {w : World} (hd : plainB ops = true) (hKK : ∀ a w, K a w → K' a w) (h : wpOp P ops.toArray (Nrm Q) i K a w) : wpOpIn (Fence.wide.inRound l) n P ops.toArray Q i K' a w := by
  unfold wpOp at h
  unfold wpOpIn
  simp only [List.getElem?_toArray] at h ⊢
  cases ho : ops[i]? with
  | none => rw [ho] at h; exact hKK _ _ h
  | some o =>
    rw [ho] at h
    simp only at h ⊢
    have hdo : ∀ c : Call, o.op ≠ Op.defer c := by
      intro c e
      have := List.all_eq_true.1 hd o (List.mem_of_getElem? ho)
      rw [e] at this
      exact Bool.noConfusion this
    by_cases hw : Region.wanted o (yielded ops.toArray a.tmps) = true
    · rw [if_pos hw] at h ⊢
      rcases h with h | ⟨_, h⟩
      · refine ⟨fun _ _ => trivial, ?_⟩
        rw [show (Fence.wide.inRound l).round = some l from rfl, Oper.semAt_some l a.eval o hdo]
        unfold Oper.wp at h
        generalize Sem.run P (execOp a.eval o) w = r at h ⊢
        cases r with
        | halt x w' =>
          cases x <;> simp only [Oper.upon] at h <;> simp only [Oper.uponIn]
          all_goals first | exact h.elim | (cases h.1)
        | ok x w' =>
          cases x <;> simp only [Oper.upon] at h <;> simp only [Oper.uponIn]
          case value v => exact hKK _ _ h
          case skip => exact hKK _ _ h
          case defer d => exact hKK _ _ h
          case enter f args =>
            refine ⟨(fun h => by cases h), (CallsIn.inRound l (callsIn_wide.2 h)).mono ?_⟩
            rintro e w'' h
            cases e with
            | returned v => exact hKK _ _ h
            | panicked c => cases h.1
            | outgrown => exact (Nrm.letsOut h).elim
          case row row args =>
            refine ⟨(fun h => by cases h), ?_⟩
            intro c cs _
            obtain ⟨v, w'', hr, hs⟩ := h c cs
            exact ⟨v, w'', hKK _ _ hr, stepsIn_wide.2 hs⟩
      · exact (Nrm.letsOut h).elim
    · rw [if_neg hw] at h ⊢
      exact ⟨fun _ _ => trivial, hKK _ _ h⟩
theorem any_in {P : Program} {ops : List Oper} {Q : Exit → Act → World → Prop} {l n : Nat} (hd : plainB ops = true) : ∀ (fuel : Nat) (listed : Array Bool) (a : Act) (w : World), wpAny P .any ops.toArray (Nrm Q) fuel listed a w → wpAnyIn (Fence.wide.inRound l) n P .any ops.toArray Q fuel listed a w
  | 0, listed, a, w, h => ⟨h.1, h.2.2⟩
  | fuel + 1, listed, a, w, h => ⟨fun hr => (h.1 hr).2, fun i hi => wpOp_in hd (fun a w h => any_in hd fuel _ a w h) (h.2 i hi)⟩
/-- **THE LAW**: a region that draws, in a round. -/
theorem wpIn_region_round {P : Program} {ops : List Oper} {Q : Exit → Act → World → Prop} {id l n : Nat} {a : Act} {w : World} (hm : P.follows .mixedOrders = true) (hd : plainB ops = true)
    (h : wpAny P .any ops.toArray (Nrm Q) ops.toArray.size (Array.replicate ops.toArray.size false) a { w with drawn := w.drawn + 1 }) : (Code.region id ops.toArray true).wpIn (Fence.wide.inRound l) n P Q a w :=
  wpIn_region_any hm (any_in hd _ _ _ _ h)
end Go.Proofs.Ytbbcphloafmldaa
