/- A range over a function whose iterator turns blocks of its own, and whose elements bring memory of their own (what comes next is told of the world, too): the law. T: the blocks that the iterator turns; they hold cells and lay there ahead of the loop. No program's function is named here. The low sum of bytes: plain laws: byte by byte by a table, and bit by bit. No program is named here. pressworkref03.Low, crc.Low: their walks. -/
import Derived.Test.YtbbcphloafmldaaBnd3
import Derived.Test.YtbbcphloafmldaaBitsTwo
import Derived.Test.YtbbcphloafmldaaBnd6
import Derived.Deep.WholeRow
/-! A range over a function whose iterator turns blocks of its own, and whose elements bring memory of their own (what comes next is told of the world, too): the law. T: the blocks that the iterator turns; they hold cells and lay there ahead of the loop. No program's function is named here. -/
namespace Go.Proofs.Ytbbcphloafmldaa
open Go.RowKit
set_option linter.unusedVariables false

variable {F : Fence} {n : Nat} {P : Program}
/-- what an iterator that turns T does, whoever runs the rounds. -/
def SeqW {α : Type} (T : Nat → Prop) (F : Fence) (n : Nat) (P : Program) (g : Nat) (lb : Array Value) (encs : α → Array Value) (Kp : World → World → Prop) (Nx : List α → α → World → Prop) (S Sp : List α → Prop) (N : Nat) (w : World) : Prop :=
  ∀ (l : Nat) (J Jx : List α → World → Prop) (W : World), Below w.heap.size w W → AbT T W.heap.size J → AbT T W.heap.size Jx →
    (∀ pre x W1, J pre W1 → pre.length < N → Nx pre x W1 → YieldAt F (n - 1) P l (encs x) W1 fun e W' =>
      (e = .returned (.bool true) ∧ J (pre ++ [x]) W' ∧ Kp W1 W') ∨ (e = .returned (.bool false) ∧ Jx (pre ++ [x]) W')) →
    J [] W →
    CallsIn F n P g (#[.func (.yield l) #[] #[]] ++ lb) W fun e W' => (∃ v, e = .returned v) ∧ ((∃ xs, S xs ∧ J xs W') ∨ (∃ pre, Sp pre ∧ Jx pre W'))
theorem wpIn_range_W {α : Type} {T : Nat → Prop} {g : Operand} {ps : Array Tmp} {assign body : Code} {Q : Exit → Act → World → Prop} {a : Act} {w : World}
    (hro : F.round = none) (h1 : 1 ≤ n) {gf : Nat} {lb : Array Value} (hg : a.eval g = .func (.func gf) #[] lb) (hFg : F.fn gf) (eg : ∀ args w, (callFunc gf args).run P w = .ok (.enter gf args) w)
    (hTw : ∀ k, T k → k < w.heap.size)
    {encs : α → Array Value} {Kp : World → World → Prop} {Nx : List α → α → World → Prop} {S Sp : List α → Prop} {N : Nat} {w0 : World} (hseq : SeqW T F (n - 1) P gf lb encs Kp Nx S Sp N w0)
    (hKt : ∀ {A B C : World}, Kp A B → Kp B C → Kp A C) (hKb : ∀ (W : World) (l : Nat) (o o' : Obj), w.heap.size ≤ l → W.heap[l]? = some o → o.isCells = false → o.isWalk = false → Kp W (W.putObj l o')) (hb0 : Below w0.heap.size w0 w) (hps : ∀ x, (encs x).size = ps.size)
    (hNb : ∀ (pre : List α) (x : α) (W : World) (l : Nat) (o o' : Obj), Nx pre x W → w.heap.size ≤ l → W.heap[l]? = some o → o.isCells = false → Nx pre x (W.putObj l o'))
    (I : List α → World → Prop) (Ix : Code → List α → World → Prop) (hI : OwnT T w.heap.size I) (hIx : ∀ c, OwnT T w.heap.size (Ix c)) (h0 : I [] w) (Ax : α → Act → World → Prop)
    (hNe : ∀ (pre : List α) (x : α) (W W' : World), Nx pre x W → W.grownBy W' none → Nx pre x W') (hKe : ∀ (W W' : World), W.grownBy W' none → Kp W W')
    (hAb : ∀ (x : α) (a' : Act) (W : World) (l : Nat) (o o' : Obj), Ax x a' W → w.heap.size ≤ l → W.heap[l]? = some o → o.isCells = false → Ax x a' (W.putObj l o'))
    (hassign : ∀ (l : Nat) (pre : List α) (x : α) (W : World) (K : Act → World → Prop), I pre W → Nx pre x W → (∀ a' W', W.grownBy W' none → Ax x a' W' → K a' W') →
      assign.wpIn (F.inRound l) (n - 1 - 1) P (Exit.then K (fun _ _ _ => False)) { tmps := (ps.zip (encs x)).foldl (fun t (p, v) => t.setIfInBounds p v) a.tmps, defers := [] } W)
    (hbody : ∀ (l : Nat) (pre : List α) (x : α) (a' : Act) (W : World), I pre W → pre.length < N → Nx pre x W → Ax x a' W → body.wpIn (F.inRound l) (n - 1 - 1) P (ownPostG w.heap.size Kp I Ix (pre ++ [x]) W) a' W)
    (hdone : ∀ (D : Nat) (xs : List α) (W : World), w.heap.size ≤ D → S xs → I xs W → W.heap[D]? = some (.deferred (some [])) → Q .normal { a with defers := { target := .collected D, args := #[] } :: a.defers } W)
    (hstop : ∀ (D : Nat) (c : Code) (pre : List α) (W : World), w.heap.size ≤ D → Sp pre → Ix c pre W → W.heap[D]? = some (.deferred (some [])) → c.wpIn F n P Q { a with defers := { target := .collected D, args := #[] } :: a.defers } W) :
    (Code.rangeFunc g ps assign body).wpIn F n P Q a w := by
  refine wpIn_rangeFunc ?_
  intro fn hfn
  rw [hro]
  -- the loop's record in block d + 1, the rounds' deferred calls in block d
  obtain ⟨d, hd⟩ : ∃ d, d = w.heap.size := ⟨_, rfl⟩
  obtain ⟨rec, hrec⟩ : ∃ rec : LoopState → Option Code → Loop, rec = fun st pe => { state := st, pending := pe, fn, tmps := a.tmps, params := ps, assign, body, defers := d } := ⟨_, rfl⟩
  obtain ⟨V, hV⟩ : ∃ V, (w.alloc (.deferred (some []))).alloc (.loop (rec .ready none)) = V := ⟨_, rfl⟩
  have vsz : V.heap.size = d + 2 := by rw [← hV, hd]; simp
  have vl : V.heap[d + 1]? = some (.loop (rec .ready none)) := by
    have h := World.alloc_heap_new (w.alloc (.deferred (some []))) (.loop (rec .ready none))
    rw [World.size_alloc] at h
    rw [← hV, hd]; exact h
  have vk : V.heap[d]? = some (.deferred (some [])) := by
    rw [← hV, hd]; exact (Below.heap_alloc _ _ _ (by simp)).trans (World.alloc_heap_new w _)
  have vI : I [] V := by rw [← hV]; exact hI.new _ (hI.new _ h0)
  have vb : Below w0.heap.size w0 V := by
    rw [← hV]; exact hb0.trans ((((Below.refl _ w).alloc (Nat.le_refl _) _).alloc (by simp) _).mono hb0.size)
  have nT : ∀ k, d ≤ k → ¬ T k := fun k hk hT => by have := hTw k hT; omega
  -- the iterator's steps, as the caller sees them
  have low : ∀ {A : World} {row : Option Nat}, (∀ r, row = some r → T r ∨ (V.heap.size ≤ r ∧ ∃ o : Obj, A.heap[r]? = some o ∧ o.isWalk = true)) → (∀ r, row = some r → T r ∨ (w.heap.size ≤ r ∧ ∃ o : Obj, A.heap[r]? = some o ∧ o.isCells = false)) :=
    fun hr r e => by
      rcases hr r e with h | ⟨hB, o, ho, hw⟩
      · exact Or.inl h
      · exact Or.inr ⟨by omega, o, ho, Obj.not_cells_of_walk hw⟩
  refine ⟨d + 1, [{ target := .collected d, args := #[] }], V, { target := .fn (.func gf) lb, args := #[.func (.yield (d + 1)) #[] #[]] }, V, gf, #[.func (.yield (d + 1)) #[] #[]] ++ lb, V, ?_, ?_, ?_, ?_, fun _ => h1, ?_⟩
  · rw [← hV, hrec, hd]; exact run_enterLoop_outer _ _ _ _ _
  · simp only [resolve, hg]
    simp [go_sem]
  · intro f' hf'; simp [Target.leads] at hf'; subst hf'; exact hFg
  · simp [invoke, go_sem, eg]
  · have keepJ : AbT T V.heap.size (fun (pre : List α) W => I pre W ∧ W.heap[d + 1]? = some (.loop (rec .ready none)) ∧ W.heap[d]? = some (.deferred (some []))) :=
      fun s A B row hs hg' hr => ⟨hI s A B row hs.1 hg' (low hr), abT_keeps hg' hr hs.2.1 rfl (nT _ (by omega)), abT_keeps hg' hr hs.2.2 rfl (nT _ (Nat.le_refl _))⟩
    have keepX : AbT T V.heap.size (fun (pre : List α) W => ∃ c, Ix c pre W ∧ W.heap[d + 1]? = some (.loop (rec .done (some c))) ∧ W.heap[d]? = some (.deferred (some []))) :=
      fun s A B row hs hg' hr => by
        obtain ⟨c, hc, hl, hk⟩ := hs
        exact ⟨c, hIx c s A B row hc hg' (low hr), abT_keeps hg' hr hl rfl (nT _ (by omega)), abT_keeps hg' hr hk rfl (nT _ (Nat.le_refl _))⟩
    refine (hseq (d + 1) _ _ V vb keepJ keepX ?_ ⟨vI, vl, vk⟩).mono ?_
    · -- one round
      rintro pre x Wy ⟨hiy, hly, hky⟩ hlen hnxy
      have hl := hly
      have hy := run_yield (P := P) (args := encs x) hl (by rw [hrec]; exact hps x)
      rw [hrec] at hy
      refine ⟨fn, _, assign, body, hy, roundIn_of_wpIn hfn (hassign _ pre x Wy _ hiy hnxy (fun a' W hgr hax => ?_))⟩
      have keep0 : ∀ (k : Nat) (o : Obj), Wy.heap[k]? = some o → W.heap[k]? = some o := fun k o h => (hgr.block k (Array.getElem?_eq_some_iff.1 h).1 (fun e => by cases e)).trans h
      have hl := keep0 _ _ hly
      have hk := keep0 _ _ hky
      have hi := hI pre Wy W none hiy hgr (fun r e => by cases e)
      have hnx := hNe pre x Wy W hnxy hgr
      have hK0 := hKe Wy W hgr
      have hlt : d + 1 < W.heap.size := (Array.getElem?_eq_some_iff.1 hl).1
      refine ⟨_, run_beginRound hl (by rw [hrec]), ?_⟩
      obtain ⟨U, hU⟩ : ∃ U, W.putObj (d + 1) (.loop { rec .ready none with state := .busy }) = U := ⟨_, rfl⟩
      have ul : U.heap[d + 1]? = some (.loop { rec .ready none with state := .busy }) := by rw [← hU]; exact World.putObj_heap_same hlt
      have uk : U.heap[d]? = some (.deferred (some [])) := by rw [← hU]; exact (World.putObj_heap_other (by omega)).trans hk
      have uK : Kp W U := by rw [← hU]; exact hKb _ _ _ _ (by omega) hl rfl rfl
      have uN : Nx pre x U := by rw [← hU]; exact hNb _ _ _ _ _ _ hnx (by omega) hl rfl
      have uA : Ax x a' U := by rw [← hU]; exact hAb _ _ _ _ _ _ hax (by omega) hl rfl
      have uI : I pre U := by rw [← hU]; exact hI.put _ hi (by omega) hl rfl
      rw [hU]
      refine wpIn_mono (hbody _ pre x a' U uI hlen uN uA) ?_
      have fin : ∀ (jump : Option Code) (Z : World), KeepsFrom w.heap.size U Z →
          (Instr.endRound (d + 1) jump).run P Z = .ok (.bool jump.isNone) (Z.putObj (d + 1) (.loop (rec (if jump.isNone then .ready else .done) jump))) ∧
          Z.heap[d + 1]? = some (.loop { rec .ready none with state := .busy }) ∧
          (Z.putObj (d + 1) (.loop (rec (if jump.isNone then .ready else .done) jump))).heap[d + 1]? = some (.loop (rec (if jump.isNone then .ready else .done) jump)) ∧
          (Z.putObj (d + 1) (.loop (rec (if jump.isNone then .ready else .done) jump))).heap[d]? = some (.deferred (some [])) := fun jump Z hz => by
        have zl := hz.same _ _ (by omega) ul rfl
        have h := run_endRound (P := P) jump zl
        rw [hrec] at h ⊢
        exact ⟨h, by rw [hrec] at zl; exact zl, World.putObj_heap_same (Array.getElem?_eq_some_iff.1 zl).1, (World.putObj_heap_other (by omega)).trans (hz.same _ _ (by omega) uk rfl)⟩
      rintro e a3 Z hp
      cases e with
      | normal =>
        obtain ⟨q1, q2, q3⟩ := hp
        obtain ⟨r1, r2, r3, r4⟩ := fin none Z q1
        exact ⟨_, _, r1, .inl ⟨rfl, ⟨hI.put _ q3 (by omega) r2 rfl, r3, r4⟩, hKt hK0 (hKt (hKt uK q2) (hKb _ _ _ _ (by omega) r2 rfl rfl))⟩⟩
      | ret =>
        obtain ⟨q1, q3⟩ := hp
        obtain ⟨r1, r2, r3, r4⟩ := fin (some .ret) Z q1
        exact ⟨_, _, r1, .inr ⟨rfl, .ret, (hIx _).put _ q3 (by omega) r2 rfl, r3, r4⟩⟩
      | exit id =>
        obtain ⟨q1, q3⟩ := hp
        obtain ⟨r1, r2, r3, r4⟩ := fin (some (.exit id)) Z q1
        exact ⟨_, _, r1, .inr ⟨rfl, .exit id, (hIx _).put _ q3 (by omega) r2 rfl, r3, r4⟩⟩
      | goto t =>
        obtain ⟨q1, q3⟩ := hp
        obtain ⟨r1, r2, r3, r4⟩ := fin (some (.goto t)) Z q1
        exact ⟨_, _, r1, .inr ⟨rfl, .goto t, (hIx _).put _ q3 (by omega) r2 rfl, r3, r4⟩⟩
      | panic ch => exact hp.elim
      | outgrown => exact hp.elim
    · -- behind the iterator
      rintro e W2 ⟨⟨v, rfl⟩, (⟨xs, hS, hi, hl, hk⟩ | ⟨pre, hSp, c, hi, hl, hk⟩)⟩
      · exact ⟨none, _, by have h := run_endLoop (P := P) hl (by rw [hrec]; simp); rw [hrec] at h; exact h, hdone d xs _ (by omega) hS (hI.put _ hi (by omega) hl rfl) ((World.putObj_heap_other (by omega)).trans hk)⟩
      · exact ⟨some c, _, by have h := run_endLoop (P := P) hl (by rw [hrec]; simp); rw [hrec] at h; exact h, hstop d c pre _ (by omega) hSp ((hIx c).put _ hi (by omega) hl rfl) ((World.putObj_heap_other (by omega)).trans hk)⟩
end Go.Proofs.Ytbbcphloafmldaa

/-! The low sum of bytes: plain laws: byte by byte by a table, and bit by bit. No program is named here. -/
namespace Go.Proofs.Ytbbcphloafmldaa
set_option linter.unusedVariables false

def poly : Nat := 3988292384
/-- one bit. -/
def crcBit (v : Nat) : Nat := if v % 2 = 1 then (v / 2) ^^^ poly else v / 2
/-- one bit, of a sum beside a byte. -/
def refBit (s : Nat × Nat) : Nat × Nat := (if (s.2 + s.1) % 2 = 1 then (s.1 / 2) ^^^ poly else s.1 / 2, s.2 / 2)
def iter {α : Type} (f : α → α) : Nat → α → α
  | 0, x => x
  | n + 1, x => f (iter f n x)
def crc8 (v : Nat) : Nat := iter crcBit 8 v
/-- one byte. -/
def crcByte (v c : Nat) : Nat := (v / 256) ^^^ crc8 ((v ^^^ c) % 256)
def crcR (bs : List Nat) : Nat := bs.foldl crcByte 4294967295
def crcL (bs : List Nat) : Nat := crcR bs ^^^ 4294967295
theorem crcR_snoc (bs : List Nat) (c : Nat) : crcR (bs ++ [c]) = crcByte (crcR bs) c := by simp [crcR]
theorem xor_lt32 {a b : Nat} (ha : a < 4294967296) (hb : b < 4294967296) : a ^^^ b < 4294967296 := Nat.xor_lt_two_pow (n := 32) ha hb
theorem crcBit_lt {v : Nat} (h : v < 4294967296) : crcBit v < 4294967296 := by
  unfold crcBit
  split
  · exact xor_lt32 (by omega) (by decide)
  · omega
theorem iter_lt (f : Nat → Nat) (hf : ∀ v, v < 4294967296 → f v < 4294967296) : ∀ n v, v < 4294967296 → iter f n v < 4294967296
  | 0, v, h => h
  | n + 1, v, h => hf _ (iter_lt f hf n v h)
theorem crc8_lt {v : Nat} (h : v < 4294967296) : crc8 v < 4294967296 := iter_lt _ (fun _ => crcBit_lt) 8 v h
theorem crcByte_lt {v c : Nat} (h : v < 4294967296) : crcByte v c < 4294967296 := xor_lt32 (by omega) (crc8_lt (by omega))
theorem crcR_lt (bs : List Nat) : crcR bs < 4294967296 := by
  have : ∀ (bs : List Nat) v, v < 4294967296 → bs.foldl crcByte v < 4294967296 := by
    intro bs
    induction bs with
    | nil => intro v h; exact h
    | cons c bs ih => intro v h; exact ih _ (crcByte_lt h)
  exact this bs _ (by decide)
theorem crcL_lt (bs : List Nat) : crcL bs < 4294967296 := xor_lt32 (crcR_lt bs) (by decide)
theorem add_mod2 (a b : Nat) : (a + b) % 2 = (a ^^^ b) % 2 := by
  have h := Nat.testBit_xor a b 0
  simp only [Nat.testBit_zero] at h
  rcases Nat.mod_two_eq_zero_or_one a with ha | ha <;> rcases Nat.mod_two_eq_zero_or_one b with hb | hb <;> rcases Nat.mod_two_eq_zero_or_one (a ^^^ b) with hc | hc <;> simp [ha, hb, hc] at h <;> omega
theorem xor_half (a b : Nat) : (a ^^^ b) / 2 = (a / 2) ^^^ (b / 2) := Nat.xor_div_two
theorem xor_assoc4 (a b c : Nat) : (a ^^^ b) ^^^ c = (a ^^^ c) ^^^ b := by rw [Nat.xor_assoc, Nat.xor_comm b c, ← Nat.xor_assoc]
theorem refBit_xor (s : Nat × Nat) : (refBit s).1 ^^^ (refBit s).2 = crcBit (s.1 ^^^ s.2) := by
  unfold refBit crcBit
  simp only
  rw [Nat.add_comm, add_mod2, xor_half]
  split
  · exact xor_assoc4 _ _ _
  · rfl
theorem refBit_two (s : Nat × Nat) : (refBit s).2 = s.2 / 2 := rfl
theorem iter_refBit : ∀ n (s : Nat × Nat), (iter refBit n s).1 ^^^ (iter refBit n s).2 = iter crcBit n (s.1 ^^^ s.2) ∧ (iter refBit n s).2 = s.2 / 2 ^ n
  | 0, s => ⟨rfl, by simp [iter]⟩
  | n + 1, s => by
    obtain ⟨h1, h2⟩ := iter_refBit n s
    refine ⟨by simp only [iter]; rw [refBit_xor, h1], ?_⟩
    simp only [iter]
    rw [refBit_two, h2, Nat.div_div_eq_div_mul, Nat.pow_succ]
theorem iter_ref8 (v c : Nat) (hc : c < 256) : iter refBit 8 (v, c) = (crc8 (v ^^^ c), 0) := by
  obtain ⟨h1, h2⟩ := iter_refBit 8 (v, c)
  have h3 : (iter refBit 8 (v, c)).2 = 0 := by rw [h2]; simp; omega
  rw [h3, Nat.xor_zero] at h1
  exact Prod.ext h1 h3
/-- what has no low bits goes down alone. -/
theorem crcBit_lin (a b : Nat) (ha : a % 2 = 0) : crcBit (a ^^^ b) = (a / 2) ^^^ crcBit b := by
  unfold crcBit
  rw [xor_half, ← add_mod2]
  have : (a + b) % 2 = b % 2 := by omega
  rw [this]
  split
  · rw [Nat.xor_assoc]
  · rfl
theorem iter_lin (h b : Nat) : ∀ n m, iter crcBit n ((h * 2 ^ (n + m)) ^^^ b) = (h * 2 ^ m) ^^^ iter crcBit n b
  | 0, m => by simp [iter]
  | n + 1, m => by
    have ih := iter_lin h b n (m + 1)
    simp only [iter]
    rw [show n + 1 + m = n + (m + 1) by omega, ih, crcBit_lin _ _ (by rw [Nat.pow_succ, ← Nat.mul_assoc]; omega)]
    congr 1
    rw [Nat.pow_succ, ← Nat.mul_assoc]; omega
theorem split_byte (x : Nat) : (x / 256 * 2 ^ (8 + 0)) ^^^ (x % 256) = x := by
  have h := Nat.two_pow_add_eq_or_of_lt (i := 8) (b := x % 256) (by omega) (x / 256)
  have h2 : 2 ^ 8 * (x / 256) ^^^ x % 256 = 2 ^ 8 * (x / 256) + x % 256 := by
    apply Nat.eq_of_testBit_eq
    intro i
    rw [Nat.testBit_xor, h, Nat.testBit_or]
    by_cases hi : i < 8
    · have : (2 ^ 8 * (x / 256)).testBit i = false := by rw [Nat.testBit_two_pow_mul]; simp; omega
      rw [this]; simp
    · have : (x % 256).testBit i = false := Nat.testBit_lt_two_pow (Nat.lt_of_lt_of_le (show x % 256 < 2 ^ 8 by omega) (Nat.pow_le_pow_right (show 0 < 2 by decide) (show 8 ≤ i by omega)))
      rw [this]; simp
  rw [Nat.mul_comm, Nat.add_zero, h2]
  omega
theorem crc8_split (x : Nat) : crc8 x = (x / 256) ^^^ crc8 (x % 256) := by
  have := iter_lin (x / 256) (x % 256) 8 0
  rw [split_byte] at this
  simpa [crc8] using this
theorem xor_high (v c : Nat) (hc : c < 256) : (v ^^^ c) / 256 = v / 256 := by
  have : (v ^^^ c) / 2 ^ 8 = (v / 2 ^ 8) ^^^ (c / 2 ^ 8) := Nat.xor_div_two_pow
  simp only [Nat.reducePow] at this
  rw [this, show c / 256 = 0 by omega, Nat.xor_zero]
/-- bit by bit, or by the table: the same. -/
theorem ref_byte (v c : Nat) (hc : c < 256) : iter refBit 8 (v, c) = (crcByte v c, 0) := by
  rw [iter_ref8 v c hc, crc8_split, xor_high v c hc]; rfl
def tabL : List Nat := (List.range 256).map crc8
theorem tabL_get (i : Nat) (h : i < 256) : tabL.getD i 0 = crc8 i := by simp [tabL, List.getD, h]
end Go.Proofs.Ytbbcphloafmldaa

/-! pressworkref03.Low, crc.Low: their walks. -/
namespace Go.Proofs.Ytbbcphloafmldaa
open Go.RowKit
set_option linter.unusedVariables false

theorem iter_ref_lt (V c : Nat) (h : V < 4294967296) : ∀ k, (iter refBit k (V, c)).1 < 4294967296
  | 0 => h
  | k + 1 => by
    have ih := iter_ref_lt V c h k
    have e : iter refBit (k + 1) (V, c) = refBit (iter refBit k (V, c)) := rfl
    rw [e]
    generalize iter refBit k (V, c) = s at *
    obtain ⟨x, y⟩ := s
    simp only [refBit] at *
    split
    · exact xor_lt32 (by omega) (by decide)
    · omega
end Go.Proofs.Ytbbcphloafmldaa
-- pruned by prune.py for gunzip
