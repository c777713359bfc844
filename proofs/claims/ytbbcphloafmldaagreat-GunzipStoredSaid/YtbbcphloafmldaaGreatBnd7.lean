/- Inflate, plain: what a row of bits says. No program is named here. The low sum of bytes: plain laws: byte by byte by a table, and bit by bit. No program is named here. pressworkref03.Low, crc.Low: their walks. -/
import Derived.Test.YtbbcphloafmldaaGreatBnd6
import Derived.Test.YtbbcphloafmldaaGreatRepLaw
import Derived.Test.YtbbcphloafmldaaGreatBitsTwo
import Derived.Test.YtbbcphloafmldaaGreatBnd3
import Derived.Deep.WholeRow
/-! Inflate, plain: what a row of bits says. No program is named here. -/
namespace Go.Proofs.YtbbcphloafmldaaGreat
open Go.RowKit
set_option linter.unusedVariables false

/-- a number of n bits. -/
def rd (bits : List Bool) (p n : Nat) : Option (Nat × Nat) := if p + n ≤ bits.length then some (numOf false (xAt bits p n), p + n) else none
theorem rd_some {bits : List Bool} {p n : Nat} (h : p + n ≤ bits.length) : rd bits p n = some (numOf false (xAt bits p n), p + n) := by rw [rd, if_pos h]
theorem rd_none {bits : List Bool} {p n : Nat} (h : bits.length < p + n) : rd bits p n = none := by rw [rd, if_neg (by omega)]
theorem rd_more {bits more : List Bool} {p n : Nat} {x : Nat × Nat} (h : rd bits p n = some x) : rd (bits ++ more) p n = some x := by
  unfold rd at h ⊢
  split at h
  · rename_i hl
    rw [if_pos (by rw [List.length_append]; omega), ← h]
    congr 2
    unfold xAt
    rw [List.drop_append_of_le_length (by omega), List.take_append_of_le_length (by rw [List.length_drop]; omega)]
  · cases h
open Classical in
/-- a symbol by a code's words, and the place behind it. -/
noncomputable def decS (L : List Nat) (bits : List Bool) (p : Nat) : Option (Nat × Nat) :=
  if h : ∃ x : Nat × Nat, IsDec (rowsL L) bits p x.1 x.2 0 then some h.choose else none
theorem decS_ok {L : List Nat} {bits : List Bool} {p s q : Nat} (hg : Good L) (h : IsDec (rowsL L) bits p s q 0) : decS L bits p = some (s, q) := by
  have hx : ∃ x : Nat × Nat, IsDec (rowsL L) bits p x.1 x.2 0 := ⟨(s, q), h⟩
  rw [decS, dif_pos hx]
  have := dec_one (rows_pf hg) hx.choose_spec h
  rw [← this.1, ← this.2.1]
theorem decS_no {L : List Nat} {bits : List Bool} {p s q : Nat} {e : Int} (hg : Good L) (h : IsDec (rowsL L) bits p s q e) (he : e ≠ 0) : decS L bits p = none := by
  rw [decS, dif_neg]
  rintro ⟨x, hx⟩
  exact he (dec_one (rows_pf hg) hx h).2.2.symm
theorem decS_is {L : List Nat} {bits : List Bool} {p s q : Nat} (h : decS L bits p = some (s, q)) : IsDec (rowsL L) bits p s q 0 := by
  unfold decS at h
  split at h
  · rename_i hx
    have h2 := hx.choose_spec
    injection h with h
    rw [h] at h2; exact h2
  · cases h
theorem decS_lt {L : List Nat} {bits : List Bool} {p s q : Nat} (h : decS L bits p = some (s, q)) : p < q ∧ q ≤ bits.length ∧ s < L.length := by
  obtain ⟨n, rfl, hn, _, h2⟩ := (decS_is h).is
  rcases h2 with ⟨_, hh⟩ | ⟨h, _⟩
  · refine ⟨?_, hn, ?_⟩
    · rcases Nat.eq_zero_or_pos n with rfl | h0
      · exact (hh.2 (by simp [xAt])).elim
      · omega
    · have := (List.getElem?_eq_some_iff.1 hh.1).1
      rwa [length_rowsL] at this
  · cases h
theorem xAt_more {bits more : List Bool} {p n : Nat} (h : p + n ≤ bits.length) : xAt (bits ++ more) p n = xAt bits p n := by
  unfold xAt
  rw [List.drop_append_of_le_length (by omega), List.take_append_of_le_length (by rw [List.length_drop]; omega)]
theorem decS_more {L : List Nat} {bits more : List Bool} {p : Nat} {x : Nat × Nat} (hg : Good L) (h : decS L bits p = some x) : decS L (bits ++ more) p = some x := by
  obtain ⟨s, q⟩ := x
  refine decS_ok hg ?_
  obtain ⟨n, rfl, hn, h1, h2⟩ := (decS_is h).is
  refine ⟨n, rfl, by rw [List.length_append]; omega, fun m hm => ?_, ?_⟩
  · obtain ⟨a, b, c⟩ := h1 m hm
    rw [GoOn, xAt_more (by omega)]
    exact ⟨a, b, by rw [List.length_append]; omega⟩
  · rcases h2 with ⟨e, hh⟩ | ⟨e, _⟩
    · exact Or.inl ⟨e, by rw [xAt_more hn]; exact hh⟩
    · cases e
/-- a scale's bits and leasts. -/
def scB (none each k : Nat) : Nat := if k < none then 0 else 1 + (k - none) / each
def scL (none each least : Nat) : Nat → Nat
  | 0 => least
  | k + 1 => scL none each least k + 2 ^ scB none each k
def lenOf (c : Nat) : Option (Nat × Nat) := if c < 257 ∨ 285 < c then none else if c = 285 then some (258, 0) else some (scL 8 4 3 (c - 257), scB 8 4 (c - 257))
def distOf (d : Nat) : Option (Nat × Nat) := if 30 ≤ d then none else some (scL 4 2 1 d, scB 4 2 d)
/-- n bytes that stood d ahead. -/
def copyL (out : List Nat) (d : Nat) : Nat → List Nat
  | 0 => out
  | n + 1 => copyL out d n ++ [(copyL out d n).getD ((copyL out d n).length - d) 0]
theorem length_copyL (out : List Nat) (d : Nat) : ∀ n, (copyL out d n).length = out.length + n
  | 0 => rfl
  | n + 1 => by rw [copyL, List.length_append, length_copyL out d n]; rfl
inductive SymS where
  | bad
  | stop (q : Nat)
  | go (q : Nat) (out : List Nat)
/-- one symbol, and what it brings. -/
noncomputable def symS (L1 L2 : List Nat) (bits : List Bool) (p : Nat) (out : List Nat) : SymS :=
  match decS L1 bits p with
  | none => .bad
  | some (c, q) =>
    if c < 256 then .go q (out ++ [c])
    else if c = 256 then .stop q
    else match lenOf c with
      | none => .bad
      | some (ll, lb) => match rd bits q lb with
        | none => .bad
        | some (x, q2) => match decS L2 bits q2 with
          | none => .bad
          | some (d, q3) => match distOf d with
            | none => .bad
            | some (dl, db) => match rd bits q3 db with
              | none => .bad
              | some (y, q4) => if out.length < dl + y then .bad else .go q4 (copyL out (dl + y) (ll + x))
/-- symbols by two codes, to the end. -/
noncomputable def symF (L1 L2 : List Nat) (bits : List Bool) (p : Nat) (out : List Nat) : Option (Nat × List Nat) :=
  match symS L1 L2 bits p out with
  | .bad => none
  | .stop q => some (q, out)
  | .go q o => if p < q ∧ q ≤ bits.length then symF L1 L2 bits q o else none
  termination_by bits.length - p
  decreasing_by omega
theorem rd_lt {bits : List Bool} {p n : Nat} {x : Nat × Nat} (h : rd bits p n = some x) : x.2 = p + n ∧ p + n ≤ bits.length ∧ x.1 = numOf false (xAt bits p n) := by
  unfold rd at h
  split at h
  · cases h; exact ⟨rfl, by assumption, rfl⟩
  · cases h
theorem symS_go {L1 L2 : List Nat} {bits : List Bool} {p q : Nat} {out o : List Nat} (h : symS L1 L2 bits p out = .go q o) : p < q ∧ q ≤ bits.length := by
  unfold symS at h
  split at h
  · cases h
  · rename_i c q0 hd
    have h0 := decS_lt hd
    split at h
    · cases h; exact ⟨h0.1, h0.2.1⟩
    · split at h
      · cases h
      · split at h
        · cases h
        · split at h
          · cases h
          · rename_i x q2 hr
            have h1 := rd_lt hr
            dsimp only at h1
            split at h
            · cases h
            · rename_i d q3 hd2
              have h2 := decS_lt hd2
              split at h
              · cases h
              · split at h
                · cases h
                · rename_i y q4 hr2
                  have h3 := rd_lt hr2
                  dsimp only at h3
                  split at h
                  · cases h
                  · cases h
                    omega
theorem symF_bad {L1 L2 : List Nat} {bits : List Bool} {p : Nat} {out : List Nat} (h : symS L1 L2 bits p out = .bad) : symF L1 L2 bits p out = none := by rw [symF, h]
theorem symF_stop {L1 L2 : List Nat} {bits : List Bool} {p q : Nat} {out : List Nat} (h : symS L1 L2 bits p out = .stop q) : symF L1 L2 bits p out = some (q, out) := by rw [symF, h]
theorem symF_go {L1 L2 : List Nat} {bits : List Bool} {p q : Nat} {out o : List Nat} (h : symS L1 L2 bits p out = .go q o) : symF L1 L2 bits p out = symF L1 L2 bits q o := by
  rw [symF, h]
  simp only
  rw [if_pos (symS_go h)]
/-- a stored block. -/
def storedF (bits : List Bool) (p : Nat) (out : List Nat) : Option (Nat × List Nat) :=
  match rd bits ((p + 7) / 8 * 8) 16 with
  | none => none
  | some (n, q) => match rd bits q 16 with
    | none => none
    | some (m, q2) => if m ≠ 65535 - n then none else if q2 + 8 * n ≤ bits.length then some (q2 + 8 * n, out ++ (List.range n).map fun i => numOf false (xAt bits (q2 + 8 * i) 8)) else none
def fixedA : List Nat := List.replicate 144 8 ++ List.replicate 112 9 ++ List.replicate 24 7 ++ List.replicate 8 8
def fixedB : List Nat := List.replicate 32 5
/-- the order of the lengths of signs' words. -/
def ordH : List Nat := [16, 17, 18, 0, 8, 7, 9, 6, 10, 5, 11, 4, 12, 3, 13, 2, 14, 1, 15]
/-- n lengths of signs' words. -/
def wlF (bits : List Bool) : Nat → Nat → List Nat → Nat → Option (Nat × List Nat)
  | 0, _, acc, p => some (p, acc)
  | n + 1, i, acc, p => match rd bits p 3 with
    | none => none
    | some (x, q) => wlF bits n (i + 1) (acc.set (ordH.getD i 0) x) q
def exbH (c : Nat) : Nat := if c = 16 then 2 else if c = 17 then 3 else if c = 18 then 7 else 0
def saidN (c x : Nat) : Nat := if c = 16 ∨ c = 17 then 3 + x else if c = 18 then 11 + x else 1
/-- signs, until so many lengths are said. -/
noncomputable def sgF (L : List Nat) (bits : List Bool) (n said : Nat) (acc : List (Nat × Nat)) (p : Nat) : Option (Nat × List (Nat × Nat)) :=
  if n ≤ said then some (p, acc)
  else match decS L bits p with
    | none => none
    | some (c, q) => match rd bits q (exbH c) with
      | none => none
      | some (x, q2) => if p < q2 ∧ q2 ≤ bits.length then sgF L bits n (said + saidN c x) (acc ++ [(c, x)]) q2 else none
  termination_by bits.length - p
  decreasing_by omega
def singleL (l : List Nat) : Bool := (l.all fun n => decide (n ≤ 1)) && decide (l.sum = 1)
def mayH (a b : List Nat) : Bool := decide (257 ≤ a.length) && decide (a.length ≤ 286) && decide (1 ≤ b.length) && decide (b.length ≤ 30) && decide (a.getD 256 0 ≠ 0) && (a.all fun n => decide (n ≤ 15)) && (b.all fun n => decide (n ≤ 15)) && (decide (classL a = 2) || singleL a) && (decide (classL b = 2) || decide (classL b = 0) || singleL b)
/-- a head. -/
noncomputable def hdrF (bits : List Bool) (p : Nat) : Option (List Nat × List Nat × Nat) :=
  match rd bits p 5 with
  | none => none
  | some (x, p1) => match rd bits p1 5 with
    | none => none
    | some (y, p2) => match rd bits p2 4 with
      | none => none
      | some (z, p3) => match wlF bits (z + 4) 0 (List.replicate 19 0) p3 with
        | none => none
        | some (p4, lens) => if classL lens ≠ 2 then none else match sgF lens bits (x + 257 + (y + 1)) 0 [] p4 with
          | none => none
          | some (p5, l) => if (unpR l ((x + 257 + (y + 1) : Nat) : Int)).2 ≠ 0 then none
            else if mayH ((unpR l ((x + 257 + (y + 1) : Nat) : Int)).1.take (x + 257)) ((unpR l ((x + 257 + (y + 1) : Nat) : Int)).1.drop (x + 257)) then some ((unpR l ((x + 257 + (y + 1) : Nat) : Int)).1.take (x + 257), (unpR l ((x + 257 + (y + 1) : Nat) : Int)).1.drop (x + 257), p5) else none
noncomputable def dynF (bits : List Bool) (p : Nat) (out : List Nat) : Option (Nat × List Nat) :=
  match hdrF bits p with
  | none => none
  | some (a, b, q) => symF a b bits q out
noncomputable def kindF (k : Nat) (bits : List Bool) (p : Nat) (out : List Nat) : Option (Nat × List Nat) :=
  if k = 0 then storedF bits p out else if k = 1 then symF fixedA fixedB bits p out else if k = 2 then dynF bits p out else none
/-- blocks, to the last one. -/
noncomputable def inflF (bits : List Bool) (p : Nat) (out : List Nat) : Option (Nat × List Nat) :=
  match rd bits p 1 with
  | none => none
  | some (l, p1) => match rd bits p1 2 with
    | none => none
    | some (k, p2) => match kindF k bits p2 out with
      | none => none
      | some (q, o) => if l ≠ 0 then some (q, o) else if p < q ∧ q ≤ bits.length then inflF bits q o else none
  termination_by bits.length - p
  decreasing_by omega
end Go.Proofs.YtbbcphloafmldaaGreat

/-! The low sum of bytes: plain laws: byte by byte by a table, and bit by bit. No program is named here. -/
namespace Go.Proofs.YtbbcphloafmldaaGreat
set_option linter.unusedVariables false

def poly : Nat := 3988292384
/-- one bit. -/
def crcBit (v : Nat) : Nat := if v % 2 = 1 then (v / 2) ^^^ poly else v / 2
/-- one bit, of a sum beside a byte. -/
def refBit (s : Nat × Nat) : Nat × Nat := (if (s.2 + s.1) % 2 = 1 then (s.1 / 2) ^^^ poly else s.1 / 2, s.2 / 2)
def iter {α : Type} (f : α → α) : Nat → α → α
  | 0, x => x
  | n + 1, x => f (iter f n x)
def crc8 (v : Nat) : Nat := iter crcBit 8 v
/-- one byte. -/
def crcByte (v c : Nat) : Nat := (v / 256) ^^^ crc8 ((v ^^^ c) % 256)
def crcR (bs : List Nat) : Nat := bs.foldl crcByte 4294967295
def crcL (bs : List Nat) : Nat := crcR bs ^^^ 4294967295
theorem crcR_snoc (bs : List Nat) (c : Nat) : crcR (bs ++ [c]) = crcByte (crcR bs) c := by simp [crcR]
theorem xor_lt32 {a b : Nat} (ha : a < 4294967296) (hb : b < 4294967296) : a ^^^ b < 4294967296 := Nat.xor_lt_two_pow (n := 32) ha hb
theorem crcBit_lt {v : Nat} (h : v < 4294967296) : crcBit v < 4294967296 := by
  unfold crcBit
  split
  · exact xor_lt32 (by omega) (by decide)
  · omega
theorem iter_lt (f : Nat → Nat) (hf : ∀ v, v < 4294967296 → f v < 4294967296) : ∀ n v, v < 4294967296 → iter f n v < 4294967296
  | 0, v, h => h
  | n + 1, v, h => hf _ (iter_lt f hf n v h)
theorem crc8_lt {v : Nat} (h : v < 4294967296) : crc8 v < 4294967296 := iter_lt _ (fun _ => crcBit_lt) 8 v h
theorem crcByte_lt {v c : Nat} (h : v < 4294967296) : crcByte v c < 4294967296 := xor_lt32 (by omega) (crc8_lt (by omega))
theorem crcR_lt (bs : List Nat) : crcR bs < 4294967296 := by
  have : ∀ (bs : List Nat) v, v < 4294967296 → bs.foldl crcByte v < 4294967296 := by
    intro bs
    induction bs with
    | nil => intro v h; exact h
    | cons c bs ih => intro v h; exact ih _ (crcByte_lt h)
  exact this bs _ (by decide)
theorem crcL_lt (bs : List Nat) : crcL bs < 4294967296 := xor_lt32 (crcR_lt bs) (by decide)
theorem add_mod2 (a b : Nat) : (a + b) % 2 = (a ^^^ b) % 2 := by
  have h := Nat.testBit_xor a b 0
  simp only [Nat.testBit_zero] at h
  rcases Nat.mod_two_eq_zero_or_one a with ha | ha <;> rcases Nat.mod_two_eq_zero_or_one b with hb | hb <;> rcases Nat.mod_two_eq_zero_or_one (a ^^^ b) with hc | hc <;> simp [ha, hb, hc] at h <;> omega
theorem xor_half (a b : Nat) : (a ^^^ b) / 2 = (a / 2) ^^^ (b / 2) := Nat.xor_div_two
theorem xor_assoc4 (a b c : Nat) : (a ^^^ b) ^^^ c = (a ^^^ c) ^^^ b := by rw [Nat.xor_assoc, Nat.xor_comm b c, ← Nat.xor_assoc]
theorem refBit_xor (s : Nat × Nat) : (refBit s).1 ^^^ (refBit s).2 = crcBit (s.1 ^^^ s.2) := by
  unfold refBit crcBit
  simp only
  rw [Nat.add_comm, add_mod2, xor_half]
  split
  · exact xor_assoc4 _ _ _
  · rfl
theorem refBit_two (s : Nat × Nat) : (refBit s).2 = s.2 / 2 := rfl
theorem iter_refBit : ∀ n (s : Nat × Nat), (iter refBit n s).1 ^^^ (iter refBit n s).2 = iter crcBit n (s.1 ^^^ s.2) ∧ (iter refBit n s).2 = s.2 / 2 ^ n
  | 0, s => ⟨rfl, by simp [iter]⟩
  | n + 1, s => by
    obtain ⟨h1, h2⟩ := iter_refBit n s
    refine ⟨by simp only [iter]; rw [refBit_xor, h1], ?_⟩
    simp only [iter]
    rw [refBit_two, h2, Nat.div_div_eq_div_mul, Nat.pow_succ]
theorem iter_ref8 (v c : Nat) (hc : c < 256) : iter refBit 8 (v, c) = (crc8 (v ^^^ c), 0) := by
  obtain ⟨h1, h2⟩ := iter_refBit 8 (v, c)
  have h3 : (iter refBit 8 (v, c)).2 = 0 := by rw [h2]; simp; omega
  rw [h3, Nat.xor_zero] at h1
  exact Prod.ext h1 h3
/-- what has no low bits goes down alone. -/
theorem crcBit_lin (a b : Nat) (ha : a % 2 = 0) : crcBit (a ^^^ b) = (a / 2) ^^^ crcBit b := by
  unfold crcBit
  rw [xor_half, ← add_mod2]
  have : (a + b) % 2 = b % 2 := by omega
  rw [this]
  split
  · rw [Nat.xor_assoc]
  · rfl
theorem iter_lin (h b : Nat) : ∀ n m, iter crcBit n ((h * 2 ^ (n + m)) ^^^ b) = (h * 2 ^ m) ^^^ iter crcBit n b
  | 0, m => by simp [iter]
  | n + 1, m => by
    have ih := iter_lin h b n (m + 1)
    simp only [iter]
    rw [show n + 1 + m = n + (m + 1) by omega, ih, crcBit_lin _ _ (by rw [Nat.pow_succ, ← Nat.mul_assoc]; omega)]
    congr 1
    rw [Nat.pow_succ, ← Nat.mul_assoc]; omega
theorem split_byte (x : Nat) : (x / 256 * 2 ^ (8 + 0)) ^^^ (x % 256) = x := by
  have h := Nat.two_pow_add_eq_or_of_lt (i := 8) (b := x % 256) (by omega) (x / 256)
  have h2 : 2 ^ 8 * (x / 256) ^^^ x % 256 = 2 ^ 8 * (x / 256) + x % 256 := by
    apply Nat.eq_of_testBit_eq
    intro i
    rw [Nat.testBit_xor, h, Nat.testBit_or]
    by_cases hi : i < 8
    · have : (2 ^ 8 * (x / 256)).testBit i = false := by rw [Nat.testBit_two_pow_mul]; simp; omega
      rw [this]; simp
    · have : (x % 256).testBit i = false := Nat.testBit_lt_two_pow (Nat.lt_of_lt_of_le (show x % 256 < 2 ^ 8 by omega) (Nat.pow_le_pow_right (show 0 < 2 by decide) (show 8 ≤ i by omega)))
      rw [this]; simp
  rw [Nat.mul_comm, Nat.add_zero, h2]
  omega
theorem crc8_split (x : Nat) : crc8 x = (x / 256) ^^^ crc8 (x % 256) := by
  have := iter_lin (x / 256) (x % 256) 8 0
  rw [split_byte] at this
  simpa [crc8] using this
theorem xor_high (v c : Nat) (hc : c < 256) : (v ^^^ c) / 256 = v / 256 := by
  have : (v ^^^ c) / 2 ^ 8 = (v / 2 ^ 8) ^^^ (c / 2 ^ 8) := Nat.xor_div_two_pow
  simp only [Nat.reducePow] at this
  rw [this, show c / 256 = 0 by omega, Nat.xor_zero]
/-- bit by bit, or by the table: the same. -/
theorem ref_byte (v c : Nat) (hc : c < 256) : iter refBit 8 (v, c) = (crcByte v c, 0) := by
  rw [iter_ref8 v c hc, crc8_split, xor_high v c hc]; rfl
def tabL : List Nat := (List.range 256).map crc8
theorem tabL_get (i : Nat) (h : i < 256) : tabL.getD i 0 = crc8 i := by simp [tabL, List.getD, h]
end Go.Proofs.YtbbcphloafmldaaGreat

/-! pressworkref03.Low, crc.Low: their walks. -/
namespace Go.Proofs.YtbbcphloafmldaaGreat
open Go.RowKit
set_option linter.unusedVariables false

theorem iter_ref_lt (V c : Nat) (h : V < 4294967296) : ∀ k, (iter refBit k (V, c)).1 < 4294967296
  | 0 => h
  | k + 1 => by
    have ih := iter_ref_lt V c h k
    have e : iter refBit (k + 1) (V, c) = refBit (iter refBit k (V, c)) := rfl
    rw [e]
    generalize iter refBit k (V, c) = s at *
    obtain ⟨x, y⟩ := s
    simp only [refBit] at *
    split
    · exact xor_lt32 (by omega) (by decide)
    · omega
set_option maxRecDepth 100000 in
set_option maxHeartbeats 4000000 in
theorem crc_ref_low (v : Value) (bs : List Nat) (w : World) (hv : ViewL w v (u8s bs)) (hb : ∀ b ∈ bs, b < 256) (hl : bs.length ≤ 2 ^ 40) :
    Calls Tryz.prog 26 #[v] w fun e w' => e = .returned (.int .u32 (crcL bs)) ∧ w = w' := by
  obtain ⟨ao, cap, rfl⟩ := hv.shape
  rw [length_u8s] at *
  have HV := Lib.hid hv
  have HB := Lib.hid hb
  clear hv hb
  go_enter Tryz.func26, Tryz.ntmps26
  go_wp2_with fail
  go_loopw [3, 4] (fun vv iv wr => ∃ i : Nat, iv = .int .i64 i ∧ i ≤ bs.length ∧ vv = .int .u32 (crcR (bs.take i)) ∧ wr = w) (fun _ iv _ => bs.length - (intOf iv).toNat)
  case atStart => exact ⟨0, rfl, Nat.zero_le _, rfl, rfl⟩
  case round =>
    obtain ⟨i, rfl, hi, rfl, rfl⟩ := hrel
    have hlt := crcR_lt (bs.take i)
    by_cases hin : i < bs.length
    · have hini : (i : Int) < (bs.length : Int) := by omega
      obtain ⟨b, o, rfl, _, hc⟩ := viewL_cells HV.out (by rw [length_u8s]; omega)
      obtain ⟨c, hcc⟩ : ∃ c, bs[i]? = some c := ⟨_, List.getElem?_eq_getElem hin⟩
      have cB := hc i (.int .u8 c) (by simp [u8s, hcc])
      have hc256 := HB.out c (List.mem_of_getElem? hcc)
      have HST := Lib.hid (show crcR (bs.take (i + 1)) = crcByte (crcR (bs.take i)) c by rw [List.take_add_one, hcc, Option.toList_some, crcR_snoc])
      generalize crcR (bs.take i) = V at *
      have HRB := Lib.hid (ref_byte V c hc256)
      clear hc hcc
      go_wp2_with fail
      go_loopw [3, 5, 6] (fun vv cv kv wr' => ∃ k : Nat, kv = .int .i64 k ∧ k ≤ 8 ∧ vv = .int .u32 (iter refBit k (V, c)).1 ∧ cv = .int .u8 (iter refBit k (V, c)).2 ∧ wr' = wr) (fun _ _ kv _ => 8 - (intOf kv).toNat)
      case atStart => exact ⟨0, rfl, by omega, rfl, rfl, rfl⟩
      case round =>
        obtain ⟨k, rfl, hk, rfl, rfl, rfl⟩ := hrel
        have h2 := (iter_refBit k (V, c)).2
        have hx := iter_ref_lt V c hlt k
        have hst : iter refBit (k + 1) (V, c) = refBit (iter refBit k (V, c)) := rfl
        by_cases hk8 : k < 8
        · have hk8i : (k : Int) < 8 := by omega
          have hy : (iter refBit k (V, c)).2 < 256 := by rw [h2]; exact Nat.lt_of_le_of_lt (Nat.div_le_self _ _) hc256
          have HS := Lib.hid hst
          clear h2 hst
          generalize iter refBit k (V, c) = s at *
          obtain ⟨x, y⟩ := s
          simp only at *
          have ht : (((y : Int) + (x : Int)) % 4294967296).tmod 2 = (((y + x) % 2 : Nat) : Int) := by rw [Int.tmod_eq_emod_of_nonneg (by omega)]; omega
          have hd : (x : Int).tdiv 2 = ((x / 2 : Nat) : Int) := by rw [Int.tdiv_eq_ediv_of_nonneg (by omega)]; omega
          by_cases hp : (y + x) % 2 = 1
          · rw [hp] at ht
            go_wp2_with fail
            have e1 : bits .xor .u32 ((x : Int) / 2) 3988292384 = ((x / 2 ^^^ poly : Nat) : Int) := by
              have := u32_xor_nat (x / 2) poly (by omega) (by decide)
              rw [← this]; simp [poly]
            rw [e1]
            exact ⟨⟨k + 1, by go_num, by omega, by rw [HS.out, refBit]; simp only [hp, if_true], by rw [HS.out, refBit]; simp, trivial⟩, by simp [intOf]; omega⟩
          · have hp0 : (y + x) % 2 = 0 := by omega
            rw [hp0] at ht
            go_wp2_with fail
            exact ⟨⟨k + 1, by go_num, by omega, by rw [HS.out, refBit]; simp [hp], by rw [HS.out, refBit]; simp, trivial⟩, by simp [intOf]; omega⟩
        · obtain rfl : k = 8 := by omega
          have e1 := congrArg Prod.fst HRB.out
          have e2 := congrArg Prod.snd HRB.out
          simp only at e1 e2
          rw [e1, e2]
          clear h2 hst hx e1 e2
          go_wp2_with fail
          go_roundw
          case rel => exact ⟨i + 1, by go_num, by omega, by rw [HST.out], trivial⟩
          case measure => simp [intOf]; omega
    · obtain rfl : i = bs.length := by omega
      rw [List.take_length] at hlt ⊢
      have e1 : bits .xor .u32 ((crcR bs : Nat) : Int) 4294967295 = ((crcL bs : Nat) : Int) := by
        have := u32_xor_nat (crcR bs) 4294967295 hlt (by decide)
        exact this
      have HE := Lib.hid e1
      clear e1
      go_wp2_with fail
      go_ret
      exact ⟨by rw [← HE.out]; rfl, rfl⟩
end Go.Proofs.YtbbcphloafmldaaGreat
