/- The low sum of bytes: plain laws: byte by byte by a table, and bit by bit. No program is named here. -/
import Derived.Test.YtmhkjcoidjpocaaBitsTwo
namespace Go.Proofs.Ytmhkjcoidjpocaa
set_option linter.unusedVariables false

def poly : Nat := 3988292384
/-- one bit. -/
def crcBit (v : Nat) : Nat := if v % 2 = 1 then (v / 2) ^^^ poly else v / 2
/-- one bit, of a sum beside a byte. -/
def refBit (s : Nat × Nat) : Nat × Nat := (if (s.2 + s.1) % 2 = 1 then (s.1 / 2) ^^^ poly else s.1 / 2, s.2 / 2)
def iter {α : Type} (f : α → α) : Nat → α → α
  | 0, x => x
  | n + 1, x => f (iter f n x)
def crc8 (v : Nat) : Nat := iter crcBit 8 v
/-- one byte. -/
def crcByte (v c : Nat) : Nat := (v / 256) ^^^ crc8 ((v ^^^ c) % 256)
def crcR (bs : List Nat) : Nat := bs.foldl crcByte 4294967295
def crcL (bs : List Nat) : Nat := crcR bs ^^^ 4294967295
theorem crcR_snoc (bs : List Nat) (c : Nat) : crcR (bs ++ [c]) = crcByte (crcR bs) c := by simp [crcR]
theorem xor_lt32 {a b : Nat} (ha : a < 4294967296) (hb : b < 4294967296) : a ^^^ b < 4294967296 := Nat.xor_lt_two_pow (n := 32) ha hb
theorem crcBit_lt {v : Nat} (h : v < 4294967296) : crcBit v < 4294967296 := by
  unfold crcBit
  split
  · exact xor_lt32 (by omega) (by decide)
  · omega
theorem iter_lt (f : Nat → Nat) (hf : ∀ v, v < 4294967296 → f v < 4294967296) : ∀ n v, v < 4294967296 → iter f n v < 4294967296
  | 0, v, h => h
  | n + 1, v, h => hf _ (iter_lt f hf n v h)
theorem crc8_lt {v : Nat} (h : v < 4294967296) : crc8 v < 4294967296 := iter_lt _ (fun _ => crcBit_lt) 8 v h
theorem crcByte_lt {v c : Nat} (h : v < 4294967296) : crcByte v c < 4294967296 := xor_lt32 (by omega) (crc8_lt (by omega))
theorem crcR_lt (bs : List Nat) : crcR bs < 4294967296 := by
  have : ∀ (bs : List Nat) v, v < 4294967296 → bs.foldl crcByte v < 4294967296 := by
    intro bs
    induction bs with
    | nil => intro v h; exact h
    | cons c bs ih => intro v h; exact ih _ (crcByte_lt h)
  exact this bs _ (by decide)
theorem crcL_lt (bs : List Nat) : crcL bs < 4294967296 := xor_lt32 (crcR_lt bs) (by decide)
theorem add_mod2 (a b : Nat) : (a + b) % 2 = (a ^^^ b) % 2 := by
  have h := Nat.testBit_xor a b 0
  simp only [Nat.testBit_zero] at h
  rcases Nat.mod_two_eq_zero_or_one a with ha | ha <;> rcases Nat.mod_two_eq_zero_or_one b with hb | hb <;> rcases Nat.mod_two_eq_zero_or_one (a ^^^ b) with hc | hc <;> simp [ha, hb, hc] at h <;> omega
theorem xor_half (a b : Nat) : (a ^^^ b) / 2 = (a / 2) ^^^ (b / 2) := Nat.xor_div_two
theorem xor_assoc4 (a b c : Nat) : (a ^^^ b) ^^^ c = (a ^^^ c) ^^^ b := by rw [Nat.xor_assoc, Nat.xor_comm b c, ← Nat.xor_assoc]
theorem refBit_xor (s : Nat × Nat) : (refBit s).1 ^^^ (refBit s).2 = crcBit (s.1 ^^^ s.2) := by
  unfold refBit crcBit
  simp only
  rw [Nat.add_comm, add_mod2, xor_half]
  split
  · exact xor_assoc4 _ _ _
  · rfl
theorem refBit_two (s : Nat × Nat) : (refBit s).2 = s.2 / 2 := rfl
theorem iter_refBit : ∀ n (s : Nat × Nat), (iter refBit n s).1 ^^^ (iter refBit n s).2 = iter crcBit n (s.1 ^^^ s.2) ∧ (iter refBit n s).2 = s.2 / 2 ^ n
  | 0, s => ⟨rfl, by simp [iter]⟩
  | n + 1, s => by
    obtain ⟨h1, h2⟩ := iter_refBit n s
    refine ⟨by simp only [iter]; rw [refBit_xor, h1], ?_⟩
    simp only [iter]
    rw [refBit_two, h2, Nat.div_div_eq_div_mul, Nat.pow_succ]
theorem iter_ref8 (v c : Nat) (hc : c < 256) : iter refBit 8 (v, c) = (crc8 (v ^^^ c), 0) := by
  obtain ⟨h1, h2⟩ := iter_refBit 8 (v, c)
  have h3 : (iter refBit 8 (v, c)).2 = 0 := by rw [h2]; simp; omega
  rw [h3, Nat.xor_zero] at h1
  exact Prod.ext h1 h3
/-- what has no low bits goes down alone. -/
theorem crcBit_lin (a b : Nat) (ha : a % 2 = 0) : crcBit (a ^^^ b) = (a / 2) ^^^ crcBit b := by
  unfold crcBit
  rw [xor_half, ← add_mod2]
  have : (a + b) % 2 = b % 2 := by omega
  rw [this]
  split
  · rw [Nat.xor_assoc]
  · rfl
theorem iter_lin (h b : Nat) : ∀ n m, iter crcBit n ((h * 2 ^ (n + m)) ^^^ b) = (h * 2 ^ m) ^^^ iter crcBit n b
  | 0, m => by simp [iter]
  | n + 1, m => by
    have ih := iter_lin h b n (m + 1)
    simp only [iter]
    rw [show n + 1 + m = n + (m + 1) by omega, ih, crcBit_lin _ _ (by rw [Nat.pow_succ, ← Nat.mul_assoc]; omega)]
    congr 1
    rw [Nat.pow_succ, ← Nat.mul_assoc]; omega
theorem split_byte (x : Nat) : (x / 256 * 2 ^ (8 + 0)) ^^^ (x % 256) = x := by
  have h := Nat.two_pow_add_eq_or_of_lt (i := 8) (b := x % 256) (by omega) (x / 256)
  have h2 : 2 ^ 8 * (x / 256) ^^^ x % 256 = 2 ^ 8 * (x / 256) + x % 256 := by
    apply Nat.eq_of_testBit_eq
    intro i
    rw [Nat.testBit_xor, h, Nat.testBit_or]
    by_cases hi : i < 8
    · have : (2 ^ 8 * (x / 256)).testBit i = false := by rw [Nat.testBit_two_pow_mul]; simp; omega
      rw [this]; simp
    · have : (x % 256).testBit i = false := Nat.testBit_lt_two_pow (Nat.lt_of_lt_of_le (show x % 256 < 2 ^ 8 by omega) (Nat.pow_le_pow_right (show 0 < 2 by decide) (show 8 ≤ i by omega)))
      rw [this]; simp
  rw [Nat.mul_comm, Nat.add_zero, h2]
  omega
theorem crc8_split (x : Nat) : crc8 x = (x / 256) ^^^ crc8 (x % 256) := by
  have := iter_lin (x / 256) (x % 256) 8 0
  rw [split_byte] at this
  simpa [crc8] using this
theorem xor_high (v c : Nat) (hc : c < 256) : (v ^^^ c) / 256 = v / 256 := by
  have : (v ^^^ c) / 2 ^ 8 = (v / 2 ^ 8) ^^^ (c / 2 ^ 8) := Nat.xor_div_two_pow
  simp only [Nat.reducePow] at this
  rw [this, show c / 256 = 0 by omega, Nat.xor_zero]
/-- bit by bit, or by the table: the same. -/
theorem ref_byte (v c : Nat) (hc : c < 256) : iter refBit 8 (v, c) = (crcByte v c, 0) := by
  rw [iter_ref8 v c hc, crc8_split, xor_high v c hc]; rfl
def tabL : List Nat := (List.range 256).map crc8
theorem tabL_get (i : Nat) (h : i < 256) : tabL.getD i 0 = crc8 i := by simp [tabL, List.getD, h]
end Go.Proofs.Ytmhkjcoidjpocaa
