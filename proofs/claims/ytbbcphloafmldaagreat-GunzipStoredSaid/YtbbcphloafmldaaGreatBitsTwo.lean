/- More plain laws on bits: what is laid is read. -/
import Derived.Test.YtbbcphloafmldaaGreatBits
namespace Go.Proofs.YtbbcphloafmldaaGreat

theorem mayPut_nat {v n : Nat} (hn : n ≤ 32) (h : v < 2 ^ n) : mayPut v n = true := by simp [mayPut, h]; omega
theorem putE_ok {v n : Nat} (hn : n ≤ 32) (h : v < 2 ^ n) : putE v n = 0 := by simp [putE, mayPut_nat hn h]
theorem putL_ok (hi : Bool) (l : List Bool) {v n : Nat} (hn : n ≤ 32) (h : v < 2 ^ n) : putL hi l v n = l ++ bitsOf hi v n := by simp [putL, mayPut_nat hn h]
theorem putL_len (hi : Bool) (l : List Bool) (v : Nat) (n : Int) : (putL hi l v n).length ≤ l.length + 32 := by
  unfold putL
  split
  · rename_i h; simp [mayPut] at h; simp [length_bitsOf]; omega
  · omega
theorem getR_ok (hi : Bool) (bs : List Nat) (i n : Nat) (hn : n ≤ 32) (h : i + n ≤ 8 * bs.length) : getR hi bs i n = (numOf hi (bitsAt hi bs i n), i + n, 0) := by
  rw [getR, if_neg (by omega), if_neg (by omega), Int.toNat_natCast]
theorem rbit_packs (hi : Bool) (l : List Bool) (i : Nat) : rbit hi (packs hi l) i = l.getD i false := by
  rw [rbit, getD_packs, byteB_bit _ _ _ _ (by omega)]
  congr 1; omega
theorem bitsAt_packs (hi : Bool) (l : List Bool) (i n : Nat) (h : i + n ≤ l.length) : bitsAt hi (packs hi l) i n = (l.drop i).take n := by
  apply List.ext_getElem
  · simp [length_bitsAt]; omega
  · intro j h1 h2
    simp only [length_bitsAt] at h1
    simp [bitsAt, rbit_packs, List.getD, List.getElem?_eq_getElem (show i + j < l.length by omega)]
theorem bitsOf_zero (hi : Bool) (v : Nat) : bitsOf hi v 0 = [] := by simp [bitsOf]
theorem bitsOf_low_succ (v n : Nat) : bitsOf false v (n + 1) = bitsOf false v n ++ [v.testBit n] := by simp [bitsOf, List.range_succ]
theorem bitsOf_high_succ (v n : Nat) : bitsOf true v (n + 1) = bitsOf true (v / 2) n ++ [v.testBit 0] := by
  apply List.ext_getElem
  · simp [bitsOf]
  · intro j h1 h2
    simp only [length_bitsOf] at h1
    by_cases hj : j < n
    · rw [List.getElem_append_left (by simpa [bitsOf] using hj)]
      simp only [bitsOf, List.getElem_map, List.getElem_range, if_true]
      rw [Nat.testBit_div_two]; congr 1; omega
    · obtain rfl : j = n := by omega
      rw [List.getElem_append_right (by simp [bitsOf])]
      simp [bitsOf]
theorem mod_pow_succ (v n : Nat) : v % 2 ^ (n + 1) = v % 2 ^ n + (v.testBit n).toNat * 2 ^ n := by
  have h1 : v / 2 ^ n = 2 * (v / 2 ^ n / 2) + v / 2 ^ n % 2 := by omega
  have h2 : v = 2 ^ n * (v / 2 ^ n) + v % 2 ^ n := (Nat.div_add_mod v (2 ^ n)).symm
  have h3 : (v.testBit n).toNat = v / 2 ^ n % 2 := by
    rw [Nat.testBit_eq_decide_div_mod_eq]
    rcases Nat.mod_two_eq_zero_or_one (v / 2 ^ n) with h | h <;> simp [h]
  rw [Nat.pow_succ, Nat.mod_mul, h3, Nat.mul_comm]
theorem numOf_bitsOf_low (v n : Nat) : numOf false (bitsOf false v n) = v % 2 ^ n := by
  induction n with
  | zero => simp [bitsOf, numOf, Nat.mod_one]
  | succ n ih => rw [bitsOf_low_succ, numOf_low, ih, length_bitsOf, mod_pow_succ]
theorem numOf_bitsOf_high (n : Nat) : ∀ v, numOf true (bitsOf true v n) = v % 2 ^ n := by
  induction n with
  | zero => intro v; simp [bitsOf, numOf, Nat.mod_one]
  | succ n ih =>
    intro v
    rw [bitsOf_high_succ, numOf_high, ih, Nat.testBit_zero, Nat.pow_succ, Nat.mul_comm (2 ^ n) 2, Nat.mod_mul]
    rcases Nat.mod_two_eq_zero_or_one v with h | h <;> simp [h] <;> omega
theorem numOf_bitsOf (hi : Bool) (v n : Nat) (h : v < 2 ^ n) : numOf hi (bitsOf hi v n) = v := by
  cases hi
  · rw [numOf_bitsOf_low, Nat.mod_eq_of_lt h]
  · rw [numOf_bitsOf_high, Nat.mod_eq_of_lt h]
theorem bitsOf_split_low (f g p s : Nat) (hp : p ≤ s) (hf : f < 2 ^ p) : bitsOf false (f + g * 2 ^ p) s = bitsOf false f p ++ bitsOf false g (s - p) := by
  apply List.ext_getElem
  · simp [length_bitsOf]; omega
  · intro j h1 h2
    simp only [length_bitsOf] at h1
    have e : f + g * 2 ^ p = 2 ^ p * g + f := by rw [Nat.mul_comm, Nat.add_comm]
    by_cases hj : j < p
    · rw [List.getElem_append_left (by simpa [bitsOf] using hj)]
      simp only [bitsOf, List.getElem_map, List.getElem_range, Bool.false_eq_true, if_false]
      rw [e, Nat.testBit_two_pow_mul_add _ hf, if_pos hj]
    · rw [List.getElem_append_right (by simp [bitsOf]; omega)]
      simp only [bitsOf, List.getElem_map, List.getElem_range, Bool.false_eq_true, if_false, List.length_map, List.length_range]
      rw [e, Nat.testBit_two_pow_mul_add _ hf, if_neg hj]
theorem bitsOf_split_high (f g p s : Nat) (hp : p ≤ s) (hg : g < 2 ^ (s - p)) : bitsOf true (f * 2 ^ (s - p) + g) s = bitsOf true f p ++ bitsOf true g (s - p) := by
  apply List.ext_getElem
  · simp [length_bitsOf]; omega
  · intro j h1 h2
    simp only [length_bitsOf] at h1
    have e : f * 2 ^ (s - p) + g = 2 ^ (s - p) * f + g := by rw [Nat.mul_comm]
    by_cases hj : j < p
    · rw [List.getElem_append_left (by simpa [bitsOf] using hj)]
      simp only [bitsOf, List.getElem_map, List.getElem_range, if_true]
      rw [e, Nat.testBit_two_pow_mul_add _ hg, if_neg (by omega)]; congr 1; omega
    · rw [List.getElem_append_right (by simp [bitsOf]; omega)]
      simp only [bitsOf, List.getElem_map, List.getElem_range, if_true, List.length_map, List.length_range]
      rw [e, Nat.testBit_two_pow_mul_add _ hg, if_pos (by omega)]; congr 1; omega
/-- what lies in a row behind i bits is read there. -/
theorem getR_at (hi : Bool) (l m r : List Bool) (v n : Nat) (hv : v < 2 ^ n) (hn : n ≤ 32) (hm : m = bitsOf hi v n) : getR hi (packs hi (l ++ (m ++ r))) l.length n = (v, l.length + n, 0) := by
  subst hm
  have hlen : l.length + n ≤ (l ++ (bitsOf hi v n ++ r)).length := by rw [List.length_append, List.length_append, length_bitsOf]; omega
  rw [getR_ok hi _ _ _ hn (by rw [length_packs]; omega), bitsAt_packs hi _ _ _ hlen]
  rw [List.drop_left, List.take_left' (length_bitsOf _ _ _), numOf_bitsOf hi v n hv]
theorem split_read (hi : Bool) (A s p q V f g : Nat) (hA : A < 20) (hs : s ≤ 32) (hq : p + q = s) (hV : V < 2 ^ s) (hf : f < 2 ^ p) (hg : g < 2 ^ q) (hb : bitsOf hi V s = bitsOf hi f p ++ bitsOf hi g q) :
    getR hi (packs hi (putL hi (putL hi [] 1 ((A : Int) + 1)) V s)) 0 ((A : Int) + 1) = (1, A + 1, 0) ∧ getR hi (packs hi (putL hi (putL hi [] 1 ((A : Int) + 1)) V s)) (A + 1) p = (f, A + 1 + p, 0) ∧
    getR hi (packs hi (putL hi (putL hi [] 1 ((A : Int) + 1)) V s)) (A + 1 + p) q = (g, A + 1 + s, 0) := by
  have e : ((A : Int) + 1) = ((A + 1 : Nat) : Int) := by omega
  have h1 : 1 < 2 ^ (A + 1) := by rw [Nat.pow_succ]; have := Nat.two_pow_pos A; omega
  rw [e, putL_ok hi [] (show A + 1 ≤ 32 by omega) h1, List.nil_append, putL_ok hi _ hs hV, hb]
  refine ⟨?_, ?_, ?_⟩
  · have := getR_at hi [] (bitsOf hi 1 (A + 1)) (bitsOf hi f p ++ bitsOf hi g q) 1 (A + 1) h1 (by omega) rfl
    simpa using this
  · have := getR_at hi (bitsOf hi 1 (A + 1)) (bitsOf hi f p) (bitsOf hi g q) f p hf (by omega) rfl
    rw [length_bitsOf] at this
    exact this
  · have := getR_at hi (bitsOf hi 1 (A + 1) ++ bitsOf hi f p) (bitsOf hi g q) [] g q hg (by omega) rfl
    rw [List.length_append, length_bitsOf, length_bitsOf, List.append_nil, List.append_assoc] at this
    rw [this, ← hq, Nat.add_assoc (A + 1)]
theorem split_len (hi : Bool) (A s V : Nat) (hA : A < 20) (hs : s ≤ 32) (hV : V < 2 ^ s) : (putL hi (putL hi [] 1 ((A : Int) + 1)) V s).length = A + 1 + s := by
  have e : ((A : Int) + 1) = ((A + 1 : Nat) : Int) := by omega
  have h1 : 1 < 2 ^ (A + 1) := by rw [Nat.pow_succ]; have := Nat.two_pow_pos A; omega
  rw [e, putL_ok hi [] (show A + 1 ≤ 32 by omega) h1, List.nil_append, putL_ok hi _ hs hV, List.length_append, length_bitsOf, length_bitsOf]
theorem byte_shr (ob e : Nat) (h : ob < 256) : ((ob : Int) / 2 ^ e % 4294967296) = ((ob / 2 ^ e : Nat) : Int) ∧ ob / 2 ^ e < 256 := by
  have := Nat.div_le_self ob (2 ^ e)
  rw [show ((ob : Int) / 2 ^ e) = ((ob / 2 ^ e : Nat) : Int) by simp]
  generalize ob / 2 ^ e = q at *
  omega
theorem add_range (ob k : Nat) (h : ob < 256) : (0 ≤ (ob : Int) / 2 ^ (k % 8) % 4294967296 ∧ (ob : Int) / 2 ^ (k % 8) % 4294967296 < 2 ^ 32) ∧ (0 ≤ (ob : Int) / 2 ^ (7 - k % 8) % 4294967296 ∧ (ob : Int) / 2 ^ (7 - k % 8) % 4294967296 < 2 ^ 32) := by
  have h1 := byte_shr ob (k % 8) h
  have h2 := byte_shr ob (7 - k % 8) h
  rw [h1.1, h2.1]
  generalize ob / 2 ^ (k % 8) = q at *
  generalize ob / 2 ^ (7 - k % 8) = q2 at *
  omega
theorem add_bit (hi : Bool) (l : List Bool) (k : Nat) (hk : k < l.length) : ((((packs hi l).getD (k / 8) 0 : Nat) : Int) / 2 ^ sh hi (k % 8) % 4294967296).toNat.testBit 0 = l[k] := by
  have h := byte_shr ((packs hi l).getD (k / 8) 0) (sh hi (k % 8)) (getD_lt (packs_lt _ _) _)
  rw [h.1, Int.toNat_natCast, Nat.testBit_zero, ← Nat.testBit_eq_decide_div_mod_eq]
  have e := rbit_packs hi l k
  rw [rbit] at e
  rw [e]
  simp [List.getD, List.getElem?_eq_getElem hk]
theorem add_bit_low (l : List Bool) (k : Nat) (hk : k < l.length) : ((((packs false l).getD (k / 8) 0 : Nat) : Int) / 2 ^ (k % 8) % 4294967296).toNat.testBit 0 = l[k] := add_bit false l k hk
theorem add_bit_high (l : List Bool) (k : Nat) (hk : k < l.length) : ((((packs true l).getD (k / 8) 0 : Nat) : Int) / 2 ^ (7 - k % 8) % 4294967296).toNat.testBit 0 = l[k] := add_bit true l k hk
/-- the bits of bytes, byte by byte. -/
def ofBits (hi : Bool) (bs : List Nat) : List Bool := bs.flatMap fun b => bitsOf hi b 8
theorem length_ofBits (hi : Bool) (bs : List Nat) : (ofBits hi bs).length = 8 * bs.length := by
  induction bs with
  | nil => rfl
  | cons b bs ih => simp only [ofBits, List.flatMap_cons, List.length_append, length_bitsOf, List.length_cons] at *; omega
theorem ofBits_get (hi : Bool) (bs : List Nat) : ∀ i, (ofBits hi bs).getD i false = rbit hi bs i := by
  induction bs with
  | nil => intro i; simp [ofBits, rbit, List.getD]
  | cons b bs ih =>
    intro i
    by_cases h : i < 8
    · rw [ofBits, List.flatMap_cons, getD_app_lt _ _ _ _ (by rw [length_bitsOf]; exact h)]
      have e1 : i / 8 = 0 := by omega
      have e2 : i % 8 = i := by omega
      simp only [rbit, e1, e2, List.getD_cons_zero]
      simp only [bitsOf, List.getD, List.getElem?_map, List.getElem?_range h, Option.map_some, Option.getD_some]
      cases hi <;> simp [sh]
    · have e : (ofBits hi (b :: bs)).getD i false = (ofBits hi bs).getD (i - 8) false := by
        rw [ofBits, List.flatMap_cons]
        simp only [List.getD]
        rw [List.getElem?_append_right (by rw [length_bitsOf]; omega), length_bitsOf]; rfl
      rw [e, ih]
      simp only [rbit]
      rw [show i / 8 = (i - 8) / 8 + 1 by omega, show i % 8 = (i - 8) % 8 by omega, List.getD_cons_succ]
theorem ofBits_at (hi : Bool) (bs : List Nat) (i n : Nat) (h : i + n ≤ 8 * bs.length) : ((ofBits hi bs).drop i).take n = bitsAt hi bs i n := by
  apply List.ext_getElem
  · simp [length_bitsAt, length_ofBits]; omega
  · intro j h1 h2
    simp only [length_bitsAt] at h2
    have := ofBits_get hi bs (i + j)
    simp only [List.getD, List.getElem?_eq_getElem (show i + j < (ofBits hi bs).length by rw [length_ofBits]; omega), Option.getD_some] at this
    simp [bitsAt, this]
theorem ofBits_snoc (hi : Bool) (bs : List Nat) (b : Nat) : ofBits hi (bs ++ [b]) = ofBits hi bs ++ bitsOf hi b 8 := by simp [ofBits]
/-- what the document's reader answers. -/
def refR (hi : Bool) (l : List Bool) (i : Nat) (n : Int) : Nat × Nat × Int :=
  if n < 0 ∨ 32 < n then (0, i, 5) else if (l.length : Int) - i < n then (0, i, 2) else (numOf hi ((l.drop i).take n.toNat), i + n.toNat, 0)
theorem refR_getR (hi : Bool) (bs : List Nat) (i : Nat) (n : Int) : refR hi (ofBits hi bs) i n = getR hi bs i n := by
  unfold refR getR
  rw [length_ofBits]
  split
  · rfl
  · split
    · rfl
    · rw [ofBits_at hi bs i n.toNat (by omega)]
theorem bitsAt_byte (hi : Bool) (bs : List Nat) (k : Nat) : bitsAt hi bs (8 * k) 8 = bitsOf hi (bs.getD k 0) 8 := by
  simp only [bitsAt, bitsOf]
  apply List.map_congr_left
  intro j hj
  have hj8 : j < 8 := List.mem_range.1 hj
  simp only [rbit, sh]
  rw [show (8 * k + j) / 8 = k by omega, show (8 * k + j) % 8 = j by omega]
/-- eight bits of a whole row are its byte. -/
theorem num_byte (hi : Bool) (l : List Bool) (k : Nat) (hk : 8 * k < (alignB l).length) : numOf hi (((alignB l).drop (8 * k)).take 8) = (packs hi l).getD k 0 := by
  have h8 : 8 * k + 8 ≤ (alignB l).length := by rw [length_alignB] at hk ⊢; omega
  rw [← bitsAt_packs hi (alignB l) (8 * k) 8 h8, packs_alignB, bitsAt_byte]
  exact numOf_bitsOf hi _ 8 (getD_lt (packs_lt hi l) k)
end Go.Proofs.YtbbcphloafmldaaGreat
