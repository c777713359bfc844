/- tables.may, PutLengths, Size: their walks. More plain laws on bits: what is laid is read. Plain laws of tables: what Get reads; what is put is got. Plain laws of selectors: what Get reads; what is put is got; what is got is put by the same bits. -/
import Derived.Test.YtaabmlnbadpfgaaTabMin
import Derived.Test.YtaabmlnbadpfgaaMsbPut
import Derived.Test.YtaabmlnbadpfgaaMsbWr
import Derived.Test.YtaabmlnbadpfgaaWNew
import Derived.Test.YtaabmlnbadpfgaaBits
/-! tables.may, PutLengths, Size: their walks. -/
namespace Go.Proofs.Ytaabmlnbadpfgaa
open Go.RowKit
set_option linter.unusedVariables false

/-- may lengths be? -/
def MayP (bs : List Nat) : Prop := 3 ≤ bs.length ∧ bs.length ≤ 258 ∧ ∀ b ∈ bs, 1 ≤ b ∧ b ≤ 20
def upB (k : Nat) : List Bool := (List.replicate k [true, false]).flatten
def downB (k : Nat) : List Bool := (List.replicate k [true, true]).flatten
theorem upB_succ (k : Nat) : upB (k + 1) = upB k ++ [true, false] := by simp [upB, List.replicate_succ']
theorem downB_succ (k : Nat) : downB (k + 1) = downB k ++ [true, true] := by simp [downB, List.replicate_succ']
theorem upB_len (k : Nat) : (upB k).length = 2 * k := by
  induction k with
  | zero => rfl
  | succ k ih => rw [upB_succ, List.length_append, ih]; simp; omega
theorem downB_len (k : Nat) : (downB k).length = 2 * k := by
  induction k with
  | zero => rfl
  | succ k ih => rw [downB_succ, List.length_append, ih]; simp; omega
/-- where a writer of lengths stands ahead of the k-th. -/
def atK (bs : List Nat) (k : Nat) : Nat := if k = 0 then bs.getD 0 0 else bs.getD (k - 1) 0
/-- the bits of the first k lengths. -/
def lenTo (bs : List Nat) : Nat → List Bool
  | 0 => bitsOf true (bs.getD 0 0) 5
  | k + 1 => lenTo bs k ++ (upB (bs.getD k 0 - atK bs k) ++ (downB (atK bs k - bs.getD k 0) ++ [false]))
def lenBits (bs : List Nat) : List Bool := lenTo bs bs.length
theorem atK_le (bs : List Nat) (h : ∀ b ∈ bs, 1 ≤ b ∧ b ≤ 20) (k : Nat) : atK bs k ≤ 20 := by
  have hd : ∀ i, bs.getD i 0 ≤ 20 := fun i => by
    by_cases hi : i < bs.length
    · have := h (bs[i]) (List.getElem_mem hi)
      simp [List.getD, hi]; omega
    · simp [List.getD, hi]
  rw [atK]; split <;> exact hd _
theorem lenTo_len (bs : List Nat) (h : ∀ b ∈ bs, 1 ≤ b ∧ b ≤ 20) : ∀ k, (lenTo bs k).length ≤ 5 + 81 * k
  | 0 => by simp [lenTo, length_bitsOf]
  | k + 1 => by
    have ih := lenTo_len bs h k
    have h1 := atK_le bs h k
    have h2 : bs.getD k 0 ≤ 20 := by have := atK_le bs h (k + 1); simpa [atK] using this
    simp only [lenTo, List.length_append, upB_len, downB_len, List.length_cons, List.length_nil]
    omega
set_option maxHeartbeats 1000000 in
theorem tab_may (v : Value) (bs : List Nat) (w : World) (hv : ViewL w v (u8s bs)) (hl : bs.length ≤ 2 ^ 40) :
    Calls Try.prog 56 #[v] w fun e w' => (e = .returned (.bool true) ∧ MayP bs ∨ e = .returned (.bool false) ∧ ¬ MayP bs) ∧ w = w' := by
  obtain ⟨ao, cap, rfl⟩ := hv.shape
  rw [length_u8s] at *
  have HV := Lib.hid hv
  clear hv
  go_enter Try.func56, Try.ntmps56
  by_cases h3 : 3 ≤ bs.length
  · have h3i : (3 : Int) ≤ (bs.length : Int) := by omega
    by_cases h258 : bs.length ≤ 258
    · have h258i : (bs.length : Int) ≤ 258 := by omega
      go_wp2_with fail
      refine (tab_min _ bs _ HV.out (by omega) hl).mono ?_
      rintro e w' ⟨m, rfl, hm1, hm2, rfl⟩
      by_cases hm : 1 ≤ m
      · have hmi : (1 : Int) ≤ (m : Int) := by omega
        have HM := Lib.hid hm2
        clear hm2 hm1
        go_wp2_with fail
        refine (tab_max _ bs _ HV.out (by omega) hl).mono ?_
        rintro e w' ⟨x, rfl, hx1, hx2, rfl⟩
        by_cases hx : x ≤ 20
        · have hxi : (x : Int) ≤ 20 := by omega
          have HX := Lib.hid hx2
          clear hx2 hx1
          go_wp2_with fail
          go_ret
          exact ⟨Or.inl ⟨rfl, h3, h258, fun b hb => ⟨Nat.le_trans hm (HM.out b hb), Nat.le_trans (HX.out b hb) hx⟩⟩, rfl⟩
        · have hxi : decide ((x : Int) ≤ 20) = false := decide_eq_false (by omega)
          have hxi2 : ¬ (x : Int) ≤ 20 := by omega
          have HX := Lib.hid hx1
          clear hx2 hx1
          go_wp2_with fail
          go_ret
          exact ⟨Or.inr ⟨rfl, fun h => hx (h.2.2 x HX.out).2⟩, rfl⟩
      · have hmi : decide ((1 : Int) ≤ (m : Int)) = false := decide_eq_false (by omega)
        have hmi2 : ¬ (1 : Int) ≤ (m : Int) := by omega
        have HM := Lib.hid hm1
        clear hm2 hm1
        go_wp2_with fail
        go_ret
        exact ⟨Or.inr ⟨rfl, fun h => hm (h.2.2 m HM.out).1⟩, rfl⟩
    · have h258i : decide ((bs.length : Int) ≤ 258) = false := decide_eq_false (by omega)
      have h258j : ¬ (bs.length : Int) ≤ 258 := by omega
      go_wp2_with fail
      go_ret
      exact ⟨Or.inr ⟨rfl, fun h => h258 h.2.1⟩, rfl⟩
  · have h3i : decide ((3 : Int) ≤ (bs.length : Int)) = false := decide_eq_false (by omega)
    have h3j : ¬ (3 : Int) ≤ (bs.length : Int) := by omega
    go_wp2_with fail
    go_ret
    exact ⟨Or.inr ⟨rfl, fun h => h3 h.1⟩, rfl⟩
end Go.Proofs.Ytaabmlnbadpfgaa

/-! More plain laws on bits: what is laid is read. -/
namespace Go.Proofs.Ytaabmlnbadpfgaa

theorem mayPut_nat {v n : Nat} (hn : n ≤ 32) (h : v < 2 ^ n) : mayPut v n = true := by simp [mayPut, h]; omega
theorem putE_ok {v n : Nat} (hn : n ≤ 32) (h : v < 2 ^ n) : putE v n = 0 := by simp [putE, mayPut_nat hn h]
theorem putL_ok (hi : Bool) (l : List Bool) {v n : Nat} (hn : n ≤ 32) (h : v < 2 ^ n) : putL hi l v n = l ++ bitsOf hi v n := by simp [putL, mayPut_nat hn h]
theorem putL_len (hi : Bool) (l : List Bool) (v : Nat) (n : Int) : (putL hi l v n).length ≤ l.length + 32 := by
  unfold putL
  split
  · rename_i h; simp [mayPut] at h; simp [length_bitsOf]; omega
  · omega
theorem getR_ok (hi : Bool) (bs : List Nat) (i n : Nat) (hn : n ≤ 32) (h : i + n ≤ 8 * bs.length) : getR hi bs i n = (numOf hi (bitsAt hi bs i n), i + n, 0) := by
  rw [getR, if_neg (by omega), if_neg (by omega), Int.toNat_natCast]
theorem rbit_packs (hi : Bool) (l : List Bool) (i : Nat) : rbit hi (packs hi l) i = l.getD i false := by
  rw [rbit, getD_packs, byteB_bit _ _ _ _ (by omega)]
  congr 1; omega
theorem bitsAt_packs (hi : Bool) (l : List Bool) (i n : Nat) (h : i + n ≤ l.length) : bitsAt hi (packs hi l) i n = (l.drop i).take n := by
  apply List.ext_getElem
  · simp [length_bitsAt]; omega
  · intro j h1 h2
    simp only [length_bitsAt] at h1
    simp [bitsAt, rbit_packs, List.getD, List.getElem?_eq_getElem (show i + j < l.length by omega)]
theorem bitsOf_zero (hi : Bool) (v : Nat) : bitsOf hi v 0 = [] := by simp [bitsOf]
theorem bitsOf_low_succ (v n : Nat) : bitsOf false v (n + 1) = bitsOf false v n ++ [v.testBit n] := by simp [bitsOf, List.range_succ]
theorem bitsOf_high_succ (v n : Nat) : bitsOf true v (n + 1) = bitsOf true (v / 2) n ++ [v.testBit 0] := by
  apply List.ext_getElem
  · simp [bitsOf]
  · intro j h1 h2
    simp only [length_bitsOf] at h1
    by_cases hj : j < n
    · rw [List.getElem_append_left (by simpa [bitsOf] using hj)]
      simp only [bitsOf, List.getElem_map, List.getElem_range, if_true]
      rw [Nat.testBit_div_two]; congr 1; omega
    · obtain rfl : j = n := by omega
      rw [List.getElem_append_right (by simp [bitsOf])]
      simp [bitsOf]
theorem mod_pow_succ (v n : Nat) : v % 2 ^ (n + 1) = v % 2 ^ n + (v.testBit n).toNat * 2 ^ n := by
  have h1 : v / 2 ^ n = 2 * (v / 2 ^ n / 2) + v / 2 ^ n % 2 := by omega
  have h2 : v = 2 ^ n * (v / 2 ^ n) + v % 2 ^ n := (Nat.div_add_mod v (2 ^ n)).symm
  have h3 : (v.testBit n).toNat = v / 2 ^ n % 2 := by
    rw [Nat.testBit_eq_decide_div_mod_eq]
    rcases Nat.mod_two_eq_zero_or_one (v / 2 ^ n) with h | h <;> simp [h]
  rw [Nat.pow_succ, Nat.mod_mul, h3, Nat.mul_comm]
theorem numOf_bitsOf_low (v n : Nat) : numOf false (bitsOf false v n) = v % 2 ^ n := by
  induction n with
  | zero => simp [bitsOf, numOf, Nat.mod_one]
  | succ n ih => rw [bitsOf_low_succ, numOf_low, ih, length_bitsOf, mod_pow_succ]
theorem numOf_bitsOf_high (n : Nat) : ∀ v, numOf true (bitsOf true v n) = v % 2 ^ n := by
  induction n with
  | zero => intro v; simp [bitsOf, numOf, Nat.mod_one]
  | succ n ih =>
    intro v
    rw [bitsOf_high_succ, numOf_high, ih, Nat.testBit_zero, Nat.pow_succ, Nat.mul_comm (2 ^ n) 2, Nat.mod_mul]
    rcases Nat.mod_two_eq_zero_or_one v with h | h <;> simp [h] <;> omega
theorem numOf_bitsOf (hi : Bool) (v n : Nat) (h : v < 2 ^ n) : numOf hi (bitsOf hi v n) = v := by
  cases hi
  · rw [numOf_bitsOf_low, Nat.mod_eq_of_lt h]
  · rw [numOf_bitsOf_high, Nat.mod_eq_of_lt h]
theorem bitsOf_split_low (f g p s : Nat) (hp : p ≤ s) (hf : f < 2 ^ p) : bitsOf false (f + g * 2 ^ p) s = bitsOf false f p ++ bitsOf false g (s - p) := by
  apply List.ext_getElem
  · simp [length_bitsOf]; omega
  · intro j h1 h2
    simp only [length_bitsOf] at h1
    have e : f + g * 2 ^ p = 2 ^ p * g + f := by rw [Nat.mul_comm, Nat.add_comm]
    by_cases hj : j < p
    · rw [List.getElem_append_left (by simpa [bitsOf] using hj)]
      simp only [bitsOf, List.getElem_map, List.getElem_range, Bool.false_eq_true, if_false]
      rw [e, Nat.testBit_two_pow_mul_add _ hf, if_pos hj]
    · rw [List.getElem_append_right (by simp [bitsOf]; omega)]
      simp only [bitsOf, List.getElem_map, List.getElem_range, Bool.false_eq_true, if_false, List.length_map, List.length_range]
      rw [e, Nat.testBit_two_pow_mul_add _ hf, if_neg hj]
theorem bitsOf_split_high (f g p s : Nat) (hp : p ≤ s) (hg : g < 2 ^ (s - p)) : bitsOf true (f * 2 ^ (s - p) + g) s = bitsOf true f p ++ bitsOf true g (s - p) := by
  apply List.ext_getElem
  · simp [length_bitsOf]; omega
  · intro j h1 h2
    simp only [length_bitsOf] at h1
    have e : f * 2 ^ (s - p) + g = 2 ^ (s - p) * f + g := by rw [Nat.mul_comm]
    by_cases hj : j < p
    · rw [List.getElem_append_left (by simpa [bitsOf] using hj)]
      simp only [bitsOf, List.getElem_map, List.getElem_range, if_true]
      rw [e, Nat.testBit_two_pow_mul_add _ hg, if_neg (by omega)]; congr 1; omega
    · rw [List.getElem_append_right (by simp [bitsOf]; omega)]
      simp only [bitsOf, List.getElem_map, List.getElem_range, if_true, List.length_map, List.length_range]
      rw [e, Nat.testBit_two_pow_mul_add _ hg, if_pos (by omega)]; congr 1; omega
/-- what lies in a row behind i bits is read there. -/
theorem getR_at (hi : Bool) (l m r : List Bool) (v n : Nat) (hv : v < 2 ^ n) (hn : n ≤ 32) (hm : m = bitsOf hi v n) : getR hi (packs hi (l ++ (m ++ r))) l.length n = (v, l.length + n, 0) := by
  subst hm
  have hlen : l.length + n ≤ (l ++ (bitsOf hi v n ++ r)).length := by rw [List.length_append, List.length_append, length_bitsOf]; omega
  rw [getR_ok hi _ _ _ hn (by rw [length_packs]; omega), bitsAt_packs hi _ _ _ hlen]
  rw [List.drop_left, List.take_left' (length_bitsOf _ _ _), numOf_bitsOf hi v n hv]
theorem split_read (hi : Bool) (A s p q V f g : Nat) (hA : A < 20) (hs : s ≤ 32) (hq : p + q = s) (hV : V < 2 ^ s) (hf : f < 2 ^ p) (hg : g < 2 ^ q) (hb : bitsOf hi V s = bitsOf hi f p ++ bitsOf hi g q) :
    getR hi (packs hi (putL hi (putL hi [] 1 ((A : Int) + 1)) V s)) 0 ((A : Int) + 1) = (1, A + 1, 0) ∧ getR hi (packs hi (putL hi (putL hi [] 1 ((A : Int) + 1)) V s)) (A + 1) p = (f, A + 1 + p, 0) ∧
    getR hi (packs hi (putL hi (putL hi [] 1 ((A : Int) + 1)) V s)) (A + 1 + p) q = (g, A + 1 + s, 0) := by
  have e : ((A : Int) + 1) = ((A + 1 : Nat) : Int) := by omega
  have h1 : 1 < 2 ^ (A + 1) := by rw [Nat.pow_succ]; have := Nat.two_pow_pos A; omega
  rw [e, putL_ok hi [] (show A + 1 ≤ 32 by omega) h1, List.nil_append, putL_ok hi _ hs hV, hb]
  refine ⟨?_, ?_, ?_⟩
  · have := getR_at hi [] (bitsOf hi 1 (A + 1)) (bitsOf hi f p ++ bitsOf hi g q) 1 (A + 1) h1 (by omega) rfl
    simpa using this
  · have := getR_at hi (bitsOf hi 1 (A + 1)) (bitsOf hi f p) (bitsOf hi g q) f p hf (by omega) rfl
    rw [length_bitsOf] at this
    exact this
  · have := getR_at hi (bitsOf hi 1 (A + 1) ++ bitsOf hi f p) (bitsOf hi g q) [] g q hg (by omega) rfl
    rw [List.length_append, length_bitsOf, length_bitsOf, List.append_nil, List.append_assoc] at this
    rw [this, ← hq, Nat.add_assoc (A + 1)]
theorem split_len (hi : Bool) (A s V : Nat) (hA : A < 20) (hs : s ≤ 32) (hV : V < 2 ^ s) : (putL hi (putL hi [] 1 ((A : Int) + 1)) V s).length = A + 1 + s := by
  have e : ((A : Int) + 1) = ((A + 1 : Nat) : Int) := by omega
  have h1 : 1 < 2 ^ (A + 1) := by rw [Nat.pow_succ]; have := Nat.two_pow_pos A; omega
  rw [e, putL_ok hi [] (show A + 1 ≤ 32 by omega) h1, List.nil_append, putL_ok hi _ hs hV, List.length_append, length_bitsOf, length_bitsOf]
theorem byte_shr (ob e : Nat) (h : ob < 256) : ((ob : Int) / 2 ^ e % 4294967296) = ((ob / 2 ^ e : Nat) : Int) ∧ ob / 2 ^ e < 256 := by
  have := Nat.div_le_self ob (2 ^ e)
  rw [show ((ob : Int) / 2 ^ e) = ((ob / 2 ^ e : Nat) : Int) by simp]
  generalize ob / 2 ^ e = q at *
  omega
theorem add_range (ob k : Nat) (h : ob < 256) : (0 ≤ (ob : Int) / 2 ^ (k % 8) % 4294967296 ∧ (ob : Int) / 2 ^ (k % 8) % 4294967296 < 2 ^ 32) ∧ (0 ≤ (ob : Int) / 2 ^ (7 - k % 8) % 4294967296 ∧ (ob : Int) / 2 ^ (7 - k % 8) % 4294967296 < 2 ^ 32) := by
  have h1 := byte_shr ob (k % 8) h
  have h2 := byte_shr ob (7 - k % 8) h
  rw [h1.1, h2.1]
  generalize ob / 2 ^ (k % 8) = q at *
  generalize ob / 2 ^ (7 - k % 8) = q2 at *
  omega
theorem add_bit (hi : Bool) (l : List Bool) (k : Nat) (hk : k < l.length) : ((((packs hi l).getD (k / 8) 0 : Nat) : Int) / 2 ^ sh hi (k % 8) % 4294967296).toNat.testBit 0 = l[k] := by
  have h := byte_shr ((packs hi l).getD (k / 8) 0) (sh hi (k % 8)) (getD_lt (packs_lt _ _) _)
  rw [h.1, Int.toNat_natCast, Nat.testBit_zero, ← Nat.testBit_eq_decide_div_mod_eq]
  have e := rbit_packs hi l k
  rw [rbit] at e
  rw [e]
  simp [List.getD, List.getElem?_eq_getElem hk]
theorem add_bit_low (l : List Bool) (k : Nat) (hk : k < l.length) : ((((packs false l).getD (k / 8) 0 : Nat) : Int) / 2 ^ (k % 8) % 4294967296).toNat.testBit 0 = l[k] := add_bit false l k hk
theorem add_bit_high (l : List Bool) (k : Nat) (hk : k < l.length) : ((((packs true l).getD (k / 8) 0 : Nat) : Int) / 2 ^ (7 - k % 8) % 4294967296).toNat.testBit 0 = l[k] := add_bit true l k hk
/-- the bits of bytes, byte by byte. -/
def ofBits (hi : Bool) (bs : List Nat) : List Bool := bs.flatMap fun b => bitsOf hi b 8
theorem length_ofBits (hi : Bool) (bs : List Nat) : (ofBits hi bs).length = 8 * bs.length := by
  induction bs with
  | nil => rfl
  | cons b bs ih => simp only [ofBits, List.flatMap_cons, List.length_append, length_bitsOf, List.length_cons] at *; omega
theorem ofBits_get (hi : Bool) (bs : List Nat) : ∀ i, (ofBits hi bs).getD i false = rbit hi bs i := by
  induction bs with
  | nil => intro i; simp [ofBits, rbit, List.getD]
  | cons b bs ih =>
    intro i
    by_cases h : i < 8
    · rw [ofBits, List.flatMap_cons, getD_app_lt _ _ _ _ (by rw [length_bitsOf]; exact h)]
      have e1 : i / 8 = 0 := by omega
      have e2 : i % 8 = i := by omega
      simp only [rbit, e1, e2, List.getD_cons_zero]
      simp only [bitsOf, List.getD, List.getElem?_map, List.getElem?_range h, Option.map_some, Option.getD_some]
      cases hi <;> simp [sh]
    · have e : (ofBits hi (b :: bs)).getD i false = (ofBits hi bs).getD (i - 8) false := by
        rw [ofBits, List.flatMap_cons]
        simp only [List.getD]
        rw [List.getElem?_append_right (by rw [length_bitsOf]; omega), length_bitsOf]; rfl
      rw [e, ih]
      simp only [rbit]
      rw [show i / 8 = (i - 8) / 8 + 1 by omega, show i % 8 = (i - 8) % 8 by omega, List.getD_cons_succ]
theorem ofBits_at (hi : Bool) (bs : List Nat) (i n : Nat) (h : i + n ≤ 8 * bs.length) : ((ofBits hi bs).drop i).take n = bitsAt hi bs i n := by
  apply List.ext_getElem
  · simp [length_bitsAt, length_ofBits]; omega
  · intro j h1 h2
    simp only [length_bitsAt] at h2
    have := ofBits_get hi bs (i + j)
    simp only [List.getD, List.getElem?_eq_getElem (show i + j < (ofBits hi bs).length by rw [length_ofBits]; omega), Option.getD_some] at this
    simp [bitsAt, this]
theorem ofBits_snoc (hi : Bool) (bs : List Nat) (b : Nat) : ofBits hi (bs ++ [b]) = ofBits hi bs ++ bitsOf hi b 8 := by simp [ofBits]
/-- what the document's reader answers. -/
def refR (hi : Bool) (l : List Bool) (i : Nat) (n : Int) : Nat × Nat × Int :=
  if n < 0 ∨ 32 < n then (0, i, 5) else if (l.length : Int) - i < n then (0, i, 2) else (numOf hi ((l.drop i).take n.toNat), i + n.toNat, 0)
theorem refR_getR (hi : Bool) (bs : List Nat) (i : Nat) (n : Int) : refR hi (ofBits hi bs) i n = getR hi bs i n := by
  unfold refR getR
  rw [length_ofBits]
  split
  · rfl
  · split
    · rfl
    · rw [ofBits_at hi bs i n.toNat (by omega)]
theorem bitsAt_byte (hi : Bool) (bs : List Nat) (k : Nat) : bitsAt hi bs (8 * k) 8 = bitsOf hi (bs.getD k 0) 8 := by
  simp only [bitsAt, bitsOf]
  apply List.map_congr_left
  intro j hj
  have hj8 : j < 8 := List.mem_range.1 hj
  simp only [rbit, sh]
  rw [show (8 * k + j) / 8 = k by omega, show (8 * k + j) % 8 = j by omega]
/-- eight bits of a whole row are its byte. -/
theorem num_byte (hi : Bool) (l : List Bool) (k : Nat) (hk : 8 * k < (alignB l).length) : numOf hi (((alignB l).drop (8 * k)).take 8) = (packs hi l).getD k 0 := by
  have h8 : 8 * k + 8 ≤ (alignB l).length := by rw [length_alignB] at hk ⊢; omega
  rw [← bitsAt_packs hi (alignB l) (8 * k) 8 h8, packs_alignB, bitsAt_byte]
  exact numOf_bitsOf hi _ 8 (getD_lt (packs_lt hi l) k)
end Go.Proofs.Ytaabmlnbadpfgaa

/-! Plain laws of tables: what Get reads; what is put is got. -/
namespace Go.Proofs.Ytaabmlnbadpfgaa

/-- one length out of bits, from the length k at place p on; none: there is none. -/
def oneLen (f : Nat → Bool) (N : Nat) (k p : Nat) : Option (Nat × Nat) :=
  if k < 1 ∨ 20 < k ∨ N ≤ p then none
  else if f p = false then some (k, p + 1)
  else if N ≤ p + 1 then none
  else oneLen f N (if f (p + 1) then k - 1 else k + 1) (p + 2)
  termination_by N - p
  decreasing_by omega
def lenGet (f : Nat → Bool) (N : Nat) : Nat → Nat → Nat → Option (List Nat × Nat)
  | 0, _, p => some ([], p)
  | n + 1, k, p => (oneLen f N k p).bind fun x => (lenGet f N n x.1 x.2).map fun y => (x.1 :: y.1, y.2)
/-- n bits from a place on. -/
def fbits (f : Nat → Bool) (p n : Nat) : List Bool := (List.range n).map fun j => f (p + j)
def gLens (f : Nat → Bool) (N p n : Nat) : Option (List Nat × Nat) := if N < p + 5 then none else lenGet f N n (numOf true (fbits f p 5)) (p + 5)
theorem oneLen_ok (f : Nat → Bool) (N : Nat) : ∀ (d k p v q : Nat), N - p ≤ d → oneLen f N k p = some (v, q) → 1 ≤ v ∧ v ≤ 20 ∧ p < q ∧ q ≤ N := by
  intro d
  induction d with
  | zero => intro k p v q hd h; rw [oneLen, if_pos (by omega)] at h; cases h
  | succ d ih =>
    intro k p v q hd h
    rw [oneLen] at h
    by_cases h1 : k < 1 ∨ 20 < k ∨ N ≤ p
    · rw [if_pos h1] at h; cases h
    · rw [if_neg h1] at h
      by_cases h2 : f p = false
      · rw [if_pos h2] at h; cases h; omega
      · rw [if_neg h2] at h
        by_cases h3 : N ≤ p + 1
        · rw [if_pos h3] at h; cases h
        · rw [if_neg h3] at h
          have := ih _ _ _ _ (by omega) h
          omega
theorem lenGet_ok (f : Nat → Bool) (N : Nat) : ∀ (n k p : Nat) (l : List Nat) (q : Nat), p ≤ N → lenGet f N n k p = some (l, q) → l.length = n ∧ (∀ x ∈ l, 1 ≤ x ∧ x ≤ 20) ∧ q ≤ N ∧ p + n ≤ q := by
  intro n
  induction n with
  | zero => intro k p l q hp h; cases h; exact ⟨rfl, fun x hx => (by cases hx), hp, Nat.le_refl _⟩
  | succ n ih =>
    intro k p l q hp h
    rw [lenGet] at h
    cases h1 : oneLen f N k p with
    | none => rw [h1] at h; cases h
    | some x =>
      obtain ⟨v, r⟩ := x
      rw [h1] at h
      simp only [Option.bind_some] at h
      cases h2 : lenGet f N n v r with
      | none => rw [h2] at h; cases h
      | some y =>
        obtain ⟨m, s⟩ := y
        rw [h2] at h
        cases h
        have a := oneLen_ok f N _ k p v r (Nat.le_refl _) h1
        have b := ih v r m s (by omega) h2
        have b2 := b.2.2.2
        refine ⟨by rw [List.length_cons, b.1], fun x hx => ?_, b.2.2.1, by omega⟩
        rcases List.mem_cons.1 hx with rfl | hx
        · exact ⟨a.1, a.2.1⟩
        · exact b.2.1 x hx
theorem numOf_lt5 (l : List Bool) (n : Nat) (h : l.length = n) : numOf true l < 2 ^ n := h ▸ numOf_lt true l
theorem length_fbits (f : Nat → Bool) (p n : Nat) : (fbits f p n).length = n := by simp [fbits]

/-- bits stand at a place, as far as there are any. -/
def AtN (f : Nat → Bool) (N p : Nat) (l : List Bool) : Prop := ∀ i, i < l.length → p + i < N → f (p + i) = l.getD i false
theorem AtN.left {f : Nat → Bool} {N p : Nat} {l m : List Bool} (h : AtN f N p (l ++ m)) : AtN f N p l := fun i hi hN => by
  rw [h i (by simp; omega) hN]; simp [List.getD, List.getElem?_append_left hi]
theorem AtN.right {f : Nat → Bool} {N p : Nat} {l m : List Bool} (h : AtN f N p (l ++ m)) : AtN f N (p + l.length) m := fun i hi hN => by
  rw [Nat.add_assoc, h (l.length + i) (by simp; omega) (by omega)]; simp [List.getD, List.getElem?_append_right]
theorem AtN.fbits {f : Nat → Bool} {N p : Nat} {l : List Bool} {n : Nat} (h : AtN f N p l) (hl : l.length = n) (hN : p + n ≤ N) : fbits f p n = l := by
  apply List.ext_getElem
  · simp [Proofs.Ytaabmlnbadpfgaa.fbits, hl]
  · intro i h1 h2
    simp only [Proofs.Ytaabmlnbadpfgaa.fbits, List.getElem_map, List.getElem_range]
    rw [h i h2 (by omega)]; simp [List.getD, List.getElem?_eq_getElem h2]
def stepB (a n : Nat) : List Bool := upB (n - a) ++ (downB (a - n) ++ [false])
def lenFrom : Nat → List Nat → List Bool
  | _, [] => []
  | a, n :: r => stepB a n ++ lenFrom n r
theorem stepB_len (a n : Nat) : (stepB a n).length = 2 * (n - a) + 2 * (a - n) + 1 := by simp [stepB, upB_len, downB_len]; omega
theorem stepB_eq (a : Nat) : stepB a a = [false] := by simp [stepB, upB, downB]
theorem stepB_up {a n : Nat} (h : a < n) : stepB a n = [true, false] ++ stepB (a + 1) n := by
  rw [stepB, stepB, show n - a = (n - (a + 1)) + 1 by omega, show a - n = 0 by omega, show a + 1 - n = 0 by omega]
  simp [upB, downB, List.replicate_succ]
theorem stepB_down {a n : Nat} (h : n < a) : stepB a n = [true, true] ++ stepB (a - 1) n := by
  rw [stepB, stepB, show a - n = (a - 1 - n) + 1 by omega, show n - a = 0 by omega, show n - (a - 1) = 0 by omega]
  simp [upB, downB, List.replicate_succ]
theorem AtN.first {f : Nat → Bool} {N p : Nat} {b : Bool} {l : List Bool} (h : AtN f N p (b :: l)) (hN : p < N) : f p = b := by
  have := h 0 (by simp) (by simpa using hN)
  simpa using this
theorem AtN.tail {f : Nat → Bool} {N p : Nat} {b : Bool} {l : List Bool} (h : AtN f N p (b :: l)) : AtN f N (p + 1) l := by
  have := AtN.right (l := [b]) (m := l) h
  simpa using this
theorem oneLen_put (f : Nat → Bool) (N n : Nat) (hn1 : 1 ≤ n) (hn2 : n ≤ 20) : ∀ (d a p : Nat), (n - a) + (a - n) = d → 1 ≤ a → a ≤ 20 → AtN f N p (stepB a n) →
    oneLen f N a p = if p + (stepB a n).length ≤ N then some (n, p + (stepB a n).length) else none := by
  intro d
  induction d with
  | zero =>
    intro a p hd h1 h2 hat
    obtain rfl : a = n := by omega
    rw [stepB_eq] at hat ⊢
    rw [oneLen]
    simp only [List.length_cons, List.length_nil]
    by_cases hN : p + 1 ≤ N
    · rw [if_neg (by omega), hat.first (by omega), if_pos rfl, if_pos (by omega)]
    · rw [if_pos (by omega), if_neg (by omega)]
  | succ d ih =>
    intro a p hd h1 h2 hat
    rw [oneLen]
    have hl := stepB_len a n
    by_cases hlt : a < n
    · rw [stepB_up hlt] at hat
      have hl2 := stepB_len (a + 1) n
      by_cases hN : N ≤ p
      · rw [if_pos (by omega), if_neg (by omega)]
      · rw [if_neg (by omega), AtN.first hat (by omega), if_neg (by simp)]
        by_cases hN2 : N ≤ p + 1
        · rw [if_pos hN2, if_neg (by omega)]
        · have ht := AtN.tail hat
          rw [if_neg hN2, AtN.first ht (by omega)]
          rw [if_neg (by simp), ih (a + 1) (p + 2) (by omega) (by omega) (by omega) (AtN.tail ht)]
          by_cases hh : p + (stepB a n).length ≤ N
          · rw [if_pos (by omega), if_pos hh]; congr 2; omega
          · rw [if_neg (by omega), if_neg hh]
    · rw [stepB_down (by omega)] at hat
      have hl2 := stepB_len (a - 1) n
      by_cases hN : N ≤ p
      · rw [if_pos (by omega), if_neg (by omega)]
      · rw [if_neg (by omega), AtN.first hat (by omega), if_neg (by simp)]
        by_cases hN2 : N ≤ p + 1
        · rw [if_pos hN2, if_neg (by omega)]
        · have ht := AtN.tail hat
          rw [if_neg hN2, AtN.first ht (by omega)]
          rw [if_pos rfl, ih (a - 1) (p + 2) (by omega) (by omega) (by omega) (AtN.tail ht)]
          by_cases hh : p + (stepB a n).length ≤ N
          · rw [if_pos (by omega), if_pos hh]; congr 2; omega
          · rw [if_neg (by omega), if_neg hh]
theorem lenGet_put (f : Nat → Bool) (N : Nat) : ∀ (l : List Nat) (a p : Nat), p ≤ N → 1 ≤ a → a ≤ 20 → (∀ x ∈ l, 1 ≤ x ∧ x ≤ 20) → AtN f N p (lenFrom a l) →
    lenGet f N l.length a p = if p + (lenFrom a l).length ≤ N then some (l, p + (lenFrom a l).length) else none := by
  intro l
  induction l with
  | nil => intro a p hp _ _ _ _; simp [lenGet, lenFrom, hp]
  | cons n r ih =>
    intro a p hp h1 h2 hl hat
    have hn := hl n (List.mem_cons_self ..)
    rw [lenFrom] at hat ⊢
    rw [List.length_cons, lenGet, oneLen_put f N n hn.1 hn.2 _ a p rfl h1 h2 hat.left, List.length_append]
    by_cases hN : p + (stepB a n).length ≤ N
    · rw [if_pos hN, Option.bind_some, ih n _ hN hn.1 hn.2 (fun x hx => hl x (List.mem_cons_of_mem _ hx)) hat.right]
      by_cases hN2 : p + (stepB a n).length + (lenFrom n r).length ≤ N
      · rw [if_pos hN2, if_pos (by omega), Option.map_some]; congr 2; omega
      · rw [if_neg hN2, if_neg (by omega), Option.map_none]
    · rw [if_neg hN, if_neg (by omega), Option.bind_none]
theorem lenFrom_snoc (n : Nat) : ∀ (l : List Nat) (a : Nat), lenFrom a (l ++ [n]) = lenFrom a l ++ stepB (l.getLastD a) n
  | [], a => by simp [lenFrom]
  | x :: l, a => by
    rw [List.cons_append, lenFrom, lenFrom, lenFrom_snoc n l x, List.append_assoc, List.getLastD_cons]
theorem lenTo_from (bs : List Nat) : ∀ k, k ≤ bs.length → lenTo bs k = bitsOf true (bs.getD 0 0) 5 ++ lenFrom (bs.getD 0 0) (bs.take k)
  | 0, _ => by simp [lenTo, lenFrom]
  | k + 1, h => by
    rw [lenTo, lenTo_from bs k (by omega), List.take_succ_eq_append_getElem (show k < bs.length by omega), lenFrom_snoc, List.append_assoc]
    congr 2
    have e1 : bs.getD k 0 = bs[k] := by simp [List.getD, List.getElem?_eq_getElem (show k < bs.length by omega)]
    have e2 : (bs.take k).getLastD (bs.getD 0 0) = atK bs k := by
      rw [atK]
      by_cases h0 : k = 0
      · subst h0; simp
      · rw [if_neg h0, List.getLastD_eq_getLast?, List.getLast?_eq_getElem?, List.length_take, Nat.min_eq_left (by omega), List.getElem?_take, if_pos (by omega)]
        simp [List.getD, List.getElem?_eq_getElem (show k - 1 < bs.length by omega)]
    rw [e1, e2, stepB]
theorem lenBits_from (bs : List Nat) : lenBits bs = bitsOf true (bs.getD 0 0) 5 ++ lenFrom (bs.getD 0 0) bs := by rw [lenBits, lenTo_from bs _ (Nat.le_refl _), List.take_length]
/-- what is put is got; cut short it is none. -/
theorem gLens_put (f : Nat → Bool) (N p : Nat) (bs : List Nat) (hm : MayP bs) (hat : AtN f N p (lenBits bs)) :
    gLens f N p bs.length = if p + (lenBits bs).length ≤ N then some (bs, p + (lenBits bs).length) else none := by
  obtain ⟨m1, m2, m3⟩ := hm
  have h0 : 1 ≤ bs.getD 0 0 ∧ bs.getD 0 0 ≤ 20 := by
    have := m3 (bs[0]) (List.getElem_mem (by omega))
    simpa [List.getD, List.getElem?_eq_getElem (show 0 < bs.length by omega)] using this
  rw [lenBits_from] at hat ⊢
  generalize bs.getD 0 0 = a at *
  rw [gLens, List.length_append, length_bitsOf]
  by_cases hN : N < p + 5
  · rw [if_pos hN, if_neg (by omega)]
  · rw [if_neg hN, hat.left.fbits (length_bitsOf _ _ _) (by omega), numOf_bitsOf true a 5 (by omega)]
    have hr := hat.right
    rw [length_bitsOf] at hr
    rw [lenGet_put f N bs a (p + 5) (by omega) h0.1 h0.2 m3 hr]
    by_cases hN2 : p + 5 + (lenFrom a bs).length ≤ N
    · rw [if_pos hN2, if_pos (by omega)]; congr 2; omega
    · rw [if_neg hN2, if_neg (by omega)]
/-- what is got has no more bits when it is put. -/
theorem oneLen_size (f : Nat → Bool) (N : Nat) : ∀ (d k p v q : Nat), N - p ≤ d → oneLen f N k p = some (v, q) → p + (stepB k v).length ≤ q := by
  intro d
  induction d with
  | zero => intro k p v q hd h; rw [oneLen, if_pos (by omega)] at h; cases h
  | succ d ih =>
    intro k p v q hd h
    rw [oneLen] at h
    by_cases h1 : k < 1 ∨ 20 < k ∨ N ≤ p
    · rw [if_pos h1] at h; cases h
    · rw [if_neg h1] at h
      by_cases h2 : f p = false
      · rw [if_pos h2] at h; cases h; rw [stepB_len]; omega
      · rw [if_neg h2] at h
        by_cases h3 : N ≤ p + 1
        · rw [if_pos h3] at h; cases h
        · rw [if_neg h3] at h
          have := ih _ _ _ _ (by omega) h
          rw [stepB_len] at this ⊢
          split at this <;> omega
theorem lenGet_size (f : Nat → Bool) (N : Nat) : ∀ (n k p : Nat) (l : List Nat) (q : Nat), lenGet f N n k p = some (l, q) → p + (lenFrom k l).length ≤ q := by
  intro n
  induction n with
  | zero => intro k p l q h; cases h; simp [lenFrom]
  | succ n ih =>
    intro k p l q h
    rw [lenGet] at h
    cases h1 : oneLen f N k p with
    | none => rw [h1] at h; cases h
    | some x =>
      obtain ⟨v, r⟩ := x
      rw [h1] at h
      simp only [Option.bind_some] at h
      cases h2 : lenGet f N n v r with
      | none => rw [h2] at h; cases h
      | some y =>
        obtain ⟨m, s⟩ := y
        rw [h2] at h
        cases h
        have a := oneLen_size f N _ k p v r (Nat.le_refl _) h1
        have b := ih v r m s h2
        show p + (lenFrom k (v :: m)).length ≤ s
        rw [lenFrom, List.length_append]; omega
theorem lenFrom_head (k : Nat) (l : List Nat) (h0 : 0 < l.length) : (lenFrom (l.getD 0 0) l).length ≤ (lenFrom k l).length := by
  cases l with
  | nil => simp at h0
  | cons x r =>
    simp only [lenFrom, List.length_append, stepB_len, List.getD_cons_zero]; omega
theorem gLens_size (f : Nat → Bool) (N p n : Nat) (l : List Nat) (q : Nat) (h0 : 0 < n) (h : gLens f N p n = some (l, q)) : p + (lenBits l).length ≤ q ∧ q ≤ N ∧ l.length = n ∧ ∀ x ∈ l, 1 ≤ x ∧ x ≤ 20 := by
  rw [gLens] at h
  by_cases hN : N < p + 5
  · rw [if_pos hN] at h; cases h
  · rw [if_neg hN] at h
    have a := lenGet_ok f N n _ _ l q (by omega) h
    have b := lenGet_size f N n _ _ l q h
    have c := lenFrom_head (numOf true (fbits f p 5)) l (by omega)
    refine ⟨?_, a.2.2.1, a.1, a.2.1⟩
    rw [lenBits_from, List.length_append, length_bitsOf]; omega
end Go.Proofs.Ytaabmlnbadpfgaa

/-! Plain laws of selectors: what Get reads; what is put is got; what is got is put by the same bits. -/
namespace Go.Proofs.Ytaabmlnbadpfgaa
set_option linter.unusedVariables false

def oneSel (f : Nat → Bool) (N t k p : Nat) : Option (Nat × Nat) :=
  if N ≤ p then none else if f p = false then some (k, p + 1) else if t ≤ k + 1 then none else oneSel f N t (k + 1) (p + 1)
  termination_by N - p
  decreasing_by omega
/-- a list with the element of a place at the front. -/
def mtf (l : List Nat) (k : Nat) : List Nat := l.getD k 0 :: (l.take k ++ l.drop (k + 1))
def selGet (f : Nat → Bool) (N t : Nat) : Nat → List Nat → Nat → Option (List Nat × Nat)
  | 0, _, p => some ([], p)
  | n + 1, lst, p => (oneSel f N t 0 p).bind fun x => (selGet f N t n (mtf lst x.1) x.2).map fun y => (lst.getD x.1 0 :: y.1, y.2)
def lst0 : List Nat := [0, 1, 2, 3, 4, 5]
def gSel (f : Nat → Bool) (N p t : Nat) : Option (List Nat × Nat) := if N < p + 15 then none else if numOf true (fbits f p 15) = 0 then none else selGet f N t (numOf true (fbits f p 15)) lst0 (p + 15)
/-- the place of a number in a list. -/
def idx : List Nat → Nat → Nat
  | [], _ => 0
  | x :: l, v => if x = v then 0 else idx l v + 1
def selFrom : List Nat → List Nat → List Bool
  | _, [] => []
  | lst, v :: r => List.replicate (idx lst v) true ++ false :: selFrom (mtf lst (idx lst v)) r
def selBits (vs : List Nat) : List Bool := bitsOf true vs.length 15 ++ selFrom lst0 vs
theorem idx_le : ∀ (l : List Nat) (v i : Nat), l[i]? = some v → idx l v ≤ i
  | [], v, i, h => by simp at h
  | x :: l, v, i, h => by
    rw [idx]
    split
    · omega
    · rename_i hne
      cases i with
      | zero => simp at h; exact absurd h hne
      | succ i => have := idx_le l v i (by simpa using h); omega
theorem idx_get : ∀ (l : List Nat) (v : Nat), v ∈ l → l[idx l v]? = some v
  | x :: l, v, h => by
    rw [idx]
    split
    · rename_i e; simp [e]
    · rename_i hne
      have : v ∈ l := by rcases List.mem_cons.1 h with e | e; exact absurd e.symm hne; exact e
      simpa using idx_get l v this
theorem idx_before : ∀ (l : List Nat) (v j : Nat), j < idx l v → l[j]? ≠ some v := fun l v j h e => by
  have := idx_le l v j e; omega
theorem idx_nodup (l : List Nat) (hn : l.Nodup) (v i : Nat) (h : l[i]? = some v) : idx l v = i := by
  have h1 := idx_le l v i h
  have h2 := idx_get l v (List.mem_of_getElem? h)
  have hi : i < l.length := (List.getElem?_eq_some_iff.1 h).1
  have := (List.getElem?_inj (by omega) hn).1 (h2.trans h.symm)
  exact this
/-- the first t of the six are those below t. -/
structure Good (t : Nat) (l : List Nat) : Prop where
  len : l.length = 6
  nodup : l.Nodup
  lt : ∀ i, i < t → l.getD i 0 < t
  all : ∀ v, v < t → ∃ i, i < t ∧ l.getD i 0 = v
theorem good0 (t : Nat) (h2 : 2 ≤ t) (h6 : t ≤ 6) : Good t lst0 := by
  have hg : ∀ i, i < 6 → lst0.getD i 0 = i := by decide
  exact ⟨rfl, by decide, fun i hi => by rw [hg i (by omega)]; exact hi, fun v hv => ⟨v, hv, hg v (by omega)⟩⟩
theorem mtf_get (l : List Nat) (k i : Nat) (hk : k < l.length) : (mtf l k).getD i 0 = if i = 0 then l.getD k 0 else if i ≤ k then l.getD (i - 1) 0 else l.getD i 0 := by
  cases i with
  | zero => rfl
  | succ i =>
    rw [mtf, List.getD_cons_succ, if_neg (by omega)]
    by_cases h : i + 1 ≤ k
    · rw [if_pos h]
      simp only [List.getD]
      rw [List.getElem?_append_left (by rw [List.length_take]; omega), List.getElem?_take, if_pos (by omega)]
      simp
    · rw [if_neg h]
      simp only [List.getD]
      rw [List.getElem?_append_right (by rw [List.length_take]; omega), List.getElem?_drop, List.length_take, Nat.min_eq_left (by omega)]
      congr 2; omega
theorem mtf_perm (l : List Nat) (k : Nat) (hk : k < l.length) : (mtf l k).Perm l := by
  have e : l = l.take k ++ l[k] :: l.drop (k + 1) := by rw [← List.drop_eq_getElem_cons hk, List.take_append_drop]
  have e2 : l.getD k 0 = l[k] := by simp [List.getD, hk]
  rw [mtf, e2]
  conv => rhs; rw [e]
  exact List.perm_middle.symm
theorem Good.mtf {t : Nat} {l : List Nat} (h : Good t l) (h6 : t ≤ 6) {k : Nat} (hk : k < t) : Good t (mtf l k) := by
  have hl := h.len
  have hp := mtf_perm l k (by omega)
  refine ⟨hp.length_eq.trans hl, hp.nodup_iff.2 h.nodup, fun i hi => ?_, fun v hv => ?_⟩
  · rw [mtf_get l k i (by omega)]
    split
    · exact h.lt k hk
    · split
      · exact h.lt _ (by omega)
      · exact h.lt i hi
  · obtain ⟨j, hj, e⟩ := h.all v hv
    by_cases h1 : j = k
    · exact ⟨0, by omega, by rw [mtf_get l k 0 (by omega), if_pos rfl, ← h1, e]⟩
    · by_cases h2 : j < k
      · exact ⟨j + 1, by omega, by rw [mtf_get l k _ (by omega), if_neg (by omega), if_pos (by omega), Nat.add_sub_cancel, e]⟩
      · exact ⟨j, hj, by rw [mtf_get l k _ (by omega), if_neg (by omega), if_neg (by omega), e]⟩
theorem Good.idx {t : Nat} {l : List Nat} (h : Good t l) (h6 : t ≤ 6) {v : Nat} (hv : v < t) : idx l v < t ∧ l.getD (idx l v) 0 = v := by
  obtain ⟨j, hj, e⟩ := h.all v hv
  have hjl : j < l.length := by have := h.len; omega
  have e2 : l[j]? = some v := by simpa [List.getD, hjl] using e
  rw [idx_nodup l h.nodup v j e2]
  exact ⟨hj, e⟩
theorem Good.at {t : Nat} {l : List Nat} (h : Good t l) (h6 : t ≤ 6) {k : Nat} (hk : k < t) : Proofs.Ytaabmlnbadpfgaa.idx l (l.getD k 0) = k := by
  have hkl : k < l.length := by have := h.len; omega
  exact idx_nodup l h.nodup _ k (by simp [List.getD, hkl])
theorem oneSel_put (f : Nat → Bool) (N t k : Nat) (hk : k < t) : ∀ (d i p : Nat), i + d = k → AtN f N p (List.replicate d true ++ [false]) →
    oneSel f N t i p = if p + d + 1 ≤ N then some (k, p + d + 1) else none := by
  intro d
  induction d with
  | zero =>
    intro i p hd hat
    rw [oneSel]
    by_cases hN : N ≤ p
    · rw [if_pos hN, if_neg (by omega)]
    · rw [if_neg hN, AtN.first (l := []) hat (by omega), if_pos rfl, if_pos (by omega)]
      congr 2
  | succ d ih =>
    intro i p hd hat
    rw [List.replicate_succ, List.cons_append] at hat
    rw [oneSel]
    by_cases hN : N ≤ p
    · rw [if_pos hN, if_neg (by omega)]
    · rw [if_neg hN, hat.first (by omega), if_neg (by simp), if_neg (by omega), ih (i + 1) (p + 1) (by omega) hat.tail]
      by_cases h : p + 1 + d + 1 ≤ N
      · rw [if_pos h, if_pos (by omega)]; congr 2; omega
      · rw [if_neg h, if_neg (by omega)]
theorem selGet_put (f : Nat → Bool) (N t : Nat) (h6 : t ≤ 6) : ∀ (vs lst : List Nat) (p : Nat), p ≤ N → Good t lst → (∀ v ∈ vs, v < t) → AtN f N p (selFrom lst vs) →
    selGet f N t vs.length lst p = if p + (selFrom lst vs).length ≤ N then some (vs, p + (selFrom lst vs).length) else none := by
  intro vs
  induction vs with
  | nil => intro lst p hp _ _ _; simp [selGet, selFrom, hp]
  | cons v r ih =>
    intro lst p hp hg hv hat
    obtain ⟨hi, hgv⟩ := hg.idx h6 (hv v (List.mem_cons_self ..))
    rw [selFrom] at hat ⊢
    generalize idx lst v = k at *
    have e : List.replicate k true ++ false :: selFrom (mtf lst k) r = (List.replicate k true ++ [false]) ++ selFrom (mtf lst k) r := by simp
    rw [e] at hat ⊢
    rw [List.length_cons, selGet, oneSel_put f N t k hi k 0 p (by omega) hat.left]
    have hat2 := hat.right
    simp only [List.length_append, List.length_replicate, List.length_cons, List.length_nil] at hat2 ⊢
    by_cases hN : p + k + 1 ≤ N
    · rw [if_pos hN, Option.bind_some]
      simp only
      rw [ih (mtf lst k) (p + k + 1) hN (hg.mtf h6 hi) (fun x hx => hv x (List.mem_cons_of_mem _ hx)) (by rw [show p + k + 1 = p + (k + (0 + 1)) by omega]; exact hat2), hgv]
      by_cases hN2 : p + k + 1 + (selFrom (mtf lst k) r).length ≤ N
      · rw [if_pos hN2, if_pos (by omega), Option.map_some]; congr 2; omega
      · rw [if_neg hN2, if_neg (by omega), Option.map_none]
    · rw [if_neg hN, if_neg (by omega), Option.bind_none]
/-- may selectors be? -/
def MayN (vs : List Nat) (t : Nat) : Prop := 2 ≤ t ∧ t ≤ 6 ∧ 0 < vs.length ∧ vs.length ≤ 32767 ∧ ∀ v ∈ vs, v < t
theorem gSel_put (f : Nat → Bool) (N p t : Nat) (vs : List Nat) (hm : MayN vs t) (hat : AtN f N p (selBits vs)) :
    gSel f N p t = if p + (selBits vs).length ≤ N then some (vs, p + (selBits vs).length) else none := by
  obtain ⟨h2, h6, h0, hl, hv⟩ := hm
  rw [selBits] at hat ⊢
  rw [gSel, List.length_append, length_bitsOf]
  by_cases hN : N < p + 15
  · rw [if_pos hN, if_neg (by omega)]
  · have hr := hat.right
    rw [length_bitsOf] at hr
    rw [if_neg hN, hat.left.fbits (length_bitsOf _ _ _) (by omega), numOf_bitsOf true _ 15 (by omega), if_neg (by omega), selGet_put f N t h6 vs lst0 (p + 15) (by omega) (good0 t h2 h6) hv hr]
    by_cases hN2 : p + 15 + (selFrom lst0 vs).length ≤ N
    · rw [if_pos hN2, if_pos (by omega)]; congr 2; omega
    · rw [if_neg hN2, if_neg (by omega)]
theorem oneSel_ok (f : Nat → Bool) (N t : Nat) : ∀ (d i p k q : Nat), N - p ≤ d → i < t → oneSel f N t i p = some (k, q) → i ≤ k ∧ k < t ∧ q = p + (k - i) + 1 ∧ q ≤ N := by
  intro d
  induction d with
  | zero => intro i p k q hd hi h; rw [oneSel, if_pos (by omega)] at h; cases h
  | succ d ih =>
    intro i p k q hd hi h
    rw [oneSel] at h
    by_cases h1 : N ≤ p
    · rw [if_pos h1] at h; cases h
    · rw [if_neg h1] at h
      by_cases h2 : f p = false
      · rw [if_pos h2] at h; cases h; omega
      · rw [if_neg h2] at h
        by_cases h3 : t ≤ i + 1
        · rw [if_pos h3] at h; cases h
        · rw [if_neg h3] at h
          have := ih _ _ _ _ (by omega) (by omega) h
          omega
theorem selGet_ok (f : Nat → Bool) (N t : Nat) (h2 : 2 ≤ t) (h6 : t ≤ 6) : ∀ (n : Nat) (lst : List Nat) (p : Nat) (l : List Nat) (q : Nat), p ≤ N → Good t lst → selGet f N t n lst p = some (l, q) →
    q = p + (selFrom lst l).length ∧ l.length = n ∧ (∀ x ∈ l, x < t) ∧ q ≤ N := by
  intro n
  induction n with
  | zero => intro lst p l q hp _ h; cases h; exact ⟨rfl, rfl, fun x hx => (by cases hx), hp⟩
  | succ n ih =>
    intro lst p l q hp hg h
    rw [selGet] at h
    cases h1 : oneSel f N t 0 p with
    | none => rw [h1] at h; cases h
    | some x =>
      obtain ⟨k, r⟩ := x
      rw [h1] at h
      simp only [Option.bind_some] at h
      obtain ⟨_, hk, hr, hrN⟩ := oneSel_ok f N t _ 0 p k r (Nat.le_refl _) (by omega) h1
      cases h3 : selGet f N t n (mtf lst k) r with
      | none => rw [h3] at h; cases h
      | some y =>
        obtain ⟨m, s⟩ := y
        rw [h3] at h
        cases h
        obtain ⟨a1, a2, a3, a4⟩ := ih (mtf lst k) r m s hrN (hg.mtf h6 hk) h3
        have hx := hg.at h6 hk
        refine ⟨?_, by rw [List.length_cons, a2], fun x hx => ?_, a4⟩
        · show s = p + (selFrom lst (lst.getD k 0 :: m)).length
          rw [selFrom, hx]
          simp only [List.length_append, List.length_replicate, List.length_cons]
          omega
        · rcases List.mem_cons.1 hx with rfl | hx
          · exact hg.lt k hk
          · exact a3 x hx
theorem gSel_ok (f : Nat → Bool) (N p t : Nat) (h2 : 2 ≤ t) (h6 : t ≤ 6) (l : List Nat) (q : Nat) (h : gSel f N p t = some (l, q)) : MayN l t ∧ q = p + (selBits l).length ∧ q ≤ N := by
  rw [gSel] at h
  by_cases hN : N < p + 15
  · rw [if_pos hN] at h; cases h
  · rw [if_neg hN] at h
    by_cases h0 : numOf true (fbits f p 15) = 0
    · rw [if_pos h0] at h; cases h
    · rw [if_neg h0] at h
      have hlt := numOf_lt5 (fbits f p 15) 15 (length_fbits _ _ _)
      obtain ⟨a1, a2, a3, a4⟩ := selGet_ok f N t h2 h6 _ _ _ _ _ (by omega) (good0 t h2 h6) h
      refine ⟨⟨h2, h6, by omega, by omega, a3⟩, ?_, a4⟩
      rw [selBits, List.length_append, length_bitsOf]; omega
theorem selFrom_zeros (n : Nat) : selFrom lst0 (List.replicate n 0) = List.replicate n false := by
  induction n with
  | zero => rfl
  | succ n ih =>
    rw [List.replicate_succ, selFrom, show idx lst0 0 = 0 from rfl, show mtf lst0 0 = lst0 from rfl, ih]
    rfl
theorem idx_lt (l : List Nat) (v : Nat) (h : v ∈ l) : idx l v < l.length := (List.getElem?_eq_some_iff.1 (idx_get l v h)).1
theorem selFrom_len : ∀ (vs lst : List Nat) (t : Nat), t ≤ 6 → Good t lst → (∀ v ∈ vs, v < t) → (selFrom lst vs).length ≤ 6 * vs.length
  | [], lst, t, _, _, _ => by simp [selFrom]
  | v :: r, lst, t, h6, hg, hv => by
    obtain ⟨hi, hgv⟩ := hg.idx h6 (hv v (List.mem_cons_self ..))
    have ih := selFrom_len r (mtf lst (idx lst v)) t h6 (hg.mtf h6 hi) (fun x hx => hv x (List.mem_cons_of_mem _ hx))
    rw [selFrom]
    simp only [List.length_append, List.length_replicate, List.length_cons]
    omega
theorem selBits_len (vs : List Nat) (t : Nat) (h : MayN vs t) : (selBits vs).length ≤ 15 + 6 * vs.length := by
  rw [selBits, List.length_append, length_bitsOf]
  have := selFrom_len vs lst0 t h.2.1 (good0 t h.1 h.2.1) h.2.2.2.2
  omega
end Go.Proofs.Ytaabmlnbadpfgaa
