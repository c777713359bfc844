/-
  Plain laws on bits: rows of bits in bytes, the lowest first (hi = false) or the highest first (hi = true). No program is named here.
-/
import Derived.WalkKit
namespace Go.Proofs.YtbbcphloafmldaaGreat

/-- where the k-th bit of a byte lies. -/
def sh (hi : Bool) (k : Nat) : Nat := if hi then 7 - k else k
/-- the k-th bit of a row. -/
def bt (l : List Bool) (i : Nat) : Nat := (l.getD i false).toNat
/-- the j-th byte that a row lies in. -/
def byteB (hi : Bool) (l : List Bool) (j : Nat) : Nat :=
  bt l (8 * j) * 2 ^ sh hi 0 + bt l (8 * j + 1) * 2 ^ sh hi 1 + bt l (8 * j + 2) * 2 ^ sh hi 2 + bt l (8 * j + 3) * 2 ^ sh hi 3 +
  bt l (8 * j + 4) * 2 ^ sh hi 4 + bt l (8 * j + 5) * 2 ^ sh hi 5 + bt l (8 * j + 6) * 2 ^ sh hi 6 + bt l (8 * j + 7) * 2 ^ sh hi 7
def packs (hi : Bool) (l : List Bool) : List Nat := (List.range ((l.length + 7) / 8)).map (byteB hi l)
/-- the bits of bytes. -/
def unpacks (hi : Bool) (b : List Nat) : List Bool := (List.range (8 * b.length)).map fun i => (b.getD (i / 8) 0).testBit (sh hi (i % 8))
/-- a number's bits, as they are laid. -/
def bitsOf (hi : Bool) (v n : Nat) : List Bool := (List.range n).map fun i => v.testBit (if hi then n - 1 - i else i)
/-- the number that bits are. -/
def numOf (hi : Bool) (l : List Bool) : Nat := if hi then l.foldl (fun v b => 2 * v + b.toNat) 0 else l.foldr (fun b v => 2 * v + b.toNat) 0

theorem bt_le (l : List Bool) (i : Nat) : bt l i ≤ 1 := by unfold bt; cases l.getD i false <;> simp
theorem bt_end (l : List Bool) (i : Nat) (h : l.length ≤ i) : bt l i = 0 := by simp [bt, List.getD, List.getElem?_eq_none h]
theorem bt_snoc_lt (l : List Bool) (b : Bool) (i : Nat) (h : i < l.length) : bt (l ++ [b]) i = bt l i := by
  simp [bt, List.getD, List.getElem?_append_left h]
theorem bt_snoc_eq (l : List Bool) (b : Bool) : bt (l ++ [b]) l.length = b.toNat := by simp [bt]
theorem bt_snoc (l : List Bool) (b : Bool) (i : Nat) : bt (l ++ [b]) i = if i = l.length then b.toNat else bt l i := by
  split
  · rename_i h; subst h; exact bt_snoc_eq l b
  · rename_i h
    rcases Nat.lt_or_gt_of_ne h with h1 | h1
    · exact bt_snoc_lt l b i h1
    · rw [bt_end l i (by omega), bt_end _ i (by simp; omega)]

theorem byteB_lt (hi : Bool) (l : List Bool) (j : Nat) : byteB hi l j < 256 := by
  have h := fun i => bt_le l i
  have h0 := h (8 * j); have h1 := h (8 * j + 1); have h2 := h (8 * j + 2); have h3 := h (8 * j + 3)
  have h4 := h (8 * j + 4); have h5 := h (8 * j + 5); have h6 := h (8 * j + 6); have h7 := h (8 * j + 7)
  cases hi <;> simp only [byteB, sh, Bool.false_eq_true, if_false, if_true] <;> omega
theorem length_packs (hi : Bool) (l : List Bool) : (packs hi l).length = (l.length + 7) / 8 := by simp [packs]
theorem packs_lt (hi : Bool) (l : List Bool) : ∀ b ∈ packs hi l, b < 256 := by
  intro b hb
  obtain ⟨j, _, rfl⟩ := List.mem_map.1 hb
  exact byteB_lt hi l j
theorem length_unpacks (hi : Bool) (b : List Nat) : (unpacks hi b).length = 8 * b.length := by simp [unpacks]
theorem length_bitsOf (hi : Bool) (v n : Nat) : (bitsOf hi v n).length = n := by simp [bitsOf]
theorem getElem_packs (hi : Bool) (l : List Bool) (j : Nat) (h : j < (packs hi l).length) : (packs hi l)[j] = byteB hi l j := by simp [packs]
theorem byteB_end (hi : Bool) (l : List Bool) (j : Nat) (h : l.length ≤ 8 * j) : byteB hi l j = 0 := by
  simp [byteB, bt_end l (8 * j) (by omega), bt_end l (8 * j + 1) (by omega), bt_end l (8 * j + 2) (by omega), bt_end l (8 * j + 3) (by omega), bt_end l (8 * j + 4) (by omega), bt_end l (8 * j + 5) (by omega), bt_end l (8 * j + 6) (by omega), bt_end l (8 * j + 7) (by omega)]
/-- one bit behind: the byte that it lies in. -/
theorem byteB_snoc (hi : Bool) (l : List Bool) (b : Bool) : byteB hi (l ++ [b]) (l.length / 8) = byteB hi l (l.length / 8) + b.toNat * 2 ^ sh hi (l.length % 8) := by
  have hk : l.length = 8 * (l.length / 8) + l.length % 8 := by omega
  generalize l.length / 8 = j at *
  generalize hr : l.length % 8 = r at *
  have hr8 : r < 8 := by omega
  have hb : ∀ k, k < 8 → bt (l ++ [b]) (8 * j + k) = if k = r then b.toNat else bt l (8 * j + k) := by
    intro k _; rw [bt_snoc]
    by_cases h : k = r
    · rw [if_pos h, if_pos (by omega)]
    · rw [if_neg h, if_neg (by omega)]
  have hz : bt l (8 * j + r) = 0 := bt_end l _ (by omega)
  have h0 := hb 0 (by omega); rw [Nat.add_zero] at h0
  simp only [byteB, h0, hb 1 (by omega), hb 2 (by omega), hb 3 (by omega), hb 4 (by omega), hb 5 (by omega), hb 6 (by omega), hb 7 (by omega)]
  clear hb h0 hk hr
  have h8 : r = 0 ∨ r = 1 ∨ r = 2 ∨ r = 3 ∨ r = 4 ∨ r = 5 ∨ r = 6 ∨ r = 7 := by omega
  rcases h8 with rfl | rfl | rfl | rfl | rfl | rfl | rfl | rfl <;> (try simp only [Nat.add_zero] at hz) <;> simp [hz] <;> omega
theorem byteB_snoc_ne (hi : Bool) (l : List Bool) (b : Bool) (j : Nat) (h : j ≠ l.length / 8) : byteB hi (l ++ [b]) j = byteB hi l j := by
  have hb : ∀ k, k < 8 → bt (l ++ [b]) (8 * j + k) = bt l (8 * j + k) := by
    intro k _; rw [bt_snoc, if_neg (by omega)]
  have h0 := hb 0 (by omega); rw [Nat.add_zero] at h0
  simp only [byteB, h0, hb 1 (by omega), hb 2 (by omega), hb 3 (by omega), hb 4 (by omega), hb 5 (by omega), hb 6 (by omega), hb 7 (by omega)]
/-- a byte's bits. -/
theorem byteB_bit (hi : Bool) (l : List Bool) (j k : Nat) (hk : k < 8) : (byteB hi l j).testBit (sh hi k) = l.getD (8 * j + k) false := by
  have h := fun i => bt_le l i
  have h0 := h (8 * j); have h1 := h (8 * j + 1); have h2 := h (8 * j + 2); have h3 := h (8 * j + 3)
  have h4 := h (8 * j + 4); have h5 := h (8 * j + 5); have h6 := h (8 * j + 6); have h7 := h (8 * j + 7)
  have e : l.getD (8 * j + k) false = decide (bt l (8 * j + k) = 1) := by unfold bt; cases l.getD (8 * j + k) false <;> rfl
  rw [e, Nat.testBit_eq_decide_div_mod_eq]
  have h8 : k = 0 ∨ k = 1 ∨ k = 2 ∨ k = 3 ∨ k = 4 ∨ k = 5 ∨ k = 6 ∨ k = 7 := by omega
  congr 1
  rcases h8 with rfl | rfl | rfl | rfl | rfl | rfl | rfl | rfl <;> cases hi <;> simp only [byteB, sh, Bool.false_eq_true, if_false, if_true, Nat.add_zero] <;> apply propext <;> constructor <;> intro _ <;> omega
theorem byteB_hole (hi : Bool) (l : List Bool) : (byteB hi l (l.length / 8)).testBit (sh hi (l.length % 8)) = false := by
  rw [byteB_bit _ _ _ _ (by omega)]
  simp [List.getD, List.getElem?_eq_none (show l.length ≤ 8 * (l.length / 8) + l.length % 8 by omega)]
theorem or_pow_all : ∀ a : Fin 256, ∀ k : Fin 8, a.val.testBit k.val = false → a.val ||| 2 ^ k.val = a.val + 2 ^ k.val := by decide +kernel
theorem or_pow (a k : Nat) (ha : a < 256) (hk : k < 8) (h : a.testBit k = false) : a ||| 2 ^ k = a + 2 ^ k := or_pow_all ⟨a, ha⟩ ⟨k, hk⟩ h
theorem sh_lt (hi : Bool) (k : Nat) (hk : k < 8) : sh hi k < 8 := by unfold sh; split <;> omega
/-- the byte behind one bit more, as it is reckoned. -/
theorem byteB_or (hi : Bool) (l : List Bool) (b : Bool) : byteB hi l (l.length / 8) ||| (b.toNat * 2 ^ sh hi (l.length % 8)) = byteB hi (l ++ [b]) (l.length / 8) := by
  rw [byteB_snoc]
  cases b
  · simp
  · simp only [Bool.toNat_true, Nat.one_mul]
    exact or_pow _ _ (byteB_lt _ _ _) (sh_lt _ _ (by omega)) (byteB_hole hi l)

def u8s (l : List Nat) : List Value := l.map fun (b : Nat) => Value.int .u8 b
theorem length_u8s (l : List Nat) : (u8s l).length = l.length := by simp [u8s]
theorem getElem?_u8s (l : List Nat) (i : Nat) (h : i < l.length) : (u8s l)[i]? = some (.int .u8 (l.getD i 0 : Nat)) := by
  simp [u8s, List.getD, List.getElem?_eq_getElem h]
theorem u8s_append (l m : List Nat) : u8s (l ++ m) = u8s l ++ u8s m := by simp [u8s]
theorem u8s_set (l : List Nat) (i : Nat) (b : Nat) : u8s (l.set i b) = (u8s l).set i (.int .u8 b) := by simp [u8s, List.map_set]
theorem getD_packs (hi : Bool) (l : List Bool) (j : Nat) : (packs hi l).getD j 0 = byteB hi l j := by
  by_cases h : j < (packs hi l).length
  · simp [List.getD, List.getElem?_eq_getElem h, getElem_packs]
  · rw [byteB_end _ _ _ (by rw [length_packs] at h; omega)]
    simp [List.getD, List.getElem?_eq_none (Nat.le_of_not_lt h)]
theorem packs_ext (hi : Bool) (l : List Bool) (m : List Nat) (hl : m.length = (l.length + 7) / 8) (h : ∀ j, j < m.length → m.getD j 0 = byteB hi l j) : m = packs hi l := by
  apply List.ext_getElem
  · rw [hl, length_packs]
  · intro j h1 h2
    rw [getElem_packs, ← h j h1]
    simp [List.getD, List.getElem?_eq_getElem h1]
theorem getD_set_at {α : Type} (l : List α) (i : Nat) (b d : α) (h : i < l.length) : (l.set i b).getD i d = b := by simp [List.getD, h]
theorem getD_set_ne {α : Type} (l : List α) (i j : Nat) (b d : α) (h : i ≠ j) : (l.set i b).getD j d = l.getD j d := by simp [List.getD, List.getElem?_set_ne h]
theorem getD_app_lt {α : Type} (l m : List α) (j : Nat) (d : α) (h : j < l.length) : (l ++ m).getD j d = l.getD j d := by simp [List.getD, List.getElem?_append_left h]
theorem packs_snoc_mid (hi : Bool) (l : List Bool) (b : Bool) (h : 0 < l.length % 8) : (packs hi l).set (l.length / 8) (byteB hi (l ++ [b]) (l.length / 8)) = packs hi (l ++ [b]) := by
  apply packs_ext
  · simp [length_packs]; omega
  · intro j hj
    rw [List.length_set, length_packs] at hj
    by_cases e : j = l.length / 8
    · subst e; exact getD_set_at _ _ _ _ (by rw [length_packs]; exact hj)
    · rw [byteB_snoc_ne _ _ _ _ e, getD_set_ne _ _ _ _ _ (Ne.symm e), getD_packs]
theorem packs_snoc_new (hi : Bool) (l : List Bool) (b : Bool) (h : l.length % 8 = 0) : (packs hi l ++ [0]).set (l.length / 8) (byteB hi (l ++ [b]) (l.length / 8)) = packs hi (l ++ [b]) := by
  apply packs_ext
  · simp [length_packs]; omega
  · intro j hj
    simp only [List.length_set, List.length_append, length_packs, List.length_cons, List.length_nil] at hj
    by_cases e : j = l.length / 8
    · subst e; exact getD_set_at _ _ _ _ (by simp [length_packs]; omega)
    · rw [byteB_snoc_ne _ _ _ _ e, getD_set_ne _ _ _ _ _ (Ne.symm e), getD_app_lt _ _ _ _ (by rw [length_packs]; omega), getD_packs]

theorem u32_and_one (x : Nat) (hx : x < 2 ^ 32) : bits .and .u32 (x : Int) 1 = ((x.testBit 0).toNat : Int) := by
  have h := u32_and_nat x 1 hx (by omega)
  have e : ((1 : Nat) : Int) = 1 := rfl
  rw [e] at h
  rw [h, Nat.and_one_is_mod, Nat.testBit_zero]
  rcases Nat.mod_two_eq_zero_or_one x with h2 | h2 <;> simp [h2]
theorem bool_pow_lt (b : Bool) (k : Nat) (hk : k < 8) : b.toNat * 2 ^ k < 256 := by
  have h : 2 ^ k ≤ 2 ^ 7 := Nat.pow_le_pow_right (by omega) (by omega)
  cases b <;> simp <;> omega
/-- the byte that a bit is laid into, as Go reckons it. -/
theorem or_byte (hi : Bool) (l : List Bool) (x : Nat) (e : Int) (hx : x < 2 ^ 32) (he : e = (sh hi (l.length % 8) : Nat)) :
    bits .or .u8 (byteB hi l (l.length / 8) : Int) (IntKind.u8.wrap (IntKind.u8.wrap (bits .and .u32 (x : Int) 1) * 2 ^ e.toNat)) = (byteB hi (l ++ [x.testBit 0]) (l.length / 8) : Int) := by
  subst he
  rw [u32_and_one x hx, Int.toNat_natCast]
  have h1 := bool_pow_lt (x.testBit 0) _ (sh_lt hi (l.length % 8) (by omega))
  have h2 : IntKind.u8.wrap ((x.testBit 0).toNat : Int) = ((x.testBit 0).toNat : Int) := IntWalk.u8_in _ (by cases x.testBit 0 <;> simp)
  rw [h2]
  have h3 : ((x.testBit 0).toNat : Int) * 2 ^ sh hi (l.length % 8) = (((x.testBit 0).toNat * 2 ^ sh hi (l.length % 8) : Nat) : Int) := by simp
  rw [h3, IntWalk.u8_in _ (by omega), u8_or_nat _ _ (byteB_lt _ _ _) h1, byteB_or]

theorem div_ne (v n : Nat) (h : 2 ^ n ≤ v) : ((v : Int) / 2 ^ n != 0) = true := by
  have e : ((v : Int) / 2 ^ n) = ((v / 2 ^ n : Nat) : Int) := by simp
  have : 0 < v / 2 ^ n := Nat.div_pos h (Nat.two_pow_pos n)
  rw [e, bne_iff_ne]; omega
theorem div_eq (v n : Nat) (h : v < 2 ^ n) : ((v : Int) / 2 ^ n != 0) = false := by
  have e : ((v : Int) / 2 ^ n) = ((v / 2 ^ n : Nat) : Int) := by simp
  rw [e, Nat.div_eq_of_lt h]; rfl
theorem bitsOf_succ (hi : Bool) (v n k : Nat) (h : k < n) : (bitsOf hi v n).take (k + 1) = (bitsOf hi v n).take k ++ [v.testBit (if hi then n - 1 - k else k)] := by
  rw [List.take_succ_eq_append_getElem (by simpa [bitsOf] using h)]; simp [bitsOf]
theorem shr_range (v k : Nat) (h : v < 2 ^ 32) : (0 : Int) ≤ (v : Int) / 2 ^ k ∧ (v : Int) / 2 ^ k < 2 ^ 32 := by
  have e : ((v : Int) / 2 ^ k) = ((v / 2 ^ k : Nat) : Int) := by simp
  have := Nat.div_le_self v (2 ^ k)
  rw [e]
  generalize v / 2 ^ k = q at *
  omega
theorem shr_bit (v k : Nat) : ((v : Int) / 2 ^ k).toNat.testBit 0 = v.testBit k := by
  have e : ((v : Int) / 2 ^ k) = ((v / 2 ^ k : Nat) : Int) := by simp
  rw [e, Int.toNat_natCast, Nat.testBit_zero, Nat.testBit_eq_decide_div_mod_eq]
/-- may a number be one of so many bits? -/
def mayPut (v : Nat) (n : Int) : Bool := decide (0 ≤ n ∧ n ≤ 32 ∧ v < 2 ^ n.toNat)
def putE (v : Nat) (n : Int) : Int := if mayPut v n then 0 else 5
def putL (hi : Bool) (l : List Bool) (v : Nat) (n : Int) : List Bool := if mayPut v n then l ++ bitsOf hi v n.toNat else l
/-- bits 0 up to a byte's end. -/
def alignB (l : List Bool) : List Bool := l ++ List.replicate (8 * ((l.length + 7) / 8) - l.length) false
theorem length_alignB (l : List Bool) : (alignB l).length = 8 * ((l.length + 7) / 8) := by simp [alignB]; omega
theorem bt_alignB (l : List Bool) (i : Nat) : bt (alignB l) i = bt l i := by
  by_cases h : i < l.length
  · simp [bt, alignB, List.getD, List.getElem?_append_left h]
  · rw [bt_end l i (by omega)]
    simp only [bt, alignB, List.getD, List.getElem?_append_right (Nat.le_of_not_lt h), List.getElem?_replicate]
    split <;> rfl
theorem packs_alignB (hi : Bool) (l : List Bool) : packs hi (alignB l) = packs hi l := by
  symm
  apply packs_ext
  · rw [length_packs, length_alignB]; omega
  · intro j _
    rw [getD_packs]; simp only [byteB, bt_alignB]
/-- the i-th bit of bytes. -/
def rbit (hi : Bool) (bs : List Nat) (i : Nat) : Bool := (bs.getD (i / 8) 0).testBit (sh hi (i % 8))
/-- n bits of bytes, from the i-th on. -/
def bitsAt (hi : Bool) (bs : List Nat) (i n : Nat) : List Bool := (List.range n).map fun j => rbit hi bs (i + j)
theorem bitsAt_succ (hi : Bool) (bs : List Nat) (i n : Nat) : bitsAt hi bs i (n + 1) = bitsAt hi bs i n ++ [rbit hi bs (i + n)] := by simp [bitsAt, List.range_succ]
theorem length_bitsAt (hi : Bool) (bs : List Nat) (i n : Nat) : (bitsAt hi bs i n).length = n := by simp [bitsAt]
theorem foldr_snoc (l : List Bool) (b : Bool) : ∀ z : Nat, (l ++ [b]).foldr (fun b v => 2 * v + b.toNat) z = l.foldr (fun b v => 2 * v + b.toNat) (2 * z + b.toNat) := by
  intro z; simp [List.foldr_append]
theorem foldr_add (l : List Bool) : ∀ z : Nat, l.foldr (fun b v => 2 * v + b.toNat) z = l.foldr (fun b v => 2 * v + b.toNat) 0 + z * 2 ^ l.length := by
  induction l with
  | nil => intro z; simp
  | cons a l ih => intro z; simp only [List.foldr_cons, List.length_cons]; rw [ih z, Nat.pow_succ, ← Nat.mul_assoc]; omega
theorem numOf_low (l : List Bool) (b : Bool) : numOf false (l ++ [b]) = numOf false l + b.toNat * 2 ^ l.length := by
  simp only [numOf, Bool.false_eq_true, if_false]
  rw [foldr_snoc, foldr_add]; simp
theorem numOf_high (l : List Bool) (b : Bool) : numOf true (l ++ [b]) = 2 * numOf true l + b.toNat := by simp [numOf, List.foldl_append]
theorem snoc_ind {P : List Bool → Prop} (h0 : P []) (h1 : ∀ l b, P l → P (l ++ [b])) : ∀ l, P l := by
  intro l
  rw [← List.reverse_reverse l]
  induction l.reverse with
  | nil => exact h0
  | cons a r ih => rw [List.reverse_cons]; exact h1 _ _ ih
theorem bool_le (b : Bool) : b.toNat ≤ 1 := by cases b <;> simp
theorem numOf_lt (hi : Bool) (l : List Bool) : numOf hi l < 2 ^ l.length := by
  induction l using snoc_ind with
  | h0 => cases hi <;> simp [numOf]
  | h1 l b ih =>
    have hb := bool_le b
    rw [List.length_append, List.length_singleton, Nat.pow_succ]
    cases hi
    · rw [numOf_low]
      have : b.toNat * 2 ^ l.length ≤ 1 * 2 ^ l.length := Nat.mul_le_mul_right _ hb
      omega
    · rw [numOf_high]; omega
/-- what a reader answers: the number, the place behind, the error. -/
def getR (hi : Bool) (bs : List Nat) (i : Nat) (n : Int) : Nat × Nat × Int :=
  if n < 0 ∨ 32 < n then (0, i, 5) else if ((8 * bs.length : Nat) : Int) - i < n then (0, i, 2) else (numOf hi (bitsAt hi bs i n.toNat), i + n.toNat, 0)
theorem bit_of_byte (hi : Bool) (ob p : Nat) (h : ob < 256) : bits .and .u32 ((ob : Int) / 2 ^ sh hi (p % 8) % 4294967296) 1 = ((ob.testBit (sh hi (p % 8))).toNat : Int) := by
  have e : ((ob : Int) / 2 ^ sh hi (p % 8) % 4294967296) = ((ob / 2 ^ sh hi (p % 8) : Nat) : Int) := by
    have := Nat.div_le_self ob (2 ^ sh hi (p % 8))
    rw [show ((ob : Int) / 2 ^ sh hi (p % 8)) = ((ob / 2 ^ sh hi (p % 8) : Nat) : Int) by simp]
    generalize ob / 2 ^ sh hi (p % 8) = q at *
    omega
  have := Nat.div_le_self ob (2 ^ sh hi (p % 8))
  rw [e, u32_and_one _ (by omega), Nat.testBit_zero, Nat.testBit_eq_decide_div_mod_eq]
theorem or_low (a b k : Nat) (h : a < 2 ^ k) : a ||| b * 2 ^ k = a + b * 2 ^ k := by
  have := Nat.two_pow_add_eq_or_of_lt h b
  rw [Nat.or_comm, Nat.mul_comm b, ← this, Nat.add_comm]
theorem low_step (ob p k : Nat) (L : List Bool) (h : ob < 256) (hk : L.length = k) (hk2 : k < 32) :
    bits .or .u32 (numOf false L : Int) (bits .and .u32 ((ob : Int) / 2 ^ (p % 8) % 4294967296) 1 * 2 ^ k % 4294967296) = (numOf false (L ++ [ob.testBit (sh false (p % 8))]) : Int) := by
  subst hk
  have e := bit_of_byte false ob p h
  have hs : sh false (p % 8) = p % 8 := by simp [sh]
  rw [hs] at e ⊢
  rw [e, numOf_low]
  generalize ob.testBit (p % 8) = b
  have h1 := numOf_lt false L
  have h2 : b.toNat * 2 ^ L.length < 2 ^ 32 := by
    have : 2 ^ L.length ≤ 2 ^ 31 := Nat.pow_le_pow_right (by omega) (by omega)
    cases b <;> simp <;> omega
  have h3 : (2 : Nat) ^ L.length < 2 ^ 32 := Nat.pow_lt_pow_right (by omega) (by omega)
  rw [show ((b.toNat : Int) * 2 ^ L.length % 4294967296) = ((b.toNat * 2 ^ L.length : Nat) : Int) by
    rw [show ((b.toNat : Int) * 2 ^ L.length) = ((b.toNat * 2 ^ L.length : Nat) : Int) by simp]
    generalize b.toNat * 2 ^ L.length = q at *
    omega]
  rw [u32_or_nat _ _ (by omega) (by omega), or_low _ _ _ h1]
theorem high_step (ob p k : Nat) (L : List Bool) (h : ob < 256) (hk : L.length = k) (hk2 : k < 32) :
    bits .or .u32 ((numOf true L : Int) * 2 % 4294967296) (bits .and .u32 ((ob : Int) / 2 ^ (7 - p % 8) % 4294967296) 1) = (numOf true (L ++ [ob.testBit (sh true (p % 8))]) : Int) := by
  subst hk
  have e := bit_of_byte true ob p h
  have hs : sh true (p % 8) = 7 - p % 8 := by simp [sh]
  rw [hs] at e ⊢
  rw [e, numOf_high]
  generalize ob.testBit (7 - p % 8) = b
  have h1 := numOf_lt true L
  have h3 : (2 : Nat) ^ L.length ≤ 2 ^ 31 := Nat.pow_le_pow_right (by omega) (by omega)
  have hb := bool_le b
  rw [show ((numOf true L : Int) * 2 % 4294967296) = ((numOf true L * 2 : Nat) : Int) by omega]
  rw [u32_or_nat _ _ (by omega) (by omega)]
  have := or_low b.toNat (numOf true L) 1 (by omega)
  rw [Nat.or_comm, Nat.pow_one] at this
  rw [this, Nat.add_comm, Nat.mul_comm]
theorem getD_lt {bs : List Nat} (h : ∀ b ∈ bs, b < 256) (i : Nat) : bs.getD i 0 < 256 := by
  by_cases hi : i < bs.length
  · simp only [List.getD, List.getElem?_eq_getElem hi, Option.getD_some]; exact h _ (List.getElem_mem hi)
  · simp [List.getD, List.getElem?_eq_none (Nat.le_of_not_lt hi)]
end Go.Proofs.YtbbcphloafmldaaGreat
