/- Numbers as bytes, the lowest first: plain laws. No program is named here. frame.low, frame.value, pressworkref11.Number, Value: their walks. Heads: what may be; frame.may, pressworkref11.word, May: their walks. frame.may, pressworkref11.May: their walks (written by gen_frmmay.py). frame.Put: its walk. -/
import Derived.Test.YtbbcphloafmldaaBnd10
import Derived.Lib.SmallJoins
import Derived.Test.YtbbcphloafmldaaCrcLowZ
import Derived.Test.YtbbcphloafmldaaBnd6
import Derived.Lib.IndexBytes
import Derived.Lib.AppendStr
import Derived.Deep.DeepCutAuto
import Derived.Test.YtbbcphloafmldaaOwnUseZ
/-! Numbers as bytes, the lowest first: plain laws. No program is named here. -/
namespace Go.Proofs.Ytbbcphloafmldaa
set_option linter.unusedVariables false

def leN (n v : Nat) : List Nat := (List.range n).map fun k => v / 256 ^ k % 256
theorem length_leN (n v : Nat) : (leN n v).length = n := by simp [leN]
theorem leN_snoc (n v : Nat) : leN (n + 1) v = leN n v ++ [v / 256 ^ n % 256] := by simp [leN, List.range_succ]
theorem leN_lt (n v : Nat) : ∀ b ∈ leN n v, b < 256 := fun b hb => by
  obtain ⟨k, _, rfl⟩ := List.mem_map.1 hb
  exact Nat.mod_lt _ (by decide)
theorem leN_zero (v : Nat) : leN 0 v = [] := rfl
def valL : List Nat → Nat
  | [] => 0
  | c :: l => c + 256 * valL l
theorem valL_snoc : ∀ (l : List Nat) (c : Nat), valL (l ++ [c]) = valL l + c * 256 ^ l.length
  | [], c => by simp [valL]
  | b :: l, c => by
    simp only [List.cons_append, valL, valL_snoc l c, List.length_cons, Nat.pow_succ, Nat.mul_add]
    rw [Nat.add_assoc]; congr 2
    rw [← Nat.mul_assoc, Nat.mul_comm 256 c, Nat.mul_assoc, Nat.mul_comm 256]
theorem valL_lt : ∀ (l : List Nat), (∀ b ∈ l, b < 256) → valL l < 256 ^ l.length
  | [], _ => by simp [valL]
  | b :: l, h => by
    have ih := valL_lt l (fun x hx => h x (List.mem_cons_of_mem _ hx))
    have hb := h b (List.mem_cons_self ..)
    simp only [valL, List.length_cons, Nat.pow_succ]
    omega
theorem pow256 (k : Nat) : 256 ^ k = 2 ^ (8 * k) := by rw [Nat.pow_mul]
theorem valL_leN (n v : Nat) : valL (leN n v) = v % 256 ^ n := by
  induction n with
  | zero => simp [leN, valL, Nat.mod_one]
  | succ n ih =>
    rw [leN_snoc, valL_snoc, ih, length_leN, Nat.pow_succ, Nat.mod_mul, Nat.mul_comm]
theorem leN_succ (n v : Nat) : leN (n + 1) v = (v % 256) :: leN n (v / 256) := by
  rw [leN, List.range_succ_eq_map, List.map_cons, List.map_map, leN]
  simp only [Nat.pow_zero, Nat.div_one]
  congr 1
  apply List.map_congr_left
  intro k _
  simp only [Function.comp, Nat.pow_succ]
  rw [Nat.mul_comm, Nat.div_div_eq_div_mul]
/-- bytes are the number that they say. -/
theorem leN_valL : ∀ (l : List Nat), (∀ b ∈ l, b < 256) → leN l.length (valL l) = l
  | [], _ => rfl
  | b :: l, h => by
    have hb := h b (List.mem_cons_self ..)
    rw [List.length_cons, leN_succ, valL, show (b + 256 * valL l) % 256 = b by omega, show (b + 256 * valL l) / 256 = valL l by omega, leN_valL l (fun x hx => h x (List.mem_cons_of_mem _ hx))]
end Go.Proofs.Ytbbcphloafmldaa

/-! frame.low, frame.value, pressworkref11.Number, Value: their walks. -/
namespace Go.Proofs.Ytbbcphloafmldaa
open Go.RowKit
set_option linter.unusedVariables false

/-- a row that was handed over, grown. -/
def Regrown (w : World) (og : Option Nat) (l : List Nat) (v : Value) (w' : World) : Prop := ∃ og', Owns w' 5 1 v og' l.length (u8s l) ∧ Near og og' w ∧ Touch (fun k => og = some k) w w'
theorem Regrown.app {w w1 w2 : World} {og : Option Nat} {l xs : List Nat} {ov v' : Value} {o : Obj} {n : Nat} (h : Regrown w og l ov w1) (hn : l.length = n) (hown' : w2.ownsRow 0 5 1 v' (n + xs.length) (u8s l ++ u8s xs))
    (hgrow : (w1.alloc o).grownBy w2 ov.ownBlock) (hat : v'.ownBlock = ov.ownBlock ∨ v'.ownBlock = some (w1.heap.size + 1)) : Regrown w og (l ++ xs) v' w2 := by
  subst hn
  obtain ⟨og1, h1, h2, h3⟩ := h
  have hs := h3.size
  refine ⟨v'.ownBlock, ⟨by rw [u8s_append, List.length_append]; exact hown', rfl⟩, ?_, Touch.grown (h3.alloc _) hgrow (fun k e => ?_)⟩
  · rcases hat with e | e
    · rw [e, h1.2]; exact h2
    · exact Or.inr ⟨_, e, by omega⟩
  · rw [h1.2] at e
    rcases h2 with rfl | ⟨g, rfl, hg⟩
    · exact Or.inl e
    · cases e; exact Or.inr hg
theorem Regrown.own {w wr : World} {og : Option Nat} {l : List Nat} {v : Value} {n : Nat} (h : Regrown w og l v wr) (hn : l.length = n) : wr.ownsRow 0 5 1 v n (u8s l) := by subst hn; exact h.choose_spec.1.1
theorem Regrown.refl {w : World} {og : Option Nat} {l : List Nat} {v : Value} (h : Owns w 5 1 v og l.length (u8s l)) : Regrown w og l v w := ⟨og, h, Near.refl _ _, Touch.refl _ _⟩
set_option maxRecDepth 100000 in
set_option maxHeartbeats 4000000 in
theorem frm_low (v : Value) (og : Option Nat) (bs : List Nat) (x n : Nat) (w : World) (hv : Owns w 5 1 v og bs.length (u8s bs)) (hl : bs.length ≤ 2 ^ 42) (hx : x < 4294967296) (hn : n ≤ 4) :
    Calls Try.prog 47 #[v, .int .u32 x, .int .i64 n] w fun e w' => ∃ v', e = .returned v' ∧ Regrown w og (bs ++ leN n x) v' w' := by
  obtain ⟨i0, hi, hz0, hz1, hz2⟩ := info_parts info_u8
  have HV := Lib.hid hv
  clear hv
  go_enter Try.func47, Try.ntmps47
  go_wp2_with fail
  go_loopw [0, 9] (fun bv kv wr => ∃ k : Nat, kv = .int .i64 k ∧ k ≤ n ∧ Regrown w og (bs ++ leN k x) bv wr) (fun _ kv _ => n - (intOf kv).toNat)
  case atStart => exact ⟨0, rfl, Nat.zero_le _, by rw [leN_zero, List.append_nil]; exact Regrown.refl HV.out⟩
  case round =>
    obtain ⟨k, rfl, hk, hp⟩ := hrel
    have HP := Lib.hid hp
    clear hp
    by_cases hkn : k < n
    · have hkni : (k : Int) < (n : Int) := by omega
      have HL := Lib.hid (show (bs ++ leN k x).length = bs.length + k by rw [List.length_append, length_leN])
      have hk0 : (0 : Int) ≤ 8 * (k : Int) := by omega
      go_wp2_with (at_builtin; go_must (refine wpList_append_own_at _ rfl (.tmp 12) (.tmp 18) 22 rfl 0 5 i0 (.int .u8 0) 1 1 Try.underlying22 hi hz0 hz1 hz2 rfl (by decide) _ (bs.length + k) (u8s (bs ++ leN k x)) rfl ((HP.out.own HL.out).alloc _) ⟨wr.heap.size, 0, none⟩ 1 1 [_] rfl rfl (cell_one_new _ _ _) (by simp [Value.oneCell']) (by unfold maxLen; omega) (by omega) (Nat.zero_le _) ?_))
      intro v' w3 hown' hgrow _ hat
      have e1 : (x : Int) / 2 ^ (8 * k) % 256 = ((x / 256 ^ k % 256 : Nat) : Int) := by
        rw [pow256]; simp
      rw [e1] at hown' hgrow
      have HF := Lib.hid (HP.out.app (xs := [x / 256 ^ k % 256]) HL.out hown' hgrow hat)
      clear hown' hgrow hat e1
      go_wp2_with fail
      go_roundw
      case rel => exact ⟨k + 1, by go_num, by omega, by rw [leN_snoc, ← List.append_assoc]; exact HF.out⟩
      case measure => simp [intOf]; omega
    · obtain rfl : k = n := by omega
      go_wp2_with fail
      go_ret
      exact ⟨_, rfl, HP.out⟩
/-- bytes in new memory that grow. -/
theorem clone_app {w w1 w2 : World} {l xs : List Nat} {ov v' : Value} {o : Obj} {n : Nat} (h : CloneOf w l (.returned ov) w1) (hn : l.length = n) (hown' : w2.ownsRow 0 5 1 v' (n + xs.length) (u8s l ++ u8s xs))
    (hgrow : (w1.alloc o).grownBy w2 ov.ownBlock) (hat : v'.ownBlock = ov.ownBlock ∨ v'.ownBlock = some (w1.heap.size + 1)) : CloneOf w (l ++ xs) (.returned v') w2 := by
  subst hn
  obtain ⟨u, og, e, h1, h2, h3⟩ := h
  cases e
  have h3 : Ext w w1 := h3
  have hs := h3.size
  refine ⟨v', v'.ownBlock, rfl, ⟨by rw [u8s_append, List.length_append]; exact hown', rfl⟩, fun g e => ?_, Touch.grown (h3.alloc _) hgrow (fun i e => Or.inr (h2 i (by rw [← h1.2]; exact e)))⟩
  rcases hat with hat | hat
  · rw [hat, h1.2] at e; exact h2 g e
  · rw [hat] at e; cases e; omega
theorem CloneOf.own {w wr : World} {l : List Nat} {v : Value} {n : Nat} (h : CloneOf w l (.returned v) wr) (hn : l.length = n) : wr.ownsRow 0 5 1 v n (u8s l) := by
  subst hn; obtain ⟨u, og, e, h1, _⟩ := h; cases e; exact h1.1
theorem clone_nil0 (w : World) : CloneOf w [] (.returned (.slice none 0 0)) w := ⟨_, none, rfl, Owns.nil _ _ _, (fun g e => by cases e), Touch.refl _ _⟩
set_option maxRecDepth 100000 in
set_option maxHeartbeats 4000000 in
theorem frm_value (v : Value) (bs : List Nat) (w : World) (hv : ViewL w v (u8s bs)) (hb : ∀ b ∈ bs, b < 256) (hl : bs.length ≤ 4) :
    Calls Try.prog 19 #[v] w fun e w' => e = .returned (.int .u32 (valL bs)) ∧ w = w' := by
  obtain ⟨ao, cap, rfl⟩ := hv.shape
  rw [length_u8s] at *
  have HV := Lib.hid hv
  have HB := Lib.hid hb
  clear hv hb
  go_enter Try.func19, Try.ntmps19
  go_wp2_with fail
  go_loopw [3, 8] (fun vv kv wr => ∃ k : Nat, kv = .int .i64 k ∧ k ≤ bs.length ∧ vv = .int .u32 (valL (bs.take k)) ∧ wr = w) (fun _ kv _ => bs.length - (intOf kv).toNat)
  case atStart => exact ⟨0, rfl, Nat.zero_le _, rfl, rfl⟩
  case round =>
    obtain ⟨k, rfl, hk, rfl, rfl⟩ := hrel
    by_cases hkn : k < bs.length
    · have hkni : (k : Int) < (bs.length : Int) := by omega
      obtain ⟨b, o, rfl, _, hc⟩ := viewL_cells HV.out (by rw [length_u8s]; omega)
      obtain ⟨c, hcc⟩ : ∃ c, bs[k]? = some c := ⟨_, List.getElem?_eq_getElem hkn⟩
      have cB := hc k (.int .u8 c) (by simp [u8s, hcc])
      have hc256 := HB.out c (List.mem_of_getElem? hcc)
      have htl : (bs.take k).length = k := by rw [List.length_take]; omega
      have hlt := valL_lt (bs.take k) (fun x hx => HB.out x (List.mem_of_mem_take hx))
      rw [htl, pow256] at hlt
      have hst : valL (bs.take (k + 1)) = valL (bs.take k) + c * 2 ^ (8 * k) := by rw [List.take_add_one, hcc, Option.toList_some, valL_snoc, htl, pow256]
      generalize valL (bs.take k) = V at *
      have hp32 : c * 2 ^ (8 * k) < 4294967296 := by
        have : 2 ^ (8 * k) ≤ 2 ^ 24 := Nat.pow_le_pow_right (by decide) (by omega)
        have h2 : c * 2 ^ (8 * k) ≤ 255 * 2 ^ 24 := Nat.mul_le_mul (by omega) this
        omega
      have hV32 : V < 4294967296 := Nat.lt_of_lt_of_le hlt (by
        have : 2 ^ (8 * k) ≤ 2 ^ 24 := Nat.pow_le_pow_right (by decide) (by omega)
        omega)
      have e1 : bits .or .u32 (V : Int) ((c : Int) * 2 ^ (8 * k) % 4294967296) = ((V + c * 2 ^ (8 * k) : Nat) : Int) := by
        have e2 : ((c : Int) * 2 ^ (8 * k) % 4294967296) = ((c * 2 ^ (8 * k) : Nat) : Int) := by
          have : ((c : Int) * 2 ^ (8 * k)) = ((c * 2 ^ (8 * k) : Nat) : Int) := by simp
          rw [this]; omega
        rw [e2, u32_or_nat _ _ hV32 hp32, or_low _ _ _ hlt]
      rw [← hst] at e1
      have HE := Lib.hid e1
      have hk0 : (0 : Int) ≤ 8 * (k : Int) := by omega
      clear hst e1 hc hcc hp32 hV32 hlt htl
      go_wp2_with fail
      rw [HE.out]
      exact ⟨⟨k + 1, by go_num, by omega, rfl, trivial⟩, by simp [intOf]; omega⟩
    · obtain rfl : k = bs.length := by omega
      rw [List.take_length]
      go_wp2_with fail
      go_ret
      exact ⟨rfl, rfl⟩
theorem valL_drop (bs : List Nat) (i c : Nat) (h : bs[i]? = some c) : valL (bs.drop i) = c + 256 * valL (bs.drop (i + 1)) := by
  have hl := (List.getElem?_eq_some_iff.1 h).1
  have e : bs.drop i = bs[i] :: bs.drop (i + 1) := by rw [List.getElem_cons_drop]
  rw [e, valL, (List.getElem?_eq_some_iff.1 h).2]
end Go.Proofs.Ytbbcphloafmldaa
-- pruned by prune.py for gunzip

/-! Heads: what may be; frame.may, pressworkref11.word, May: their walks. -/
namespace Go.Proofs.Ytbbcphloafmldaa
open Go.RowKit
set_option linter.unusedVariables false

/-- the bytes of a text. -/
def sb (s : ByteArray) : List Nat := s.data.toList.map UInt8.toNat
theorem length_sb (s : ByteArray) : (sb s).length = s.size := by simp [sb]
theorem sb_lt (s : ByteArray) : ∀ b ∈ sb s, b < 256 := fun b hb => by
  obtain ⟨x, _, rfl⟩ := List.mem_map.1 hb
  exact x.toNat_lt
theorem sb_append (a b : ByteArray) : sb (a ++ b) = sb a ++ sb b := by simp [sb]
theorem strOf_sb (s : ByteArray) : strOf (sb s) = s := by
  cases s with
  | mk d =>
    simp only [strOf, sb, List.map_map]
    rw [show (UInt8.ofNat ∘ UInt8.toNat) = id from funext fun x => by simp, List.map_id]
/-- a head. -/
structure Hd where
  text : Bool
  time : Nat
  xfl : Nat
  os : Nat
  extra : List Nat
  name : ByteArray
  comment : ByteArray
  has : Nat
  sum : Bool
def hcells (h : Hd) (ev : Value) : Array Value := #[.bool h.text, .int .u32 h.time, .int .u8 h.xfl, .int .u8 h.os, ev, .string h.name, .string h.comment, .int .u8 h.has, .bool h.sum]
structure HOk (h : Hd) : Prop where
  time : h.time < 4294967296
  xfl : h.xfl < 256
  os : h.os < 256
  has : h.has < 256
  extra : ∀ b ∈ h.extra, b < 256
def MayH (h : Hd) : Prop := h.has < 8 ∧ h.extra.length ≤ 65535 ∧ (h.has % 2 = 1 ∨ h.extra.length = 0) ∧ (h.has / 2 % 2 = 1 ∨ h.name.size = 0) ∧ (h.has / 4 % 2 = 1 ∨ h.comment.size = 0) ∧ 0 ∉ sb h.name ∧ 0 ∉ sb h.comment
instance (h : Hd) : Decidable (MayH h) := by unfold MayH; exact inferInstance
theorem sb_get (s : ByteArray) (i : Nat) (h : i < s.size) : (sb s)[i]? = some (s[i].toNat) := by
  rw [sb, List.getElem?_map, Lib.data_getElem? s i h]; rfl
/-- where the first byte 0 is; below 0: there is none. -/
def fzI : List Nat → Int
  | [] => -1
  | b :: l => if b = 0 then 0 else if fzI l = -1 then -1 else fzI l + 1
theorem fzI_byte : ∀ l : List UInt8, Lib.indexByte l 0 = fzI (l.map UInt8.toNat)
  | [] => rfl
  | b :: l => by
    rw [Lib.indexByte, List.map_cons, fzI, fzI_byte l]
    by_cases h : b = 0
    · subst h; simp
    · have h2 : b.toNat ≠ 0 := fun e => h (UInt8.toNat_inj.1 (by rw [e]; rfl))
      have h3 : (b == 0) = false := beq_eq_false_iff_ne.2 h
      rw [h3, if_neg h2]
      simp
theorem fzI_ge : ∀ l : List Nat, -1 ≤ fzI l
  | [] => Int.le_refl _
  | b :: l => by
    have := fzI_ge l
    rw [fzI]; split
    · decide
    · split <;> omega
theorem fzI_none : ∀ l : List Nat, fzI l = -1 ↔ 0 ∉ l
  | [] => by simp [fzI]
  | b :: l => by
    have ih := fzI_none l
    have hg := fzI_ge l
    rw [fzI]
    by_cases h : b = 0
    · subst h; simp
    · rw [if_neg h]
      by_cases h2 : fzI l = -1
      · rw [if_pos h2]; simp [Ne.symm h, ih.1 h2]
      · rw [if_neg h2]
        constructor
        · intro h3; omega
        · intro h3; exact (h2 (ih.2 (fun h4 => h3 (List.mem_cons_of_mem _ h4)))).elim
/-- a head in a box. -/
def IsBox (w : World) (B : Nat) (h : Hd) (ev : Value) : Prop := w.heap[B]? = some (.cells (hcells h ev) 40 (0, 0))
theorem IsBox.cell {w : World} {B : Nat} {h : Hd} {ev : Value} (k : IsBox w B h ev) (i : Nat) : w.cell? ⟨B, i, none⟩ = (hcells h ev)[i]? := cell_of_row w B i _ _ _ k
end Go.Proofs.Ytbbcphloafmldaa
-- pruned by prune.py for gunzip

/-! frame.may, pressworkref11.May: their walks (written by gen_frmmay.py). -/
namespace Go.Proofs.Ytbbcphloafmldaa
open Go.RowKit
set_option linter.unusedVariables false

theorem and_one_all : ∀ x : Fin 8, ∀ b : Fin 3, bits .and .u8 ((x.val : Nat) : Int) (2 ^ b.val : Nat) = ((x.val / 2 ^ b.val % 2 * 2 ^ b.val : Nat) : Int) := by decide +kernel
theorem and_bit (x k : Nat) (hx : x < 8) (hk : k < 3) : bits .and .u8 (x : Int) ((2 ^ k : Nat) : Int) = ((x / 2 ^ k % 2 * 2 ^ k : Nat) : Int) := and_one_all ⟨x, hx⟩ ⟨k, hk⟩
theorem has_bit (x k n : Nat) : decide (((x / 2 ^ k % 2 * 2 ^ k : Nat) : Int) ≠ 0 ∨ n = 0) = decide (x / 2 ^ k % 2 = 1 ∨ n = 0) := by
  apply decide_eq_decide.2
  have hp := Nat.two_pow_pos k
  rcases Nat.mod_two_eq_zero_or_one (x / 2 ^ k) with h | h
  · rw [h, Nat.zero_mul]; simp
  · rw [h, Nat.one_mul]
    exact ⟨fun _ => Or.inl rfl, fun _ => Or.inl (by omega)⟩
theorem ext_box {w : World} {h : Hd} {ev : Value} : IsBox (w.alloc (.cells (hcells h ev) 40)) w.heap.size h ev := heap_alloc_new _ _
end Go.Proofs.Ytbbcphloafmldaa
-- pruned by prune.py for gunzip

/-! frame.Put: its walk. -/
namespace Go.Proofs.Ytbbcphloafmldaa
open Go.RowKit
set_option linter.unusedVariables false
set_option linter.unusedSimpArgs false

/-- the flags. -/
def fl0 (h : Hd) : Nat := h.has * 4 + if h.text then 1 else 0
def flH (h : Hd) : Nat := fl0 h + if h.sum then 2 else 0
def fx8 (h : Hd) (fl : Nat) : List Nat := ([31, 139, 8, fl] ++ leN 4 h.time) ++ [h.xfl, h.os]
def px (h : Hd) : List Nat := if h.has % 2 = 1 then (fx8 h (flH h) ++ leN 2 h.extra.length) ++ h.extra else fx8 h (flH h)
def pn (h : Hd) : List Nat := if h.has / 2 % 2 = 1 then (px h ++ sb h.name) ++ [0] else px h
def pc (h : Hd) : List Nat := if h.has / 4 % 2 = 1 then (pn h ++ sb h.comment) ++ [0] else pn h
def putH (h : Hd) : List Nat := if h.sum then pc h ++ leN 2 (crcL (pc h)) else pc h
theorem IsBox.touch {S : Blocks} {w w' : World} {B : Nat} {h : Hd} {ev : Value} (hb : IsBox w B h ev) (ht : Touch S w w') (hn : ¬ S B) : IsBox w' B h ev := ht.keep hb hn
theorem or_text8 : ∀ x : Fin 8, bits .or .u8 (((x.val : Nat) : Int) * 4) 1 = ((x.val * 4 + 1 : Nat) : Int) := by decide +kernel
theorem or_sum8 : ∀ x : Fin 32, (x.val % 4 = 0 ∨ x.val % 4 = 1) → bits .or .u8 ((x.val : Nat) : Int) 2 = ((x.val + 2 : Nat) : Int) := by decide +kernel
theorem and4_8 : ∀ x : Fin 32, bits .and .u8 ((x.val : Nat) : Int) 4 = ((x.val / 4 % 2 * 4 : Nat) : Int) := by decide +kernel
theorem and8_8 : ∀ x : Fin 32, bits .and .u8 ((x.val : Nat) : Int) 8 = ((x.val / 8 % 2 * 8 : Nat) : Int) := by decide +kernel
theorem and16_8 : ∀ x : Fin 32, bits .and .u8 ((x.val : Nat) : Int) 16 = ((x.val / 16 % 2 * 16 : Nat) : Int) := by decide +kernel
theorem fl0_lt (h : Hd) (h8 : h.has < 8) : fl0 h < 32 ∧ (fl0 h % 4 = 0 ∨ fl0 h % 4 = 1) ∧ fl0 h / 4 = h.has := by unfold fl0; split <;> omega
theorem flH_lt (h : Hd) (h8 : h.has < 8) : flH h < 32 ∧ flH h / 4 = h.has := by have := fl0_lt h h8; unfold flH; split <;> omega
theorem flag_bool (m k : Nat) (hk : 0 < k) : (((m % 2 * k : Nat) : Int) != 0) = decide (m % 2 = 1) := by
  rcases Nat.mod_two_eq_zero_or_one m with e | e
  · rw [e]; simp
  · rw [e]; simp; omega
theorem flag4 (h : Hd) (h8 : h.has < 8) : (bits .and .u8 (flH h : Int) 4 != 0) = decide (h.has % 2 = 1) := by
  obtain ⟨h1, h2⟩ := flH_lt h h8
  rw [and4_8 ⟨flH h, h1⟩, flag_bool _ _ (by decide)]; simp only [h2]
theorem flag8 (h : Hd) (h8 : h.has < 8) : (bits .and .u8 (flH h : Int) 8 != 0) = decide (h.has / 2 % 2 = 1) := by
  obtain ⟨h1, h2⟩ := flH_lt h h8
  rw [and8_8 ⟨flH h, h1⟩, flag_bool _ _ (by decide)]; simp only [show flH h / 8 = h.has / 2 by omega]
theorem flag16 (h : Hd) (h8 : h.has < 8) : (bits .and .u8 (flH h : Int) 16 != 0) = decide (h.has / 4 % 2 = 1) := by
  obtain ⟨h1, h2⟩ := flH_lt h h8
  rw [and16_8 ⟨flH h, h1⟩, flag_bool _ _ (by decide)]; simp only [show flH h / 16 = h.has / 4 by omega]
theorem strCells_sb (s : ByteArray) : Lib.strCells s = u8s (sb s) := by simp [Lib.strCells, u8s, sb]
theorem CloneOf.own_at {w wr : World} {l : List Nat} {v : Value} {n : Nat} (h : CloneOf w l (.returned v) wr) (hn : l.length = n) : wr.ownsRow w.heap.size 5 1 v n (u8s l) := by
  subst hn
  obtain ⟨u, og, e, ⟨h1, h1b⟩, h2, h3⟩ := h
  cases e
  rcases h1.2 with ⟨rfl, h0⟩ | ⟨g, cap, cur, rfl, _, hg, hnc, hcm, hcs, htake⟩
  · exact ⟨h1.1, Or.inl ⟨rfl, h0⟩⟩
  · exact ⟨h1.1, Or.inr ⟨g, cap, cur, rfl, h2 g h1b.symm, hg, hnc, hcm, hcs, htake⟩⟩
theorem own_block_ge {w : World} {base : Nat} {e : TypeId} {size n : Nat} {v : Value} {xs : List Value} (h : w.ownsRow base e size v n xs) : ∀ g, v.ownBlock = some g → base ≤ g := by
  intro g hg
  rcases h.2 with ⟨rfl, h0⟩ | ⟨g', cap, cur, rfl, hb, _⟩
  · cases hg
  · cases hg; exact hb
theorem clone_str {w w1 w2 : World} {l : List Nat} {s : ByteArray} {ov v' : Value} {n : Nat} (h : CloneOf w l (.returned ov) w1) (hn : l.length = n) (hown' : w2.ownsRow w.heap.size 5 1 v' (n + s.size) (u8s l ++ Lib.strCells s))
    (hgrow : w1.grownBy w2 ov.ownBlock) : CloneOf w (l ++ sb s) (.returned v') w2 := by
  subst hn
  obtain ⟨u, og, e, h1, h2, h3⟩ := h
  cases e
  have h3 : Ext w w1 := h3
  refine ⟨v', v'.ownBlock, rfl, ⟨by rw [u8s_append, List.length_append, length_sb, ← strCells_sb]; exact ownsRow_zero hown', rfl⟩, own_block_ge hown', Touch.grown h3 hgrow (fun i e => Or.inr (h2 i (by rw [← h1.2]; exact e)))⟩
theorem clone_regrown {w w1 w2 : World} {l m : List Nat} {ov v' : Value} {og : Option Nat} (h1 : Owns w1 5 1 ov og l.length (u8s l)) (h2 : ∀ g, og = some g → w.heap.size ≤ g) (h3 : Ext w w1) (h4 : Regrown w1 og m v' w2) : CloneOf w m (.returned v') w2 := by
  obtain ⟨og', k1, k2, k3⟩ := h4
  have hs := h3.size
  refine ⟨v', og', rfl, k1, fun g e => ?_, h3.touch k3 (fun i hi e => Nat.lt_irrefl _ (Nat.lt_of_lt_of_le hi (h2 i e)))⟩
  rcases k2 with rfl | ⟨g', rfl, hg⟩
  · exact h2 g e
  · cases e; omega
theorem clone_up {w w1 w2 : World} {l : List Nat} {v : Value} (h : CloneOf w1 l (.returned v) w2) (he : Ext w w1) : CloneOf w l (.returned v) w2 := by
  obtain ⟨u, og, e, h1, h2, h3⟩ := h
  cases e
  have h3 : Ext w1 w2 := h3
  have hs := he.size
  exact ⟨v, og, rfl, h1, fun g e => Nat.le_trans hs (h2 g e), he.trans h3⟩
theorem ext_of {w w1 : World} {l : List Nat} {v : Value} (h : CloneOf w l (.returned v) w1) : Ext w w1 := by
  obtain ⟨u, og, e, h1, h2, h3⟩ := h
  exact h3
theorem putH_lt (h : Hd) (ok : HOk h) (h8 : h.has < 8) : ∀ b ∈ pc h, b < 256 := by
  have e1 : ∀ b ∈ fx8 h (flH h), b < 256 := by
    intro b hb
    have := (flH_lt h h8).1
    have k1 := ok.xfl; have k2 := ok.os
    simp only [fx8, List.mem_append, List.mem_cons, List.not_mem_nil, or_false] at hb
    rcases hb with ((rfl | rfl | rfl | rfl) | hb) | rfl | rfl
    all_goals first | omega | exact leN_lt _ _ _ hb
  have e2 : ∀ b ∈ px h, b < 256 := by
    unfold px; split
    · intro b hb
      simp only [List.mem_append] at hb
      rcases hb with (hb | hb) | hb
      · exact e1 b hb
      · exact leN_lt _ _ _ hb
      · exact ok.extra b hb
    · exact e1
  have e3 : ∀ b ∈ pn h, b < 256 := by
    unfold pn; split
    · intro b hb
      simp only [List.mem_append, List.mem_singleton] at hb
      rcases hb with (hb | hb) | hb
      · exact e2 b hb
      · exact sb_lt _ _ hb
      · omega
    · exact e2
  unfold pc; split
  · intro b hb
    simp only [List.mem_append, List.mem_singleton] at hb
    rcases hb with (hb | hb) | hb
    · exact e3 b hb
    · exact sb_lt _ _ hb
    · omega
  · exact e3
theorem px_len (h : Hd) : (px h).length ≤ 12 + h.extra.length := by
  unfold px fx8; split <;> simp only [List.length_append, List.length_cons, List.length_nil, length_leN] <;> omega
theorem pn_len (h : Hd) : (pn h).length ≤ 13 + h.extra.length + h.name.size := by
  have := px_len h
  unfold pn; split
  · simp only [List.length_append, List.length_cons, List.length_nil, length_sb]; omega
  · omega
theorem pc_len (h : Hd) : (pc h).length ≤ 14 + h.extra.length + h.name.size + h.comment.size := by
  have := pn_len h
  unfold pc; split
  · simp only [List.length_append, List.length_cons, List.length_nil, length_sb]; omega
  · omega
end Go.Proofs.Ytbbcphloafmldaa
-- pruned by prune.py for gunzip
