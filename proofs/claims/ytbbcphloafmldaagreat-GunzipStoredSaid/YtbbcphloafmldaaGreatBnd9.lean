/- Heads: what may be; frame.may, pressworkref11.word, May: their walks. frame.may, pressworkref11.May: their walks (written by gen_frmmay.py). -/
import Derived.Lib.IndexBytes
import Derived.Test.YtbbcphloafmldaaGreatBnd8
import Derived.Test.YtbbcphloafmldaaGreatBnd3
/-! Heads: what may be; frame.may, pressworkref11.word, May: their walks. -/
namespace Go.Proofs.YtbbcphloafmldaaGreat
open Go.RowKit
set_option linter.unusedVariables false

/-- the bytes of a text. -/
def sb (s : ByteArray) : List Nat := s.data.toList.map UInt8.toNat
theorem length_sb (s : ByteArray) : (sb s).length = s.size := by simp [sb]
theorem sb_lt (s : ByteArray) : ∀ b ∈ sb s, b < 256 := fun b hb => by
  obtain ⟨x, _, rfl⟩ := List.mem_map.1 hb
  exact x.toNat_lt
theorem sb_append (a b : ByteArray) : sb (a ++ b) = sb a ++ sb b := by simp [sb]
theorem strOf_sb (s : ByteArray) : strOf (sb s) = s := by
  cases s with
  | mk d =>
    simp only [strOf, sb, List.map_map]
    rw [show (UInt8.ofNat ∘ UInt8.toNat) = id from funext fun x => by simp, List.map_id]
/-- a head. -/
structure Hd where
  text : Bool
  time : Nat
  xfl : Nat
  os : Nat
  extra : List Nat
  name : ByteArray
  comment : ByteArray
  has : Nat
  sum : Bool
def hcells (h : Hd) (ev : Value) : Array Value := #[.bool h.text, .int .u32 h.time, .int .u8 h.xfl, .int .u8 h.os, ev, .string h.name, .string h.comment, .int .u8 h.has, .bool h.sum]
structure HOk (h : Hd) : Prop where
  time : h.time < 4294967296
  xfl : h.xfl < 256
  os : h.os < 256
  has : h.has < 256
  extra : ∀ b ∈ h.extra, b < 256
def MayH (h : Hd) : Prop := h.has < 8 ∧ h.extra.length ≤ 65535 ∧ (h.has % 2 = 1 ∨ h.extra.length = 0) ∧ (h.has / 2 % 2 = 1 ∨ h.name.size = 0) ∧ (h.has / 4 % 2 = 1 ∨ h.comment.size = 0) ∧ 0 ∉ sb h.name ∧ 0 ∉ sb h.comment
instance (h : Hd) : Decidable (MayH h) := by unfold MayH; exact inferInstance
theorem sb_get (s : ByteArray) (i : Nat) (h : i < s.size) : (sb s)[i]? = some (s[i].toNat) := by
  rw [sb, List.getElem?_map, Lib.data_getElem? s i h]; rfl
/-- where the first byte 0 is; below 0: there is none. -/
def fzI : List Nat → Int
  | [] => -1
  | b :: l => if b = 0 then 0 else if fzI l = -1 then -1 else fzI l + 1
theorem fzI_byte : ∀ l : List UInt8, Lib.indexByte l 0 = fzI (l.map UInt8.toNat)
  | [] => rfl
  | b :: l => by
    rw [Lib.indexByte, List.map_cons, fzI, fzI_byte l]
    by_cases h : b = 0
    · subst h; simp
    · have h2 : b.toNat ≠ 0 := fun e => h (UInt8.toNat_inj.1 (by rw [e]; rfl))
      have h3 : (b == 0) = false := beq_eq_false_iff_ne.2 h
      rw [h3, if_neg h2]
      simp
theorem fzI_ge : ∀ l : List Nat, -1 ≤ fzI l
  | [] => Int.le_refl _
  | b :: l => by
    have := fzI_ge l
    rw [fzI]; split
    · decide
    · split <;> omega
theorem fzI_none : ∀ l : List Nat, fzI l = -1 ↔ 0 ∉ l
  | [] => by simp [fzI]
  | b :: l => by
    have ih := fzI_none l
    have hg := fzI_ge l
    rw [fzI]
    by_cases h : b = 0
    · subst h; simp
    · rw [if_neg h]
      by_cases h2 : fzI l = -1
      · rw [if_pos h2]; simp [Ne.symm h, ih.1 h2]
      · rw [if_neg h2]
        constructor
        · intro h3; omega
        · intro h3; exact (h2 (ih.2 (fun h4 => h3 (List.mem_cons_of_mem _ h4)))).elim
set_option maxRecDepth 100000 in
theorem frm_indexByteS (s : ByteArray) (w : World) : Calls Tryz.prog 96 #[.string s, .int .u8 0] w fun e w' => e = .returned (.int .i64 (fzI (sb s))) ∧ w = w' := by
  go_enter Tryz.func96, Tryz.ntmps96
  go_wp2_with fail
  rw [run_callFunc_extern Tryz.func121 (by kernel_rfl) (by kernel_rfl) (by kernel_rfl) (e := Extern.BytealgIndexByte.indexByte) (by kernel_rfl), Lib.run_indexByteString]
  simp only [Result.andThen]
  rw [Oper.upon_value]
  have HE := Lib.hid (show Lib.indexByte s.data.toList (0 : Int).toNat.toUInt8 = fzI (sb s) from fzI_byte _)
  go_wp2_with fail
  go_ret
  exact ⟨by rw [← HE.out]; rfl, rfl⟩
theorem frm_sliteIndex (s : ByteArray) (w : World) : Calls Tryz.prog 76 #[.string s, .string ⟨#[0]⟩] w fun e w' => (e = .returned (.int .i64 (fzI (sb s)))) ∧ w = w' := by
  cases hq : ([(0 : UInt8)] == s.toList) with
  | true =>
    have HE := Lib.hid (show fzI (sb s) = 0 by
      have h := eq_of_beq hq
      have h2 : s.data.toList = [0] := by rw [← ByteArray.toList_eq, ← h]
      rw [sb, h2]; rfl)
    go_enter Tryz.func76, Tryz.ntmps76
    go_wp2_with fail
    go_ret
    exact ⟨by rw [HE.out]; rfl, rfl⟩
  | false =>
    go_enter Tryz.func76, Tryz.ntmps76
    go_wp2_with fail
    refine (frm_indexByteS s _).mono ?_
    rintro e w' ⟨rfl, rfl⟩
    go_wp2_with fail
    go_ret
    exact ⟨rfl, rfl⟩
theorem frm_contains (s : ByteArray) (w : World) : Calls Tryz.prog 32 #[.string s, .string ⟨#[0]⟩] w fun e w' => e = .returned (.bool (decide (0 ∈ sb s))) ∧ w = w' := by
  have hg := fzI_ge (sb s)
  have hn := fzI_none (sb s)
  have HD := Lib.hid (show decide (0 ∈ sb s) = decide (0 ≤ fzI (sb s)) from decide_eq_decide.2 ⟨fun h => by
    have : fzI (sb s) ≠ -1 := fun e => hn.1 e h
    omega, fun h => Classical.byContradiction fun h2 => by have := hn.2 h2; omega⟩)
  clear hg hn
  go_enter Tryz.func32, Tryz.ntmps32
  go_wp2_with fail
  have hidx : Calls Tryz.prog 45 #[.string s, .string ⟨#[0]⟩] w fun e w' => e = .returned (.int .i64 (fzI (sb s))) ∧ w = w' := by
    go_enter Tryz.func45, Tryz.ntmps45
    go_wp2_with fail
    refine (frm_sliteIndex s _).mono ?_
    rintro e w' ⟨rfl, rfl⟩
    go_wp2_with fail
    go_ret
    exact ⟨rfl, rfl⟩
  refine hidx.mono ?_
  rintro e w' ⟨rfl, rfl⟩
  go_wp2_with fail
  go_ret
  exact ⟨by rw [HD.out]; rfl, rfl⟩
/-- a head in a box. -/
def IsBox (w : World) (B : Nat) (h : Hd) (ev : Value) : Prop := w.heap[B]? = some (.cells (hcells h ev) 34 (0, 0))
theorem IsBox.cell {w : World} {B : Nat} {h : Hd} {ev : Value} (k : IsBox w B h ev) (i : Nat) : w.cell? ⟨B, i, none⟩ = (hcells h ev)[i]? := cell_of_row w B i _ _ _ k
theorem frm_may1 (b : Nat) (n : Nat) (m : Int) (B : Nat) (h : Hd) (ev : Value) (w : World) (hb : IsBox w B h ev) (hm : bits .and .u8 (h.has : Int) (b : Int) = m) :
    Calls Tryz.prog 31 #[.int .u8 b, .int .i64 n, .pointer (some ⟨B, 0, none⟩)] w fun e w' => e = .returned (.bool (decide (m ≠ 0 ∨ n = 0))) ∧ w = w' := by
  have c7 : w.cell? ⟨B, 7, none⟩ = some (.int .u8 h.has) := by rw [hb.cell]; rfl
  clear hb
  by_cases h0 : m = 0
  · have hb0 : (m != 0) = false := by rw [h0]; rfl
    by_cases hn : n = 0
    · have HD := Lib.hid (show decide (m ≠ 0 ∨ n = 0) = true from decide_eq_true (Or.inr hn))
      have hnb : ((n : Int) == 0) = true := by rw [hn]; rfl
      have HN := Lib.hid hn
      clear hn
      go_enter Tryz.func31, Tryz.ntmps31
      go_wp2_with fail
      go_ret
      exact ⟨by rw [HD.out]; rfl, rfl⟩
    · have HD := Lib.hid (show decide (m ≠ 0 ∨ n = 0) = false from decide_eq_false (by rintro (h | h); exact h h0; exact hn h))
      have hnb : ((n : Int) == 0) = false := beq_eq_false_iff_ne.2 (by omega)
      go_enter Tryz.func31, Tryz.ntmps31
      go_wp2_with fail
      go_ret
      exact ⟨by rw [HD.out]; rfl, rfl⟩
  · have HD := Lib.hid (show decide (m ≠ 0 ∨ n = 0) = true from decide_eq_true (Or.inl h0))
    have hb0 : (m != 0) = true := bne_iff_ne.2 h0
    go_enter Tryz.func31, Tryz.ntmps31
    go_wp2_with fail
    go_ret
    exact ⟨by rw [HD.out]; rfl, rfl⟩
end Go.Proofs.YtbbcphloafmldaaGreat
-- pruned by prune.py for gunzipz

/-! frame.may, pressworkref11.May: their walks (written by gen_frmmay.py). -/
namespace Go.Proofs.YtbbcphloafmldaaGreat
open Go.RowKit
set_option linter.unusedVariables false

theorem and_one_all : ∀ x : Fin 8, ∀ b : Fin 3, bits .and .u8 ((x.val : Nat) : Int) (2 ^ b.val : Nat) = ((x.val / 2 ^ b.val % 2 * 2 ^ b.val : Nat) : Int) := by decide +kernel
theorem and_bit (x k : Nat) (hx : x < 8) (hk : k < 3) : bits .and .u8 (x : Int) ((2 ^ k : Nat) : Int) = ((x / 2 ^ k % 2 * 2 ^ k : Nat) : Int) := and_one_all ⟨x, hx⟩ ⟨k, hk⟩
theorem has_bit (x k n : Nat) : decide (((x / 2 ^ k % 2 * 2 ^ k : Nat) : Int) ≠ 0 ∨ n = 0) = decide (x / 2 ^ k % 2 = 1 ∨ n = 0) := by
  apply decide_eq_decide.2
  have hp := Nat.two_pow_pos k
  rcases Nat.mod_two_eq_zero_or_one (x / 2 ^ k) with h | h
  · rw [h, Nat.zero_mul]; simp
  · rw [h, Nat.one_mul]
    exact ⟨fun _ => Or.inl rfl, fun _ => Or.inl (by omega)⟩
/-- one of the three: has it the field, or is that empty? -/
theorem frm_may_bit (k n : Nat) (B : Nat) (h : Hd) (ev : Value) (w : World) (hb : IsBox w B h ev) (hx : h.has < 8) (hk : k < 3) :
    Calls Tryz.prog 31 #[.int .u8 (2 ^ k : Nat), .int .i64 n, .pointer (some ⟨B, 0, none⟩)] w fun e w' => e = .returned (.bool (decide (h.has / 2 ^ k % 2 = 1 ∨ n = 0))) ∧ w = w' := by
  have := frm_may1 (2 ^ k) n _ B h ev w hb (and_bit h.has k hx hk)
  rwa [has_bit] at this
theorem ext_box {w : World} {h : Hd} {ev : Value} : IsBox (w.alloc (.cells (hcells h ev) 34)) w.heap.size h ev := heap_alloc_new _ _
set_option maxHeartbeats 8000000 in
set_option maxRecDepth 100000 in
theorem frm_may (h : Hd) (eo : Option Addr) (ecap : Nat) (w : World) (hsz : h.extra.length ≤ 2 ^ 40 ∧ h.name.size ≤ 2 ^ 40 ∧ h.comment.size ≤ 2 ^ 40 ∧ h.has < 256) :
    Calls Tryz.prog 18 #[.agg (hcells h (.slice eo h.extra.length ecap))] w fun e w' => e = .returned (.bool (decide (MayH h))) ∧ Ext w w' := by
  have hx : Ext w (w.alloc (.cells (hcells h (.slice eo h.extra.length ecap)) 34)) := (Ext.refl w).alloc _
  have hb : IsBox (w.alloc (.cells (hcells h (.slice eo h.extra.length ecap)) 34)) w.heap.size h (.slice eo h.extra.length ecap) := ext_box
  have q4 : (w.alloc (.cells (hcells h (.slice eo h.extra.length ecap)) 34)).cell? ⟨w.heap.size, 4, none⟩ = some (.slice eo h.extra.length ecap) := hb.cell 4
  have q5 : (w.alloc (.cells (hcells h (.slice eo h.extra.length ecap)) 34)).cell? ⟨w.heap.size, 5, none⟩ = some (.string h.name) := hb.cell 5
  have q6 : (w.alloc (.cells (hcells h (.slice eo h.extra.length ecap)) 34)).cell? ⟨w.heap.size, 6, none⟩ = some (.string h.comment) := hb.cell 6
  have q7 : (w.alloc (.cells (hcells h (.slice eo h.extra.length ecap)) 34)).cell? ⟨w.heap.size, 7, none⟩ = some (.int .u8 h.has) := hb.cell 7
  have HX := Lib.hid hx
  have HB := Lib.hid hb
  clear hx hb
  by_cases a0 : h.has < 8
  · by_cases a1 : h.extra.length ≤ 65535
    · by_cases c0 : h.has % 2 = 1 ∨ h.extra.length = 0
      · by_cases c1 : h.has / 2 % 2 = 1 ∨ h.name.size = 0
        · by_cases c2 : h.has / 4 % 2 = 1 ∨ h.comment.size = 0
          · by_cases c3 : 0 ∉ sb (h.name ++ h.comment)
            · have HD := Lib.hid (show decide (MayH h) = true from decide_eq_true (⟨a0, a1, c0, c1, c2, fun k => c3 (by rw [sb_append]; exact List.mem_append.2 (Or.inl k)), fun k => c3 (by rw [sb_append]; exact List.mem_append.2 (Or.inr k))⟩))
              have e0 : (h.has : Int) < 8 := by omega
              have e1 : (h.extra.length : Int) ≤ 65535 := by omega
              go_enter Tryz.func18, Tryz.ntmps18
              go_wp2_with fail
              refine (frm_may_bit 0 _ _ h _ _ HB.out (by omega) (by decide)).mono ?_
              rw [show decide (h.has / 2 ^ 0 % 2 = 1 ∨ h.extra.length = 0) = true from decide_eq_true (by simpa using c0)]
              rintro e w' ⟨rfl, rfl⟩
              go_wp2_with fail
              refine (frm_may_bit 1 _ _ h _ _ HB.out (by omega) (by decide)).mono ?_
              rw [show decide (h.has / 2 ^ 1 % 2 = 1 ∨ h.name.size = 0) = true from decide_eq_true (by simpa using c1)]
              rintro e w' ⟨rfl, rfl⟩
              go_wp2_with fail
              refine (frm_may_bit 2 _ _ h _ _ HB.out (by omega) (by decide)).mono ?_
              rw [show decide (h.has / 2 ^ 2 % 2 = 1 ∨ h.comment.size = 0) = true from decide_eq_true (by simpa using c2)]
              rintro e w' ⟨rfl, rfl⟩
              go_wp2_with fail
              refine (frm_contains _ _).mono ?_
              rw [show decide (0 ∈ sb (h.name ++ h.comment)) = false from decide_eq_false c3]
              rintro e w' ⟨rfl, rfl⟩
              go_wp2_with fail
              go_ret
              exact ⟨by rw [HD.out]; rfl, HX.out⟩
            · have HD := Lib.hid (show decide (MayH h) = false from decide_eq_false (fun k => c3 (by rw [sb_append]; rw [List.mem_append]; rintro (q | q); exact k.2.2.2.2.2.1 q; exact k.2.2.2.2.2.2 q)))
              have e0 : (h.has : Int) < 8 := by omega
              have e1 : (h.extra.length : Int) ≤ 65535 := by omega
              go_enter Tryz.func18, Tryz.ntmps18
              go_wp2_with fail
              refine (frm_may_bit 0 _ _ h _ _ HB.out (by omega) (by decide)).mono ?_
              rw [show decide (h.has / 2 ^ 0 % 2 = 1 ∨ h.extra.length = 0) = true from decide_eq_true (by simpa using c0)]
              rintro e w' ⟨rfl, rfl⟩
              go_wp2_with fail
              refine (frm_may_bit 1 _ _ h _ _ HB.out (by omega) (by decide)).mono ?_
              rw [show decide (h.has / 2 ^ 1 % 2 = 1 ∨ h.name.size = 0) = true from decide_eq_true (by simpa using c1)]
              rintro e w' ⟨rfl, rfl⟩
              go_wp2_with fail
              refine (frm_may_bit 2 _ _ h _ _ HB.out (by omega) (by decide)).mono ?_
              rw [show decide (h.has / 2 ^ 2 % 2 = 1 ∨ h.comment.size = 0) = true from decide_eq_true (by simpa using c2)]
              rintro e w' ⟨rfl, rfl⟩
              go_wp2_with fail
              refine (frm_contains _ _).mono ?_
              rw [show decide (0 ∈ sb (h.name ++ h.comment)) = true from decide_eq_true (by simpa using c3)]
              rintro e w' ⟨rfl, rfl⟩
              go_wp2_with fail
              go_ret
              exact ⟨by rw [HD.out]; rfl, HX.out⟩
          · have HD := Lib.hid (show decide (MayH h) = false from decide_eq_false (fun k => c2 k.2.2.2.2.1))
            have e0 : (h.has : Int) < 8 := by omega
            have e1 : (h.extra.length : Int) ≤ 65535 := by omega
            go_enter Tryz.func18, Tryz.ntmps18
            go_wp2_with fail
            refine (frm_may_bit 0 _ _ h _ _ HB.out (by omega) (by decide)).mono ?_
            rw [show decide (h.has / 2 ^ 0 % 2 = 1 ∨ h.extra.length = 0) = true from decide_eq_true (by simpa using c0)]
            rintro e w' ⟨rfl, rfl⟩
            go_wp2_with fail
            refine (frm_may_bit 1 _ _ h _ _ HB.out (by omega) (by decide)).mono ?_
            rw [show decide (h.has / 2 ^ 1 % 2 = 1 ∨ h.name.size = 0) = true from decide_eq_true (by simpa using c1)]
            rintro e w' ⟨rfl, rfl⟩
            go_wp2_with fail
            refine (frm_may_bit 2 _ _ h _ _ HB.out (by omega) (by decide)).mono ?_
            rw [show decide (h.has / 2 ^ 2 % 2 = 1 ∨ h.comment.size = 0) = false from decide_eq_false (by simpa using c2)]
            rintro e w' ⟨rfl, rfl⟩
            go_wp2_with fail
            go_ret
            exact ⟨by rw [HD.out]; rfl, HX.out⟩
        · have HD := Lib.hid (show decide (MayH h) = false from decide_eq_false (fun k => c1 k.2.2.2.1))
          have e0 : (h.has : Int) < 8 := by omega
          have e1 : (h.extra.length : Int) ≤ 65535 := by omega
          go_enter Tryz.func18, Tryz.ntmps18
          go_wp2_with fail
          refine (frm_may_bit 0 _ _ h _ _ HB.out (by omega) (by decide)).mono ?_
          rw [show decide (h.has / 2 ^ 0 % 2 = 1 ∨ h.extra.length = 0) = true from decide_eq_true (by simpa using c0)]
          rintro e w' ⟨rfl, rfl⟩
          go_wp2_with fail
          refine (frm_may_bit 1 _ _ h _ _ HB.out (by omega) (by decide)).mono ?_
          rw [show decide (h.has / 2 ^ 1 % 2 = 1 ∨ h.name.size = 0) = false from decide_eq_false (by simpa using c1)]
          rintro e w' ⟨rfl, rfl⟩
          go_wp2_with fail
          go_ret
          exact ⟨by rw [HD.out]; rfl, HX.out⟩
      · have HD := Lib.hid (show decide (MayH h) = false from decide_eq_false (fun k => c0 k.2.2.1))
        have e0 : (h.has : Int) < 8 := by omega
        have e1 : (h.extra.length : Int) ≤ 65535 := by omega
        go_enter Tryz.func18, Tryz.ntmps18
        go_wp2_with fail
        refine (frm_may_bit 0 _ _ h _ _ HB.out (by omega) (by decide)).mono ?_
        rw [show decide (h.has / 2 ^ 0 % 2 = 1 ∨ h.extra.length = 0) = false from decide_eq_false (by simpa using c0)]
        rintro e w' ⟨rfl, rfl⟩
        go_wp2_with fail
        go_ret
        exact ⟨by rw [HD.out]; rfl, HX.out⟩
    · have HD := Lib.hid (show decide (MayH h) = false from decide_eq_false (fun k => a1 k.2.1))
      have e0 : (h.has : Int) < 8 := by omega
      have e1 : ¬ (h.extra.length : Int) ≤ 65535 := by omega
      go_enter Tryz.func18, Tryz.ntmps18
      go_wp2_with fail
      go_ret
      exact ⟨by rw [HD.out]; rfl, HX.out⟩
  · have HD := Lib.hid (show decide (MayH h) = false from decide_eq_false (fun k => a0 k.1))
    have e0 : ¬ (h.has : Int) < 8 := by omega
    go_enter Tryz.func18, Tryz.ntmps18
    go_wp2_with fail
    go_ret
    exact ⟨by rw [HD.out]; rfl, HX.out⟩
end Go.Proofs.YtbbcphloafmldaaGreat
