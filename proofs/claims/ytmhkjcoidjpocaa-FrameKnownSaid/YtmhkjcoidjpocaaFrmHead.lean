/- Heads: what may be; frame.may, pressworkref11.word, May: their walks. -/
import Derived.Lib.IndexBytes
import Derived.Test.YtmhkjcoidjpocaaFrmLow
import Derived.Test.YtmhkjcoidjpocaaStr
namespace Go.Proofs.Ytmhkjcoidjpocaa
open Go.RowKit
set_option linter.unusedVariables false

/-- the bytes of a text. -/
def sb (s : ByteArray) : List Nat := s.data.toList.map UInt8.toNat
theorem length_sb (s : ByteArray) : (sb s).length = s.size := by simp [sb]
theorem sb_lt (s : ByteArray) : ∀ b ∈ sb s, b < 256 := fun b hb => by
  obtain ⟨x, _, rfl⟩ := List.mem_map.1 hb
  exact x.toNat_lt
theorem sb_append (a b : ByteArray) : sb (a ++ b) = sb a ++ sb b := by simp [sb]
theorem strOf_sb (s : ByteArray) : strOf (sb s) = s := by
  cases s with
  | mk d =>
    simp only [strOf, sb, List.map_map]
    rw [show (UInt8.ofNat ∘ UInt8.toNat) = id from funext fun x => by simp, List.map_id]
/-- a head. -/
structure Hd where
  text : Bool
  time : Nat
  xfl : Nat
  os : Nat
  extra : List Nat
  name : ByteArray
  comment : ByteArray
  has : Nat
  sum : Bool
def hcells (h : Hd) (ev : Value) : Array Value := #[.bool h.text, .int .u32 h.time, .int .u8 h.xfl, .int .u8 h.os, ev, .string h.name, .string h.comment, .int .u8 h.has, .bool h.sum]
structure HOk (h : Hd) : Prop where
  time : h.time < 4294967296
  xfl : h.xfl < 256
  os : h.os < 256
  has : h.has < 256
  extra : ∀ b ∈ h.extra, b < 256
def MayH (h : Hd) : Prop := h.has < 8 ∧ h.extra.length ≤ 65535 ∧ (h.has % 2 = 1 ∨ h.extra.length = 0) ∧ (h.has / 2 % 2 = 1 ∨ h.name.size = 0) ∧ (h.has / 4 % 2 = 1 ∨ h.comment.size = 0) ∧ 0 ∉ sb h.name ∧ 0 ∉ sb h.comment
instance (h : Hd) : Decidable (MayH h) := by unfold MayH; exact inferInstance
theorem sb_get (s : ByteArray) (i : Nat) (h : i < s.size) : (sb s)[i]? = some (s[i].toNat) := by
  rw [sb, List.getElem?_map, Lib.data_getElem? s i h]; rfl
theorem frm_word (s : ByteArray) (w : World) (hl : s.size ≤ 2 ^ 40) : Calls Try.prog 36 #[.string s] w fun e w' => e = .returned (.bool (decide (0 ∉ sb s))) ∧ w = w' := by
  go_enter Try.func36, Try.ntmps36
  go_wp2_with fail
  go_loopw [3] (fun iv wr => ∃ i : Nat, iv = .int .i64 i ∧ i ≤ s.size ∧ (0 ∉ (sb s).take i) ∧ wr = w) (fun iv _ => s.size - (intOf iv).toNat)
  case atStart => exact ⟨0, rfl, Nat.zero_le _, by simp, rfl⟩
  case round =>
    obtain ⟨i, rfl, hi, hno, rfl⟩ := hrel
    by_cases hin : i < s.size
    · have hini : (i : Int) < (s.size : Int) := by omega
      have HG := Lib.hid (sb_get s i hin)
      have HNO := Lib.hid hno
      clear hno
      by_cases h0 : s[i].toNat = 0
      · have HD := Lib.hid (show decide (0 ∉ sb s) = false from decide_eq_false (fun h => h (by rw [← h0]; exact List.mem_of_getElem? HG.out)))
        have hb : (((s[i].toNat : Nat) : Int) == 0) = true := by rw [h0]; rfl
        go_wp2_with fail
        go_ret
        exact ⟨by rw [HD.out]; rfl, rfl⟩
      · have hb : (((s[i].toNat : Nat) : Int) == 0) = false := beq_eq_false_iff_ne.2 (by omega)
        have HN2 := Lib.hid (show 0 ∉ (sb s).take (i + 1) by
          rw [List.take_add_one, HG.out, Option.toList_some, List.mem_append]
          rintro (h | h)
          · exact HNO.out h
          · exact h0 (by simpa using (List.mem_singleton.1 h).symm))
        go_wp2_with fail
        exact ⟨⟨i + 1, by go_num, by omega, HN2.out, trivial⟩, by simp [intOf]; omega⟩
    · obtain rfl : i = s.size := by omega
      have HD := Lib.hid (show decide (0 ∉ sb s) = true from decide_eq_true (by rwa [List.take_of_length_le (by rw [length_sb]; exact Nat.le_refl _)] at hno))
      go_wp2_with fail
      go_ret
      exact ⟨by rw [HD.out]; rfl, rfl⟩
/-- where the first byte 0 is; below 0: there is none. -/
def fzI : List Nat → Int
  | [] => -1
  | b :: l => if b = 0 then 0 else if fzI l = -1 then -1 else fzI l + 1
theorem fzI_byte : ∀ l : List UInt8, Lib.indexByte l 0 = fzI (l.map UInt8.toNat)
  | [] => rfl
  | b :: l => by
    rw [Lib.indexByte, List.map_cons, fzI, fzI_byte l]
    by_cases h : b = 0
    · subst h; simp
    · have h2 : b.toNat ≠ 0 := fun e => h (UInt8.toNat_inj.1 (by rw [e]; rfl))
      have h3 : (b == 0) = false := beq_eq_false_iff_ne.2 h
      rw [h3, if_neg h2]
      simp
theorem fzI_ge : ∀ l : List Nat, -1 ≤ fzI l
  | [] => Int.le_refl _
  | b :: l => by
    have := fzI_ge l
    rw [fzI]; split
    · decide
    · split <;> omega
theorem fzI_none : ∀ l : List Nat, fzI l = -1 ↔ 0 ∉ l
  | [] => by simp [fzI]
  | b :: l => by
    have ih := fzI_none l
    have hg := fzI_ge l
    rw [fzI]
    by_cases h : b = 0
    · subst h; simp
    · rw [if_neg h]
      by_cases h2 : fzI l = -1
      · rw [if_pos h2]; simp [Ne.symm h, ih.1 h2]
      · rw [if_neg h2]
        constructor
        · intro h3; omega
        · intro h3; exact (h2 (ih.2 (fun h4 => h3 (List.mem_cons_of_mem _ h4)))).elim
theorem frm_indexByteS (s : ByteArray) (w : World) : Calls Try.prog 48 #[.string s, .int .u8 0] w fun e w' => e = .returned (.int .i64 (fzI (sb s))) ∧ w = w' := by
  go_enter Try.func48, Try.ntmps48
  go_wp2_with fail
  rw [run_callFunc_extern Try.func52 (by kernel_rfl) (by kernel_rfl) (by kernel_rfl) (e := Extern.BytealgIndexByte.indexByte) (by kernel_rfl), Lib.run_indexByteString]
  simp only [Result.andThen]
  rw [Oper.upon_value]
  have HE := Lib.hid (show Lib.indexByte s.data.toList (0 : Int).toNat.toUInt8 = fzI (sb s) from fzI_byte _)
  go_wp2_with fail
  go_ret
  exact ⟨by rw [← HE.out]; rfl, rfl⟩
theorem frm_sliteIndex (s : ByteArray) (w : World) : Calls Try.prog 46 #[.string s, .string ⟨#[0]⟩] w fun e w' => (e = .returned (.int .i64 (fzI (sb s)))) ∧ w = w' := by
  cases hq : ([(0 : UInt8)] == s.toList) with
  | true =>
    have HE := Lib.hid (show fzI (sb s) = 0 by
      have h := eq_of_beq hq
      have h2 : s.data.toList = [0] := by rw [← ByteArray.toList_eq, ← h]
      rw [sb, h2]; rfl)
    go_enter Try.func46, Try.ntmps46
    go_wp2_with fail
    go_ret
    exact ⟨by rw [HE.out]; rfl, rfl⟩
  | false =>
    go_enter Try.func46, Try.ntmps46
    go_wp2_with fail
    refine (frm_indexByteS s _).mono ?_
    rintro e w' ⟨rfl, rfl⟩
    go_wp2_with fail
    go_ret
    exact ⟨rfl, rfl⟩
theorem frm_contains (s : ByteArray) (w : World) : Calls Try.prog 38 #[.string s, .string ⟨#[0]⟩] w fun e w' => e = .returned (.bool (decide (0 ∈ sb s))) ∧ w = w' := by
  have hg := fzI_ge (sb s)
  have hn := fzI_none (sb s)
  have HD := Lib.hid (show decide (0 ∈ sb s) = decide (0 ≤ fzI (sb s)) from decide_eq_decide.2 ⟨fun h => by
    have : fzI (sb s) ≠ -1 := fun e => hn.1 e h
    omega, fun h => Classical.byContradiction fun h2 => by have := hn.2 h2; omega⟩)
  clear hg hn
  go_enter Try.func38, Try.ntmps38
  go_wp2_with fail
  have hidx : Calls Try.prog 44 #[.string s, .string ⟨#[0]⟩] w fun e w' => e = .returned (.int .i64 (fzI (sb s))) ∧ w = w' := by
    go_enter Try.func44, Try.ntmps44
    go_wp2_with fail
    refine (frm_sliteIndex s _).mono ?_
    rintro e w' ⟨rfl, rfl⟩
    go_wp2_with fail
    go_ret
    exact ⟨rfl, rfl⟩
  refine hidx.mono ?_
  rintro e w' ⟨rfl, rfl⟩
  go_wp2_with fail
  go_ret
  exact ⟨by rw [HD.out]; rfl, rfl⟩
/-- a head in a box. -/
def IsBox (w : World) (B : Nat) (h : Hd) (ev : Value) : Prop := w.heap[B]? = some (.cells (hcells h ev) 25 (0, 0))
theorem IsBox.cell {w : World} {B : Nat} {h : Hd} {ev : Value} (k : IsBox w B h ev) (i : Nat) : w.cell? ⟨B, i, none⟩ = (hcells h ev)[i]? := cell_of_row w B i _ _ _ k
theorem frm_may1 (b : Nat) (n : Nat) (m : Int) (B : Nat) (h : Hd) (ev : Value) (w : World) (hb : IsBox w B h ev) (hm : bits .and .u8 (h.has : Int) (b : Int) = m) :
    Calls Try.prog 37 #[.int .u8 b, .int .i64 n, .pointer (some ⟨B, 0, none⟩)] w fun e w' => e = .returned (.bool (decide (m ≠ 0 ∨ n = 0))) ∧ w = w' := by
  have c7 : w.cell? ⟨B, 7, none⟩ = some (.int .u8 h.has) := by rw [hb.cell]; rfl
  clear hb
  by_cases h0 : m = 0
  · have hb0 : (m != 0) = false := by rw [h0]; rfl
    by_cases hn : n = 0
    · have HD := Lib.hid (show decide (m ≠ 0 ∨ n = 0) = true from decide_eq_true (Or.inr hn))
      have hnb : ((n : Int) == 0) = true := by rw [hn]; rfl
      have HN := Lib.hid hn
      clear hn
      go_enter Try.func37, Try.ntmps37
      go_wp2_with fail
      go_ret
      exact ⟨by rw [HD.out]; rfl, rfl⟩
    · have HD := Lib.hid (show decide (m ≠ 0 ∨ n = 0) = false from decide_eq_false (by rintro (h | h); exact h h0; exact hn h))
      have hnb : ((n : Int) == 0) = false := beq_eq_false_iff_ne.2 (by omega)
      go_enter Try.func37, Try.ntmps37
      go_wp2_with fail
      go_ret
      exact ⟨by rw [HD.out]; rfl, rfl⟩
  · have HD := Lib.hid (show decide (m ≠ 0 ∨ n = 0) = true from decide_eq_true (Or.inl h0))
    have hb0 : (m != 0) = true := bne_iff_ne.2 h0
    go_enter Try.func37, Try.ntmps37
    go_wp2_with fail
    go_ret
    exact ⟨by rw [HD.out]; rfl, rfl⟩
end Go.Proofs.Ytmhkjcoidjpocaa
