/- pressworklaw02.MsbWrites: what lies between two acts. -/
import Derived.Test.YtnmibfdpaamlgaaMsbLays
import Derived.Test.YtnmibfdpaamlgaaMsbAdd
import Derived.Test.YtnmibfdpaamlgaaMsbActs
import Derived.Test.YtnmibfdpaamlgaaMsbRefPut
import Derived.Test.YtnmibfdpaamlgaaMsbRefBytes
import Derived.Test.YtnmibfdpaamlgaaAppend
namespace Go.Proofs.Ytnmibfdpaamlgaa
open Go.RowKit
set_option linter.unusedVariables false

/-- the writer holds l, the document's row m. -/
def MsbWs (w : World) (B : Nat) (og od : Option Nat) (l m : List Bool) (rv : Value) (wr : World) : Prop :=
  IsW 37 true wr B og l ∧ Owns wr 4 1 rv od m.length (bls m) ∧ NewW w.heap.size B og ∧ (∀ g, od = some g → w.heap.size ≤ g ∧ g ≠ B ∧ og ≠ some g) ∧ Ext w wr
theorem msb_ws_act {w wr w' : World} {B : Nat} {l m l' : List Bool} {rv : Value} {og od : Option Nat} (h : MsbWs w B og od l m rv wr) (hp : WPost 37 true wr B og l' w') : ∃ og', MsbWs w B og' od l' m rv w' := by
  obtain ⟨h1, h2, h3, h4, h5⟩ := h
  obtain ⟨og', p1, p2, p3⟩ := hp
  have hfp : ∀ g, od = some g → ¬ FP B og g := fun g e f => by
    obtain ⟨_, q1, q2⟩ := h4 g e
    rcases f with f | f
    · exact q1 f
    · exact q2 f
  refine ⟨og', p1, h2.keep p3 hfp, h3.near p2 h5.size, fun g e => ?_, h3.ext h5 p3⟩
  obtain ⟨q0, q1, q2⟩ := h4 g e
  refine ⟨q0, q1, fun e2 => ?_⟩
  rcases p2 with rfl | ⟨g', rfl, hg⟩
  · exact q2 e2
  · cases e2; have := h2.lt g e; omega
theorem msb_ws_ext {w wr w' : World} {B : Nat} {l m : List Bool} {rv : Value} {og od : Option Nat} (h : MsbWs w B og od l m rv wr) (hx : Ext wr w') : MsbWs w B og od l m rv w' := by
  obtain ⟨h1, h2, h3, h4, h5⟩ := h
  exact ⟨h1.ext hx, h2.ext' hx, h3, h4, h5.trans hx⟩
/-- a new row. -/
theorem msb_ws_row {w wr w' : World} {B : Nat} {l m m' : List Bool} {rv rv' : Value} {og od od' : Option Nat} (h : MsbWs w B og od l m rv wr) (h1 : Owns w' 4 1 rv' od' m'.length (bls m')) (h2 : ∀ g, od' = some g → wr.heap.size ≤ g) (hx : Ext wr w') : MsbWs w B og od' l m' rv' w' := by
  obtain ⟨a1, a2, a3, a4, a5⟩ := msb_ws_ext h hx
  obtain ⟨b1, b2, b3, b4, b5⟩ := h
  refine ⟨a1, h1, a3, fun g e => ?_, a5⟩
  have hg := h2 g e
  refine ⟨by have := b5.size; omega, fun e2 => ?_, fun e2 => ?_⟩
  · have := b1.lt; omega
  · have := b1.glt g e2; omega
theorem ws_bound (L i a : Nat) (h : L ≤ 39 * i * 2 ^ a) : L + 32 ≤ 39 * (i + 1) * 2 ^ a := by
  have h1 : 1 ≤ 2 ^ a := Nat.one_le_two_pow
  have h2 : 39 * (i + 1) * 2 ^ a = 39 * i * 2 ^ a + 39 * 2 ^ a := by rw [Nat.mul_add, Nat.add_mul, Nat.mul_one]
  omega
theorem ws_small (L i a : Nat) (hi : i ≤ 40) (ha : a ≤ 4) (h : L ≤ 39 * i * 2 ^ a) : L ≤ 24960 := by
  have h1 : (2 : Nat) ^ a ≤ 2 ^ 4 := Nat.pow_le_pow_right (by decide) ha
  have h2 : 39 * i * 2 ^ a ≤ 1560 * 2 ^ 4 := Nat.mul_le_mul (by omega) h1
  omega
theorem ws_bound2 (L i a : Nat) (h : L ≤ 39 * i * 2 ^ a) : L + L ≤ 39 * (i + 1) * 2 ^ (a + 1) := by
  have h1 : 39 * i * 2 ^ (a + 1) = 39 * i * 2 ^ a + 39 * i * 2 ^ a := by rw [Nat.pow_succ, ← Nat.mul_assoc, Nat.mul_two]
  have h2 : 39 * i * 2 ^ (a + 1) ≤ 39 * (i + 1) * 2 ^ (a + 1) := Nat.mul_le_mul_right _ (by omega)
  omega
/-- the document's Put, its answer and its row. -/
theorem msb_ref_put_st {w wr w1 : World} {B : Nat} {l m : List Bool} {rv : Value} {og od : Option Nat} (v : Nat) (n : Int) (h : MsbWs w B og od l m rv wr) (hx : Ext wr w1) (hm : m.length ≤ 2 ^ 40) (hv : v < 2 ^ 32) :
    Calls Try.prog 47 #[rv, .int .u32 v, .int .i64 n] w1 fun e w2 => ∃ v2 od2, e = .returned (.tuple #[v2, .int .i64 (putE v n)]) ∧ Owns w2 4 1 v2 od2 (putL true m v n).length (bls (putL true m v n)) ∧ (∀ g, od2 = some g → w.heap.size ≤ g ∧ g ≠ B ∧ og ≠ some g) ∧ Ext w1 w2 := by
  have hs := hx.size
  have h1 := h.2.1.ext' hx
  by_cases hmp : mayPut v n = true
  · obtain ⟨N, rfl⟩ := Int.eq_ofNat_of_zero_le (show 0 ≤ n by simp [mayPut] at hmp; omega)
    refine (msb_ref_put_ok rv m v N w1 h1.viewL hm hv hmp).mono ?_
    rintro e w2 ⟨v2, od2, rfl, q1, q2, q3⟩
    have e1 : putL true m v N = m ++ bitsOf true v N := by simp [putL, hmp]
    have e2 : putE v N = 0 := by simp [putE, hmp]
    rw [e1, e2]
    refine ⟨v2, od2, rfl, by rw [List.length_append, length_bitsOf]; exact q1, fun g e => ?_, q3⟩
    have hg := q2 g e
    refine ⟨by have := h.2.2.2.2.size; omega, fun e2 => ?_, fun e2 => ?_⟩
    · have := h.1.lt; omega
    · have := h.1.glt g e2; omega
  · have hmf : mayPut v n = false := by simpa using hmp
    refine (msb_ref_put_no rv v n w1 hv hmf).mono ?_
    rintro e w2 ⟨rfl, rfl⟩
    have e1 : putL true m v n = m := by simp [putL, hmf]
    have e2 : putE v n = 5 := by simp [putE, hmf]
    rw [e1, e2]
    exact ⟨rv, od, rfl, h1, h.2.2.2.1, Ext.refl _⟩
end Go.Proofs.Ytnmibfdpaamlgaa
