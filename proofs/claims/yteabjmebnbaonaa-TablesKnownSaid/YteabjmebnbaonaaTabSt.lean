/- The calls of the Tables laws, upon things apart. -/
import Derived.Lib.SmallJoins
import Derived.Test.YteabjmebnbaonaaSt
import Derived.Test.YteabjmebnbaonaaTabGetL
import Derived.Test.YteabjmebnbaonaaTabGetS
import Derived.Test.YteabjmebnbaonaaTabPutL
import Derived.Test.YteabjmebnbaonaaTabPutSB
import Derived.Test.YteabjmebnbaonaaTabSize
namespace Go.Proofs.Yteabjmebnbaonaa
open Go.RowKit
set_option linter.unusedVariables false

abbrev mW (B : Nat) (l : List Bool) : Thing := tW 30 true B l
abbrev mR (B : Nat) (bs : List Nat) (p : Nat) : Thing := tR 67 B bs p
abbrev oB (v : Value) (bs : List Nat) : Thing := tO 5 v (u8s bs)
abbrev oI (v : Value) (xs : List Int) : Thing := tO 3 v (ints xs)
theorem St.mnew {w0 w : World} {Ts : List Thing} (h : St w0 w Ts) (v : Value) (bs : List Nat) (hv : View w v bs) (hl : bs.length ≤ 2 ^ 46) :
    Calls Try.prog 15 #[v] w fun e w' => ∃ B, e = .returned (.pointer (some ⟨B, 0, none⟩)) ∧ St w0 w' (Ts ++ [mR B bs 0]) := by
  refine (msb_new v bs w hv hl).mono ?_
  rintro e w' ⟨B, og, rfl, r, hB, hg, x⟩
  exact ⟨B, rfl, h.add x _ (FP B og) ⟨og, r, fun _ => Iff.rfl⟩ (fun k hk => by rcases hk with rfl | hk; exact hB; exact hg k hk)⟩
theorem St.mbytes {w0 w : World} {Ts : List Thing} (h : St w0 w Ts) {B : Nat} {l : List Bool} (i : Nat) (hti : Ts[i]? = some (mW B l)) (hl : l.length < 2 ^ 40) :
    Calls Try.prog 18 #[.pointer (some ⟨B, 0, none⟩)] w fun e w' => ∃ v, e = .returned v ∧ St w0 w' (Ts ++ [oB v (packs true l)]) := by
  obtain ⟨og, hw, _⟩ := h.writer i hti
  refine (msb_bytes B og l w hw hl).mono ?_
  rintro e w' ⟨v, og', rfl, o, g, x⟩
  exact ⟨v, rfl, h.new x (by rw [length_u8s]; exact o) g⟩
theorem St.mlen {w0 w : World} {Ts : List Thing} (h : St w0 w Ts) {B : Nat} {l : List Bool} (i : Nat) (hti : Ts[i]? = some (mW B l)) :
    Calls Try.prog 21 #[.pointer (some ⟨B, 0, none⟩)] w fun e w' => e = .returned (.int .i64 l.length) ∧ w = w' := by
  obtain ⟨og, hw, _⟩ := h.writer i hti
  exact msb_len B og l w hw
theorem St.mat {w0 w : World} {Ts : List Thing} (h : St w0 w Ts) {B : Nat} {bs : List Nat} {p : Nat} (i : Nat) (hti : Ts[i]? = some (mR B bs p)) :
    Calls Try.prog 27 #[.pointer (some ⟨B, 0, none⟩)] w fun e w' => e = .returned (.int .i64 p) ∧ w = w' := by
  obtain ⟨og, hr, _⟩ := h.reader i hti
  exact msb_at B og bs p w hr
theorem St.mget {w0 w : World} {Ts : List Thing} (h : St w0 w Ts) {B : Nat} {bs : List Nat} {p : Nat} (i : Nat) (hti : Ts[i]? = some (mR B bs p)) (n : Nat) (hl : bs.length ≤ 2 ^ 46) (hb : ∀ b ∈ bs, b < 256) (hn : n ≤ 32) (hp : p + n ≤ 8 * bs.length) :
    Calls Try.prog 25 #[.pointer (some ⟨B, 0, none⟩), .int .i64 n] w fun e w' => e = .returned (.tuple #[.int .u32 (numOf true (bitsAt true bs p n)), .int .i64 0]) ∧ St w0 w' (Ts.set i (mR B bs (p + n))) := by
  obtain ⟨og, hr, _, _, hup⟩ := h.reader i hti
  exact (msb_get_ok B og bs p n w hr hl hb hn hp).mono fun e w' hh => ⟨hh.1, hup _ _ hh.2⟩
/-- whence a view that is put comes: it is owned, or it was there ahead, or it has no block. -/
def Src (w0 w : World) (Ts : List Thing) (i : Nat) (v : Value) : Prop :=
  (∃ j ty xs, j ≠ i ∧ Ts[j]? = some (tO ty v xs)) ∨ (∃ j xs, j ≠ i ∧ Ts[j]? = some (tV v xs)) ∨ ∀ b o n c, v = .slice (some ⟨b, o, none⟩) n c → b < w0.heap.size
theorem Src.off {w0 w : World} {Ts : List Thing} {i : Nat} {v : Value} {B : Nat} {og : Option Nat} (h : Src w0 w Ts i v) (h1 : OffW w Ts i B og) (h2 : ∀ b, b < w0.heap.size → ¬ FP B og b) : ∀ b o n c, v = .slice (some ⟨b, o, none⟩) n c → ¬ FP B og b := by
  rcases h with ⟨j, ty, xs, hj, ht⟩ | ⟨j, xs, hj, ht⟩ | h
  · exact h1.1 j ty v xs hj ht
  · exact h1.2 j v xs hj ht
  · exact fun b o n c e => h2 b (h b o n c e)
theorem St.putL {w0 w : World} {Ts : List Thing} (h : St w0 w Ts) {B : Nat} {l : List Bool} (i : Nat) (hti : Ts[i]? = some (mW B l)) (v : Value) (bs : List Nat) (hv : ViewL w v (u8s bs)) (hs : 0 < bs.length → Src w0 w Ts i v) (hl : l.length ≤ 2 ^ 20) (hbl : bs.length ≤ 2 ^ 40) :
    Calls Try.prog 28 #[.pointer (some ⟨B, 0, none⟩), v] w fun e w' => (e = .returned (.int .i64 0) ∧ MayP bs ∧ St w0 w' (Ts.set i (mW B (l ++ lenBits bs)))) ∨ (e = .returned (.int .i64 5) ∧ ¬ MayP bs ∧ w = w') := by
  obtain ⟨og, hw, h1, h2, hup⟩ := h.writer i hti
  exact (tab_put B og l v bs w hw hv (fun h0 => (hs h0).off h2 h1) hl hbl).mono fun e w' hh => hh.imp (fun k => ⟨k.1, k.2.1, hup _ _ k.2.2⟩) id
theorem St.putS {w0 w : World} {Ts : List Thing} (h : St w0 w Ts) {B : Nat} {l : List Bool} (i : Nat) (hti : Ts[i]? = some (mW B l)) (v : Value) (xs : List Int) (n : Int) (hv : ViewL w v (ints xs)) (hs : Src w0 w Ts i v) (hl : l.length ≤ 2 ^ 20) (hbl : xs.length ≤ 2 ^ 40) :
    Calls Try.prog 30 #[.pointer (some ⟨B, 0, none⟩), v, .int .i64 n] w fun e w' => (e = .returned (.int .i64 0) ∧ MayI xs n ∧ St w0 w' (Ts.set i (mW B (l ++ selBits (xs.map Int.toNat))))) ∨ (e = .returned (.int .i64 5) ∧ ¬ MayI xs n ∧ w = w') := by
  obtain ⟨og, hw, h1, h2, hup⟩ := h.writer i hti
  exact (tab_puts B og l v xs n w hw hv (hs.off h2 h1) hl hbl).mono fun e w' hh => hh.imp (fun k => ⟨k.1, k.2.1, hup _ _ k.2.2⟩) id
theorem St.getL {w0 w : World} {Ts : List Thing} (h : St w0 w Ts) {B : Nat} {bs : List Nat} {p : Nat} (i : Nat) (hti : Ts[i]? = some (mR B bs p)) (n : Nat) (hl : bs.length ≤ 2 ^ 20) (hb : ∀ b ∈ bs, b < 256) (hp : p ≤ 8 * bs.length) (hn : 3 ≤ n) (hn2 : n ≤ 258) :
    Calls Try.prog 37 #[.pointer (some ⟨B, 0, none⟩), .int .i64 n] w fun e w' =>
      (∃ l q v, gLens (rbit true bs) (8 * bs.length) p n = some (l, q) ∧ e = .returned (.tuple #[v, .int .i64 0]) ∧ St w0 w' (Ts.set i (mR B bs q) ++ [oB v l])) ∨
      (∃ q, gLens (rbit true bs) (8 * bs.length) p n = none ∧ e = .returned (.tuple #[.slice none 0 0, .int .i64 2]) ∧ St w0 w' (Ts.set i (mR B bs q)) ∧ q ≤ 8 * bs.length) := by
  obtain ⟨og, hr, hup⟩ := h.readerNew i hti
  obtain ⟨og2, hr2, _, _, hup2⟩ := h.reader i hti
  obtain rfl : og = og2 := by
    obtain ⟨v1, a1, b1, _⟩ := hr
    obtain ⟨v2, a2, b2, _⟩ := hr2
    rw [a1] at a2
    have e : v1 = v2 := by injection a2 with a2; injection a2 with a2; simpa using a2
    rw [← b1.2, ← b2.2, e]
  refine (tab_get B og bs p n w hr hl hb hp hn hn2).mono ?_
  rintro e w' (⟨l, q, v, hg, rfl, oo, o, g, rp⟩ | ⟨q, hg, rfl, rp, hq⟩)
  · exact Or.inl ⟨l, q, v, hg, rfl, hup q w' _ v _ oo rp (by rw [length_u8s]; exact o) g⟩
  · exact Or.inr ⟨q, hg, rfl, hup2 q w' rp, hq⟩
theorem St.getS {w0 w : World} {Ts : List Thing} (h : St w0 w Ts) {B : Nat} {bs : List Nat} {p : Nat} (i : Nat) (hti : Ts[i]? = some (mR B bs p)) (n : Nat) (hl : bs.length ≤ 2 ^ 20) (hb : ∀ b ∈ bs, b < 256) (hp : p ≤ 8 * bs.length) (hn : 2 ≤ n) (hn2 : n ≤ 6) :
    Calls Try.prog 38 #[.pointer (some ⟨B, 0, none⟩), .int .i64 n] w fun e w' =>
      (∃ l q v, gSel (rbit true bs) (8 * bs.length) p n = some (l, q) ∧ e = .returned (.tuple #[v, .int .i64 0]) ∧ St w0 w' (Ts.set i (mR B bs q) ++ [tO 3 v (i64s l)])) ∨
      (∃ q, gSel (rbit true bs) (8 * bs.length) p n = none ∧ e = .returned (.tuple #[.slice none 0 0, .int .i64 2]) ∧ St w0 w' (Ts.set i (mR B bs q)) ∧ q ≤ 8 * bs.length) := by
  obtain ⟨og, hr, hup⟩ := h.readerNew i hti
  obtain ⟨og2, hr2, _, _, hup2⟩ := h.reader i hti
  obtain rfl : og = og2 := by
    obtain ⟨v1, a1, b1, _⟩ := hr
    obtain ⟨v2, a2, b2, _⟩ := hr2
    rw [a1] at a2
    have e : v1 = v2 := by injection a2 with a2; injection a2 with a2; simpa using a2
    rw [← b1.2, ← b2.2, e]
  refine (tab_gets B og bs p n w hr hl hb hp hn hn2).mono ?_
  rintro e w' (⟨l, q, v, hg, rfl, oo, o, g, rp⟩ | ⟨q, hg, rfl, rp, hq⟩)
  · exact Or.inl ⟨l, q, v, hg, rfl, hup q w' _ v _ oo rp (by rw [length_i64s]; exact o) g⟩
  · exact Or.inr ⟨q, hg, rfl, hup2 q w' rp, hq⟩
/-- the bits of bytes that were packed, whatever stands behind. -/
theorem atn_app (l : List Bool) (r : List Nat) (N : Nat) : AtN (rbit true (packs true l ++ r)) N 0 l := fun i hi _ => by
  rw [Nat.zero_add, ← rbit_packs true l i, rbit, rbit, getD_app_lt _ _ _ _ (by rw [length_packs]; omega)]
theorem atn_two (l m : List Bool) (r : List Nat) (N : Nat) : AtN (rbit true (packs true (l ++ m) ++ r)) N l.length m := by
  have := (atn_app (l ++ m) r N).right
  simpa using this
end Go.Proofs.Yteabjmebnbaonaa
