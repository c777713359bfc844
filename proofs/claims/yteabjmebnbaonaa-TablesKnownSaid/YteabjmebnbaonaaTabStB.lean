/- More calls upon things apart. -/
import Derived.Test.YteabjmebnbaonaaTabPuts
namespace Go.Proofs.Yteabjmebnbaonaa
open Go.RowKit
set_option linter.unusedVariables false

theorem St.putN {w0 w : World} {Ts : List Thing} (h : St w0 w Ts) {B : Nat} {l : List Bool} (i : Nat) (hti : Ts[i]? = some (mW B l)) (v : Value) (vs : List Nat) (n : Nat) (hv : ViewL w v (i64s vs)) (hs : Src w0 w Ts i v) (hl : l.length ≤ 2 ^ 20) (hm : MayN vs n) :
    Calls Try.prog 30 #[.pointer (some ⟨B, 0, none⟩), v, .int .i64 n] w fun e w' => e = .returned (.int .i64 0) ∧ St w0 w' (Ts.set i (mW B (l ++ selBits vs))) := by
  obtain ⟨og, hw, h1, h2, hup⟩ := h.writer i hti
  exact (tab_puts_ok B og l v vs n w hw hv (hs.off h2 h1) hl hm).mono fun e w' hh => ⟨hh.1, hup _ _ hh.2⟩
theorem St.putLok {w0 w : World} {Ts : List Thing} (h : St w0 w Ts) {B : Nat} {l : List Bool} (i : Nat) (hti : Ts[i]? = some (mW B l)) (v : Value) (bs : List Nat) (hv : ViewL w v (u8s bs)) (hs : Src w0 w Ts i v) (hl : l.length ≤ 2 ^ 20) (hm : MayP bs) :
    Calls Try.prog 28 #[.pointer (some ⟨B, 0, none⟩), v] w fun e w' => e = .returned (.int .i64 0) ∧ St w0 w' (Ts.set i (mW B (l ++ lenBits bs))) := by
  refine (h.putL i hti v bs hv (fun _ => hs) hl (by have := hm.2.1; omega)).mono ?_
  rintro e w' (⟨rfl, _, s⟩ | ⟨_, k, _⟩)
  · exact ⟨rfl, s⟩
  · exact absurd hm k
theorem St.getLok {w0 w : World} {Ts : List Thing} (h : St w0 w Ts) {B : Nat} {bs : List Nat} {p : Nat} (i : Nat) (hti : Ts[i]? = some (mR B bs p)) (n : Nat) (hl : bs.length ≤ 2 ^ 20) (hb : ∀ b ∈ bs, b < 256) (hp : p ≤ 8 * bs.length) (hn : 3 ≤ n) (hn2 : n ≤ 258)
    (l : List Nat) (q : Nat) (hg : gLens (rbit true bs) (8 * bs.length) p n = some (l, q)) :
    Calls Try.prog 37 #[.pointer (some ⟨B, 0, none⟩), .int .i64 n] w fun e w' => ∃ v, e = .returned (.tuple #[v, .int .i64 0]) ∧ St w0 w' (Ts.set i (mR B bs q) ++ [oB v l]) := by
  refine (h.getL i hti n hl hb hp hn hn2).mono ?_
  rw [hg]
  rintro e w' (⟨l', q', v, e1, rfl, s⟩ | ⟨q', e1, _⟩)
  · cases e1; exact ⟨v, rfl, s⟩
  · cases e1
theorem St.getLno {w0 w : World} {Ts : List Thing} (h : St w0 w Ts) {B : Nat} {bs : List Nat} {p : Nat} (i : Nat) (hti : Ts[i]? = some (mR B bs p)) (n : Nat) (hl : bs.length ≤ 2 ^ 20) (hb : ∀ b ∈ bs, b < 256) (hp : p ≤ 8 * bs.length) (hn : 3 ≤ n) (hn2 : n ≤ 258)
    (hg : gLens (rbit true bs) (8 * bs.length) p n = none) :
    Calls Try.prog 37 #[.pointer (some ⟨B, 0, none⟩), .int .i64 n] w fun e w' => ∃ q, e = .returned (.tuple #[.slice none 0 0, .int .i64 2]) ∧ St w0 w' (Ts.set i (mR B bs q)) ∧ q ≤ 8 * bs.length := by
  refine (h.getL i hti n hl hb hp hn hn2).mono ?_
  rw [hg]
  rintro e w' (⟨l', q', v, e1, rfl, s⟩ | ⟨q', e1, rfl, s, hq⟩)
  · cases e1
  · exact ⟨q', rfl, s, hq⟩
theorem St.getSok {w0 w : World} {Ts : List Thing} (h : St w0 w Ts) {B : Nat} {bs : List Nat} {p : Nat} (i : Nat) (hti : Ts[i]? = some (mR B bs p)) (n : Nat) (hl : bs.length ≤ 2 ^ 20) (hb : ∀ b ∈ bs, b < 256) (hp : p ≤ 8 * bs.length) (hn : 2 ≤ n) (hn2 : n ≤ 6)
    (l : List Nat) (q : Nat) (hg : gSel (rbit true bs) (8 * bs.length) p n = some (l, q)) :
    Calls Try.prog 38 #[.pointer (some ⟨B, 0, none⟩), .int .i64 n] w fun e w' => ∃ v, e = .returned (.tuple #[v, .int .i64 0]) ∧ St w0 w' (Ts.set i (mR B bs q) ++ [tO 3 v (i64s l)]) := by
  refine (h.getS i hti n hl hb hp hn hn2).mono ?_
  rw [hg]
  rintro e w' (⟨l', q', v, e1, rfl, s⟩ | ⟨q', e1, _⟩)
  · cases e1; exact ⟨v, rfl, s⟩
  · cases e1
theorem St.getSno {w0 w : World} {Ts : List Thing} (h : St w0 w Ts) {B : Nat} {bs : List Nat} {p : Nat} (i : Nat) (hti : Ts[i]? = some (mR B bs p)) (n : Nat) (hl : bs.length ≤ 2 ^ 20) (hb : ∀ b ∈ bs, b < 256) (hp : p ≤ 8 * bs.length) (hn : 2 ≤ n) (hn2 : n ≤ 6)
    (hg : gSel (rbit true bs) (8 * bs.length) p n = none) :
    Calls Try.prog 38 #[.pointer (some ⟨B, 0, none⟩), .int .i64 n] w fun e w' => ∃ q, e = .returned (.tuple #[.slice none 0 0, .int .i64 2]) ∧ St w0 w' (Ts.set i (mR B bs q)) ∧ q ≤ 8 * bs.length := by
  refine (h.getS i hti n hl hb hp hn hn2).mono ?_
  rw [hg]
  rintro e w' (⟨l', q', v, e1, rfl, s⟩ | ⟨q', e1, rfl, s, hq⟩)
  · cases e1
  · exact ⟨q', rfl, s, hq⟩
theorem St.shapeN {w0 w : World} {Ts : List Thing} {v : Value} {l : List Nat} {n : Nat} (h : St w0 w Ts) (j : Nat) (hj : Ts[j]? = some (tO 3 v (i64s l))) (hn : l.length = n) : ∃ ao cap, v = .slice ao n cap := by
  subst hn
  have := h.shape j hj; rwa [length_i64s] at this
/-- lengths that were put, alone or with bits behind, come back. -/
theorem gLens_app (bs : List Nat) (hm : MayP bs) (m : List Bool) (r : List Nat) : gLens (rbit true (packs true (lenBits bs ++ m) ++ r)) (8 * (packs true (lenBits bs ++ m) ++ r).length) 0 bs.length = some (bs, (lenBits bs).length) := by
  rw [gLens_put _ _ 0 bs hm (atn_app (lenBits bs ++ m) r _).left, Nat.zero_add, if_pos (by rw [List.length_append, length_packs, List.length_append]; omega)]
theorem gSel_app (vs : List Nat) (t : Nat) (hm : MayN vs t) (l : List Bool) (r : List Nat) : gSel (rbit true (packs true (l ++ selBits vs) ++ r)) (8 * (packs true (l ++ selBits vs) ++ r).length) l.length t = some (vs, l.length + (selBits vs).length) := by
  rw [gSel_put _ _ l.length t vs hm (atn_two l (selBits vs) r _), if_pos (by rw [List.length_append, length_packs, List.length_append]; omega)]
end Go.Proofs.Yteabjmebnbaonaa
