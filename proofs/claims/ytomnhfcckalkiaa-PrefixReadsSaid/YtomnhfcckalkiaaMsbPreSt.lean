/- The calls of the Prefix laws, upon things apart. -/
import Derived.Lib.SmallJoins
import Derived.Test.YtomnhfcckalkiaaPreThings
import Derived.Test.YtomnhfcckalkiaaMsbPrePut
import Derived.Test.YtomnhfcckalkiaaMsbPreGet
import Derived.Test.YtomnhfcckalkiaaLsbPreSt
namespace Go.Proofs.Ytomnhfcckalkiaa
open Go.RowKit
set_option linter.unusedVariables false

abbrev mW (B : Nat) (l : List Bool) : Thing := tW 35 true B l
abbrev mR (B : Nat) (bs : List Nat) (p : Nat) : Thing := tR 79 B bs p

theorem msb_zero (w : World) : IsW 35 true (w.alloc (.cells #[.slice none 0 0, .int .i64 0] 35)) w.heap.size none [] :=
  ⟨_, heap_alloc_new w _, Owns.nil _ _ _, by simp⟩
theorem St.msb_neww {w0 w : World} {Ts : List Thing} (h : St w0 w Ts) : St w0 (w.alloc (.cells #[.slice none 0 0, .int .i64 0] 35)) (Ts ++ [mW w.heap.size []]) :=
  h.add ((Ext.refl w).alloc _) _ (FP w.heap.size none) ⟨none, msb_zero w, fun _ => Iff.rfl⟩ (fun k hk => by rcases hk with rfl | hk; exact Nat.le_refl _; cases hk)
theorem St.msb_newr {w0 w : World} {Ts : List Thing} (h : St w0 w Ts) (v : Value) (bs : List Nat) (hv : View w v bs) (hl : bs.length ≤ 2 ^ 46) :
    Calls Try.prog 21 #[v] w fun e w' => ∃ B, e = .returned (.pointer (some ⟨B, 0, none⟩)) ∧ St w0 w' (Ts ++ [mR B bs 0]) := by
  refine (msb_new v bs w hv hl).mono ?_
  rintro e w' ⟨B, og, rfl, r, hB, hg, x⟩
  exact ⟨B, rfl, h.add x _ (FP B og) ⟨og, r, fun _ => Iff.rfl⟩ (fun k hk => by rcases hk with rfl | hk; exact hB; exact hg k hk)⟩
theorem St.msb_bytes {w0 w : World} {Ts : List Thing} (h : St w0 w Ts) {B : Nat} {l : List Bool} (i : Nat) (hti : Ts[i]? = some (mW B l)) (hl : l.length < 2 ^ 40) :
    Calls Try.prog 17 #[.pointer (some ⟨B, 0, none⟩)] w fun e w' => ∃ v, e = .returned v ∧ St w0 w' (Ts ++ [oB v (packs true l)]) ∧ Ext w w' := by
  obtain ⟨og, hw, _⟩ := h.writer i hti
  refine (Go.Proofs.Ytomnhfcckalkiaa.msb_bytes B og l w hw hl).mono ?_
  rintro e w' ⟨v, og', rfl, o, g, x⟩
  exact ⟨v, rfl, h.new x (by rw [length_u8s]; exact o) g, x⟩
theorem St.msb_len {w0 w : World} {Ts : List Thing} (h : St w0 w Ts) {B : Nat} {l : List Bool} (i : Nat) (hti : Ts[i]? = some (mW B l)) :
    Calls Try.prog 19 #[.pointer (some ⟨B, 0, none⟩)] w fun e w' => e = .returned (.int .i64 l.length) ∧ w = w' := by
  obtain ⟨og, hw, _⟩ := h.writer i hti
  exact Go.Proofs.Ytomnhfcckalkiaa.msb_len B og l w hw
theorem St.msb_at {w0 w : World} {Ts : List Thing} (h : St w0 w Ts) {B : Nat} {bs : List Nat} {p : Nat} (i : Nat) (hti : Ts[i]? = some (mR B bs p)) :
    Calls Try.prog 26 #[.pointer (some ⟨B, 0, none⟩)] w fun e w' => e = .returned (.int .i64 p) ∧ w = w' := by
  obtain ⟨og, hr, _⟩ := h.reader i hti
  exact Go.Proofs.Ytomnhfcckalkiaa.msb_at B og bs p w hr
theorem St.msb_put {w0 w : World} {Ts : List Thing} (h : St w0 w Ts) {B T : Nat} {l : List Bool} {L : List Nat} (i j : Nat) (hti : Ts[i]? = some (mW B l)) (htj : Ts[j]? = some (tT T L)) (hij : j ≠ i) (hg : Good L) (s : Int) (hl : l.length + 100 < 2 ^ 40) :
    Calls Try.prog 13 #[.pointer (some ⟨T, 0, none⟩), .pointer (some ⟨B, 0, none⟩), .int .i64 s] w fun e w' => e = .returned (.int .i64 (putErr L s)) ∧ St w0 w' (Ts.set i (mW B (l ++ rowZ L s))) := by
  obtain ⟨S, ⟨ow, h1, h2⟩, _, h4, _⟩ := h.at i _ hti
  obtain ⟨S', ⟨og, og2, m, k1, k2⟩, k3⟩ := h4 j _ hij htj
  obtain ⟨ow', hw, _, _, hup⟩ := h.writer i hti
  have e : ow' = ow := by
    obtain ⟨v, a1, a2, _⟩ := h1
    obtain ⟨u, b1, b2, _⟩ := hw
    rw [a1] at b1
    have e : v = u := by injection b1 with b1; injection b1 with b1; simpa using b1
    rw [← a2.2, ← b2.2, e]
  subst e
  refine (pre_msb_put T og og2 m L s B ow' l w k1 hg hw (fun k hk hf => k3 k ((k2 k).2 hk) ((h2 k).2 hf)) hl).mono ?_
  rintro e w' ⟨rfl, p⟩
  exact ⟨rfl, hup _ _ p⟩
theorem St.msb_get {w0 w : World} {Ts : List Thing} (h : St w0 w Ts) {B T : Nat} {bs L : List Nat} {p : Nat} (i j : Nat) (hti : Ts[i]? = some (mR B bs p)) (htj : Ts[j]? = some (tT T L)) (hij : j ≠ i) (hg : Good L) (hl : bs.length ≤ 2 ^ 40) (hb : ∀ b ∈ bs, b < 256) (hp : p ≤ 8 * bs.length) :
    Calls Try.prog 25 #[.pointer (some ⟨T, 0, none⟩), .pointer (some ⟨B, 0, none⟩)] w fun e w' =>
      ∃ (s q : Nat) (er : Int), e = .returned (.tuple #[.int .i64 s, .int .i64 er]) ∧ IsDec (rowsL L) (ofBits true bs) p s q er ∧ St w0 w' (Ts.set i (mR B bs q)) := by
  obtain ⟨S, ⟨ow, h1, h2⟩, _, h4, _⟩ := h.at i _ hti
  obtain ⟨S', ⟨og, og2, m, k1, k2⟩, k3⟩ := h4 j _ hij htj
  obtain ⟨ow', hw, _, _, hup⟩ := h.reader i hti
  have e : ow' = ow := by
    obtain ⟨v, a1, a2, _⟩ := h1
    obtain ⟨u, b1, b2, _⟩ := hw
    rw [a1] at b1
    have e : v = u := by injection b1 with b1; injection b1 with b1; simpa using b1
    rw [← a2.2, ← b2.2, e]
  subst e
  refine (pre_msb_get T og og2 m L B ow' bs p w k1 hg hw (fun k hk hf => k3 k ((k2 k).2 hk) ((h2 k).2 hf)) hl hb hp).mono ?_
  rintro e w' ⟨s, q, er, rfl, d, r⟩
  exact ⟨s, q, er, rfl, d, hup _ _ r⟩
end Go.Proofs.Ytomnhfcckalkiaa
