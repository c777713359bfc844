/- A table, and rows of rows, as things apart. -/
import Derived.Test.YtomnhfcckalkiaaPreRows
import Derived.Test.YtomnhfcckalkiaaPreNew
import Derived.Test.YtomnhfcckalkiaaLsbPrePut
namespace Go.Proofs.Ytomnhfcckalkiaa
open Go.RowKit
set_option linter.unusedVariables false

def tT (B : Nat) (L : List Nat) : Thing where
  has w S := ∃ og og2 m, IsT w B og og2 m L ∧ ∀ k, S k ↔ TB B og og2 m k
  keep := fun ⟨og, og2, m, h, e⟩ t n => ⟨og, og2, m, h.keep t (fun k hk => n k ((e k).2 hk)), e⟩
  lt := fun ⟨og, og2, m, h, e⟩ k hk => h.lt k ((e k).1 hk)
def tRows (v : Value) (rows : List (List Nat)) : Thing where
  has w S := ∃ og In, RowsB w og In v rows ∧ ∀ k, S k ↔ (og = some k ∨ In k)
  keep := fun ⟨og, In, h, e⟩ t n => ⟨og, In, h.keep t (fun g eg => n g ((e g).2 (Or.inl eg))) (fun g eg => n g ((e g).2 (Or.inr eg))), e⟩
  lt := fun ⟨og, In, h, e⟩ k hk => by
    rcases (e k).1 hk with hk | hk
    · exact h.glt k hk
    · exact h.lt k hk
theorem St.tab {w0 w w' : World} {Ts : List Thing} {L : List Nat} {B : Nat} {og og2 : Option Nat} {m : Nat} (h : St w0 w Ts) (ht : IsT w' B og og2 m L) (hn : ∀ k, TB B og og2 m k → w.heap.size ≤ k) (x : Ext w w') : St w0 w' (Ts ++ [tT B L]) :=
  h.add x _ (TB B og og2 m) ⟨og, og2, m, ht, fun _ => Iff.rfl⟩ hn
theorem St.rws {w0 w w' : World} {Ts : List Thing} {rows : List (List Nat)} {v : Value} (h : St w0 w Ts) (hr : RRw w rows v w') : St w0 w' (Ts ++ [tRows v rows]) := by
  obtain ⟨og, In, h1, h2, h3⟩ := hr
  exact h.add h3 _ (fun k => og = some k ∨ In k) ⟨og, In, h1, fun _ => Iff.rfl⟩ (fun k hk => (h2 k hk).1)
theorem St.bits {w0 w : World} {Ts : List Thing} {B : Nat} {L : List Nat} (h : St w0 w Ts) (j : Nat) (hj : Ts[j]? = some (tT B L)) (hg : Good L) (s : Int) :
    Calls Try.prog 14 #[.pointer (some ⟨B, 0, none⟩), .int .i64 s] w fun e w' => e = .returned (.int .i64 (bitsL L s)) ∧ w = w' := by
  obtain ⟨S, og, og2, m, h1, _⟩ := h.has hj
  exact pre_bits B og og2 m L s w h1 hg
/-- a row of rows: its cells. -/
theorem St.rowsAt {w0 w : World} {Ts : List Thing} {v : Value} {rows : List (List Nat)} (h : St w0 w Ts) (j : Nat) (hj : Ts[j]? = some (tRows v rows)) (n : Nat) (hn : rows.length = n) :
    ∃ ao cap, v = .slice ao n cap ∧ ∀ (i : Nat) (r : List Nat) (m : Nat), rows[i]? = some r → r.length = m → ∃ g uo uc, ao = some ⟨g, 0, none⟩ ∧ w.cell? ⟨g, i, none⟩ = some (.slice uo m uc) ∧ ViewL w (.slice uo m uc) (u8s r) ∧ View w (.slice uo m uc) r := by
  subst hn
  obtain ⟨S, og, In, ⟨⟨vs, o, hi⟩, _, _⟩, _⟩ := h.has hj
  obtain ⟨ao, cap, rfl⟩ := o.shape
  refine ⟨ao, cap, rfl, fun i r m hr hm => ?_⟩
  subst hm
  obtain ⟨u, gi, k1, k2, k3⟩ := hi i r hr
  obtain ⟨uo, uc, rfl⟩ := k2.shape
  rcases o.form with ⟨_, _, h0, _⟩ | ⟨g, c, cur, e1, e2, _⟩
  · have := getE_lt hr; omega
  · cases e2
    cases e1
    refine ⟨g, uo, uc, rfl, o.cell i _ k1, ?_, k2.view⟩
    have := k2.viewL
    exact this
end Go.Proofs.Ytomnhfcckalkiaa
