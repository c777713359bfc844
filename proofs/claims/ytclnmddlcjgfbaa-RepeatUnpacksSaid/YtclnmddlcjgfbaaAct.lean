/- Acts: what they are as data, and in memory. -/
import Derived.Test.YtclnmddlcjgfbaaOpen
namespace Go.Proofs.Ytclnmddlcjgfbaa
open Go.ChangeShapes Go.WideShapes Go.ChangeAt Go.RowKit Go.Deep

/-- an act: a number, its bits, whether it aligns, whether it adds. -/
structure ActV where
  v : Nat
  n : Int
  al : Bool
  ad : Bool
def ActAt (w : World) (b o : Nat) (x : ActV) : Prop :=
  w.cell? ⟨b, o, none⟩ = some (.int .u32 x.v) ∧ w.cell? ⟨b, o + 1, none⟩ = some (.int .i64 x.n) ∧ w.cell? ⟨b, o + 2, none⟩ = some (.bool x.al) ∧ w.cell? ⟨b, o + 3, none⟩ = some (.bool x.ad)
/-- a value that reads as acts. -/
def ViewA (w : World) (v : Value) (l : List ActV) : Prop :=
  ∃ ao cap, v = .slice ao l.length cap ∧ (0 < l.length → ∃ b o, ao = some ⟨b, o, none⟩ ∧ ∀ i x, l[i]? = some x → ActAt w b (o + i * 4) x ∧ x.v < 2 ^ 32 ∧ -9223372036854775808 ≤ x.n ∧ x.n ≤ 9223372036854775807)
theorem ViewA.ext {w w' : World} {v : Value} {l : List ActV} (h : ViewA w v l) (he : Ext w w') : ViewA w' v l := by
  obtain ⟨ao, cap, rfl, hc⟩ := h
  refine ⟨ao, cap, rfl, fun h0 => ?_⟩
  obtain ⟨b, o, rfl, hx⟩ := hc h0
  refine ⟨b, o, rfl, fun i x hi => ?_⟩
  obtain ⟨⟨h1, h2, h3, h4⟩, hb⟩ := hx i x hi
  exact ⟨⟨cell_touch he h1 id, cell_touch he h2 id, cell_touch he h3 id, cell_touch he h4 id⟩, hb⟩
theorem cell_spot {w : World} {a : Addr} {v : Value} (h : w.cell? a = some v) : a.spot = none := by
  unfold World.cell? at h
  split at h
  · split at h
    · cases h
    · rename_i hs; simpa using hs
  · cases h
theorem view_of_cells (W : World) (a : Addr) (len cap : Nat) (hm : len ≤ maxLen)
    (h : ∀ i, i < len → ∃ x : ActV, x.v < 2 ^ 32 ∧ (-9223372036854775808 ≤ x.n ∧ x.n ≤ 9223372036854775807) ∧ W.cell? (a.add (i * 4)) = some (.int .u32 x.v) ∧ W.cell? (a.add (i * 4 + 1)) = some (.int .i64 x.n) ∧ W.cell? (a.add (i * 4 + 2)) = some (.bool x.al) ∧ W.cell? (a.add (i * 4 + 3)) = some (.bool x.ad)) :
    ∃ l : List ActV, ViewA W (.slice (some a) len cap) l ∧ l.length ≤ maxLen := by
  have hex : ∀ n, n ≤ len → ∃ l : List ActV, l.length = n ∧ ∀ i x, l[i]? = some x → x.v < 2 ^ 32 ∧ (-9223372036854775808 ≤ x.n ∧ x.n ≤ 9223372036854775807) ∧ W.cell? (a.add (i * 4)) = some (.int .u32 x.v) ∧ W.cell? (a.add (i * 4 + 1)) = some (.int .i64 x.n) ∧ W.cell? (a.add (i * 4 + 2)) = some (.bool x.al) ∧ W.cell? (a.add (i * 4 + 3)) = some (.bool x.ad) := by
    intro n
    induction n with
    | zero => exact fun _ => ⟨[], rfl, fun i x hi => by simp at hi⟩
    | succ n ih =>
      intro hn
      obtain ⟨l, hl, hx⟩ := ih (by omega)
      obtain ⟨y, hy⟩ := h n (by omega)
      refine ⟨l ++ [y], by simp [hl], fun i x hi => ?_⟩
      by_cases hil : i < l.length
      · rw [List.getElem?_append_left hil] at hi; exact hx i x hi
      · have hin : i < (l ++ [y]).length := (List.getElem?_eq_some_iff.1 hi).1
        have : i = n := by simp at hin; omega
        subst this
        rw [← hl] at hi
        simp at hi
        subst hi
        exact hy
  obtain ⟨l, hl, hx⟩ := hex len (Nat.le_refl _)
  refine ⟨l, ⟨some a, cap, by rw [hl], fun h0 => ?_⟩, by omega⟩
  obtain ⟨x0, _, _, hc0, _⟩ := h 0 (by omega)
  have hs : a.spot = none := cell_spot (by simpa [Addr.add] using hc0)
  refine ⟨a.block, a.off, by cases a; simp_all, fun i x hi => ?_⟩
  have e : ∀ k, a.add k = ⟨a.block, a.off + k, none⟩ := by
    intro k; unfold Addr.add; split
    · rename_i hk; subst hk; cases a; simp_all
    · rfl
  obtain ⟨b1, b2, c0, c1, c2, c3⟩ := hx i x hi
  rw [e] at c0 c1 c2 c3
  exact ⟨⟨c0, c1, c2, c3⟩, b1, b2⟩
end Go.Proofs.Ytclnmddlcjgfbaa
