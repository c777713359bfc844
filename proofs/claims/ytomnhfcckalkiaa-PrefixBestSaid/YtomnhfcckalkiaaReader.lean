/- What a reader of bits is in memory. -/
import Derived.Test.YtomnhfcckalkiaaTouch
import Derived.Test.YtomnhfcckalkiaaBits
namespace Go.Proofs.Ytomnhfcckalkiaa
open Go.RowKit

/-- nothing but draws. -/
def Drew (w w' : World) : Prop := ∃ q, w' = w.drewN q
theorem Drew.touch {w w' : World} (h : Drew w w') (S : Nat → Prop) : Touch S w w' := by obtain ⟨q, rfl⟩ := h; exact (Touch.refl S w).drewN q
/-- block B is a reader (of type T) of the bytes bs, which lie in block og; it stands at bit i. -/
def IsR (T : Nat) (w : World) (B : Nat) (og : Option Nat) (bs : List Nat) (i : Nat) : Prop :=
  ∃ v, w.heap[B]? = some (.cells #[v, .int .i64 i] T (0, 0)) ∧ Owns w 5 1 v og bs.length (u8s bs) ∧ og ≠ some B
theorem IsR.keep {T : Nat} {w w' : World} {B : Nat} {og : Option Nat} {bs : List Nat} {i : Nat} {S : Nat → Prop} (h : IsR T w B og bs i) (ht : Touch S w w') (hB : ¬ S B) (hg : ∀ g, og = some g → ¬ S g) : IsR T w' B og bs i := by
  obtain ⟨v, h1, h2, h3⟩ := h
  exact ⟨v, ht.keep h1 hB, h2.keep ht hg, h3⟩
theorem IsR.lt {T : Nat} {w : World} {B : Nat} {og : Option Nat} {bs : List Nat} {i : Nat} (h : IsR T w B og bs i) : B < w.heap.size := block_lt h.choose_spec.1
theorem IsR.glt {T : Nat} {w : World} {B : Nat} {og : Option Nat} {bs : List Nat} {i : Nat} (h : IsR T w B og bs i) : ∀ g, og = some g → g < w.heap.size := by
  obtain ⟨v, _, h2, _⟩ := h; exact h2.lt
/-- what an act on a reader leaves. -/
def RPost (T : Nat) (w : World) (B : Nat) (og : Option Nat) (bs : List Nat) (i' : Nat) (w' : World) : Prop := IsR T w' B og bs i' ∧ Touch (fun k => k = B) w w'
theorem RPost.refl {T : Nat} {w : World} {B : Nat} {og : Option Nat} {bs : List Nat} {i : Nat} (h : IsR T w B og bs i) : RPost T w B og bs i w := ⟨h, Touch.refl _ _⟩
theorem RPost.drewN {T : Nat} {w w' : World} {B : Nat} {og : Option Nat} {bs : List Nat} {i : Nat} (h : RPost T w B og bs i w') (n : Nat) : RPost T w B og bs i (w'.drewN n) := ⟨h.1, h.2.drewN n⟩
theorem RPost.drew {T : Nat} {w w' : World} {B : Nat} {og : Option Nat} {bs : List Nat} {i : Nat} (h : RPost T w B og bs i w') : RPost T w B og bs i w'.drew := ⟨h.1, h.2.drew⟩
theorem RPost.step {T : Nat} {w w' w'' : World} {B : Nat} {og : Option Nat} {bs : List Nat} {i i' : Nat} (h : RPost T w B og bs i w') (k : RPost T w' B og bs i' w'') : RPost T w B og bs i' w'' := ⟨k.1, h.2.trans k.2 fun _ _ h => h⟩
theorem rset_post {T : Nat} {w : World} {B : Nat} {og : Option Nat} {bs : List Nat} {i : Nat} (h : IsR T w B og bs i) (i' : Nat) : RPost T w B og bs i' (w.setCell ⟨B, 1, none⟩ (.int .i64 i')) := by
  obtain ⟨v, h1, h2, h3⟩ := h
  have ht : Touch (fun k => k = B) w (w.setCell ⟨B, 1, none⟩ (.int .i64 i')) := (Touch.refl (fun k => k = B) w).setCell (Or.inl rfl) _
  refine ⟨⟨v, ?_, h2.keep ht (fun g e hk => h3 (by rw [e]; exact congrArg some hk)), h3⟩, ht⟩
  have e := heap_setCell_at (w := w) (a := ⟨B, 1, none⟩) (u := .int .i64 i') h1 rfl
  rw [e]; simp
/-- a new reader. -/
def NewR (T : Nat) (w : World) (bs : List Nat) (e : Ending) (w' : World) : Prop :=
  ∃ B og, e = .returned (.pointer (some ⟨B, 0, none⟩)) ∧ IsR T w' B og bs 0 ∧ w.heap.size ≤ B ∧ (∀ g, og = some g → w.heap.size ≤ g) ∧ Touch (fun _ => False) w w'
theorem new_post {T : Nat} {w w' : World} {bs : List Nat} {u : Value} {og : Option Nat} (h1 : Owns w' 5 1 u og bs.length (u8s bs)) (h2 : ∀ g, og = some g → w.heap.size ≤ g) (h3 : Touch (fun _ => False) w w') :
    NewR T w bs (.returned (.pointer (some ⟨w'.heap.size, 0, none⟩))) (w'.alloc (.cells #[u, .int .i64 0] T)) := by
  have ht : Touch (fun _ => False) w' (w'.alloc (.cells #[u, .int .i64 0] T)) := (Touch.refl _ w').alloc _
  refine ⟨w'.heap.size, og, rfl, ⟨u, ?_, h1.keep ht (fun _ _ h => h), fun e => ?_⟩, h3.size, h2, h3.trans ht (fun _ _ h => h)⟩
  · exact heap_alloc_new w' _
  · have := h1.lt _ e; omega
theorem IsR.ext {T : Nat} {w w' : World} {B : Nat} {og : Option Nat} {bs : List Nat} {i : Nat} (h : IsR T w B og bs i) (ht : Ext w w') : IsR T w' B og bs i := h.keep ht (fun f => f) (fun _ _ f => f)
theorem Drew.ext {w w' : World} (h : Drew w w') : Ext w w' := h.touch _
end Go.Proofs.Ytomnhfcckalkiaa
