/- The lengths that the program finds, reckoned; plain. No program is named here. -/
import Derived.Test.YtblbggdglndiiaaLimBound
namespace Go.Proofs.Ytblbggdglndiiaa
set_option linter.unusedVariables false

/-- 'mix', with rounds that are counted. -/
def mixF : Nat → List Nat → List Nat → List (Nat × Bool)
  | 0, _, _ => []
  | n + 1, [], [] => []
  | n + 1, [], y :: b => (y, false) :: mixF n [] b
  | n + 1, x :: a, [] => (x, true) :: mixF n a []
  | n + 1, x :: a, y :: b => if x ≤ y then (x, true) :: mixF n a (y :: b) else (y, false) :: mixF n (x :: a) b
theorem mixF_eq : ∀ (n : Nat) (a b : List Nat), a.length + b.length ≤ n → mixF n a b = mix a b
  | 0, [], [], _ => by rw [mix_nil_l]; rfl
  | 0, x :: a, b, h => by simp at h
  | 0, [], y :: b, h => by simp at h
  | n + 1, [], [], _ => by rw [mix_nil_l]; rfl
  | n + 1, [], y :: b, h => by
    rw [mixF, mixF_eq n [] b (by simp at h ⊢; omega), mix_nil_l, mix_nil_l]; rfl
  | n + 1, x :: a, [], h => by
    rw [mixF, mixF_eq n a [] (by simp at h ⊢; omega), mix_nil_r, mix_nil_r]; rfl
  | n + 1, x :: a, y :: b, h => by
    rw [mixF, mix_cons]
    simp only [List.length_cons] at h
    split
    · rw [mixF_eq n a (y :: b) (by simp; omega)]
    · rw [mixF_eq n (x :: a) b (by simp; omega)]
def rowF (W : List Nat) : Nat → List (Nat × Bool)
  | 0 => mixF W.length W []
  | i + 1 => let p := pairs (wts (rowF W i)); mixF (W.length + p.length) W p
theorem rowF_eq (W : List Nat) : ∀ i, rowF W i = rowL W i
  | 0 => by rw [rowF, rowL, mixF_eq _ _ _ (by simp)]
  | i + 1 => by
    simp only [rowF]
    rw [rowF_eq W i, rowL, mixF_eq _ _ _ (Nat.le_refl _)]
def takesF (W : List Nat) : Nat → Nat → List Nat
  | 0, t => [syms (rowF W 0) t]
  | i + 1, t => let k := syms (rowF W (i + 1)) t; k :: takesF W i (2 * (t - k))
theorem takesF_eq (W : List Nat) : ∀ i t, takesF W i t = takes W i t
  | 0, t => by rw [takesF, takes, rowF_eq]
  | i + 1, t => by
    simp only [takesF]
    rw [takes, rowF_eq, takesF_eq W i]
def lensF (F P : List Nat) (i : Nat) : List Nat :=
  let ks := takesF (wtsOf F P) i (2 * P.length - 2)
  (List.range F.length).map fun s => (if P.length = 1 ∧ s ∈ P then 1 else 0) + outAt P ks s
/-- is it the order? -/
def ordB (F P : List Nat) : Bool := (P.zip P.tail).all (fun p => decide (F.getD p.1 0 < F.getD p.2 0 ∨ (F.getD p.1 0 = F.getD p.2 0 ∧ p.1 < p.2))) && decide (P.length = (F.filter fun x => decide (0 < x)).length) && P.all (fun s => decide (s < F.length ∧ 0 < F.getD s 0))
end Go.Proofs.Ytblbggdglndiiaa
