/- Numbers as bytes, the lowest first: plain laws. No program is named here. -/
import Derived.Test.YtmhkjcoidjpocaaCrcLaw
namespace Go.Proofs.Ytmhkjcoidjpocaa
set_option linter.unusedVariables false

def leN (n v : Nat) : List Nat := (List.range n).map fun k => v / 256 ^ k % 256
theorem length_leN (n v : Nat) : (leN n v).length = n := by simp [leN]
theorem leN_snoc (n v : Nat) : leN (n + 1) v = leN n v ++ [v / 256 ^ n % 256] := by simp [leN, List.range_succ]
theorem leN_lt (n v : Nat) : ∀ b ∈ leN n v, b < 256 := fun b hb => by
  obtain ⟨k, _, rfl⟩ := List.mem_map.1 hb
  exact Nat.mod_lt _ (by decide)
theorem leN_zero (v : Nat) : leN 0 v = [] := rfl
def valL : List Nat → Nat
  | [] => 0
  | c :: l => c + 256 * valL l
theorem valL_snoc : ∀ (l : List Nat) (c : Nat), valL (l ++ [c]) = valL l + c * 256 ^ l.length
  | [], c => by simp [valL]
  | b :: l, c => by
    simp only [List.cons_append, valL, valL_snoc l c, List.length_cons, Nat.pow_succ, Nat.mul_add]
    rw [Nat.add_assoc]; congr 2
    rw [← Nat.mul_assoc, Nat.mul_comm 256 c, Nat.mul_assoc, Nat.mul_comm 256]
theorem valL_lt : ∀ (l : List Nat), (∀ b ∈ l, b < 256) → valL l < 256 ^ l.length
  | [], _ => by simp [valL]
  | b :: l, h => by
    have ih := valL_lt l (fun x hx => h x (List.mem_cons_of_mem _ hx))
    have hb := h b (List.mem_cons_self ..)
    simp only [valL, List.length_cons, Nat.pow_succ]
    omega
theorem pow256 (k : Nat) : 256 ^ k = 2 ^ (8 * k) := by rw [Nat.pow_mul]
theorem valL_leN (n v : Nat) : valL (leN n v) = v % 256 ^ n := by
  induction n with
  | zero => simp [leN, valL, Nat.mod_one]
  | succ n ih =>
    rw [leN_snoc, valL_snoc, ih, length_leN, Nat.pow_succ, Nat.mod_mul, Nat.mul_comm]
theorem leN_succ (n v : Nat) : leN (n + 1) v = (v % 256) :: leN n (v / 256) := by
  rw [leN, List.range_succ_eq_map, List.map_cons, List.map_map, leN]
  simp only [Nat.pow_zero, Nat.div_one]
  congr 1
  apply List.map_congr_left
  intro k _
  simp only [Function.comp, Nat.pow_succ]
  rw [Nat.mul_comm, Nat.div_div_eq_div_mul]
/-- bytes are the number that they say. -/
theorem leN_valL : ∀ (l : List Nat), (∀ b ∈ l, b < 256) → leN l.length (valL l) = l
  | [], _ => rfl
  | b :: l, h => by
    have hb := h b (List.mem_cons_self ..)
    rw [List.length_cons, leN_succ, valL, show (b + 256 * valL l) % 256 = b by omega, show (b + 256 * valL l) / 256 = valL l by omega, leN_valL l (fun x hx => h x (List.mem_cons_of_mem _ hx))]
end Go.Proofs.Ytmhkjcoidjpocaa
