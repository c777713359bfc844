/- slices.swapRangeCmpFunc of ints: its walk. -/
import Derived.Sort.WalkA
import Derived.Sort.WalkC
import Derived.BigRegion
import Derived.BigQuiet
import Derived.Deep.LoopGhost
import Derived.WalkKit
import Derived.Test.YtblbggdglndiiaaLimCmps
namespace Go.Proofs.Ytblbggdglndiiaa
open Go.RowKit Go.Sort
set_option linter.unusedVariables false

def encN (s : Nat) : Value := .int .i64 s
/-- so many exchanged, from two places on. -/
def swpR (d : Array Nat) (a b : Nat) : Nat → Array Nat
  | 0 => d
  | n + 1 => swp (swpR d a b n) (a + n) (b + n)
theorem size_swpR (d : Array Nat) (a b : Nat) : ∀ n, (swpR d a b n).size = d.size
  | 0 => rfl
  | n + 1 => by rw [swpR, size_swp, size_swpR d a b n]
set_option maxHeartbeats 1000000 in
theorem lim_swapRange (blk off cap a b n : Nat) (fv : Value) (d : Array Nat) (w : World) (hH : Holds encN w blk off d) (hab : a + n ≤ b) (hb : b + n ≤ d.size) (hsz : d.size ≤ 2 ^ 40) :
    Calls Try.prog 36 #[.slice (some ⟨blk, off, none⟩) d.size cap, .int .i64 a, .int .i64 b, .int .i64 n, fv] w fun e w' => e = .returned (.tuple #[]) ∧ ∃ m, w' = (putRow encN w blk off (swpR d a b n)).drewN m := by
  have HST : Hid (w = (putRow encN w blk off d).drewN 0) := (putRow_self encN w blk off d hH).symm
  have HH : Hid (Holds encN w blk off d) := hH
  clear hH
  go_enter Try.func36, Try.ntmps36
  go_wp2_with fail
  go_loopw [10] (fun vi wr => ∃ (i m : Nat), vi = .int .i64 i ∧ i ≤ n ∧ wr = (putRow encN w blk off (swpR d a b i)).drewN m) (fun vi _ => n - (intOf vi).toNat)
  case atStart => exact ⟨0, 0, by go_num, by omega, HST.out⟩
  case round =>
    obtain ⟨i, m, rfl, hi, hwr⟩ := hrel
    by_cases hlt : i < n
    · have hltz : (i : Int) < (n : Int) := by omega
      have hHj := holds_putRow encN w blk off d (swpR d a b i) HH.out (size_swpR d a b i)
      obtain ⟨ca, fa⟩ := hHj (a + i) (by rw [size_swpR]; omega)
      obtain ⟨cb, fb⟩ := hHj (b + i) (by rw [size_swpR]; omega)
      obtain ⟨xa, hxa⟩ : ∃ x, (swpR d a b i)[a + i]! = x := ⟨_, rfl⟩
      obtain ⟨xb, hxb⟩ : ∃ x, (swpR d a b i)[b + i]! = x := ⟨_, rfl⟩
      rw [hxa] at ca
      rw [hxb] at cb
      have za : (a : Int) + (i : Int) < (d.size : Int) := by omega
      have zb : (b : Int) + (i : Int) < (d.size : Int) := by omega
      have wa : IntKind.i64.wrap ((a : Int) + (i : Int)) = ((a + i : Nat) : Int) := by rw [show (a : Int) + (i : Int) = ((a + i : Nat) : Int) by omega]; exact IntWalk.i64_in _ (by omega)
      have wb : IntKind.i64.wrap ((b : Int) + (i : Int)) = ((b + i : Nat) : Int) := by rw [show (b : Int) + (i : Int) = ((b + i : Nat) : Int) by omega]; exact IntWalk.i64_in _ (by omega)
      have ca' : wr.cell? ⟨blk, off + (a + i), none⟩ = some (encN xa) := by rw [hwr]; exact ca
      have cb' : wr.cell? ⟨blk, off + (b + i), none⟩ = some (encN xb) := by rw [hwr]; exact cb
      have fa' : wr.frozen? ⟨blk, off + (a + i), none⟩ = false := by rw [hwr]; exact fa
      have fb' : wr.frozen? ⟨blk, off + (b + i), none⟩ = false := by rw [hwr]; exact fb
      have HW : Hid (wr = (putRow encN w blk off (swpR d a b i)).drewN m) := hwr
      obtain ⟨p, hp⟩ : ∃ p, p = a + i := ⟨_, rfl⟩
      obtain ⟨q, hq⟩ : ∃ q, q = b + i := ⟨_, rfl⟩
      rw [← hp] at ca' fa' wa
      rw [← hq] at cb' fb' wb
      have pz : (p : Int) < (d.size : Int) := by omega
      have qz : (q : Int) < (d.size : Int) := by omega
      have n1 : ¬ p = q := by omega
      have n2 : ¬ q = p := by omega
      have HP : Hid (p = a + i ∧ q = b + i) := ⟨hp, hq⟩
      simp only [encN] at ca' cb'
      clear hp hq hwr ca cb fa fb hHj
      go_wp2_with fail
      go_big_region
      all_goals go_wp2
      refine ⟨⟨i + 1, m + 1, by go_num, by omega, ?_⟩, by simp [intOf]; omega⟩
      rw [HP.out.1, HP.out.2, HW.out, ← hxa, ← hxb]
      exact swap_worldC encN w blk off (swpR d a b i) m (a + i) (b + i) (by rw [size_swpR]; omega) (by rw [size_swpR]; omega)
    · obtain rfl : i = n := by omega
      go_wp2_with fail
      go_end0
      exact ⟨rfl, m, rfl⟩
end Go.Proofs.Ytblbggdglndiiaa
