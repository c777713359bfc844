/- limit.Lengths where it must fail: its walks. -/
import Derived.Test.YtblbggdglndiiaaLimBad
import Derived.Test.YtblbggdglndiiaaLimNext
import Derived.Test.YtblbggdglndiiaaLimMake
namespace Go.Proofs.Ytblbggdglndiiaa
open Go.RowKit
set_option linter.unusedVariables false

set_option maxHeartbeats 2000000 in
set_option maxRecDepth 100000 in
theorem lim_len_arg (v : Value) (fs : List Int) (lim : Int) (w : World) (hv : ViewL w v (ints fs)) (hl : fs.length ≤ 2 ^ 50) (hb : lim < 1 ∨ 17 < lim ∨ 512 < fs.length ∨ fs.any badF = true) :
    Calls Try.prog 11 #[v, .int .i64 lim] w fun e w' => e = .returned (.tuple #[.slice none 0 0, .int .i64 5]) ∧ w' = w := by
  have hc := fun h => lim_contains v fs w hv h
  obtain ⟨ao, cap, rfl⟩ := hv.shape
  rw [length_ints] at hc ⊢
  obtain ⟨N, hN⟩ : ∃ N, N = fs.length := ⟨_, rfl⟩
  rw [← hN] at hc hb hl ⊢
  have hNz : (N : Int) < 4611686018427387904 := by omega
  clear hv hN
  by_cases h1 : lim < 1
  · clear hb
    go_enter Try.func11, Try.ntmps11
    go_wp2_with fail
    go_ret2
    exact ⟨rfl, rfl⟩
  · by_cases h2 : 17 < lim
    · clear hb
      go_enter Try.func11, Try.ntmps11
      go_wp2_with fail
      go_ret2
      exact ⟨rfl, rfl⟩
    · by_cases h3 : 512 < N
      · have h3z : (512 : Int) < (N : Int) := by omega
        clear hb
        go_enter Try.func11, Try.ntmps11
        go_wp2_with fail
        go_ret2
        exact ⟨rfl, rfl⟩
      · have h3z : ¬ (512 : Int) < (N : Int) := by omega
        have h4 : fs.any badF = true := by
          rcases hb with h | h | h | h
          · exact (h1 h).elim
          · exact (h2 h).elim
          · exact (h3 h).elim
          · exact h
        have hc := hc (by omega)
        rw [h4] at hc
        clear hb h4 h3
        have h1z : 1 ≤ lim := by omega
        have h2z : lim ≤ 17 := by omega
        clear h1 h2
        go_enter Try.func11, Try.ntmps11
        go_wp2_with fail
        refine hc.mono ?_
        rintro e w' ⟨rfl, rfl⟩
        clear hc
        go_wp2_with fail
        go_ret2
        exact ⟨rfl, rfl⟩
theorem ints_nat {fs : List Int} {F : List Nat} (h : fs = F.map fun (x : Nat) => (x : Int)) : ints fs = intsL F := by rw [h]; simp [ints, intsL]
set_option maxHeartbeats 2000000 in
set_option maxRecDepth 100000 in
theorem lim_len_form (v : Value) (F P : List Nat) (L : Nat) (w : World) (hv : ViewL w v (intsL F)) (h1 : 1 ≤ L) (h17 : L ≤ 17) (hl : F.length ≤ 512) (hF : ∀ x ∈ F, x ≤ 2 ^ 40) (hP : IsOrd F P) (hn : 2 ^ L < P.length) :
    Calls Try.prog 11 #[v, .int .i64 L] w fun e w' => e = .returned (.tuple #[.slice none 0 0, .int .i64 2]) ∧ Ext w w' := by
  obtain ⟨fs, hfs⟩ : ∃ fs : List Int, fs = F.map fun (x : Nat) => (x : Int) := ⟨_, rfl⟩
  have hvi : ViewL w v (ints fs) := by rw [ints_nat hfs]; exact hv
  have hany : fs.any badF = false := by
    rw [List.any_eq_false]
    intro x hx
    rw [hfs, List.mem_map] at hx
    obtain ⟨y, hy, rfl⟩ := hx
    have := hF y hy
    simp [badF]
    omega
  have hc := lim_contains v fs w hvi (by rw [hfs, List.length_map]; omega)
  rw [hany] at hc
  have hr := lim_rarest v F w hv (by omega)
  obtain ⟨ao, cap, rfl⟩ := hv.shape
  rw [length_intsL] at *
  obtain ⟨N, hN⟩ : ∃ N, N = F.length := ⟨_, rfl⟩
  rw [← hN] at hv hl hc hr ⊢
  have HF : Hid (IsOrd F P ∧ 2 ^ L < P.length) := ⟨hP, hn⟩
  have h1z : ¬ (L : Int) < 1 := by omega
  have h2z : ¬ (17 : Int) < (L : Int) := by omega
  have h3z : ¬ (512 : Int) < (N : Int) := by omega
  have HR : Hid _ := hr
  clear hv hN hl hF hP hn hfs hvi hany h1 h17 hr
  go_enter Try.func11, Try.ntmps11
  go_wp2_with fail
  refine hc.mono ?_
  rintro e w' ⟨rfl, rfl⟩
  clear hc
  go_wp2_with fail
  refine Calls.mono HR.out ?_
  rintro e w1 ⟨Q, ov, rfl, hQ, hio⟩
  obtain rfl : Q = P := ord_same hQ HF.out.1
  obtain ⟨pa, pc, rfl⟩ := hio.shape
  have HIO := Lib.hid hio
  obtain ⟨n, hn⟩ : ∃ n, n = Q.length := ⟨_, rfl⟩
  rw [← hn] at HIO ⊢
  obtain ⟨w2, hmk, hbo⟩ := make_u8 w1 N (by omega)
  have HBO := Lib.hid hbo
  have HN := Lib.hid (show n = Q.length ∧ 2 ^ L < n from ⟨hn, by rw [hn]; exact HF.out.2⟩)
  clear hio hQ hn hbo
  obtain ⟨m, hm⟩ : ∃ m, m = 2 ^ L := ⟨_, rfl⟩
  have hmz : (2 : Int) ^ L = (m : Int) := by rw [hm]; push_cast; rfl
  have hmb : m ≤ 2 ^ 17 := by rw [hm]; exact Nat.pow_le_pow_right (by decide) (by omega)
  have hmw : IntKind.i64.wrap ((2 : Int) ^ L) = (m : Int) := by rw [hmz]; exact IntWalk.i64_in _ (by omega)
  have hmn : (m : Int) < (n : Int) := by have := HN.out.2; omega
  clear hm hmb hmz
  go_wp2_with fail
  go_ret2
  exact ⟨rfl, HIO.out.toExt.trans HBO.out.toExt⟩
end Go.Proofs.Ytblbggdglndiiaa
