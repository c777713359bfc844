/- pressworkref02: Bits. -/
import Derived.Test.YtaabmlnbadpfgaaView
import Derived.Test.YtaabmlnbadpfgaaBnd4
import Derived.Test.YtaabmlnbadpfgaaRows
import Derived.Outline
import Derived.Deep.DeepMust
namespace Go.Proofs.Ytaabmlnbadpfgaa
open Go.RowKit
set_option linter.unusedVariables false

theorem msb_infoB : (Try.prog.info? 4).map (fun i => (i.zero, i.size, i.bytes)) = some (some (.bool false), 1, 1) := by kernel_rfl
def lsbRowAt (v n k : Nat) : List Bool := List.replicate (n - k) false ++ (bitsOf true v n).drop (n - k)
theorem msb_row_set (v n k : Nat) (hk : k < n) : (lsbRowAt v n k).set (n - 1 - k) (v.testBit k) = lsbRowAt v n (k + 1) := by
  have h := set_high (bitsOf true v n) k n (length_bitsOf _ _ _) hk
  have e : (bitsOf true v n)[n - 1 - k]'(by rw [length_bitsOf]; omega) = v.testBit k := by
    simp only [bitsOf, List.getElem_map, List.getElem_range]; simp; congr 1; omega
  rw [e] at h
  exact h
theorem msb_bit_of_div (v k : Nat) : (((v / 2 ^ k : Nat) : Int) % 2 == 1) = v.testBit k := by
  rw [Nat.testBit_eq_decide_div_mod_eq, Bool.eq_iff_iff, beq_iff_eq, decide_eq_true_iff]
  generalize v / 2 ^ k = q
  omega
set_option maxHeartbeats 800000 in
theorem msb_ref_bits (v n : Nat) (w : World) (hv : v < 2 ^ 32) (hn : n ≤ 32) :
    Calls Try.prog 47 #[.int .u32 v, .int .i64 n] w (NewRow w (bitsOf true v n)) := by
  obtain ⟨i0, hi, hz0, hz1, hz2⟩ := info_parts msb_infoB
  go_enter Try.func47, Try.ntmps47
  go_wp2_with (at_make; go_must (refine wpList_make_full _ rfl (.tmp 7) (.tmp 7) 56 rfl 0 4 i0 (.bool false) 1 Try.underlying56 hi hz0 hz1 .i64 .i64 n n n rfl rfl rfl rfl (by rw [hz2]; omega) (by unfold maxLen; omega) (Nat.zero_le _) ?_))
  intro w1 hown hgrow
  have ho : Owns w1 4 1 (.slice (some ⟨w.heap.size, 0, none⟩) n n) (some w.heap.size) n (bls (lsbRowAt v n 0)) := by
    refine ⟨?_, rfl⟩
    have e : (madeCells #[Value.bool false] n).toList = bls (lsbRowAt v n 0) := by
      rw [made_one]; simp [lsbRowAt, bls, bitsOf]
    rw [← e]; exact hown
  have hx : Ext w w1 := (Touch.refl _ w).grown hgrow (fun k e => by cases e)
  have HO := Lib.hid ho
  have HX := Lib.hid hx
  clear hown hgrow ho hx hi hz0 hz1 hz2
  go_wp2_with fail
  go_loopw [0, 6] (fun a i wr => ∃ k : Nat, k ≤ n ∧ i = .int .i64 k ∧ a = .int .u32 (v / 2 ^ k : Nat) ∧ Owns wr 4 1 (.slice (some ⟨w.heap.size, 0, none⟩) n n) (some w.heap.size) n (bls (lsbRowAt v n k)) ∧ Ext w wr) (fun _ i _ => n - (intOf i).toNat)
  case atStart => exact ⟨0, Nat.zero_le _, rfl, by simp, HO.out, HX.out⟩
  case round =>
    obtain ⟨k, hk, rfl, rfl, ho, hx⟩ := hrel
    by_cases hlt : k < n
    · have hb := msb_bit_of_div v k
      have hset := msb_row_set v n k hlt
      have hdiv : v / 2 ^ (k + 1) = v / 2 ^ k / 2 := by rw [Nat.pow_succ, Nat.div_div_eq_div_mul]
      have hv2 : v / 2 ^ k < 2 ^ 32 := Nat.lt_of_le_of_lt (Nat.div_le_self _ _) hv
      have hlen : (bls (lsbRowAt v n k)).length = n := by simpa using ho.1.1
      have hcell : wr.cell? ⟨w.heap.size, n - 1 - k, none⟩ = some ((bls (lsbRowAt v n k))[n - 1 - k]'(by omega)) := ho.cell _ _ (List.getElem?_eq_getElem (by omega))
      have hfree := ho.free (n - 1 - k)
      have ho2 := ho.set (n - 1 - k) (.bool (v.testBit k)) (by omega)
      have e2 : (bls (lsbRowAt v n k)).set (n - 1 - k) (.bool (v.testBit k)) = bls (lsbRowAt v n (k + 1)) := by
        rw [← hset, bls, bls, List.map_set]
      rw [e2] at ho2
      have hx2 : Ext w (wr.setCell ⟨w.heap.size, n - 1 - k, none⟩ (.bool (v.testBit k))) := Touch.setCell hx (Or.inr (Nat.le_refl _)) _
      generalize (bls (lsbRowAt v n k))[n - 1 - k]'(by omega) = old at hcell
      generalize hq : v / 2 ^ k = q at *
      generalize hbit : v.testBit k = bit at *
      have HO2 := Lib.hid ho2
      have HX2 := Lib.hid hx2
      have HD := Lib.hid hdiv
      clear ho2 hx2 e2 hlen ho hx hset hdiv hq hbit
      have k1 : ((n : Int) - 1 - k).toNat = n - 1 - k := by omega
      go_wp2_with fail
      go_roundw
      case rel => exact ⟨k + 1, by omega, by go_num, by rw [HD.out]; go_num, HO2.out, HX2.out⟩
      case measure => simp [intOf]; omega
    · obtain rfl : k = n := by omega
      have e3 : lsbRowAt v k k = bitsOf true v k := by simp [lsbRowAt]
      rw [e3] at ho
      have HO3 := Lib.hid ho
      have HX3 := Lib.hid hx
      clear ho hx e3
      go_wp2_with fail
      go_ret
      exact ⟨_, _, rfl, by rw [length_bitsOf]; exact HO3.out, fun g e => (by cases e; exact Nat.le_refl _), HX3.out⟩
end Go.Proofs.Ytaabmlnbadpfgaa
