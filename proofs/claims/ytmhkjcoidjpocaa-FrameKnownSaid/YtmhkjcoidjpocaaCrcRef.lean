/- pressworkref03.Low, crc.Low: their walks. -/
import Derived.Test.YtmhkjcoidjpocaaCrcLaw
import Derived.Test.YtmhkjcoidjpocaaBO
import Derived.Deep.WholeRow
namespace Go.Proofs.Ytmhkjcoidjpocaa
open Go.RowKit
set_option linter.unusedVariables false

theorem iter_ref_lt (V c : Nat) (h : V < 4294967296) : ∀ k, (iter refBit k (V, c)).1 < 4294967296
  | 0 => h
  | k + 1 => by
    have ih := iter_ref_lt V c h k
    have e : iter refBit (k + 1) (V, c) = refBit (iter refBit k (V, c)) := rfl
    rw [e]
    generalize iter refBit k (V, c) = s at *
    obtain ⟨x, y⟩ := s
    simp only [refBit] at *
    split
    · exact xor_lt32 (by omega) (by decide)
    · omega
set_option maxHeartbeats 4000000 in
theorem crc_ref_low (v : Value) (bs : List Nat) (w : World) (hv : ViewL w v (u8s bs)) (hb : ∀ b ∈ bs, b < 256) (hl : bs.length ≤ 2 ^ 40) :
    Calls Try.prog 25 #[v] w fun e w' => e = .returned (.int .u32 (crcL bs)) ∧ w = w' := by
  obtain ⟨ao, cap, rfl⟩ := hv.shape
  rw [length_u8s] at *
  have HV := Lib.hid hv
  have HB := Lib.hid hb
  clear hv hb
  go_enter Try.func25, Try.ntmps25
  go_wp2_with fail
  go_loopw [3, 4] (fun vv iv wr => ∃ i : Nat, iv = .int .i64 i ∧ i ≤ bs.length ∧ vv = .int .u32 (crcR (bs.take i)) ∧ wr = w) (fun _ iv _ => bs.length - (intOf iv).toNat)
  case atStart => exact ⟨0, rfl, Nat.zero_le _, rfl, rfl⟩
  case round =>
    obtain ⟨i, rfl, hi, rfl, rfl⟩ := hrel
    have hlt := crcR_lt (bs.take i)
    by_cases hin : i < bs.length
    · have hini : (i : Int) < (bs.length : Int) := by omega
      obtain ⟨b, o, rfl, _, hc⟩ := viewL_cells HV.out (by rw [length_u8s]; omega)
      obtain ⟨c, hcc⟩ : ∃ c, bs[i]? = some c := ⟨_, List.getElem?_eq_getElem hin⟩
      have cB := hc i (.int .u8 c) (by simp [u8s, hcc])
      have hc256 := HB.out c (List.mem_of_getElem? hcc)
      have HST := Lib.hid (show crcR (bs.take (i + 1)) = crcByte (crcR (bs.take i)) c by rw [List.take_add_one, hcc, Option.toList_some, crcR_snoc])
      generalize crcR (bs.take i) = V at *
      have HRB := Lib.hid (ref_byte V c hc256)
      clear hc hcc
      go_wp2_with fail
      go_loopw [3, 5, 6] (fun vv cv kv wr' => ∃ k : Nat, kv = .int .i64 k ∧ k ≤ 8 ∧ vv = .int .u32 (iter refBit k (V, c)).1 ∧ cv = .int .u8 (iter refBit k (V, c)).2 ∧ wr' = wr) (fun _ _ kv _ => 8 - (intOf kv).toNat)
      case atStart => exact ⟨0, rfl, by omega, rfl, rfl, rfl⟩
      case round =>
        obtain ⟨k, rfl, hk, rfl, rfl, rfl⟩ := hrel
        have h2 := (iter_refBit k (V, c)).2
        have hx := iter_ref_lt V c hlt k
        have hst : iter refBit (k + 1) (V, c) = refBit (iter refBit k (V, c)) := rfl
        by_cases hk8 : k < 8
        · have hk8i : (k : Int) < 8 := by omega
          have hy : (iter refBit k (V, c)).2 < 256 := by rw [h2]; exact Nat.lt_of_le_of_lt (Nat.div_le_self _ _) hc256
          have HS := Lib.hid hst
          clear h2 hst
          generalize iter refBit k (V, c) = s at *
          obtain ⟨x, y⟩ := s
          simp only at *
          have ht : (((y : Int) + (x : Int)) % 4294967296).tmod 2 = (((y + x) % 2 : Nat) : Int) := by rw [Int.tmod_eq_emod_of_nonneg (by omega)]; omega
          have hd : (x : Int).tdiv 2 = ((x / 2 : Nat) : Int) := by rw [Int.tdiv_eq_ediv_of_nonneg (by omega)]; omega
          by_cases hp : (y + x) % 2 = 1
          · rw [hp] at ht
            go_wp2_with fail
            have e1 : bits .xor .u32 ((x : Int) / 2) 3988292384 = ((x / 2 ^^^ poly : Nat) : Int) := by
              have := u32_xor_nat (x / 2) poly (by omega) (by decide)
              rw [← this]; simp [poly]
            rw [e1]
            exact ⟨⟨k + 1, by go_num, by omega, by rw [HS.out, refBit]; simp only [hp, if_true], by rw [HS.out, refBit]; simp, trivial⟩, by simp [intOf]; omega⟩
          · have hp0 : (y + x) % 2 = 0 := by omega
            rw [hp0] at ht
            go_wp2_with fail
            exact ⟨⟨k + 1, by go_num, by omega, by rw [HS.out, refBit]; simp [hp], by rw [HS.out, refBit]; simp, trivial⟩, by simp [intOf]; omega⟩
        · obtain rfl : k = 8 := by omega
          have e1 := congrArg Prod.fst HRB.out
          have e2 := congrArg Prod.snd HRB.out
          simp only at e1 e2
          rw [e1, e2]
          clear h2 hst hx e1 e2
          go_wp2_with fail
          go_roundw
          case rel => exact ⟨i + 1, by go_num, by omega, by rw [HST.out], trivial⟩
          case measure => simp [intOf]; omega
    · obtain rfl : i = bs.length := by omega
      rw [List.take_length] at hlt ⊢
      have e1 : bits .xor .u32 ((crcR bs : Nat) : Int) 4294967295 = ((crcL bs : Nat) : Int) := by
        have := u32_xor_nat (crcR bs) 4294967295 hlt (by decide)
        exact this
      have HE := Lib.hid e1
      clear e1
      go_wp2_with fail
      go_ret
      exact ⟨by rw [← HE.out]; rfl, rfl⟩
end Go.Proofs.Ytmhkjcoidjpocaa
