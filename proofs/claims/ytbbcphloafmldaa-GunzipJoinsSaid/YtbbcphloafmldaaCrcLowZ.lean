/- crc.Low: its walk. -/
import Derived.Test.YtbbcphloafmldaaBnd6
import Derived.Test.YtbbcphloafmldaaBnd10
namespace Go.Proofs.Ytbbcphloafmldaa
open Go.RowKit
set_option linter.unusedVariables false

theorem crc_low1 (x : Int) (w : World) : Calls Try.prog 50 #[.int .u32 x] w fun e w' => e = .returned (.int .u32 x) ∧ w = w' := by
  go_enter Try.func50, Try.ntmps50
  go_wp2_with fail
  go_ret
  exact ⟨rfl, rfl⟩
theorem crc_low2 (v : Nat) (h : v < 4294967296) (w : World) : Calls Try.prog 51 #[.int .u32 v] w fun e w' => e = .returned (.int .u32 (crcBit v)) ∧ w = w' := by
  have h1 := u32_and_nat v 1 h (by decide)
  rw [Nat.and_one_is_mod] at h1
  have hp : v % 2 = 0 ∨ v % 2 = 1 := by omega
  rcases hp with hp | hp
  · rw [hp] at h1
    have h1 : bits .and .u32 (v : Int) 1 = 0 := h1
    have HB := Lib.hid (show crcBit v = v / 2 by rw [crcBit, if_neg (by omega)])
    have h2 : bits .and .u32 3988292384 0 = 0 := by decide
    have h3 : bits .xor .u32 ((v : Int) / 2) 0 = ((v / 2 : Nat) : Int) := by
      have := u32_xor_nat (v / 2) 0 (by omega) (by decide)
      rw [Nat.xor_zero] at this
      rw [← this]; simp
    go_enter Try.func51, Try.ntmps51
    go_wp2_with fail
    go_ret
    exact ⟨by rw [HB.out]; rfl, rfl⟩
  · rw [hp] at h1
    have h1 : bits .and .u32 (v : Int) 1 = 1 := h1
    have HB := Lib.hid (show crcBit v = v / 2 ^^^ poly by rw [crcBit, if_pos hp])
    have h2 : bits .and .u32 3988292384 4294967295 = 3988292384 := by decide
    have h3 : bits .xor .u32 ((v : Int) / 2) 3988292384 = ((v / 2 ^^^ poly : Nat) : Int) := by
      have := u32_xor_nat (v / 2) poly (by omega) (by decide)
      rw [← this]; simp [poly]
    go_enter Try.func51, Try.ntmps51
    go_wp2_with fail
    go_ret
    exact ⟨by rw [HB.out]; rfl, rfl⟩
/-- the table, so far. -/
def tabTo (i : Nat) : List Nat := (List.range i).map crc8 ++ List.replicate (256 - i) 0
theorem tabTo_len (i : Nat) (h : i ≤ 256) : (tabTo i).length = 256 := by simp [tabTo]; omega
theorem tabTo_set (i : Nat) (h : i < 256) : (tabTo i).set i (crc8 i) = tabTo (i + 1) := by
  rw [tabTo, tabTo, List.set_append_right _ _ (by simp)]
  simp only [List.length_map, List.length_range, Nat.sub_self, List.range_succ, List.map_append, List.map_cons, List.map_nil, List.append_assoc]
  congr 1
  rw [show 256 - i = (256 - (i + 1)) + 1 by omega, List.replicate_succ, List.set_cons_zero]; rfl
theorem tabTo_zero : tabTo 0 = List.replicate 256 0 := by simp only [tabTo, List.range_zero, List.map_nil, List.nil_append, Nat.sub_zero]
theorem tabTo_end : tabTo 256 = tabL := by simp [tabTo, tabL]
theorem crc_arr : (Try.prog.info? 78).map (fun i => (i.zero, i.size)) = some (some (.agg (u32s (List.replicate 256 0)).toArray), 256) := by kernel_rfl
set_option maxRecDepth 100000 in
set_option maxHeartbeats 4000000 in
theorem crc_steps (w : World) : Calls Try.prog 49 #[.func (.func 50) #[] #[], .func (.func 51) #[] #[]] w fun e w' => e = .returned (.agg (u32s tabL).toArray) ∧ Ext w w' := by
  obtain ⟨hz, hsz⟩ := zero_of_info crc_arr
  obtain ⟨Z, hZ⟩ : ∃ Z, Z = (u32s (List.replicate 256 0)).toArray := ⟨_, rfl⟩
  rw [← hZ] at hz
  have HZ := Lib.hid hZ
  have HSZ := Lib.hid hsz
  clear hZ hsz
  go_enter Try.func49, Try.ntmps49
  go_wp2_with fail
  clear hz
  obtain ⟨A, hA⟩ : ∃ A, A = w.heap.size := ⟨_, rfl⟩
  obtain ⟨w1, hw1⟩ : ∃ w1, w1 = (w.alloc (.cells Z 78)).alloc (.cells Z 78) := ⟨_, rfl⟩
  have hb : w1.heap[A + 1]? = some (.cells (u32s (tabTo 0)).toArray 78 (0, 0)) := by
    rw [hw1, hA, show w.heap.size + 1 = (w.alloc (.cells Z 78)).heap.size by rw [World.size_alloc], show (u32s (tabTo 0)).toArray = Z by rw [HZ.out, tabTo_zero]]
    exact heap_alloc_new _ _
  have ha : w1.heap[A]? = some (.cells Z 78 (0, 0)) := by
    rw [hw1, hA, Below.heap_alloc _ _ _ (by simp)]; exact heap_alloc_new _ _
  have hx : Ext w w1 := by rw [hw1]; exact ((Ext.refl w).alloc _).alloc _
  have HA := Lib.hid hA
  have HA1 := Lib.hid ha
  have HB := Lib.hid hb
  have HX := Lib.hid hx
  rw [← hw1, ← hA]
  clear hw1 hA hb ha hx
  go_loopw [8] (fun iv wr => ∃ i : Nat, iv = .int .i64 i ∧ i ≤ 256 ∧ wr.heap[A + 1]? = some (.cells (u32s (tabTo i)).toArray 78 (0, 0)) ∧ Touch (fun k => k = A + 1) w1 wr) (fun iv _ => 256 - (intOf iv).toNat)
  case atStart => exact ⟨0, rfl, by omega, HB.out, Touch.refl _ _⟩
  case round =>
    obtain ⟨i, rfl, hi, hb, ht⟩ := hrel
    have HBI := Lib.hid hb
    have HT := Lib.hid ht
    clear hb ht
    by_cases hin : i < 256
    · have hini : (i : Int) < 256 := by omega
      go_wp2_with fail
      refine (crc_low1 i _).mono ?_
      rintro e w5 ⟨rfl, rfl⟩
      go_wp2_with fail
      go_loopw [7, 15] (fun vv kv wr' => ∃ k : Nat, kv = .int .i64 k ∧ k ≤ 8 ∧ vv = .int .u32 (iter crcBit k i : Nat) ∧ wr' = wr) (fun _ kv _ => 8 - (intOf kv).toNat)
      case atStart => exact ⟨0, rfl, by omega, rfl, rfl⟩
      case round =>
        obtain ⟨k, rfl, hk, rfl, rfl⟩ := hrel
        have hlt := iter_lt crcBit (fun _ => crcBit_lt) k i (by omega)
        by_cases hk8 : k < 8
        · have hk8i : (k : Int) < 8 := by omega
          have HS := Lib.hid (show iter crcBit (k + 1) i = crcBit (iter crcBit k i) from rfl)
          generalize iter crcBit k i = x at *
          go_wp2_with fail
          refine (crc_low2 x hlt _).mono ?_
          rintro e w6 ⟨rfl, rfl⟩
          go_wp2_with fail
          go_roundw
          case rel => exact ⟨k + 1, by go_num, by omega, by rw [HS.out], trivial⟩
          case measure => simp [intOf]; omega
        · obtain rfl : k = 8 := by omega
          rw [show iter crcBit 8 i = crc8 i from rfl]
          have hlen := tabTo_len i (by omega)
          have cI : wr.cell? ⟨A + 1, i, none⟩ = some (.int .u32 ((tabTo i).getD i 0 : Nat)) := by
            simp only [World.cell?, HBI.out]
            have := getElem?_u32s (tabTo i) i (by omega)
            simpa using this
          have fI : wr.frozen? ⟨A + 1, i, none⟩ = false := by simp only [World.frozen?, HBI.out]; rfl
          have HC := Lib.hid (show (u32s (tabTo i)).toArray.setIfInBounds i (.int .u32 (crc8 i : Nat)) = (u32s (tabTo (i + 1))).toArray by rw [← tabTo_set i hin, u32s_set, List.setIfInBounds_toArray])
          generalize crc8 i = c8 at *
          go_wp2_with fail
          go_roundw
          case rel =>
            refine ⟨i + 1, by go_num, by omega, ?_, HT.out.setCell (Or.inl rfl) _⟩
            rw [heap_setCell_at (a := ⟨A + 1, i, none⟩) HBI.out rfl, HC.out]
          case measure => simp [intOf]; omega
    · obtain rfl : i = 256 := by omega
      rw [tabTo_end] at HBI
      obtain ⟨C, hC⟩ : ∃ C, C = (u32s tabL).toArray := ⟨_, rfl⟩
      have hCs : C.size = 256 := by rw [hC]; simp [u32s, tabL]
      have hC1 : C.all (·.oneCell') = true := by
        rw [hC, Array.all_eq_true_iff_forall_mem]
        intro x hx
        rw [List.mem_toArray] at hx
        obtain ⟨b, _, rfl⟩ := List.mem_map.1 hx
        rfl
      rw [← hC] at HBI
      have hZs : Z.size = 256 := by rw [HZ.out, List.size_toArray, length_u32s, List.length_replicate]
      have hAr : wr.heap[A]? = some (.cells Z 78 (0, 0)) := HT.out.keep HA1.out (by omega)
      have hsC : (Try.prog.info? 78).map (·.size) = some C.size := by rw [HSZ.out, hCs]
      have hEx : Ext w (wr.setRow A C) := by
        have t2 : Touch (fun k => k = A + 1 ∨ k = A) w1 (wr.setRow A C) := ⟨HT.out.os, HT.out.tape, HT.out.output, by simp only [World.setRow, Array.size_modify]; exact HT.out.size, fun k hk hn => by
          simp only [World.setRow]
          rw [Array.getElem?_modify, if_neg (fun e => hn (Or.inr e.symm))]
          exact HT.out.block k hk (fun e => hn (Or.inl e))⟩
        have hA := HA.out
        exact HX.out.touch t2 (fun k hk e => by omega)
      have hrow : (wr.setRow A C).heap[A]? = some (.cells C 78 (0, 0)) := setRow_heap wr A Z C _ _ hAr
      have HR := Lib.hid hrow
      have HE := Lib.hid hEx
      have HCC := Lib.hid hC
      have HCS := Lib.hid hCs
      have HAR := Lib.hid hAr
      have HC1 := Lib.hid hC1
      have HSC := Lib.hid hsC
      have HZC := Lib.hid (show Z.size = C.size by rw [hZs, hCs])
      clear hC hCs hC1 hAr hEx hrow hZs hsC
      go_wp2_with (first | (refine wpList_load_row rfl 78 (.tmp 5) rfl (A + 1) rfl 78 C (0, 0) _ HBI.out Try.underlying78 rfl HSC.out ?_) | (refine wpList_store_row rfl 78 (.tmp 4) (.tmp 25) rfl A C rfl rfl 78 Z HAR.out HSC.out HZC.out HC1.out ?_))
      exact bodyPost_ret (results_cell_row (p := 4) rfl _ _ A _ C (0, 0) _ rfl HR.out Try.underlying78 rfl HSC.out) rfl ⟨by rw [HCC.out], HE.out⟩
theorem u8_xor_byte (V c : Nat) (hc : c < 256) : bits .xor .u8 ((V : Int) % 256) (c : Int) = (((V ^^^ c) % 256 : Nat) : Int) := by
  have h := u8_xor_nat (V % 256) c (by omega) hc
  have e : (((V % 256 : Nat) : Int)) = (V : Int) % 256 := by omega
  rw [e] at h
  rw [h]
  have : (V ^^^ c) % 256 = (V % 256) ^^^ c := by
    have h1 : (V ^^^ c) % 2 ^ 8 = (V % 2 ^ 8) ^^^ (c % 2 ^ 8) := Nat.xor_mod_two_pow
    simp only [Nat.reducePow] at h1
    rw [h1, show c % 256 = c by omega]
  rw [this]
set_option maxRecDepth 100000 in
set_option maxHeartbeats 4000000 in
theorem crc_low (v : Value) (bs : List Nat) (w : World) (hv : ViewL w v (u8s bs)) (hb : ∀ b ∈ bs, b < 256) (hl : bs.length ≤ 2 ^ 42) :
    Calls Try.prog 35 #[v] w fun e w' => e = .returned (.int .u32 (crcL bs)) ∧ Ext w w' := by
  obtain ⟨ao, cap, rfl⟩ := hv.shape
  rw [length_u8s] at *
  have HV := Lib.hid hv
  have HB := Lib.hid hb
  obtain ⟨hz, hsz⟩ := zero_of_info crc_arr
  obtain ⟨Z, hZ⟩ : ∃ Z, Z = (u32s (List.replicate 256 0)).toArray := ⟨_, rfl⟩
  rw [← hZ] at hz
  have hZs : Z.size = 256 := by rw [hZ, List.size_toArray, length_u32s, List.length_replicate]
  clear hv hb
  obtain ⟨C, hC⟩ : ∃ C, C = (u32s tabL).toArray := ⟨_, rfl⟩
  have hCs : C.size = 256 := by rw [hC]; simp [u32s, tabL]
  have hC1 : C.all (·.oneCell') = true := by
    rw [hC, Array.all_eq_true_iff_forall_mem]
    intro x hx
    rw [List.mem_toArray] at hx
    obtain ⟨b, _, rfl⟩ := List.mem_map.1 hx
    rfl
  have HSC := Lib.hid (show (Try.prog.info? 78).map (·.size) = some C.size by rw [hsz, hCs])
  have HZC := Lib.hid (show Z.size = C.size by rw [hZs, hCs])
  have HC1 := Lib.hid hC1
  have HCC := Lib.hid hC
  have HSS := Lib.hid crc_steps
  clear hsz hZ hZs hC1 hCs
  go_enter Try.func35, Try.ntmps35
  go_wp2_with fail
  refine (HSS.out _).mono ?_
  rw [← HCC.out]
  rintro e w1 ⟨rfl, x1⟩
  have HX := Lib.hid x1
  clear x1 hC
  obtain ⟨B, hB⟩ : ∃ B, B = w1.heap.size := ⟨_, rfl⟩
  have HBZ := Lib.hid (show (w1.alloc (.cells Z 78)).heap[B]? = some (.cells Z 78 (0, 0)) by rw [hB]; exact heap_alloc_new _ _)
  go_wp2_with (refine wpList_store_row rfl 78 (.tmp 3) (.tmp 7) rfl w1.heap.size C rfl rfl 78 Z (hB ▸ HBZ.out) HSC.out HZC.out HC1.out ?_)
  obtain ⟨W, hW⟩ : ∃ W, W = (w1.alloc (.cells Z 78)).setRow w1.heap.size C := ⟨_, rfl⟩
  have HWB := Lib.hid (show W.heap[B]? = some (.cells C 78 (0, 0)) by rw [hW, hB]; exact setRow_heap _ _ Z C _ _ (hB ▸ HBZ.out))
  have HXW := Lib.hid (show Ext w W by
    have t2 : Touch (fun k => k = w1.heap.size) w1 W := by
      rw [hW]
      exact ⟨rfl, rfl, rfl, by simp only [World.setRow, Array.size_modify]; rw [World.size_alloc]; omega, fun k hk hn => by
        simp only [World.setRow]
        rw [Array.getElem?_modify, if_neg (fun e => hn e.symm)]
        exact Below.heap_alloc _ _ _ hk⟩
    exact HX.out.touch t2 (fun k hk e => by have := HX.out.size; omega))
  rw [← hW, ← hB]
  clear hW hB hz HBZ
  go_loopw [4, 6, 10] (fun vv _ iv wr => ∃ i : Nat, iv = .int .i64 i ∧ i ≤ bs.length ∧ vv = .int .u32 (crcR (bs.take i) : Nat) ∧ wr = W) (fun _ _ iv _ => bs.length - (intOf iv).toNat)
  case atStart => exact ⟨0, rfl, Nat.zero_le _, rfl, rfl⟩
  case round =>
    obtain ⟨i, rfl, hi, rfl, rfl⟩ := hrel
    have hlt := crcR_lt (bs.take i)
    by_cases hin : i < bs.length
    · have hini : (i : Int) < (bs.length : Int) := by omega
      obtain ⟨b, o, rfl, _, hc⟩ := viewL_cells (HV.out.ext HXW.out) (by rw [length_u8s]; omega)
      obtain ⟨c, hcc⟩ : ∃ c, bs[i]? = some c := ⟨_, List.getElem?_eq_getElem hin⟩
      have cB := hc i (.int .u8 c) (by simp [u8s, hcc])
      have hc256 := HB.out c (List.mem_of_getElem? hcc)
      have HST := Lib.hid (show crcR (bs.take (i + 1)) = crcByte (crcR (bs.take i)) c by rw [List.take_add_one, hcc, Option.toList_some, crcR_snoc])
      generalize crcR (bs.take i) = V at *
      obtain ⟨j, hj⟩ : ∃ j, j = (V ^^^ c) % 256 := ⟨_, rfl⟩
      have hx8 := u8_xor_byte V c hc256
      rw [← hj] at hx8
      have hj256 : j < 256 := by omega
      have cT : wr.cell? ⟨B, j, none⟩ = some (.int .u32 (crc8 j : Nat)) := by
        simp only [World.cell?, HWB.out, HCC.out]
        have := getElem?_u32s tabL j (by simp [tabL]; exact hj256)
        rw [tabL_get j hj256] at this
        simpa using this
      have h8 := crc8_lt (v := j) (by omega)
      have e1 : bits .xor .u32 ((V : Int) / 256) ((crc8 j : Nat) : Int) = ((crcByte V c : Nat) : Int) := by
        have := u32_xor_nat (V / 256) (crc8 j) (by omega) h8
        rw [crcByte, ← hj, ← this]; simp
      have HE1 := Lib.hid e1
      generalize crc8 j = c8 at *
      clear hc hcc hj e1
      go_wp2_with fail
      rw [HE1.out]
      go_roundw
      case rel => exact ⟨i + 1, by go_num, by omega, by rw [HST.out], trivial⟩
      case measure => simp [intOf]; omega
    · obtain rfl : i = bs.length := by omega
      rw [List.take_length] at hlt ⊢
      have e1 : bits .xor .u32 4294967295 ((crcR bs : Nat) : Int) = ((crcL bs : Nat) : Int) := by
        have := u32_xor_nat 4294967295 (crcR bs) (by decide) hlt
        rw [Nat.xor_comm] at this; exact this
      have HE := Lib.hid e1
      have hsg : IntKind.u32.signed = false := rfl
      clear e1
      go_wp2_with fail
      go_ret
      exact ⟨by rw [← HE.out]; rfl, HXW.out⟩
end Go.Proofs.Ytbbcphloafmldaa
-- pruned by prune.py for gunzip
