/- crc.Low: its walk. Numbers as bytes, the lowest first: plain laws. No program is named here. frame.low, frame.value, pressworkref11.Number, Value: their walks. -/
import Derived.Test.YtbbcphloafmldaaGreatBnd3
import Derived.Test.YtbbcphloafmldaaGreatBnd7
import Derived.Lib.SmallJoins
/-! crc.Low: its walk. -/
namespace Go.Proofs.YtbbcphloafmldaaGreat
open Go.RowKit
set_option linter.unusedVariables false

theorem crc_low1 (x : Int) (w : World) : Calls Tryz.prog 34 #[.int .u32 x] w fun e w' => e = .returned (.int .u32 x) ∧ w = w' := by
  go_enter Tryz.func34, Tryz.ntmps34
  go_wp2_with fail
  go_ret
  exact ⟨rfl, rfl⟩
theorem crc_low2 (v : Nat) (h : v < 4294967296) (w : World) : Calls Tryz.prog 35 #[.int .u32 v] w fun e w' => e = .returned (.int .u32 (crcBit v)) ∧ w = w' := by
  have h1 := u32_and_nat v 1 h (by decide)
  rw [Nat.and_one_is_mod] at h1
  have hp : v % 2 = 0 ∨ v % 2 = 1 := by omega
  rcases hp with hp | hp
  · rw [hp] at h1
    have h1 : bits .and .u32 (v : Int) 1 = 0 := h1
    have HB := Lib.hid (show crcBit v = v / 2 by rw [crcBit, if_neg (by omega)])
    have h2 : bits .and .u32 3988292384 0 = 0 := by decide
    have h3 : bits .xor .u32 ((v : Int) / 2) 0 = ((v / 2 : Nat) : Int) := by
      have := u32_xor_nat (v / 2) 0 (by omega) (by decide)
      rw [Nat.xor_zero] at this
      rw [← this]; simp
    go_enter Tryz.func35, Tryz.ntmps35
    go_wp2_with fail
    go_ret
    exact ⟨by rw [HB.out]; rfl, rfl⟩
  · rw [hp] at h1
    have h1 : bits .and .u32 (v : Int) 1 = 1 := h1
    have HB := Lib.hid (show crcBit v = v / 2 ^^^ poly by rw [crcBit, if_pos hp])
    have h2 : bits .and .u32 3988292384 4294967295 = 3988292384 := by decide
    have h3 : bits .xor .u32 ((v : Int) / 2) 3988292384 = ((v / 2 ^^^ poly : Nat) : Int) := by
      have := u32_xor_nat (v / 2) poly (by omega) (by decide)
      rw [← this]; simp [poly]
    go_enter Tryz.func35, Tryz.ntmps35
    go_wp2_with fail
    go_ret
    exact ⟨by rw [HB.out]; rfl, rfl⟩
/-- the table, so far. -/
def tabTo (i : Nat) : List Nat := (List.range i).map crc8 ++ List.replicate (256 - i) 0
theorem tabTo_len (i : Nat) (h : i ≤ 256) : (tabTo i).length = 256 := by simp [tabTo]; omega
theorem tabTo_set (i : Nat) (h : i < 256) : (tabTo i).set i (crc8 i) = tabTo (i + 1) := by
  rw [tabTo, tabTo, List.set_append_right _ _ (by simp)]
  simp only [List.length_map, List.length_range, Nat.sub_self, List.range_succ, List.map_append, List.map_cons, List.map_nil, List.append_assoc]
  congr 1
  rw [show 256 - i = (256 - (i + 1)) + 1 by omega, List.replicate_succ, List.set_cons_zero]; rfl
theorem tabTo_zero : tabTo 0 = List.replicate 256 0 := by simp only [tabTo, List.range_zero, List.map_nil, List.nil_append, Nat.sub_zero]
theorem tabTo_end : tabTo 256 = tabL := by simp [tabTo, tabL]
theorem crc_arr : (Tryz.prog.info? 65).map (fun i => (i.zero, i.size)) = some (some (.agg (u32s (List.replicate 256 0)).toArray), 256) := by kernel_rfl
set_option maxRecDepth 100000 in
set_option maxHeartbeats 4000000 in
theorem crc_steps (w : World) : Calls Tryz.prog 33 #[.func (.func 34) #[] #[], .func (.func 35) #[] #[]] w fun e w' => e = .returned (.agg (u32s tabL).toArray) ∧ Ext w w' := by
  obtain ⟨hz, hsz⟩ := zero_of_info crc_arr
  obtain ⟨Z, hZ⟩ : ∃ Z, Z = (u32s (List.replicate 256 0)).toArray := ⟨_, rfl⟩
  rw [← hZ] at hz
  have HZ := Lib.hid hZ
  have HSZ := Lib.hid hsz
  clear hZ hsz
  go_enter Tryz.func33, Tryz.ntmps33
  go_wp2_with fail
  clear hz
  obtain ⟨A, hA⟩ : ∃ A, A = w.heap.size := ⟨_, rfl⟩
  obtain ⟨w1, hw1⟩ : ∃ w1, w1 = (w.alloc (.cells Z 65)).alloc (.cells Z 65) := ⟨_, rfl⟩
  have hb : w1.heap[A + 1]? = some (.cells (u32s (tabTo 0)).toArray 65 (0, 0)) := by
    rw [hw1, hA, show w.heap.size + 1 = (w.alloc (.cells Z 65)).heap.size by rw [World.size_alloc], show (u32s (tabTo 0)).toArray = Z by rw [HZ.out, tabTo_zero]]
    exact heap_alloc_new _ _
  have ha : w1.heap[A]? = some (.cells Z 65 (0, 0)) := by
    rw [hw1, hA, Below.heap_alloc _ _ _ (by simp)]; exact heap_alloc_new _ _
  have hx : Ext w w1 := by rw [hw1]; exact ((Ext.refl w).alloc _).alloc _
  have HA := Lib.hid hA
  have HA1 := Lib.hid ha
  have HB := Lib.hid hb
  have HX := Lib.hid hx
  rw [← hw1, ← hA]
  clear hw1 hA hb ha hx
  go_loopw [8] (fun iv wr => ∃ i : Nat, iv = .int .i64 i ∧ i ≤ 256 ∧ wr.heap[A + 1]? = some (.cells (u32s (tabTo i)).toArray 65 (0, 0)) ∧ Touch (fun k => k = A + 1) w1 wr) (fun iv _ => 256 - (intOf iv).toNat)
  case atStart => exact ⟨0, rfl, by omega, HB.out, Touch.refl _ _⟩
  case round =>
    obtain ⟨i, rfl, hi, hb, ht⟩ := hrel
    have HBI := Lib.hid hb
    have HT := Lib.hid ht
    clear hb ht
    by_cases hin : i < 256
    · have hini : (i : Int) < 256 := by omega
      go_wp2_with fail
      refine (crc_low1 i _).mono ?_
      rintro e w5 ⟨rfl, rfl⟩
      go_wp2_with fail
      go_loopw [7, 15] (fun vv kv wr' => ∃ k : Nat, kv = .int .i64 k ∧ k ≤ 8 ∧ vv = .int .u32 (iter crcBit k i : Nat) ∧ wr' = wr) (fun _ kv _ => 8 - (intOf kv).toNat)
      case atStart => exact ⟨0, rfl, by omega, rfl, rfl⟩
      case round =>
        obtain ⟨k, rfl, hk, rfl, rfl⟩ := hrel
        have hlt := iter_lt crcBit (fun _ => crcBit_lt) k i (by omega)
        by_cases hk8 : k < 8
        · have hk8i : (k : Int) < 8 := by omega
          have HS := Lib.hid (show iter crcBit (k + 1) i = crcBit (iter crcBit k i) from rfl)
          generalize iter crcBit k i = x at *
          go_wp2_with fail
          refine (crc_low2 x hlt _).mono ?_
          rintro e w6 ⟨rfl, rfl⟩
          go_wp2_with fail
          go_roundw
          case rel => exact ⟨k + 1, by go_num, by omega, by rw [HS.out], trivial⟩
          case measure => simp [intOf]; omega
        · obtain rfl : k = 8 := by omega
          rw [show iter crcBit 8 i = crc8 i from rfl]
          have hlen := tabTo_len i (by omega)
          have cI : wr.cell? ⟨A + 1, i, none⟩ = some (.int .u32 ((tabTo i).getD i 0 : Nat)) := by
            simp only [World.cell?, HBI.out]
            have := getElem?_u32s (tabTo i) i (by omega)
            simpa using this
          have fI : wr.frozen? ⟨A + 1, i, none⟩ = false := by simp only [World.frozen?, HBI.out]; rfl
          have HC := Lib.hid (show (u32s (tabTo i)).toArray.setIfInBounds i (.int .u32 (crc8 i : Nat)) = (u32s (tabTo (i + 1))).toArray by rw [← tabTo_set i hin, u32s_set, List.setIfInBounds_toArray])
          generalize crc8 i = c8 at *
          go_wp2_with fail
          go_roundw
          case rel =>
            refine ⟨i + 1, by go_num, by omega, ?_, HT.out.setCell (Or.inl rfl) _⟩
            rw [heap_setCell_at (a := ⟨A + 1, i, none⟩) HBI.out rfl, HC.out]
          case measure => simp [intOf]; omega
    · obtain rfl : i = 256 := by omega
      rw [tabTo_end] at HBI
      obtain ⟨C, hC⟩ : ∃ C, C = (u32s tabL).toArray := ⟨_, rfl⟩
      have hCs : C.size = 256 := by rw [hC]; simp [u32s, tabL]
      have hC1 : C.all (·.oneCell') = true := by
        rw [hC, Array.all_eq_true_iff_forall_mem]
        intro x hx
        rw [List.mem_toArray] at hx
        obtain ⟨b, _, rfl⟩ := List.mem_map.1 hx
        rfl
      rw [← hC] at HBI
      have hZs : Z.size = 256 := by rw [HZ.out, List.size_toArray, length_u32s, List.length_replicate]
      have hAr : wr.heap[A]? = some (.cells Z 65 (0, 0)) := HT.out.keep HA1.out (by omega)
      have hsC : (Tryz.prog.info? 65).map (·.size) = some C.size := by rw [HSZ.out, hCs]
      have hEx : Ext w (wr.setRow A C) := by
        have t2 : Touch (fun k => k = A + 1 ∨ k = A) w1 (wr.setRow A C) := ⟨HT.out.os, HT.out.tape, HT.out.output, by simp only [World.setRow, Array.size_modify]; exact HT.out.size, fun k hk hn => by
          simp only [World.setRow]
          rw [Array.getElem?_modify, if_neg (fun e => hn (Or.inr e.symm))]
          exact HT.out.block k hk (fun e => hn (Or.inl e))⟩
        have hA := HA.out
        exact HX.out.touch t2 (fun k hk e => by omega)
      have hrow : (wr.setRow A C).heap[A]? = some (.cells C 65 (0, 0)) := setRow_heap wr A Z C _ _ hAr
      have HR := Lib.hid hrow
      have HE := Lib.hid hEx
      have HCC := Lib.hid hC
      have HCS := Lib.hid hCs
      have HAR := Lib.hid hAr
      have HC1 := Lib.hid hC1
      have HSC := Lib.hid hsC
      have HZC := Lib.hid (show Z.size = C.size by rw [hZs, hCs])
      clear hC hCs hC1 hAr hEx hrow hZs hsC
      go_wp2_with (first | (refine wpList_load_row rfl 65 (.tmp 5) rfl (A + 1) rfl 65 C (0, 0) _ HBI.out Tryz.underlying65 rfl HSC.out ?_) | (refine wpList_store_row rfl 65 (.tmp 4) (.tmp 25) rfl A C rfl rfl 65 Z HAR.out HSC.out HZC.out HC1.out ?_))
      exact bodyPost_ret (results_cell_row (p := 4) rfl _ _ A _ C (0, 0) _ rfl HR.out Tryz.underlying65 rfl HSC.out) rfl ⟨by rw [HCC.out], HE.out⟩
theorem u8_xor_byte (V c : Nat) (hc : c < 256) : bits .xor .u8 ((V : Int) % 256) (c : Int) = (((V ^^^ c) % 256 : Nat) : Int) := by
  have h := u8_xor_nat (V % 256) c (by omega) hc
  have e : (((V % 256 : Nat) : Int)) = (V : Int) % 256 := by omega
  rw [e] at h
  rw [h]
  have : (V ^^^ c) % 256 = (V % 256) ^^^ c := by
    have h1 : (V ^^^ c) % 2 ^ 8 = (V % 2 ^ 8) ^^^ (c % 2 ^ 8) := Nat.xor_mod_two_pow
    simp only [Nat.reducePow] at h1
    rw [h1, show c % 256 = c by omega]
  rw [this]
set_option maxRecDepth 100000 in
set_option maxHeartbeats 4000000 in
theorem crc_low (v : Value) (bs : List Nat) (w : World) (hv : ViewL w v (u8s bs)) (hb : ∀ b ∈ bs, b < 256) (hl : bs.length ≤ 2 ^ 42) :
    Calls Tryz.prog 20 #[v] w fun e w' => e = .returned (.int .u32 (crcL bs)) ∧ Ext w w' := by
  obtain ⟨ao, cap, rfl⟩ := hv.shape
  rw [length_u8s] at *
  have HV := Lib.hid hv
  have HB := Lib.hid hb
  obtain ⟨hz, hsz⟩ := zero_of_info crc_arr
  obtain ⟨Z, hZ⟩ : ∃ Z, Z = (u32s (List.replicate 256 0)).toArray := ⟨_, rfl⟩
  rw [← hZ] at hz
  have hZs : Z.size = 256 := by rw [hZ, List.size_toArray, length_u32s, List.length_replicate]
  clear hv hb
  obtain ⟨C, hC⟩ : ∃ C, C = (u32s tabL).toArray := ⟨_, rfl⟩
  have hCs : C.size = 256 := by rw [hC]; simp [u32s, tabL]
  have hC1 : C.all (·.oneCell') = true := by
    rw [hC, Array.all_eq_true_iff_forall_mem]
    intro x hx
    rw [List.mem_toArray] at hx
    obtain ⟨b, _, rfl⟩ := List.mem_map.1 hx
    rfl
  have HSC := Lib.hid (show (Tryz.prog.info? 65).map (·.size) = some C.size by rw [hsz, hCs])
  have HZC := Lib.hid (show Z.size = C.size by rw [hZs, hCs])
  have HC1 := Lib.hid hC1
  have HCC := Lib.hid hC
  have HSS := Lib.hid crc_steps
  clear hsz hZ hZs hC1 hCs
  go_enter Tryz.func20, Tryz.ntmps20
  go_wp2_with fail
  refine (HSS.out _).mono ?_
  rw [← HCC.out]
  rintro e w1 ⟨rfl, x1⟩
  have HX := Lib.hid x1
  clear x1 hC
  obtain ⟨B, hB⟩ : ∃ B, B = w1.heap.size := ⟨_, rfl⟩
  have HBZ := Lib.hid (show (w1.alloc (.cells Z 65)).heap[B]? = some (.cells Z 65 (0, 0)) by rw [hB]; exact heap_alloc_new _ _)
  go_wp2_with (refine wpList_store_row rfl 65 (.tmp 3) (.tmp 7) rfl w1.heap.size C rfl rfl 65 Z (hB ▸ HBZ.out) HSC.out HZC.out HC1.out ?_)
  obtain ⟨W, hW⟩ : ∃ W, W = (w1.alloc (.cells Z 65)).setRow w1.heap.size C := ⟨_, rfl⟩
  have HWB := Lib.hid (show W.heap[B]? = some (.cells C 65 (0, 0)) by rw [hW, hB]; exact setRow_heap _ _ Z C _ _ (hB ▸ HBZ.out))
  have HXW := Lib.hid (show Ext w W by
    have t2 : Touch (fun k => k = w1.heap.size) w1 W := by
      rw [hW]
      exact ⟨rfl, rfl, rfl, by simp only [World.setRow, Array.size_modify]; rw [World.size_alloc]; omega, fun k hk hn => by
        simp only [World.setRow]
        rw [Array.getElem?_modify, if_neg (fun e => hn e.symm)]
        exact Below.heap_alloc _ _ _ hk⟩
    exact HX.out.touch t2 (fun k hk e => by have := HX.out.size; omega))
  rw [← hW, ← hB]
  clear hW hB hz HBZ
  go_loopw [4, 6, 10] (fun vv _ iv wr => ∃ i : Nat, iv = .int .i64 i ∧ i ≤ bs.length ∧ vv = .int .u32 (crcR (bs.take i) : Nat) ∧ wr = W) (fun _ _ iv _ => bs.length - (intOf iv).toNat)
  case atStart => exact ⟨0, rfl, Nat.zero_le _, rfl, rfl⟩
  case round =>
    obtain ⟨i, rfl, hi, rfl, rfl⟩ := hrel
    have hlt := crcR_lt (bs.take i)
    by_cases hin : i < bs.length
    · have hini : (i : Int) < (bs.length : Int) := by omega
      obtain ⟨b, o, rfl, _, hc⟩ := viewL_cells (HV.out.ext HXW.out) (by rw [length_u8s]; omega)
      obtain ⟨c, hcc⟩ : ∃ c, bs[i]? = some c := ⟨_, List.getElem?_eq_getElem hin⟩
      have cB := hc i (.int .u8 c) (by simp [u8s, hcc])
      have hc256 := HB.out c (List.mem_of_getElem? hcc)
      have HST := Lib.hid (show crcR (bs.take (i + 1)) = crcByte (crcR (bs.take i)) c by rw [List.take_add_one, hcc, Option.toList_some, crcR_snoc])
      generalize crcR (bs.take i) = V at *
      obtain ⟨j, hj⟩ : ∃ j, j = (V ^^^ c) % 256 := ⟨_, rfl⟩
      have hx8 := u8_xor_byte V c hc256
      rw [← hj] at hx8
      have hj256 : j < 256 := by omega
      have cT : wr.cell? ⟨B, j, none⟩ = some (.int .u32 (crc8 j : Nat)) := by
        simp only [World.cell?, HWB.out, HCC.out]
        have := getElem?_u32s tabL j (by simp [tabL]; exact hj256)
        rw [tabL_get j hj256] at this
        simpa using this
      have h8 := crc8_lt (v := j) (by omega)
      have e1 : bits .xor .u32 ((V : Int) / 256) ((crc8 j : Nat) : Int) = ((crcByte V c : Nat) : Int) := by
        have := u32_xor_nat (V / 256) (crc8 j) (by omega) h8
        rw [crcByte, ← hj, ← this]; simp
      have HE1 := Lib.hid e1
      generalize crc8 j = c8 at *
      clear hc hcc hj e1
      go_wp2_with fail
      rw [HE1.out]
      go_roundw
      case rel => exact ⟨i + 1, by go_num, by omega, by rw [HST.out], trivial⟩
      case measure => simp [intOf]; omega
    · obtain rfl : i = bs.length := by omega
      rw [List.take_length] at hlt ⊢
      have e1 : bits .xor .u32 4294967295 ((crcR bs : Nat) : Int) = ((crcL bs : Nat) : Int) := by
        have := u32_xor_nat 4294967295 (crcR bs) (by decide) hlt
        rw [Nat.xor_comm] at this; exact this
      have HE := Lib.hid e1
      have hsg : IntKind.u32.signed = false := rfl
      clear e1
      go_wp2_with fail
      go_ret
      exact ⟨by rw [← HE.out]; rfl, HXW.out⟩
end Go.Proofs.YtbbcphloafmldaaGreat
-- pruned by prune.py for gunzipz

/-! Numbers as bytes, the lowest first: plain laws. No program is named here. -/
namespace Go.Proofs.YtbbcphloafmldaaGreat
set_option linter.unusedVariables false

def leN (n v : Nat) : List Nat := (List.range n).map fun k => v / 256 ^ k % 256
theorem length_leN (n v : Nat) : (leN n v).length = n := by simp [leN]
theorem leN_snoc (n v : Nat) : leN (n + 1) v = leN n v ++ [v / 256 ^ n % 256] := by simp [leN, List.range_succ]
theorem leN_lt (n v : Nat) : ∀ b ∈ leN n v, b < 256 := fun b hb => by
  obtain ⟨k, _, rfl⟩ := List.mem_map.1 hb
  exact Nat.mod_lt _ (by decide)
theorem leN_zero (v : Nat) : leN 0 v = [] := rfl
def valL : List Nat → Nat
  | [] => 0
  | c :: l => c + 256 * valL l
theorem valL_snoc : ∀ (l : List Nat) (c : Nat), valL (l ++ [c]) = valL l + c * 256 ^ l.length
  | [], c => by simp [valL]
  | b :: l, c => by
    simp only [List.cons_append, valL, valL_snoc l c, List.length_cons, Nat.pow_succ, Nat.mul_add]
    rw [Nat.add_assoc]; congr 2
    rw [← Nat.mul_assoc, Nat.mul_comm 256 c, Nat.mul_assoc, Nat.mul_comm 256]
theorem valL_lt : ∀ (l : List Nat), (∀ b ∈ l, b < 256) → valL l < 256 ^ l.length
  | [], _ => by simp [valL]
  | b :: l, h => by
    have ih := valL_lt l (fun x hx => h x (List.mem_cons_of_mem _ hx))
    have hb := h b (List.mem_cons_self ..)
    simp only [valL, List.length_cons, Nat.pow_succ]
    omega
theorem pow256 (k : Nat) : 256 ^ k = 2 ^ (8 * k) := by rw [Nat.pow_mul]
theorem valL_leN (n v : Nat) : valL (leN n v) = v % 256 ^ n := by
  induction n with
  | zero => simp [leN, valL, Nat.mod_one]
  | succ n ih =>
    rw [leN_snoc, valL_snoc, ih, length_leN, Nat.pow_succ, Nat.mod_mul, Nat.mul_comm]
theorem leN_succ (n v : Nat) : leN (n + 1) v = (v % 256) :: leN n (v / 256) := by
  rw [leN, List.range_succ_eq_map, List.map_cons, List.map_map, leN]
  simp only [Nat.pow_zero, Nat.div_one]
  congr 1
  apply List.map_congr_left
  intro k _
  simp only [Function.comp, Nat.pow_succ]
  rw [Nat.mul_comm, Nat.div_div_eq_div_mul]
/-- bytes are the number that they say. -/
theorem leN_valL : ∀ (l : List Nat), (∀ b ∈ l, b < 256) → leN l.length (valL l) = l
  | [], _ => rfl
  | b :: l, h => by
    have hb := h b (List.mem_cons_self ..)
    rw [List.length_cons, leN_succ, valL, show (b + 256 * valL l) % 256 = b by omega, show (b + 256 * valL l) / 256 = valL l by omega, leN_valL l (fun x hx => h x (List.mem_cons_of_mem _ hx))]
end Go.Proofs.YtbbcphloafmldaaGreat

/-! frame.low, frame.value, pressworkref11.Number, Value: their walks. -/
namespace Go.Proofs.YtbbcphloafmldaaGreat
open Go.RowKit
set_option linter.unusedVariables false

/-- a row that was handed over, grown. -/
def Regrown (w : World) (og : Option Nat) (l : List Nat) (v : Value) (w' : World) : Prop := ∃ og', Owns w' 5 1 v og' l.length (u8s l) ∧ Near og og' w ∧ Touch (fun k => og = some k) w w'
theorem Regrown.app {w w1 w2 : World} {og : Option Nat} {l xs : List Nat} {ov v' : Value} {o : Obj} {n : Nat} (h : Regrown w og l ov w1) (hn : l.length = n) (hown' : w2.ownsRow 0 5 1 v' (n + xs.length) (u8s l ++ u8s xs))
    (hgrow : (w1.alloc o).grownBy w2 ov.ownBlock) (hat : v'.ownBlock = ov.ownBlock ∨ v'.ownBlock = some (w1.heap.size + 1)) : Regrown w og (l ++ xs) v' w2 := by
  subst hn
  obtain ⟨og1, h1, h2, h3⟩ := h
  have hs := h3.size
  refine ⟨v'.ownBlock, ⟨by rw [u8s_append, List.length_append]; exact hown', rfl⟩, ?_, Touch.grown (h3.alloc _) hgrow (fun k e => ?_)⟩
  · rcases hat with e | e
    · rw [e, h1.2]; exact h2
    · exact Or.inr ⟨_, e, by omega⟩
  · rw [h1.2] at e
    rcases h2 with rfl | ⟨g, rfl, hg⟩
    · exact Or.inl e
    · cases e; exact Or.inr hg
theorem Regrown.own {w wr : World} {og : Option Nat} {l : List Nat} {v : Value} {n : Nat} (h : Regrown w og l v wr) (hn : l.length = n) : wr.ownsRow 0 5 1 v n (u8s l) := by subst hn; exact h.choose_spec.1.1
theorem Regrown.refl {w : World} {og : Option Nat} {l : List Nat} {v : Value} (h : Owns w 5 1 v og l.length (u8s l)) : Regrown w og l v w := ⟨og, h, Near.refl _ _, Touch.refl _ _⟩
set_option maxRecDepth 100000 in
set_option maxHeartbeats 4000000 in
theorem frm_low (v : Value) (og : Option Nat) (bs : List Nat) (x n : Nat) (w : World) (hv : Owns w 5 1 v og bs.length (u8s bs)) (hl : bs.length ≤ 2 ^ 42) (hx : x < 4294967296) (hn : n ≤ 4) :
    Calls Tryz.prog 19 #[v, .int .u32 x, .int .i64 n] w fun e w' => ∃ v', e = .returned v' ∧ Regrown w og (bs ++ leN n x) v' w' := by
  obtain ⟨i0, hi, hz0, hz1, hz2⟩ := info_parts info_u8
  have HV := Lib.hid hv
  clear hv
  go_enter Tryz.func19, Tryz.ntmps19
  go_wp2_with fail
  go_loopw [0, 9] (fun bv kv wr => ∃ k : Nat, kv = .int .i64 k ∧ k ≤ n ∧ Regrown w og (bs ++ leN k x) bv wr) (fun _ kv _ => n - (intOf kv).toNat)
  case atStart => exact ⟨0, rfl, Nat.zero_le _, by rw [leN_zero, List.append_nil]; exact Regrown.refl HV.out⟩
  case round =>
    obtain ⟨k, rfl, hk, hp⟩ := hrel
    have HP := Lib.hid hp
    clear hp
    by_cases hkn : k < n
    · have hkni : (k : Int) < (n : Int) := by omega
      have HL := Lib.hid (show (bs ++ leN k x).length = bs.length + k by rw [List.length_append, length_leN])
      have hk0 : (0 : Int) ≤ 8 * (k : Int) := by omega
      go_wp2_with (at_builtin; go_must (refine wpList_append_own_at _ rfl (.tmp 12) (.tmp 18) 22 rfl 0 5 i0 (.int .u8 0) 1 1 Tryz.underlying22 hi hz0 hz1 hz2 rfl (by decide) _ (bs.length + k) (u8s (bs ++ leN k x)) rfl ((HP.out.own HL.out).alloc _) ⟨wr.heap.size, 0, none⟩ 1 1 [_] rfl rfl (cell_one_new _ _ _) (by simp [Value.oneCell']) (by unfold maxLen; omega) (by omega) (Nat.zero_le _) ?_))
      intro v' w3 hown' hgrow _ hat
      have e1 : (x : Int) / 2 ^ (8 * k) % 256 = ((x / 256 ^ k % 256 : Nat) : Int) := by
        rw [pow256]; simp
      rw [e1] at hown' hgrow
      have HF := Lib.hid (HP.out.app (xs := [x / 256 ^ k % 256]) HL.out hown' hgrow hat)
      clear hown' hgrow hat e1
      go_wp2_with fail
      go_roundw
      case rel => exact ⟨k + 1, by go_num, by omega, by rw [leN_snoc, ← List.append_assoc]; exact HF.out⟩
      case measure => simp [intOf]; omega
    · obtain rfl : k = n := by omega
      go_wp2_with fail
      go_ret
      exact ⟨_, rfl, HP.out⟩
/-- bytes in new memory that grow. -/
theorem clone_app {w w1 w2 : World} {l xs : List Nat} {ov v' : Value} {o : Obj} {n : Nat} (h : CloneOf w l (.returned ov) w1) (hn : l.length = n) (hown' : w2.ownsRow 0 5 1 v' (n + xs.length) (u8s l ++ u8s xs))
    (hgrow : (w1.alloc o).grownBy w2 ov.ownBlock) (hat : v'.ownBlock = ov.ownBlock ∨ v'.ownBlock = some (w1.heap.size + 1)) : CloneOf w (l ++ xs) (.returned v') w2 := by
  subst hn
  obtain ⟨u, og, e, h1, h2, h3⟩ := h
  cases e
  have h3 : Ext w w1 := h3
  have hs := h3.size
  refine ⟨v', v'.ownBlock, rfl, ⟨by rw [u8s_append, List.length_append]; exact hown', rfl⟩, fun g e => ?_, Touch.grown (h3.alloc _) hgrow (fun i e => Or.inr (h2 i (by rw [← h1.2]; exact e)))⟩
  rcases hat with hat | hat
  · rw [hat, h1.2] at e; exact h2 g e
  · rw [hat] at e; cases e; omega
theorem CloneOf.own {w wr : World} {l : List Nat} {v : Value} {n : Nat} (h : CloneOf w l (.returned v) wr) (hn : l.length = n) : wr.ownsRow 0 5 1 v n (u8s l) := by
  subst hn; obtain ⟨u, og, e, h1, _⟩ := h; cases e; exact h1.1
theorem clone_nil0 (w : World) : CloneOf w [] (.returned (.slice none 0 0)) w := ⟨_, none, rfl, Owns.nil _ _ _, (fun g e => by cases e), Touch.refl _ _⟩
set_option maxRecDepth 100000 in
set_option maxHeartbeats 4000000 in
theorem frm_number (x n : Nat) (w : World) (hx : x < 4294967296) (hn : n ≤ 4) :
    Calls Tryz.prog 30 #[.int .u32 x, .int .i64 n] w (CloneOf w (leN n x)) := by
  obtain ⟨i0, hi, hz0, hz1, hz2⟩ := info_parts info_u8
  go_enter Tryz.func30, Tryz.ntmps30
  go_wp2_with fail
  go_loopw [0, 5, 6] (fun xv bv kv wr => ∃ k : Nat, kv = .int .i64 k ∧ xv = .int .u32 (x / 256 ^ k : Nat) ∧ k ≤ n ∧ CloneOf w (leN k x) (.returned bv) wr) (fun _ _ kv _ => n - (intOf kv).toNat)
  case atStart => exact ⟨0, rfl, by simp, Nat.zero_le _, clone_nil0 w⟩
  case round =>
    obtain ⟨k, rfl, rfl, hk, hp⟩ := hrel
    have HP := Lib.hid hp
    clear hp
    by_cases hkn : k < n
    · have hkni : (k : Int) < (n : Int) := by omega
      have HY := Lib.hid (show x / 256 ^ (k + 1) = x / 256 ^ k / 256 by rw [Nat.pow_succ, Nat.div_div_eq_div_mul])
      have HS := Lib.hid (leN_snoc k x)
      have hy := Nat.div_le_self x (256 ^ k)
      generalize x / 256 ^ k = y at *
      have hm : (y : Int).tmod 256 = ((y % 256 : Nat) : Int) := by rw [Int.tmod_eq_emod_of_nonneg (by omega)]; omega
      have hd : (y : Int).tdiv 256 = ((y / 256 : Nat) : Int) := by rw [Int.tdiv_eq_ediv_of_nonneg (by omega)]; omega
      go_wp2_with (at_builtin; go_must (refine wpList_append_own_at _ rfl (.tmp 12) (.tmp 16) 22 rfl 0 5 i0 (.int .u8 0) 1 1 Tryz.underlying22 hi hz0 hz1 hz2 rfl (by decide) _ k (u8s (leN k x)) rfl ((HP.out.own (length_leN k x)).alloc _) ⟨wr.heap.size, 0, none⟩ 1 1 [_] rfl rfl (cell_one_new _ _ _) (by simp [Value.oneCell']) (by unfold maxLen; omega) (by omega) (Nat.zero_le _) ?_))
      intro v' w3 hown' hgrow _ hat
      have e1 : (y : Int) % 256 = ((y % 256 : Nat) : Int) := by omega
      rw [e1] at hown' hgrow
      have HF := Lib.hid (clone_app (xs := [y % 256]) HP.out (length_leN k x) hown' hgrow hat)
      clear hown' hgrow hat e1
      go_wp2_with fail
      go_roundw
      case rel => exact ⟨k + 1, by go_num, by rw [HY.out]; go_num, by omega, by rw [HS.out]; exact HF.out⟩
      case measure => simp [intOf]; omega
    · obtain rfl : k = n := by omega
      go_wp2_with fail
      go_ret
      exact HP.out
set_option maxRecDepth 100000 in
set_option maxHeartbeats 4000000 in
theorem frm_value (v : Value) (bs : List Nat) (w : World) (hv : ViewL w v (u8s bs)) (hb : ∀ b ∈ bs, b < 256) (hl : bs.length ≤ 4) :
    Calls Tryz.prog 49 #[v] w fun e w' => e = .returned (.int .u32 (valL bs)) ∧ w = w' := by
  obtain ⟨ao, cap, rfl⟩ := hv.shape
  rw [length_u8s] at *
  have HV := Lib.hid hv
  have HB := Lib.hid hb
  clear hv hb
  go_enter Tryz.func49, Tryz.ntmps49
  go_wp2_with fail
  go_loopw [3, 8] (fun vv kv wr => ∃ k : Nat, kv = .int .i64 k ∧ k ≤ bs.length ∧ vv = .int .u32 (valL (bs.take k)) ∧ wr = w) (fun _ kv _ => bs.length - (intOf kv).toNat)
  case atStart => exact ⟨0, rfl, Nat.zero_le _, rfl, rfl⟩
  case round =>
    obtain ⟨k, rfl, hk, rfl, rfl⟩ := hrel
    by_cases hkn : k < bs.length
    · have hkni : (k : Int) < (bs.length : Int) := by omega
      obtain ⟨b, o, rfl, _, hc⟩ := viewL_cells HV.out (by rw [length_u8s]; omega)
      obtain ⟨c, hcc⟩ : ∃ c, bs[k]? = some c := ⟨_, List.getElem?_eq_getElem hkn⟩
      have cB := hc k (.int .u8 c) (by simp [u8s, hcc])
      have hc256 := HB.out c (List.mem_of_getElem? hcc)
      have htl : (bs.take k).length = k := by rw [List.length_take]; omega
      have hlt := valL_lt (bs.take k) (fun x hx => HB.out x (List.mem_of_mem_take hx))
      rw [htl, pow256] at hlt
      have hst : valL (bs.take (k + 1)) = valL (bs.take k) + c * 2 ^ (8 * k) := by rw [List.take_add_one, hcc, Option.toList_some, valL_snoc, htl, pow256]
      generalize valL (bs.take k) = V at *
      have hp32 : c * 2 ^ (8 * k) < 4294967296 := by
        have : 2 ^ (8 * k) ≤ 2 ^ 24 := Nat.pow_le_pow_right (by decide) (by omega)
        have h2 : c * 2 ^ (8 * k) ≤ 255 * 2 ^ 24 := Nat.mul_le_mul (by omega) this
        omega
      have hV32 : V < 4294967296 := Nat.lt_of_lt_of_le hlt (by
        have : 2 ^ (8 * k) ≤ 2 ^ 24 := Nat.pow_le_pow_right (by decide) (by omega)
        omega)
      have e1 : bits .or .u32 (V : Int) ((c : Int) * 2 ^ (8 * k) % 4294967296) = ((V + c * 2 ^ (8 * k) : Nat) : Int) := by
        have e2 : ((c : Int) * 2 ^ (8 * k) % 4294967296) = ((c * 2 ^ (8 * k) : Nat) : Int) := by
          have : ((c : Int) * 2 ^ (8 * k)) = ((c * 2 ^ (8 * k) : Nat) : Int) := by simp
          rw [this]; omega
        rw [e2, u32_or_nat _ _ hV32 hp32, or_low _ _ _ hlt]
      rw [← hst] at e1
      have HE := Lib.hid e1
      have hk0 : (0 : Int) ≤ 8 * (k : Int) := by omega
      clear hst e1 hc hcc hp32 hV32 hlt htl
      go_wp2_with fail
      rw [HE.out]
      exact ⟨⟨k + 1, by go_num, by omega, rfl, trivial⟩, by simp [intOf]; omega⟩
    · obtain rfl : k = bs.length := by omega
      rw [List.take_length]
      go_wp2_with fail
      go_ret
      exact ⟨rfl, rfl⟩
theorem valL_drop (bs : List Nat) (i c : Nat) (h : bs[i]? = some c) : valL (bs.drop i) = c + 256 * valL (bs.drop (i + 1)) := by
  have hl := (List.getElem?_eq_some_iff.1 h).1
  have e : bs.drop i = bs[i] :: bs.drop (i + 1) := by rw [List.getElem_cons_drop]
  rw [e, valL, (List.getElem?_eq_some_iff.1 h).2]
set_option maxRecDepth 100000 in
set_option maxHeartbeats 4000000 in
theorem frm_ref_value (v : Value) (bs : List Nat) (w : World) (hv : ViewL w v (u8s bs)) (hb : ∀ b ∈ bs, b < 256) (hl : bs.length ≤ 4) :
    Calls Tryz.prog 24 #[v] w fun e w' => e = .returned (.int .u32 (valL bs)) ∧ w = w' := by
  obtain ⟨ao, cap, rfl⟩ := hv.shape
  rw [length_u8s] at *
  have HV := Lib.hid hv
  have HB := Lib.hid hb
  clear hv hb
  go_enter Tryz.func24, Tryz.ntmps24
  go_wp2_with fail
  go_loopw [3, 4] (fun vv kv wr => ∃ j : Nat, kv = .int .i64 ((bs.length : Int) - 1 - j) ∧ j ≤ bs.length ∧ vv = .int .u32 (valL (bs.drop (bs.length - j))) ∧ wr = w) (fun _ kv _ => (intOf kv + 1).toNat)
  case atStart => exact ⟨0, by simp, Nat.zero_le _, by simp [valL], rfl⟩
  case round =>
    obtain ⟨j, rfl, hj, rfl, rfl⟩ := hrel
    by_cases hjn : j < bs.length
    · obtain ⟨q, hq⟩ : ∃ q : Nat, (q : Int) = (bs.length : Int) - 1 - j := ⟨bs.length - 1 - j, by omega⟩
      have hqn : q < bs.length := by omega
      have hqi : (q : Int) < (bs.length : Int) := by omega
      have hq0 : (0 : Int) ≤ (q : Int) := by omega
      obtain ⟨b, o, rfl, _, hc⟩ := viewL_cells HV.out (by rw [length_u8s]; omega)
      obtain ⟨c, hcc⟩ : ∃ c, bs[q]? = some c := ⟨_, List.getElem?_eq_getElem hqn⟩
      have cB := hc q (.int .u8 c) (by simp [u8s, hcc])
      have hc256 := HB.out c (List.mem_of_getElem? hcc)
      have hst := valL_drop bs q c hcc
      have hlt := valL_lt (bs.drop (q + 1)) (fun x hx => HB.out x (List.mem_of_mem_drop hx))
      have h3 : (bs.drop (q + 1)).length ≤ 3 := by rw [List.length_drop]; omega
      have hlt2 : valL (bs.drop (q + 1)) < 2 ^ 24 := Nat.lt_of_lt_of_le hlt (by rw [pow256]; exact Nat.pow_le_pow_right (by decide) (by omega))
      rw [show bs.length - j = q + 1 by omega]
      have HST := Lib.hid (show valL (bs.drop (bs.length - (j + 1))) = c + 256 * valL (bs.drop (q + 1)) by rw [show bs.length - (j + 1) = q by omega, hst])
      generalize valL (bs.drop (q + 1)) = V at *
      rw [← hq]
      have HQ := Lib.hid hq
      clear hst hc hcc hlt h3 hq
      go_wp2_with fail
      exact ⟨⟨j + 1, by congr 1; have := HQ.out; omega, by omega, by rw [HST.out]; congr 1; omega, trivial⟩, by simp only [intOf]; omega⟩
    · obtain rfl : j = bs.length := by omega
      have e1 : ((bs.length : Int) - 1 - bs.length) = -1 := by omega
      rw [e1, Nat.sub_self, List.drop_zero]
      go_wp2_with fail
      go_ret
      exact ⟨rfl, rfl⟩
end Go.Proofs.YtbbcphloafmldaaGreat
