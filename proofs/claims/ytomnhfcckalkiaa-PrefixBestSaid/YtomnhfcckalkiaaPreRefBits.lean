/- pressworkref04.Bits, pressworklaw06.bits: their walks. -/
import Derived.Lib.SmallJoins
import Derived.Test.YtomnhfcckalkiaaPreRefW
import Derived.Test.YtomnhfcckalkiaaClone
namespace Go.Proofs.Ytomnhfcckalkiaa
open Go.RowKit
set_option linter.unusedVariables false

/-- bits, as numbers. -/
def bn (l : List Bool) : List Nat := l.map Bool.toNat
theorem length_bn (l : List Bool) : (bn l).length = l.length := by simp [bn]
theorem bn_append (l m : List Bool) : bn (l ++ m) = bn l ++ bn m := by simp [bn]
theorem bn_lt (l : List Bool) : ∀ b ∈ bn l, b < 256 := fun b hb => by
  obtain ⟨x, _, rfl⟩ := List.mem_map.1 hb
  have := bool_le x; omega
/-- a row of bytes in new memory. -/
def RU (w : World) (l : List Nat) (v : Value) (wr : World) : Prop := ∃ og, Owns wr 5 1 v og l.length (u8s l) ∧ (∀ g, og = some g → w.heap.size ≤ g) ∧ Ext w wr
theorem ru_app {w w1 w2 : World} {l xs : List Nat} {ov v' : Value} {o : Obj} {n : Nat} (h : RU w l ov w1) (hn : n = l.length) (hown' : w2.ownsRow 0 5 1 v' (n + xs.length) (u8s l ++ u8s xs))
    (hgrow : (w1.alloc o).grownBy w2 ov.ownBlock) (hat : v'.ownBlock = ov.ownBlock ∨ v'.ownBlock = some (w1.heap.size + 1)) : RU w (l ++ xs) v' w2 := by
  subst hn
  obtain ⟨og, h1, h2, h3⟩ := h
  refine ⟨v'.ownBlock, ⟨by rw [u8s_append, List.length_append]; exact hown', rfl⟩, fun g e => ?_, Touch.grown (h3.alloc _) hgrow (fun i e => Or.inr (h2 i (by rw [← h1.2]; exact e)))⟩
  rcases hat with hat | hat
  · rw [hat, h1.2] at e; exact h2 g e
  · rw [hat] at e; cases e; have := h3.size; omega
theorem RU.own {w wr : World} {l : List Nat} {v : Value} {n : Nat} (h : RU w l v wr) (hn : l.length = n) : wr.ownsRow 0 5 1 v n (u8s l) := by subst hn; exact h.choose_spec.1.1
theorem RU.out {w wr : World} {l : List Nat} {v : Value} (h : RU w l v wr) : CloneOf w l (.returned v) wr := by
  obtain ⟨og, h1, h2, h3⟩ := h; exact ⟨v, og, rfl, h1, h2, h3⟩
theorem bit_rem (X q : Nat) : ((X : Int) / 2 ^ q).tmod 2 % 256 = ((X.testBit q).toNat : Int) := by
  rw [div_part, Nat.testBit_eq_decide_div_mod_eq, show (((X / 2 ^ q : Nat) : Int).tmod 2) = ((X / 2 ^ q % 2 : Nat) : Int) by simp [Int.tmod]]
  rcases Nat.mod_two_eq_zero_or_one (X / 2 ^ q) with h | h <;> rw [h] <;> decide
theorem bit_rem8 (X q : Nat) : ((X : Int) / 2 ^ q).tmod 2 = ((X.testBit q).toNat : Int) := by
  rw [div_part, Nat.testBit_eq_decide_div_mod_eq, show (((X / 2 ^ q : Nat) : Int).tmod 2) = ((X / 2 ^ q % 2 : Nat) : Int) by simp [Int.tmod]]
  rcases Nat.mod_two_eq_zero_or_one (X / 2 ^ q) with h | h <;> rw [h] <;> decide
theorem byte_at (bs : List Nat) (hi : Bool) (i : Nat) (h : i < 8 * bs.length) (hb : ∀ b ∈ bs, b < 256) : ((bs.getD (i / 8) 0 : Nat) : Int).toNat = bs.getD (i / 8) 0 := Int.toNat_natCast _
set_option maxHeartbeats 4000000 in
set_option maxRecDepth 100000 in
theorem pre_ref_bits (X n : Nat) (w : World) (hX : X < 4294967296) (hn : n ≤ 20) :
    Calls Try.prog 31 #[.int .u32 X, .int .u8 n] w (CloneOf w (bn (bitsOf true X n))) := by
  obtain ⟨i0, hi, hz0, hz1, hz2⟩ := info_parts info_u8
  have HN := Lib.hid (length_bitsOf true X n)
  go_enter Try.func31, Try.ntmps31
  go_wp2_with fail
  go_loopw [5, 6] (fun rv kv wr => ∃ i : Nat, kv = .int .i64 ((n : Int) - 1 - i) ∧ i ≤ n ∧ RU w (bn ((bitsOf true X n).take i)) rv wr) (fun _ kv _ => (intOf kv + 1).toNat)
  case atStart => exact ⟨0, by simp, Nat.zero_le _, none, Owns.nil _ _ _, (fun g e => by cases e), Ext.refl w⟩
  case round =>
    obtain ⟨i, rfl, hi2, hp⟩ := hrel
    have HP := Lib.hid hp
    clear hp
    by_cases hin : i < n
    · obtain ⟨q, hq⟩ : ∃ q : Nat, (q : Int) = (n : Int) - 1 - i := ⟨n - 1 - i, by omega⟩
      have hq0 : (0 : Int) ≤ (q : Int) := by omega
      rw [← hq]
      have HTK := Lib.hid (show (bitsOf true X n).take (i + 1) = (bitsOf true X n).take i ++ [X.testBit q] by rw [bitsOf_succ true X n i hin, if_pos rfl]; congr 3; omega)
      have hq20 : q < 20 := by omega
      have hl : (bn ((bitsOf true X n).take i)).length = i := by rw [length_bn, List.length_take, HN.out]; omega
      have HL := Lib.hid hl
      have HQ := Lib.hid hq
      clear hq hl
      go_wp2_with (at_builtin; go_must (refine wpList_append_own_at _ rfl (.tmp 14) (.tmp 20) 22 rfl 0 5 i0 (.int .u8 0) 1 1 Try.underlying22 hi hz0 hz1 hz2 rfl (by decide) _ i (u8s (bn ((bitsOf true X n).take i))) rfl ((HP.out.own HL.out).alloc _) ⟨wr.heap.size, 0, none⟩ 1 1 [_] rfl rfl (cell_one_new _ _ _) (by simp [Value.oneCell']) (by unfold maxLen; omega) (by omega) (Nat.zero_le _) ?_))
      intro v' w3 hown' hgrow _ hat
      rw [bit_rem] at hown' hgrow
      have HF := Lib.hid (ru_app (xs := [(X.testBit q).toNat]) HP.out HL.out.symm hown' hgrow hat)
      clear hown' hgrow hat
      go_wp2_with fail
      go_roundw
      case rel => exact ⟨i + 1, by congr 1; have := HQ.out; omega, by omega, by rw [HTK.out, bn_append]; exact HF.out⟩
      case measure => simp only [intOf]; omega
    · obtain rfl : i = n := by omega
      have e1 : ((i : Int) - 1 - i) = -1 := by omega
      rw [e1]
      have HF := Lib.hid (show RU w (bn (bitsOf true X i)) _ wr from by have := HP.out; rwa [List.take_of_length_le (by rw [HN.out]; exact Nat.le_refl _)] at this)
      clear e1
      go_wp2_with fail
      go_ret
      exact HF.out.out
set_option maxHeartbeats 4000000 in
set_option maxRecDepth 100000 in
theorem pre_law_bits (v : Value) (bs : List Nat) (hi low : Bool) (hlow : low = !hi) (w : World) (hv : ViewL w v (u8s bs)) (hb : ∀ b ∈ bs, b < 256) (hl : bs.length ≤ 2 ^ 30) :
    Calls Try.prog 15 #[v, .bool low] w (CloneOf w (bn (ofBits hi bs))) := by
  obtain ⟨i0, hi0, hz0, hz1, hz2⟩ := info_parts info_u8
  obtain ⟨ao, cap, rfl⟩ := hv.shape
  rw [length_u8s] at *
  have HV := Lib.hid hv
  have HB := Lib.hid hb
  have HN := Lib.hid (length_ofBits hi bs)
  clear hv hb
  go_enter Try.func15, Try.ntmps15
  go_wp2_with fail
  go_loopw [5, 6] (fun rv iv wr => ∃ i : Nat, iv = .int .i64 i ∧ i ≤ 8 * bs.length ∧ RU w (bn ((ofBits hi bs).take i)) rv wr) (fun _ iv _ => 8 * bs.length - (intOf iv).toNat)
  case atStart => exact ⟨0, rfl, Nat.zero_le _, none, Owns.nil _ _ _, (fun g e => by cases e), Ext.refl w⟩
  case round =>
    obtain ⟨i, rfl, hi2, hp⟩ := hrel
    have HP := Lib.hid hp
    clear hp
    by_cases hin : i < 8 * bs.length
    · have hini : (i : Int) < 8 * (bs.length : Int) := by omega
      have hq := byte_at bs hi i hin HB.out
      have hl8 : i / 8 < bs.length := by omega
      obtain ⟨b, o, rfl, _, hc⟩ := viewL_cells HV.out (by rw [length_u8s]; omega)
      have cB := cell_touch HP.out.choose_spec.2.2 (hc (i / 8) _ (getElem?_u8s bs (i / 8) hl8)) (fun f => f)
      obtain ⟨x, hx⟩ : ∃ x, bs.getD (i / 8) 0 = x := ⟨_, rfl⟩
      have hx256 : x < 256 := by rw [← hx]; exact getD_lt HB.out _
      rw [hx] at cB hq
      have HTK := Lib.hid (show (ofBits hi bs).take (i + 1) = (ofBits hi bs).take i ++ [x.testBit (sh hi (i % 8))] by
        rw [List.take_add_one, List.getElem?_eq_getElem (by rw [HN.out]; omega), Option.toList_some]
        have := ofBits_get hi bs i
        rw [List.getD, List.getElem?_eq_getElem (by rw [HN.out]; omega), Option.getD_some, rbit, hx] at this
        rw [this])
      have hl : (bn ((ofBits hi bs).take i)).length = i := by rw [length_bn, List.length_take, HN.out]; omega
      have HL := Lib.hid hl
      have HQ := Lib.hid hq
      have k1 : IntKind.i64.wrap ((i : Int) / 8) = (i : Int) / 8 := IntWalk.i64_in _ (by omega)
      have k2 : ((i : Int) / 8).toNat = i / 8 := by omega
      have k3 : (0 : Int) ≤ (i : Int) / 8 := by omega
      have k4 : (i : Int) / 8 < (bs.length : Int) := by omega
      have k6 : (0 : Int) ≤ (i : Int) % 8 := by omega
      have k7 : (0 : Int) ≤ 7 - (i : Int) % 8 := by omega
      clear hx hl hq hc
      cases hi
      · obtain rfl : low = true := hlow
        go_wp2_with (at_builtin; go_must (refine wpList_append_own_at _ rfl (.tmp 21) (.tmp 30) 22 rfl 0 5 i0 (.int .u8 0) 1 1 Try.underlying22 hi0 hz0 hz1 hz2 rfl (by decide) _ i (u8s (bn ((ofBits false bs).take i))) rfl ((HP.out.own HL.out).alloc _) ⟨wr.heap.size, 0, none⟩ 1 1 [_] rfl rfl (cell_one_new _ _ _) (by simp [Value.oneCell']) (by unfold maxLen; omega) (by omega) (Nat.zero_le _) ?_))
        intro v' w3 hown' hgrow _ hat
        rw [bit_rem8] at hown' hgrow
        have HF := Lib.hid (ru_app (xs := [(x.testBit (sh false (i % 8))).toNat]) HP.out HL.out.symm hown' hgrow hat)
        clear hown' hgrow hat cB
        go_wp2_with fail
        go_roundw
        case rel => exact ⟨i + 1, by go_num, by omega, by rw [HTK.out, bn_append]; exact HF.out⟩
        case measure => simp only [intOf]; omega
      · obtain rfl : low = false := hlow
        go_wp2_with (at_builtin; go_must (refine wpList_append_own_at _ rfl (.tmp 21) (.tmp 30) 22 rfl 0 5 i0 (.int .u8 0) 1 1 Try.underlying22 hi0 hz0 hz1 hz2 rfl (by decide) _ i (u8s (bn ((ofBits true bs).take i))) rfl ((HP.out.own HL.out).alloc _) ⟨wr.heap.size, 0, none⟩ 1 1 [_] rfl rfl (cell_one_new _ _ _) (by simp [Value.oneCell']) (by unfold maxLen; omega) (by omega) (Nat.zero_le _) ?_))
        intro v' w3 hown' hgrow _ hat
        rw [bit_rem8] at hown' hgrow
        have HF := Lib.hid (ru_app (xs := [(x.testBit (sh true (i % 8))).toNat]) HP.out HL.out.symm hown' hgrow hat)
        clear hown' hgrow hat cB
        go_wp2_with fail
        go_roundw
        case rel => exact ⟨i + 1, by go_num, by omega, by rw [HTK.out, bn_append]; exact HF.out⟩
        case measure => simp only [intOf]; omega
    · obtain rfl : i = 8 * bs.length := by omega
      have HF := Lib.hid (show RU w (bn (ofBits hi bs)) _ wr from by have := HP.out; rwa [List.take_of_length_le (by rw [HN.out]; exact Nat.le_refl _)] at this)
      go_wp2_with fail
      go_ret
      exact HF.out.out
end Go.Proofs.Ytomnhfcckalkiaa
