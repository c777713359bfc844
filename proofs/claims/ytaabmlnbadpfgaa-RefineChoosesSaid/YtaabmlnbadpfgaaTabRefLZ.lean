/- pressworkref24.Lengths: its walk. -/
import Derived.Test.YtaabmlnbadpfgaaBnd5
import Derived.Test.YtaabmlnbadpfgaaMsbRefBitsZ
import Derived.Test.YtaabmlnbadpfgaaBnd1
namespace Go.Proofs.Ytaabmlnbadpfgaa
open Go.RowKit
set_option linter.unusedVariables false

/-- a row of bits in new memory. -/
def RB (w : World) (l : List Bool) (v : Value) (wr : World) : Prop := ∃ og, Owns wr 4 1 v og l.length (bls l) ∧ (∀ g, og = some g → w.heap.size ≤ g) ∧ Ext w wr
theorem rb_app {w w1 w2 : World} {l xs : List Bool} {ov v' : Value} {o : Obj} (h : RB w l ov w1) (hown' : w2.ownsRow 0 4 1 v' (l.length + xs.length) (bls l ++ bls xs))
    (hgrow : (w1.alloc o).grownBy w2 ov.ownBlock) (hat : v'.ownBlock = ov.ownBlock ∨ v'.ownBlock = some (w1.heap.size + 1)) : RB w (l ++ xs) v' w2 := by
  obtain ⟨og, h1, h2, h3⟩ := h
  refine ⟨v'.ownBlock, ⟨by rw [bls_append, List.length_append]; exact hown', rfl⟩, fun g e => ?_, Touch.grown (h3.alloc _) hgrow (fun i e => Or.inr (h2 i (by rw [← h1.2]; exact e)))⟩
  rcases hat with hat | hat
  · rw [hat, h1.2] at e; exact h2 g e
  · rw [hat] at e; cases e; have := h3.size; omega
set_option maxHeartbeats 4000000 in
set_option maxRecDepth 100000 in
theorem tab_ref_lengths (v : Value) (bs : List Nat) (w : World) (hv : ViewL w v (u8s bs)) (hm : MayP bs) :
    Calls Try.prog 28 #[v] w (NewRow w (lenBits bs)) := by
  obtain ⟨i0, hi, hz0, hz1, hz2⟩ := info_parts msb_infoB
  obtain ⟨ao, cap, rfl⟩ := hv.shape
  rw [length_u8s] at *
  obtain ⟨m1, m2, m3⟩ := hm
  have hat := atK_le bs m3
  have hll := lenTo_len bs m3
  obtain ⟨b, o, rfl, _, hc⟩ := viewL_cells hv (by rw [length_u8s]; omega)
  obtain ⟨x, hx⟩ : ∃ x, bs[0]? = some x := ⟨_, List.getElem?_eq_getElem (by omega)⟩
  have c0 := hc 0 (.int .u8 x) (by simp [u8s, hx])
  rw [Nat.add_zero] at c0
  have HC := Lib.hid (show ∀ wr l' v', RB w l' v' wr → ∀ (k y : Nat), bs[k]? = some y → wr.cell? ⟨b, o + k, none⟩ = some (.int .u8 y) from fun wr l' v' h k y hy => cell_touch h.choose_spec.2.2 (hc k (.int .u8 y) (by simp [u8s, hy])) (fun f => f))
  have hx20 := m3 x (List.mem_of_getElem? hx)
  have hxd : bs.getD 0 0 = x := by simp [List.getD, hx]
  have h0i : (0 : Int) < (bs.length : Int) := by omega
  have HXD := Lib.hid hxd
  have HAT := Lib.hid hat
  have HLL := Lib.hid hll
  have HM3 := Lib.hid m3
  clear hv hc hxd hat hll m3
  go_enter Try.func28, Try.ntmps28
  go_wp2_with fail
  refine (msb_ref_bits x 5 _ (by omega) (by decide)).mono ?_
  rintro e w1 ⟨v1, og1, rfl, o1, g1, x1⟩
  have hrb : RB w (bitsOf true x 5) v1 w1 := ⟨og1, o1, g1, x1⟩
  have c01 := HC.out _ _ _ hrb 0 x hx
  rw [Nat.add_zero] at c01
  have HRB := Lib.hid hrb
  clear hrb o1 g1 x1 c0 hx
  go_wp2_with fail
  clear c01
  go_loopw [3, 4, 5] (fun rv atv iv wr => ∃ k : Nat, iv = .int .i64 k ∧ atv = .int .u8 (atK bs k) ∧ k ≤ bs.length ∧ RB w (lenTo bs k) rv wr) (fun _ _ iv _ => bs.length - (intOf iv).toNat)
  case atStart => exact ⟨0, rfl, by rw [atK, if_pos rfl, HXD.out], Nat.zero_le _, by rw [lenTo, HXD.out]; exact HRB.out⟩
  case round =>
    obtain ⟨k, rfl, rfl, hk, hp⟩ := hrel
    have HP := Lib.hid hp
    clear hp
    by_cases hlt : k < bs.length
    · have hlti : (k : Int) < (bs.length : Int) := by omega
      obtain ⟨n, hn⟩ : ∃ n, bs[k]? = some n := ⟨_, List.getElem?_eq_getElem hlt⟩
      have hn20 := HM3.out n (List.mem_of_getElem? hn)
      have ha20 := HAT.out k
      have hll := HLL.out k
      have hnd : bs.getD k 0 = n := by simp [List.getD, hn]
      have hst : lenTo bs (k + 1) = lenTo bs k ++ (upB (n - atK bs k) ++ (downB (atK bs k - n) ++ [false])) := by rw [lenTo, hnd]
      have hak : atK bs (k + 1) = n := by rw [atK, if_neg (by omega), Nat.add_sub_cancel, hnd]
      generalize atK bs k = a at *
      generalize lenTo bs k = L at *
      have HST := Lib.hid hst
      have HAK := Lib.hid hak
      have HN := Lib.hid hn
      clear hn hnd hst hak
      go_wp2_with fail
      go_loopw [3, 4] (fun rv atv wr => ∃ x : Nat, atv = .int .u8 x ∧ ((a ≤ x ∧ x ≤ n) ∨ (n ≤ x ∧ x ≤ a)) ∧ RB w (L ++ (upB (x - a) ++ downB (a - x))) rv wr) (fun _ atv _ => (n - (intOf atv).toNat) + ((intOf atv).toNat - n))
      case atStart => exact ⟨a, rfl, by omega, by rw [Nat.sub_self]; simpa [upB, downB] using HP.out⟩
      case round =>
        obtain ⟨x, rfl, hax, hr⟩ := hrel
        have hcx := HC.out _ _ _ hr k n HN.out
        have hul := upB_len (x - a)
        have hdl := downB_len (a - x)
        obtain ⟨M, hM⟩ : ∃ M, M = L ++ (upB (x - a) ++ downB (a - x)) := ⟨_, rfl⟩
        have hMl : M.length ≤ 40000 := by rw [hM]; simp only [List.length_append]; omega
        rw [← hM] at hr
        have HM := Lib.hid hM
        have HR := Lib.hid hr
        clear hM hr hul hdl
        by_cases hxn : x = n
        · have hb1 : ((x : Int) == (n : Int)) = true := by rw [hxn]; simp
          have hb2 : (x : Int) = (n : Int) := by rw [hxn]
          have hb3 : ((x : Int) != (n : Int)) = false := by rw [hxn]; simp
          have HXN := Lib.hid hxn
          clear hxn
          go_wp2_with (at_builtin; go_must (refine wpList_append_own_at _ rfl (.tmp 42) (.tmp 43) 56 rfl 0 4 i0 (.bool false) 1 1 Try.underlying56 hi hz0 hz1 hz2 rfl (by decide) _ M.length (bls M) rfl (HR.out.choose_spec.1.1.alloc _) ⟨wr.heap.size, 0, none⟩ 1 1 [.bool false] rfl rfl (news _ _ _ _) (by simp [Value.oneCell']) (by unfold maxLen; omega) (by omega) (Nat.zero_le _) ?_))
          intro v' w3 hown' hgrow _ hat
          have hf := rb_app (xs := [false]) HR.out hown' hgrow hat
          have HF := Lib.hid hf
          clear hf hown' hgrow hat hcx hb1 hb2 hb3
          go_wp2_with fail
          go_roundw
          case rel => exact ⟨k + 1, by go_num, by rw [HAK.out], by omega, by rw [HST.out]; have := HF.out; rw [HM.out, HXN.out] at this; simpa [List.append_assoc] using this⟩
          case measure => simp [intOf]; omega
        · have hb1 : ((x : Int) == (n : Int)) = false := by rw [beq_eq_false_iff_ne]; omega
          have hb2 : ¬ (x : Int) = (n : Int) := by omega
          have hb3 : ((x : Int) != (n : Int)) = true := by rw [bne_iff_ne]; omega
          by_cases hlt2 : x < n
          · have hlti2 : (x : Int) < (n : Int) := by omega
            have k1 : IntKind.u8.wrap ((x : Int) + 1) = (x : Int) + 1 := IntWalk.u8_in _ (by omega)
            go_wp2_with (at_builtin; go_must (refine wpList_append_own_at _ rfl (.tmp 32) (.tmp 33) 56 rfl 0 4 i0 (.bool false) 1 1 Try.underlying56 hi hz0 hz1 hz2 rfl (by decide) _ M.length (bls M) rfl (HR.out.choose_spec.1.1.alloc _) ⟨wr.heap.size, 0, none⟩ 2 2 [.bool true, .bool false] rfl rfl (news _ _ _ _) (by simp [Value.oneCell']) (by unfold maxLen; omega) (by omega) (Nat.zero_le _) ?_))
            intro v' w3 hown' hgrow _ hat
            have hf := rb_app (xs := [true, false]) HR.out hown' hgrow hat
            have HF := Lib.hid hf
            clear hf hown' hgrow hat hcx hb1 hb2 hb3
            go_wp2_with fail
            go_roundw
            case rel => exact ⟨x + 1, by go_num, Or.inl ⟨by omega, by omega⟩, by rw [show x + 1 - a = (x - a) + 1 by omega, upB_succ, show a - (x + 1) = 0 by omega]; have := HF.out; rw [HM.out, show a - x = 0 by omega] at this; simpa [downB, List.append_assoc] using this⟩
            case measure => simp [intOf]; omega
          · have hlti2 : ¬ (x : Int) < (n : Int) := by omega
            have k1 : IntKind.u8.wrap ((x : Int) - 1) = (x : Int) - 1 := IntWalk.u8_in _ (by omega)
            go_wp2_with (at_builtin; go_must (refine wpList_append_own_at _ rfl (.tmp 37) (.tmp 38) 56 rfl 0 4 i0 (.bool false) 1 1 Try.underlying56 hi hz0 hz1 hz2 rfl (by decide) _ M.length (bls M) rfl (HR.out.choose_spec.1.1.alloc _) ⟨wr.heap.size, 0, none⟩ 2 2 [.bool true, .bool true] rfl rfl (news _ _ _ _) (by simp [Value.oneCell']) (by unfold maxLen; omega) (by omega) (Nat.zero_le _) ?_))
            intro v' w3 hown' hgrow _ hat
            have hf := rb_app (xs := [true, true]) HR.out hown' hgrow hat
            have HF := Lib.hid hf
            clear hf hown' hgrow hat hcx hb1 hb2 hb3
            go_wp2_with fail
            go_roundw
            case rel => exact ⟨x - 1, by congr 1; omega, Or.inr ⟨by omega, by omega⟩, by rw [show a - (x - 1) = (a - x) + 1 by omega, downB_succ, show x - 1 - a = 0 by omega]; have := HF.out; rw [HM.out, show x - a = 0 by omega] at this; simpa [upB, List.append_assoc] using this⟩
            case measure => simp [intOf]; omega
    · obtain rfl : k = bs.length := by omega
      obtain ⟨og, h1, h2, h3⟩ := HP.out
      have HF := Lib.hid (show NewRow w (lenBits bs) (.returned _) _ from ⟨_, og, rfl, h1, h2, h3⟩)
      clear h1 h2 h3
      go_wp2_with fail
      go_ret
      exact HF.out
end Go.Proofs.Ytaabmlnbadpfgaa
