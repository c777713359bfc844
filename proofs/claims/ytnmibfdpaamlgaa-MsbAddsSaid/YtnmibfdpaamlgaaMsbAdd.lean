/- msb.Writer.Add: its walk. -/
import Derived.Test.YtnmibfdpaamlgaaMsbWr
import Derived.Test.YtnmibfdpaamlgaaBitsTwo
namespace Go.Proofs.Ytnmibfdpaamlgaa
open Go.RowKit
set_option linter.unusedVariables false

theorem msb_add_nil (p : Option Addr) (w : World) : Calls Try.prog 42 #[.pointer none, .pointer p] w fun e w' => e = .returned (.int .i64 8) ∧ w = w' := by
  go_enter Try.func42, Try.ntmps42
  go_wp2_with fail
  go_ret
  exact ⟨rfl, rfl⟩
theorem msb_add_nil2 (a : Addr) (w : World) : Calls Try.prog 42 #[.pointer (some a), .pointer none] w fun e w' => e = .returned (.int .i64 8) ∧ w = w' := by
  go_enter Try.func42, Try.ntmps42
  go_wp2_with fail
  go_ret
  exact ⟨rfl, rfl⟩
set_option maxHeartbeats 800000 in
theorem msb_add (A B : Nat) (oa ob : Option Nat) (la lb : List Bool) (w : World) (hA : IsW 37 true w A oa la) (hB : IsW 37 true w B ob lb) (hl : la.length + lb.length < 2 ^ 40) :
    Calls Try.prog 42 #[.pointer (some ⟨A, 0, none⟩), .pointer (some ⟨B, 0, none⟩)] w fun e w' => e = .returned (.int .i64 0) ∧ WPost 37 true w A oa (la ++ lb) w' := by
  obtain ⟨v, h1, h2, h3⟩ := id hB
  have hc0 : w.cell? ⟨B, 0, none⟩ = some v := by simp [World.cell?, h1]
  have hv : View w v (packs true lb) := Owns.view (by rw [length_packs]; exact h2)
  have HV := Lib.hid hv
  have HA := Lib.hid hA
  have HB := Lib.hid hB
  clear h1 h2 hv hA hB
  go_enter Try.func42, Try.ntmps42
  go_wp2_with fail
  refine (clone v _ w HV.out (by rw [length_packs]; omega)).mono ?_
  rintro e w1 ⟨u, og, rfl, k1, k2, k3⟩
  obtain ⟨ao, cap, rfl⟩ := k1.shape
  have hb1 := HB.out.ext k3
  have hc1 : w1.cell? ⟨B, 1, none⟩ = some (.int .i64 lb.length) := by obtain ⟨v, h1, _, _⟩ := hb1; simp [World.cell?, h1]
  have HA1 := Lib.hid (HA.out.ext k3)
  have HX := Lib.hid k3
  have HO := Lib.hid k1
  have HG : Hid (∀ g, og = some g → ¬ FP A oa g) := Lib.hid (fun g e h => by
    have g1 := k2 g e
    have g2 := HA.out.lt
    rcases h with h | h
    · omega
    · have := HA.out.glt g h; omega)
  clear k1 k2 k3 hb1 hc0
  go_wp2_with fail
  clear hc1
  go_loopw [22] (fun i wr => ∃ k : Nat, k ≤ lb.length ∧ i = .int .i64 k ∧ WPost 37 true w1 A oa (la ++ lb.take k) wr) (fun i _ => lb.length - (intOf i).toNat)
  case atStart => exact ⟨0, Nat.zero_le _, rfl, by simpa using WPost.refl HA1.out⟩
  case round =>
    obtain ⟨k, hk, rfl, hp⟩ := hrel
    by_cases hlt : k < lb.length
    · obtain ⟨og1, hw1, hn1, ht1⟩ := hp
      have ho := HO.out.keep ht1 HG.out
      have hlen := length_packs true lb
      rcases ho.form with ⟨_, _, hz, _⟩ | ⟨g, cap', cur, rfl, hsl, _⟩
      · omega
      cases hsl
      obtain ⟨ob', hob⟩ : ∃ ob', ob' = (packs true lb).getD (k / 8) 0 := ⟨_, rfl⟩
      have hcg : wr.cell? ⟨g, k / 8, none⟩ = some (.int .u8 ob') := ho.cell _ _ (by rw [getElem?_u8s _ _ (by omega), hob])
      have hbnd := add_range ob' k (hob ▸ getD_lt (packs_lt _ _) _)
      have hbit : (((ob' : Int) / 2 ^ (7 - k % 8)) % 4294967296).toNat.testBit 0 = lb[k] := by
        rw [hob]; exact add_bit_high lb k hlt
      have HN := Lib.hid hn1
      have HT := Lib.hid ht1
      have HW := Lib.hid hw1
      have HOB := Lib.hid hob
      have HBIT := Lib.hid hbit
      have hk8 : (k : Int) / 8 < ((packs true lb).length : Int) := by omega
      have hk9 : k / 8 < (packs true lb).length := by omega
      clear hn1 ht1 hw1 hob hbit ho hlen
      go_wp2_with fail
      refine (msb_bit_int A _ og1 _ wr HW.out (by have := List.length_take_le k lb; simp only [List.length_append]; omega) hbnd.2.1 hbnd.2.2).mono ?_
      rw [HBIT.out]
      rintro e w' ⟨rfl, hp1⟩
      have HP := Lib.hid hp1; clear hp1
      go_wp2_with fail
      go_roundw
      case rel =>
        refine ⟨k + 1, by omega, by go_num, ?_⟩
        rw [List.take_succ_eq_append_getElem hlt, ← List.append_assoc]
        exact WPost.step HN.out HT.out HP.out
      case measure => simp [intOf]; omega
    · go_wp2_with fail
      go_ret
      refine ⟨rfl, ?_⟩
      rw [List.take_of_length_le (by omega)] at hp
      obtain ⟨oa', p1, p2, p3⟩ := hp
      have hnear : Near oa oa' w := by
        rcases p2 with h | ⟨g, h1, h2⟩
        · exact Or.inl h
        · exact Or.inr ⟨g, h1, Nat.le_trans HX.out.size h2⟩
      exact ⟨oa', p1, hnear, Ext.trans' HX.out p3⟩
end Go.Proofs.Ytnmibfdpaamlgaa
