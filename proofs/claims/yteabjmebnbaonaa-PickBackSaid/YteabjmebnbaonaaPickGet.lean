/- pick.Get: its walk. -/
import Derived.Test.YteabjmebnbaonaaPickLaw
import Derived.Test.YteabjmebnbaonaaMsbGet
import Derived.Test.YteabjmebnbaonaaMsbRd
import Derived.Test.YteabjmebnbaonaaView
namespace Go.Proofs.Yteabjmebnbaonaa
open Go.RowKit
set_option linter.unusedVariables false

theorem pick_has (v k : Nat) (w : World) (hv : v < 65536) (hk : k < 16) : Calls Try.prog 41 #[.int .u32 v, .int .i64 k] w fun e w' => e = .returned (.bool (v.testBit (15 - k))) ∧ w = w' := by
  obtain ⟨j, hj⟩ : ∃ j, j = 15 - k := ⟨_, rfl⟩
  have k1 : (15 : Int) - (k : Int) = (j : Int) := by omega
  have k2 : ((j : Int)).toNat = j := Int.toNat_natCast j
  have k3 : (0 : Int) ≤ (j : Int) := by omega
  have k4 : IntKind.i64.wrap (j : Int) = j := IntWalk.i64_in _ (by omega)
  have hres : (bits .and .u32 ((v : Int) / 2 ^ j) 1 == 1) = v.testBit j := by
    have e : ((v : Int) / 2 ^ j) = ((v / 2 ^ j : Nat) : Int) := by simp
    have hlt : v / 2 ^ j < 65536 := Nat.lt_of_le_of_lt (Nat.div_le_self _ _) hv
    rw [e, Nat.testBit_eq_decide_div_mod_eq]
    generalize v / 2 ^ j = q at *
    have h := bits_mask .u32 31 (by decide) (fun n h0 h1 => IntWalk.u32_in n (by omega)) 1 (by decide) (q : Int) (by omega) (by omega)
    have e2 : ((2 : Int) ^ 1 - 1) = 1 := by decide
    have e3 : ((2 : Int) ^ 1) = 2 := by decide
    rw [e2, e3] at h
    rw [h]
    rcases Nat.mod_two_eq_zero_or_one q with h2 | h2
    · have : ((q : Nat) : Int) % 2 = 0 := by omega
      rw [this, h2]; rfl
    · have : ((q : Nat) : Int) % 2 = 1 := by omega
      rw [this, h2]; rfl
  rw [← hj, ← hres]
  clear hj hres
  go_enter Try.func41, Try.ntmps41
  go_wp2_with fail
  go_ret
  exact ⟨rfl, rfl⟩
/-- the bytes so far, and the reader. -/
def PG (w : World) (B : Nat) (og : Option Nat) (bs : List Nat) (o : List Nat) (p : Nat) (ov : Value) (wr : World) : Prop :=
  ∃ oo, Owns wr 5 1 ov oo o.length (u8s o) ∧ (∀ g, oo = some g → w.heap.size ≤ g) ∧ RPost 67 w B og bs p wr
theorem PG.get {w wr w2 : World} {B : Nat} {og : Option Nat} {bs o : List Nat} {p p' : Nat} {ov : Value} (h : PG w B og bs o p ov wr) (hB : B < w.heap.size) (hp : RPost 67 wr B og bs p' w2) : PG w B og bs o p' ov w2 := by
  obtain ⟨oo, h1, h2, h3⟩ := h
  exact ⟨oo, h1.keep hp.2 (fun g e f => by have := h2 g e; omega), h2, h3.step hp⟩
theorem PG.app {w wr w2 : World} {B : Nat} {og : Option Nat} {bs o : List Nat} {p y : Nat} {ov v' : Value} {ob : Obj} (h : PG w B og bs o p ov wr) (hB : B < w.heap.size) (hg : ∀ g, og = some g → g < w.heap.size)
    (hown' : w2.ownsRow 0 5 1 v' (o.length + 1) (u8s o ++ [.int .u8 y])) (hgrow : (wr.alloc ob).grownBy w2 ov.ownBlock) (hat : v'.ownBlock = ov.ownBlock ∨ v'.ownBlock = some (wr.heap.size + 1)) : PG w B og bs (o ++ [y]) p v' w2 := by
  obtain ⟨oo, h1, h2, h3⟩ := h
  have hs := h3.2.size
  have ht : Touch (fun k => ov.ownBlock = some k) wr w2 := Touch.grown ((Ext.refl wr).alloc ob |>.mono (fun _ _ f => f.elim)) hgrow (fun k e => Or.inl e)
  have hn : ∀ k, k < w.heap.size → ¬ (ov.ownBlock = some k) := fun k hk e => by rw [h1.2] at e; have := h2 k e; omega
  refine ⟨v'.ownBlock, ⟨by rw [u8s_append, List.length_append]; exact hown', rfl⟩, fun g e => ?_, h3.1.keep ht (hn B hB) (fun g e => hn g (hg g e)), h3.2.trans ht (fun k hk e => absurd e (hn k hk))⟩
  rcases hat with hat | hat
  · rw [hat, h1.2] at e; exact h2 g e
  · rw [hat] at e; cases e; omega
set_option maxHeartbeats 2000000 in
set_option maxRecDepth 100000 in
theorem pick_get (B : Nat) (og : Option Nat) (bs : List Nat) (i : Nat) (w : World) (hr : IsR 67 w B og bs i) (hl : bs.length ≤ 2 ^ 40) (hb : ∀ b ∈ bs, b < 256) (hi : i ≤ 8 * bs.length) :
    Calls Try.prog 14 #[.pointer (some ⟨B, 0, none⟩)] w fun e w' => ∃ v, e = .returned (.tuple #[v, .int .i64 (pickGet (rbit true bs) (8 * bs.length) i).2.2]) ∧ PG w B og bs (pickGet (rbit true bs) (8 * bs.length) i).1 (pickGet (rbit true bs) (8 * bs.length) i).2.1 v w' := by
  obtain ⟨i0, hi1, hz0, hz1, hz2⟩ := info_parts info_u8
  have hBlt := hr.lt
  have hglt := hr.glt
  have HR := Lib.hid hr
  have HB := Lib.hid hb
  have HG := Lib.hid hglt
  obtain ⟨f, hf⟩ : ∃ f, f = rbit true bs := ⟨_, rfl⟩
  obtain ⟨N, hN⟩ : ∃ N, N = 8 * bs.length := ⟨_, rfl⟩
  have HF := Lib.hid hf
  have HN := Lib.hid hN
  rw [← hf, ← hN]
  clear hr hb hglt hf
  go_enter Try.func14, Try.ntmps14
  go_wp2_with fail
  refine (msb_get B og bs i 16 _ HR.out (by omega) HB.out hi).mono ?_
  by_cases h16 : N < i + 16
  · have hg : getR true bs i 16 = (0, i, 2) := by rw [getR, if_neg (by omega), if_pos (by omega)]
    have hp : pickGet f N i = ([], i, 2) := by rw [pickGet, if_pos h16]
    have HP := Lib.hid hp
    rw [hg]
    clear hg hp hN
    rintro e w1 ⟨rfl, p1⟩
    have HP1 := Lib.hid p1
    clear p1
    go_wp2_with fail
    go_ret2
    exact ⟨.slice none 0 0, by rw [HP.out]; rfl, by rw [HP.out]; exact ⟨none, Owns.nil _ _ _, fun g e => (by cases e), HP1.out⟩⟩
  · have hg : getR true bs i 16 = (numOf true (bitsAt true bs i 16), i + 16, 0) := getR_ok true bs i 16 (by omega) (by omega)
    have hfi : ∀ k, k < 16 → (numOf true (bitsAt true bs i 16)).testBit (15 - k) = f (i + k) := fun k hk => by rw [HF.out]; exact numOf_rbit bs i k hk
    have hflt : numOf true (bitsAt true bs i 16) < 65536 := by have := numOf_lt true (bitsAt true bs i 16); rw [length_bitsAt] at this; exact this
    rw [hg]
    generalize numOf true (bitsAt true bs i 16) = first at *
    have HFI := Lib.hid hfi
    clear hg hfi hN
    rintro e w1 ⟨rfl, p1⟩
    simp only at p1
    have HP1 := Lib.hid p1
    clear p1
    go_wp2_with fail
    go_loopw [6, 21] (fun ov cv wr => ∃ g : Nat, g ≤ 16 ∧ cv = .int .i64 g ∧ (pgLoop f N i g).2.2 = true ∧ PG w B og bs (pgLoop f N i g).1 (pgLoop f N i g).2.1 ov wr) (fun _ cv _ => 16 - (intOf cv).toNat)
    case atStart => exact ⟨0, Nat.zero_le _, rfl, rfl, none, Owns.nil _ _ _, fun g e => (by cases e), HP1.out⟩
    case round =>
      obtain ⟨g, hg, rfl, hok, hpg⟩ := hrel
      by_cases hlt : g < 16
      · have hlti : (g : Int) < 16 := by omega
        have hplace := pg_place f N i (by omega) g
        have hlen := pg_len f N i g
        have hstep : pgLoop f N i (g + 1) = if f (i + g) then (if N < (pgLoop f N i g).2.1 + 16 then ((pgLoop f N i g).1, (pgLoop f N i g).2.1, false) else ((pgLoop f N i g).1 ++ selN f (pgLoop f N i g).2.1 g 16, (pgLoop f N i g).2.1 + 16, true)) else pgLoop f N i g := by rw [pgLoop, if_pos hok]
        have hstuck := pg_stuck f N i (15 - g) (g + 1)
        rw [show g + 1 + (15 - g) = 16 by omega] at hstuck
        obtain ⟨t3, hpo⟩ : ∃ t3, t3 = pgLoop f N i g := ⟨_, rfl⟩
        rw [← hpo] at hplace hlen hstep hpg hok
        obtain ⟨o, p, q⟩ := t3
        simp only at hplace hlen hstep hpg hok
        subst hok
        have HSTEP := Lib.hid hstep
        have HSTUCK := Lib.hid hstuck
        have HPG := Lib.hid hpg
        have HPO := Lib.hid hpo.symm
        clear hstep hstuck hpg hpo
        go_wp2_with fail
        refine (pick_has first g _ hflt hlt).mono ?_
        rw [HFI.out g hlt]
        rintro e w' ⟨rfl, rfl⟩
        cases hbit : f (i + g) with
        | false =>
          have hs : pgLoop f N i (g + 1) = (o, p, true) := by rw [HSTEP.out, hbit]; rfl
          have HS := Lib.hid hs
          clear hs hbit
          go_wp2_with fail
          go_roundw
          case rel => exact ⟨g + 1, by omega, by go_num, by rw [HS.out], by rw [HS.out]; exact HPG.out⟩
          case measure => simp [intOf]; omega
        | true =>
          have HBIT := Lib.hid hbit
          clear hbit
          go_wp2_with fail
          refine (msb_get B og bs p 16 _ HPG.out.choose_spec.2.2.1 (by omega) HB.out (by have := HN.out; omega)).mono ?_
          by_cases hN16 : N < p + 16
          · have hg2 : getR true bs p 16 = (0, p, 2) := by rw [getR, if_neg (by omega), if_pos (by have := HN.out; omega)]
            have hs : pgLoop f N i 16 = (o, p, false) := by
              have h1 : pgLoop f N i (g + 1) = (o, p, false) := by rw [HSTEP.out, HBIT.out, if_pos rfl, if_pos hN16]
              rw [HSTUCK.out (by rw [h1]), h1]
            have hp : pickGet f N i = ([], p, 2) := by rw [pickGet, if_neg h16, hs]; rfl
            have HP := Lib.hid hp
            rw [hg2]
            clear hg2 hs hp
            rintro e w2 ⟨rfl, p2⟩
            have HP2 := Lib.hid (HPG.out.choose_spec.2.2.step p2)
            clear p2
            go_wp2_with fail
            go_ret2
            exact ⟨.slice none 0 0, by rw [HP.out]; rfl, by rw [HP.out]; exact ⟨none, Owns.nil _ _ _, fun g e => (by cases e), HP2.out⟩⟩
          · have hg2 : getR true bs p 16 = (numOf true (bitsAt true bs p 16), p + 16, 0) := getR_ok true bs p 16 (by omega) (by have := HN.out; omega)
            have hfp : ∀ k, k < 16 → (numOf true (bitsAt true bs p 16)).testBit (15 - k) = f (p + k) := fun k hk => by rw [HF.out]; exact numOf_rbit bs p k hk
            have hplt : numOf true (bitsAt true bs p 16) < 65536 := by have := numOf_lt true (bitsAt true bs p 16); rw [length_bitsAt] at this; exact this
            have hs : pgLoop f N i (g + 1) = (o ++ selN f p g 16, p + 16, true) := by rw [HSTEP.out, HBIT.out, if_pos rfl, if_neg hN16]
            rw [hg2]
            generalize numOf true (bitsAt true bs p 16) = second at *
            have HFP := Lib.hid hfp
            have HS := Lib.hid hs
            clear hg2 hfp hs
            rintro e w2 ⟨rfl, p2⟩
            have HPG2 := Lib.hid (HPG.out.get hBlt p2)
            clear p2
            go_wp2_with fail
            go_loopw [6, 36] (fun ov cv wr => ∃ k : Nat, k ≤ 16 ∧ cv = .int .i64 k ∧ PG w B og bs (o ++ selN f p g k) (p + 16) ov wr) (fun _ cv _ => 16 - (intOf cv).toNat)
            case atStart => exact ⟨0, Nat.zero_le _, rfl, by simpa [selN] using HPG2.out⟩
            case round =>
              obtain ⟨k, hk, rfl, hpk⟩ := hrel
              have HPK := Lib.hid hpk
              clear hpk
              by_cases hk16 : k < 16
              · have hki : (k : Int) < 16 := by omega
                have hsl := selN_len f p g k
                go_wp2_with fail
                refine (pick_has second k _ hplt hk16).mono ?_
                rw [HFP.out k hk16]
                rintro e w' ⟨rfl, rfl⟩
                cases hbit : f (p + k) with
                | false =>
                  have hs2 : selN f p g (k + 1) = selN f p g k := by rw [selN, hbit]; simp
                  have HS2 := Lib.hid hs2
                  clear hs2 hbit
                  go_wp2_with fail
                  go_roundw
                  case rel => exact ⟨k + 1, by omega, by go_num, by rw [HS2.out]; exact HPK.out⟩
                  case measure => simp [intOf]; omega
                | true =>
                  have hs2 : selN f p g (k + 1) = selN f p g k ++ [16 * g + k] := by rw [selN, hbit]; rfl
                  obtain ⟨y, hy⟩ : ∃ y, y = 16 * g + k := ⟨_, rfl⟩
                  have hyi : (16 : Int) * (g : Int) + (k : Int) = (y : Int) := by omega
                  have hy8 : IntKind.u8.wrap (y : Int) = (y : Int) := IntWalk.u8_in _ (by omega)
                  have hyb : y < 256 := by omega
                  rw [← hy] at hs2
                  obtain ⟨o2, ho2⟩ : ∃ o2, o2 = o ++ selN f p g k := ⟨_, rfl⟩
                  have ho2l : o2.length ≤ 300 := by rw [ho2, List.length_append]; omega
                  rw [← ho2] at HPK
                  have HO2 := Lib.hid ho2
                  have HS2 := Lib.hid hs2
                  clear hs2 hy hbit ho2
                  go_wp2_with (at_builtin; go_must (refine wpList_append_own_at _ rfl (.tmp 43) (.tmp 49) 22 rfl 0 5 i0 (.int .u8 0) 1 1 Try.underlying22 hi1 hz0 hz1 hz2 rfl (by decide) _ o2.length (u8s o2) rfl (HPK.out.choose_spec.1.1.alloc _) ⟨wr.heap.size, 0, none⟩ 1 1 [.int .u8 y] rfl rfl (cell_one_new _ _ _) (by simp [Value.oneCell']) (by unfold maxLen; omega) (by omega) (Nat.zero_le _) ?_))
                  intro v' w3 hown' hgrow _ hat
                  have hf := HPK.out.app hBlt HG.out hown' hgrow hat
                  rw [HO2.out, List.append_assoc, ← HS2.out] at hf
                  have HF3 := Lib.hid hf
                  clear hf hown' hgrow hat
                  go_wp2_with fail
                  go_roundw
                  case rel => exact ⟨k + 1, by omega, by go_num, HF3.out⟩
                  case measure => simp [intOf]; omega
              · obtain rfl : k = 16 := by omega
                go_wp2_with fail
                go_roundw
                case rel => exact ⟨g + 1, by omega, by go_num, by rw [HS.out], by rw [HS.out]; exact HPK.out⟩
                case measure => simp [intOf]; omega
      · obtain rfl : g = 16 := by omega
        have hpl : (pgLoop f N i 16).1.length ≤ 256 := pg_len f N i 16
        obtain ⟨oo9, hown9, hnew9, hrp9⟩ := hpg
        obtain ⟨oa, ocap, rfl⟩ := hown9.shape
        by_cases hnil : (pgLoop f N i 16).1 = []
        · have hp : pickGet f N i = ([], (pgLoop f N i 16).2.1, 2) := by rw [pickGet, if_neg h16, if_pos hok, if_pos hnil]
          have HP := Lib.hid hp
          have hl0 : ((pgLoop f N i 16).1.length : Int) = 0 := by rw [hnil]; rfl
          have HRP := Lib.hid hrp9
          clear hp hown9 hnew9 hrp9 hnil hok
          go_wp2_with fail
          go_ret2
          exact ⟨.slice none 0 0, by rw [HP.out]; rfl, by rw [HP.out]; exact ⟨none, Owns.nil _ _ _, fun g e => (by cases e), HRP.out⟩⟩
        · have hp : pickGet f N i = ((pgLoop f N i 16).1, (pgLoop f N i 16).2.1, 0) := by rw [pickGet, if_neg h16, if_pos hok, if_neg hnil]
          have hpos : 0 < (pgLoop f N i 16).1.length := List.length_pos_iff.2 hnil
          have hl0 : ¬ ((pgLoop f N i 16).1.length : Int) = 0 := by omega
          have hl1 : (((pgLoop f N i 16).1.length : Int) == 0) = false := by rw [beq_eq_false_iff_ne]; exact hl0
          have HP := Lib.hid hp
          have HO := Lib.hid (show PG w B og bs (pgLoop f N i 16).1 (pgLoop f N i 16).2.1 (.slice oa (pgLoop f N i 16).1.length ocap) wr from ⟨oo9, hown9, hnew9, hrp9⟩)
          clear hp hown9 hnew9 hrp9 hnil hok
          go_wp2_with fail
          go_ret2
          exact ⟨_, by rw [HP.out]; rfl, by rw [HP.out]; exact HO.out⟩
end Go.Proofs.Yteabjmebnbaonaa
