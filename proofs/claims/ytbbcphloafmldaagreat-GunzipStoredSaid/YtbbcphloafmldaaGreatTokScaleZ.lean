/- token.scale: the iterator over a scale: its contract. -/
import Derived.RangeFuncNested
import Derived.RangeFuncBound
import Derived.RangeFuncCalls
import Derived.RangeFuncLeaves
import Derived.RangeFuncBox
import Derived.Shelf.Abstract
import Derived.Shelf.RegionOpen
import Derived.WalkKit
import Derived.OwnWalkIn
import Derived.TacticsInMore
import Derived.LoopNIn
import Derived.LoopIn
import Derived.Sort.QuietIn
import Derived.Test.YtbbcphloafmldaaGreatBnd13
import Derived.Test.YtbbcphloafmldaaGreatBnd14
import Derived.Test.YtbbcphloafmldaaGreatBnd7
namespace Go.Proofs.YtbbcphloafmldaaGreat
open Go.RowKit Go.Shelf
set_option linter.unusedVariables false
attribute [local go_sem] Oper.semAt_some

theorem Touch.grownBy1 {l : Nat} {W W' : World} (h : Touch (fun q => q = l) W W') : W.grownBy W' (some l) := ⟨h.os, h.tape, h.output, h.size, fun k hk hne => h.block k hk (fun e => hne (by rw [e]))⟩
theorem Touch.grownBy0 {W W' : World} (h : Ext W W') : W.grownBy W' none := ⟨h.os, h.tape, h.output, h.size, fun k hk _ => h.block k hk (fun f => f)⟩
theorem boxed_ext {W W2 : World} {k : Nat} {T : TypeId} {v : Value} (h : Boxed W k T v) (hx : Ext W W2) : Boxed W2 k T v := hx.keep h (fun f => f)
theorem boxed_other {W : World} {k l : Nat} {T : TypeId} {v u : Value} (h : Boxed W k T v) (hne : l ≠ k) : Boxed (W.setCell ⟨l, 0, Option.none⟩ u) k T v := h.kept (row := some l) ((Touch.setCell (Touch.refl (fun q => q = l) W) (Or.inl rfl) u).grownBy1) (fun e => hne (by injection e with e; exact e.symm))
theorem boxed_set {W : World} {k : Nat} {T : TypeId} {v u : Value} (h : Boxed W k T v) : Boxed (W.setCell ⟨k, 0, Option.none⟩ u) k T u := by
  have h' : W.heap[k]? = _ := h
  have b := heap_setCell_at (a := ⟨k, 0, Option.none⟩) (u := u) h' rfl
  exact b
/-- which symbol. -/
abbrev SIx (n : Nat) := { i : Nat // i < n }
/-- the boxes of what the iterator keeps. -/
def ScB (W : World) (Bn Bo Be : Nat) (n none each : Nat) : Prop := Boxed W Bn 3 (.int .i64 n) ∧ Boxed W Bo 3 (.int .i64 none) ∧ Boxed W Be 3 (.int .i64 each)
/-- what a round keeps: the boxes. -/
def KpS (Bn Bo Be Bl : Nat) (W W' : World) : Prop := ∀ k v, (k = Bn ∨ k = Bo ∨ k = Be ∨ k = Bl) → Boxed W k 3 v → Boxed W' k 3 v
theorem kpS_t {Bn Bo Be Bl : Nat} {A B C : World} (h : KpS Bn Bo Be Bl A B) (k : KpS Bn Bo Be Bl B C) : KpS Bn Bo Be Bl A C := fun b v hb x => k b v hb (h b v hb x)
theorem kpS_b {n : Nat} {Bn Bo Be Bl : Nat} (W : World) (l : Nat) (o o' : Obj) (hl : n ≤ l) (h : W.heap[l]? = some o) (hc : o.isCells = false) (hw : o.isWalk = false) : KpS Bn Bo Be Bl W (W.putObj l o') := fun k v _ hb => by
  refine hb.kept (grownBy_putObj' W l o') (fun e => ?_)
  have e : l = k := by injection e with e; exact e.symm
  have hb' : W.heap[k]? = _ := hb
  rw [← e] at hb'
  rw [hb'] at h
  cases h
  simp [Obj.isCells] at hc
theorem wrap64_nat {x : Nat} (h : x ≤ 1000000) : wrap64 (x : Int) = (x : Int) := by rw [wrap64]; omega
theorem scB_le {none each k : Nat} (hk : k < 30) : scB none each k ≤ 31 := by
  unfold scB
  split
  · omega
  · have := Nat.div_le_self (k - none) each; omega
theorem sc_facts {k none each B : Nat} (hk : k < 30) (he : 1 ≤ each) (hno : none ≤ k) (hB : B = scB none each k) : ∃ q z : Nat, IntKind.i64.wrap ((k : Int) - (none : Int)) = (q : Int) ∧ ¬ ((each : Int) = 0) ∧ wrap64 ((q : Int) / (each : Int)) = (z : Int) ∧ 1 + (z : Int) = (B : Int) ∧ (z : Int) ≤ 30 ∧ (q : Int) ≤ 30 := by
  have h31 : B ≤ 31 := by rw [hB]; exact scB_le hk
  have hBv : B = 1 + (k - none) / each := by rw [hB, scB, if_neg (by omega)]
  have hz := Nat.div_le_self (k - none) each
  refine ⟨k - none, (k - none) / each, ?_, by omega, ?_, ?_, by omega, by omega⟩
  · rw [show (k : Int) - (none : Int) = ((k - none : Nat) : Int) by omega]; exact IntWalk.i64_in _ (by omega)
  · rw [show ((k - none : Nat) : Int) / (each : Int) = (((k - none) / each : Nat) : Int) by simp]; exact wrap64_nat (by generalize (k - none) / each = z at *; omega)
  · generalize (k - none) / each = z at *; omega
theorem scL_le (none each least : Nat) : ∀ k, k ≤ 30 → scL none each least k ≤ least + k * 2 ^ 31
  | 0, _ => by simp [scL]
  | k + 1, h => by
    have h1 := scL_le none each least k (by omega)
    have h2 : 2 ^ scB none each k ≤ 2 ^ 31 := Nat.pow_le_pow_right (by omega) (scB_le (by omega))
    rw [scL, Nat.add_mul]; omega
theorem sc_sums {n none each least k B S : Nat} (hn : n ≤ 30) (hl : least ≤ 30) (hk : k < n) (hB : B = scB none each k) (hS : S = scL none each least k) : ∃ S1 : Nat, S1 = scL none each least (k + 1) ∧ IntKind.i64.wrap ((S : Int) + ((2 : Int) ^ B)) = (S1 : Int) ∧ IntKind.i64.wrap ((2 : Int) ^ B) = (2 : Int) ^ B ∧ B ≤ 31 := by
  have hB31 : B ≤ 31 := by rw [hB]; exact scB_le (by omega)
  have hS40 : S ≤ 30 + 30 * 2147483648 := by
    have := scL_le none each least k (by omega)
    rw [← hS] at this
    have h2 : k * 2 ^ 31 ≤ 30 * 2 ^ 31 := Nat.mul_le_mul_right _ (by omega)
    simp only [Nat.reducePow] at this h2
    omega
  have hpw : 2 ^ B ≤ 2147483648 := Nat.pow_le_pow_right (n := 2) (by omega) hB31
  refine ⟨S + 2 ^ B, by rw [scL, ← hS, ← hB], ?_, ?_, hB31⟩
  · rw [show (S : Int) + (2 : Int) ^ B = ((S + 2 ^ B : Nat) : Int) by simp]; generalize 2 ^ B = P at *; exact IntWalk.i64_in _ (by omega)
  · rw [show (2 : Int) ^ B = ((2 ^ B : Nat) : Int) by simp]; generalize 2 ^ B = P at *; exact IntWalk.i64_in _ (by omega)
def ScI (n none each least Bn Bo Be Bl : Nat) (J : List (SIx n) → World → Prop) (vi : Value) (wr : World) : Prop :=
  ∃ (pre : List (SIx n)) (k : Nat), vi = .int .i64 k ∧ pre.map (·.1) = List.range k ∧ k ≤ n ∧ ScB wr Bn Bo Be n none each ∧ Boxed wr Bl 3 (.int .i64 (scL none each least k)) ∧ J pre wr
set_option maxRecDepth 100000 in
set_option maxHeartbeats 4000000 in
theorem scale_in (m : Nat) (hm : 1 ≤ m) (l n none each least Bn Bo Be Bl : Nat) (hN : n ≤ 30 ∧ none ≤ 30 ∧ 1 ≤ each ∧ each ≤ 30 ∧ least ≤ 30) (hne : Bl ≠ Bn ∧ Bl ≠ Bo ∧ Bl ≠ Be) (J Jx : List (SIx n) → World → Prop)
    (hJ : ∀ s W W' row, J s W → W.grownBy W' row → (∀ r, row = some r → r = Bl) → J s W')
    (hY : ∀ pre (x : SIx n) W, J pre W → pre.length < n → x.1 = pre.length → YieldAt Fence.wide (m - 1) Tryz.prog l #[.int .i64 (scL none each least x.1), .int .i64 (scB none each x.1)] W fun e W' =>
      (e = .returned (.bool true) ∧ J (pre ++ [x]) W' ∧ KpS Bn Bo Be Bl W W') ∨ (e = .returned (.bool false) ∧ Jx (pre ++ [x]) W'))
    (W : World) (hbx : ScB W Bn Bo Be n none each) (hbl : Boxed W Bl 3 (.int .i64 least)) (h0 : J [] W) :
    CallsIn Fence.wide m Tryz.prog 139 #[.func (.yield l) #[] #[], .pointer (some ⟨Bn, 0, Option.none⟩), .pointer (some ⟨Bo, 0, Option.none⟩), .pointer (some ⟨Be, 0, Option.none⟩), .pointer (some ⟨Bl, 0, Option.none⟩)] W fun e W' => (∃ v, e = .returned v) ∧
      ((∃ ys : List (SIx n), ys.map (·.1) = List.range n ∧ J ys W') ∨ (∃ pre, True ∧ Jx pre W')) := by
  have HJ := Lib.hid hJ
  have HY := Lib.hid hY
  have HN := Lib.hid (And.intro hN hne)
  have HS := Lib.hid (show ScI n none each least Bn Bo Be Bl J (.int .i64 ((0 : Nat) : Int)) W from ⟨[], 0, rfl, rfl, Nat.zero_le _, hbx, hbl, h0⟩)
  have cn0 := hbx.1.cell
  clear hJ hY hbx hbl h0 hN hne
  refine callsIn_of_wp Tryz.func139 rfl trivial ?_ rfl
  simp only [Tryz.ntmps139, List.size_toArray, List.length_cons, List.length_nil, Nat.reduceAdd, Nat.reduceSub, Array.replicate_succ, Array.replicate_zero, List.push_toArray, List.append_toArray, List.nil_append, List.cons_append]
  gi_wp2
  gi_loopw [9] (fun vi wr => ScI n none each least Bn Bo Be Bl J vi wr) (fun vi _ => n - (intOf vi).toNat)
  case atStart => exact HS.out
  case round =>
    obtain ⟨pre, k, rfl, hpre, hk, ⟨hbn, hbo, hbe⟩, hbl, hj⟩ := hrel
    have HR := Lib.hid (show pre.map (·.1) = List.range k ∧ k ≤ n ∧ J pre wr from ⟨hpre, hk, hj⟩)
    have HB := Lib.hid (show ScB wr Bn Bo Be n none each ∧ Boxed wr Bl 3 (.int .i64 (scL none each least k)) from ⟨⟨hbn, hbo, hbe⟩, hbl⟩)
    have cn := hbn.cell
    have co := hbo.cell
    have ce := hbe.cell
    have cl := hbl.cell
    clear hpre hk hbn hbo hbe hbl hj
    by_cases hlt : k < n
    · have hlti : (k : Int) < (n : Int) := by omega
      have hpl : pre.length = k := by have := congrArg List.length HR.out.1; simpa using this
      obtain ⟨fn, tmps, assign, body, hy, hRd⟩ := HY.out pre ⟨k, hlt⟩ wr HR.out.2.2 (by rw [hpl]; exact hlt) hpl.symm
      obtain ⟨k1, hk1⟩ : ∃ k1, k1 = k + 1 := ⟨_, rfl⟩
      have wk : IntKind.i64.wrap ((k : Int) + 1) = (k1 : Int) := by rw [show (k : Int) + 1 = ((k1 : Nat) : Int) by omega]; exact IntWalk.i64_in _ (by have := HN.out; omega)
      obtain ⟨B, hB⟩ : ∃ B, B = scB none each k := ⟨_, rfl⟩
      obtain ⟨S, hS⟩ : ∃ S, S = scL none each least k := ⟨_, rfl⟩
      obtain ⟨S1, hS1, w1, w2, hB31⟩ := sc_sums (n := n) (none := none) (each := each) (least := least) HN.out.1.1 HN.out.1.2.2.2.2 hlt hB hS
      have hS1' : S1 = scL none each least k1 := by rw [hS1, hk1]
      have HK := Lib.hid (show k1 = k + 1 ∧ k < n ∧ S1 = scL none each least k1 ∧ B = scB none each k ∧ S = scL none each least k ∧ (pre ++ [⟨k, hlt⟩] : List (SIx n)).map (·.1) = List.range k1 from ⟨hk1, hlt, hS1', hB, hS, by rw [List.map_append, HR.out.1, hk1, List.range_succ]; rfl⟩)
      have hnext := fun (W3 : World) (hb : ScB W3 Bn Bo Be n none each) (h1 : Boxed W3 Bl 3 (.int .i64 S1)) (h3 : J (pre ++ [⟨k, hlt⟩]) W3) =>
        (show ScI n none each least Bn Bo Be Bl J (.int .i64 k1) W3 from ⟨pre ++ [⟨k, hlt⟩], k1, rfl, HK.out.2.2.2.2.2, by have := HK.out; omega, hb, by rw [← HK.out.2.2.1]; exact h1, h3⟩)
      have HNEXT := Lib.hid hnext
      dsimp only at hy
      rw [← hS, ← hB] at hy
      rw [← hS] at cl HB
      have HHR := Lib.hid hRd
      have HW := Lib.hid (show IntKind.i64.wrap ((S : Int) + ((2 : Int) ^ B)) = (S1 : Int) ∧ IntKind.i64.wrap ((2 : Int) ^ B) = (2 : Int) ^ B ∧ B ≤ 31 from ⟨w1, w2, hB31⟩)
      clear hpl hk1 hS hS1 hS1' hnext hRd w1 w2 hB31
      by_cases hno : none ≤ k
      · have hnoi : (none : Int) ≤ (k : Int) := Int.ofNat_le.2 hno
        obtain ⟨q, z, hsub, he0, hqz, wB, hz30, hq30⟩ := sc_facts (k := k) (none := none) (each := each) (B := B) (Nat.lt_of_lt_of_le hlt HN.out.1.1) HN.out.1.2.2.1 hno hB
        clear hB hno
        gi_wp2
        refine HHR.out.mono ?_
        rintro e W3 (⟨rfl, hJ3, hk3⟩ | ⟨rfl, hJx3⟩)
        · have HB3 := Lib.hid (show ScB W3 Bn Bo Be n none each ∧ Boxed W3 Bl 3 (.int .i64 S) from ⟨⟨hk3 _ _ (Or.inl rfl) HB.out.1.1, hk3 _ _ (Or.inr (Or.inl rfl)) HB.out.1.2.1, hk3 _ _ (Or.inr (Or.inr (Or.inl rfl))) HB.out.1.2.2⟩, hk3 _ _ (Or.inr (Or.inr (Or.inr rfl))) HB.out.2⟩)
          have HJ3 := Lib.hid hJ3
          have cl3 := HB3.out.2.cell
          have fl3 := HB3.out.2.frozen
          clear hJ3 hk3 cn co ce cl
          gi_wp2_with fail
          refine wpIn_wide.2 ?_
          have hst : Stab (Phi [(4, .pointer (some ⟨Bl, 0, Option.none⟩)), (7, .int .i64 B), (26, .int .i64 S), (27, .int .i64 B), (28, .int .i64 ((2 : Int) ^ B)), (29, .int .i64 S1)] []) := Phi.stable (fun x hx => by cases hx)
          refine wp_region_last 31 [4, 7] [26, 27, 28, 29] 4 (by kernel_rfl) _ hst (by kernel_rfl) rfl rfl (fun _ => ⟨rfl, rfl, trivial⟩) ⟨fun _ => ?_, fun _ => ?_, fun _ => ?_, fun _ => ?_, fun h => absurd rfl h, trivial⟩ ?fin
          · refine Obl.some (fun ev w1 hI hc hf hg hev => ?_)
            have h0 : ev (.tmp 4) = .pointer (some ⟨Bl, 0, Option.none⟩) := hev.1
            clear hev
            have hI : Ext W3 w1 := hI
            have k := Boxed.cell (hI.keep HB3.out.2 (fun f => f))
            exact ⟨rfl, .int .i64 S, by go_simp, fun d hd => by cases hd; rfl⟩
          · refine Obl.val (.int .i64 B) (fun ev w1 hc hf hg hev => ?_) (fun d hd w1 => by cases hd; rfl)
            have h0 : ev (.tmp 7) = .int .i64 B := hev.1
            exact ⟨rfl, by (clear hev; go_simp)⟩
          · refine Obl.val (.int .i64 ((2 : Int) ^ B)) (fun ev w1 hc hf hg hev => ?_) (fun d hd w1 => by cases hd; rfl)
            have h0 : ev (.tmp 27) = .int .i64 B := hev.1
            clear hev
            have hw := HW.out.2.1
            exact ⟨rfl, by go_simp⟩
          · refine Obl.val (.int .i64 S1) (fun ev w1 hc hf hg hev => ?_) (fun d hd w1 => by cases hd; rfl)
            have h0 : ev (.tmp 26) = .int .i64 S := hev.1; have h1 : ev (.tmp 28) = .int .i64 ((2 : Int) ^ B) := hev.2.1
            clear hev
            have hw := HW.out.1
            exact ⟨rfl, by go_simp⟩
          case fin =>
            intro vs w5 o ho he5 hf
            obtain rfl : _ = o := Option.some.inj ho
            clear ho
            have e26 : vs 26 = .int .i64 S := hf 26 (by decide)
            have e27 : vs 27 = .int .i64 B := hf 27 (by decide)
            have e28 : vs 28 = .int .i64 ((2 : Int) ^ B) := hf 28 (by decide)
            have e29 : vs 29 = .int .i64 S1 := hf 29 (by decide)
            simp only [List.foldl_cons, List.foldl_nil]
            rw [e26, e27, e28, e29]
            simp only [Act.put, List.setIfInBounds_toArray, List.set_cons_succ, List.set_cons_zero]
            clear hf e26 e27 e28 e29
            have hb5 : Boxed w5 Bl 3 (.int .i64 S) := he5.keep HB3.out.2 (fun f => f)
            have c5 := hb5.cell
            have f5 := hb5.frozen
            have HE5 := Lib.hid he5
            have HB5 := Lib.hid hb5
            clear he5 hb5
            refine ⟨rfl, w5.setCell ⟨Bl, 0, Option.none⟩ (.int .i64 S1), by go_simp, ?_⟩
            clear c5 f5
            gi_wp2_with fail
            have hne := HN.out.2
            have hx5 := HE5.out
            refine ⟨HNEXT.out _ ⟨boxed_other (boxed_ext HB3.out.1.1 hx5) hne.1, boxed_other (boxed_ext HB3.out.1.2.1 hx5) hne.2.1, boxed_other (boxed_ext HB3.out.1.2.2 hx5) hne.2.2⟩ (boxed_set HB5.out) (HJ.out _ _ _ _ (HJ.out _ _ _ Option.none HJ3.out (Touch.grownBy0 hx5) (fun _ e => by cases e)) (Touch.grownBy1 (Touch.setCell (Touch.refl (fun q => q = Bl) w5) (Or.inl rfl) _)) (fun r e => by injection e with e; exact e.symm)), ?_⟩
            have hk1 := HK.out.1
            simp only [intOf]
            clear wk hy
            omega
        · have HJX := Lib.hid hJx3
          clear hJx3
          gi_wp2
          refine bodyPost_ret (results_none rfl _ _ _) rfl ?_
          exact ⟨⟨_, rfl⟩, .inr ⟨_, trivial, HJX.out⟩⟩
      · have hnoi : ¬ (none : Int) ≤ (k : Int) := fun h => hno (Int.ofNat_le.1 h)
        have hBv : B = 0 := by rw [hB, scB, if_pos (Nat.lt_of_not_le hno)]
        clear hB hno
        subst hBv
        rw [show ((0 : Nat) : Int) = 0 from rfl] at hy
        have HW2 := Lib.hid (show IntKind.i64.wrap ((S : Int) + 1) = (S1 : Int) from by have h := HW.out.1; rw [Int.pow_zero] at h; exact h)
        clear HW
        have HW := HW2
        clear HW2
        gi_wp2
        refine HHR.out.mono ?_
        rintro e W3 (⟨rfl, hJ3, hk3⟩ | ⟨rfl, hJx3⟩)
        · have HB3 := Lib.hid (show ScB W3 Bn Bo Be n none each ∧ Boxed W3 Bl 3 (.int .i64 S) from ⟨⟨hk3 _ _ (Or.inl rfl) HB.out.1.1, hk3 _ _ (Or.inr (Or.inl rfl)) HB.out.1.2.1, hk3 _ _ (Or.inr (Or.inr (Or.inl rfl))) HB.out.1.2.2⟩, hk3 _ _ (Or.inr (Or.inr (Or.inr rfl))) HB.out.2⟩)
          have HJ3 := Lib.hid hJ3
          have cl3 := HB3.out.2.cell
          have fl3 := HB3.out.2.frozen
          clear hJ3 hk3 cn co ce cl
          gi_wp2_with fail
          refine wpIn_wide.2 ?_
          have hst : Stab (Phi [(4, .pointer (some ⟨Bl, 0, Option.none⟩)), (7, .int .i64 0), (26, .int .i64 S), (27, .int .i64 0), (28, .int .i64 1), (29, .int .i64 S1)] []) := Phi.stable (fun x hx => by cases hx)
          refine wp_region_last 31 [4, 7] [26, 27, 28, 29] 4 (by kernel_rfl) _ hst (by kernel_rfl) rfl rfl (fun _ => ⟨rfl, rfl, trivial⟩) ⟨fun _ => ?_, fun _ => ?_, fun _ => ?_, fun _ => ?_, fun h => absurd rfl h, trivial⟩ ?fin
          · refine Obl.some (fun ev w1 hI hc hf hg hev => ?_)
            have h0 : ev (.tmp 4) = .pointer (some ⟨Bl, 0, Option.none⟩) := hev.1
            clear hev
            have hI : Ext W3 w1 := hI
            have k := Boxed.cell (hI.keep HB3.out.2 (fun f => f))
            exact ⟨rfl, .int .i64 S, by go_simp, fun d hd => by cases hd; rfl⟩
          · refine Obl.val (.int .i64 0) (fun ev w1 hc hf hg hev => ?_) (fun d hd w1 => by cases hd; rfl)
            have h0 : ev (.tmp 7) = .int .i64 0 := hev.1
            exact ⟨rfl, by (clear hev; go_simp)⟩
          · refine Obl.val (.int .i64 1) (fun ev w1 hc hf hg hev => ?_) (fun d hd w1 => by cases hd; rfl)
            have h0 : ev (.tmp 27) = .int .i64 0 := hev.1
            clear hev
            have hw : IntKind.i64.wrap 1 = 1 := by decide
            exact ⟨rfl, by go_simp⟩
          · refine Obl.val (.int .i64 S1) (fun ev w1 hc hf hg hev => ?_) (fun d hd w1 => by cases hd; rfl)
            have h0 : ev (.tmp 26) = .int .i64 S := hev.1; have h1 : ev (.tmp 28) = .int .i64 1 := hev.2.1
            clear hev
            have hw := HW.out
            exact ⟨rfl, by go_simp⟩
          case fin =>
            intro vs w5 o ho he5 hf
            obtain rfl : _ = o := Option.some.inj ho
            clear ho
            have e26 : vs 26 = .int .i64 S := hf 26 (by decide)
            have e27 : vs 27 = .int .i64 0 := hf 27 (by decide)
            have e28 : vs 28 = .int .i64 1 := hf 28 (by decide)
            have e29 : vs 29 = .int .i64 S1 := hf 29 (by decide)
            simp only [List.foldl_cons, List.foldl_nil]
            rw [e26, e27, e28, e29]
            simp only [Act.put, List.setIfInBounds_toArray, List.set_cons_succ, List.set_cons_zero]
            clear hf e26 e27 e28 e29
            have hb5 : Boxed w5 Bl 3 (.int .i64 S) := he5.keep HB3.out.2 (fun f => f)
            have c5 := hb5.cell
            have f5 := hb5.frozen
            have HE5 := Lib.hid he5
            have HB5 := Lib.hid hb5
            clear he5 hb5
            refine ⟨rfl, w5.setCell ⟨Bl, 0, Option.none⟩ (.int .i64 S1), by go_simp, ?_⟩
            clear c5 f5
            gi_wp2_with fail
            have hne := HN.out.2
            have hx5 := HE5.out
            refine ⟨HNEXT.out _ ⟨boxed_other (boxed_ext HB3.out.1.1 hx5) hne.1, boxed_other (boxed_ext HB3.out.1.2.1 hx5) hne.2.1, boxed_other (boxed_ext HB3.out.1.2.2 hx5) hne.2.2⟩ (boxed_set HB5.out) (HJ.out _ _ _ _ (HJ.out _ _ _ Option.none HJ3.out (Touch.grownBy0 hx5) (fun _ e => by cases e)) (Touch.grownBy1 (Touch.setCell (Touch.refl (fun q => q = Bl) w5) (Or.inl rfl) _)) (fun r e => by injection e with e; exact e.symm)), ?_⟩
            have hk1 := HK.out.1
            simp only [intOf]
            clear wk hy
            omega
        · have HJX := Lib.hid hJx3
          clear hJx3
          gi_wp2
          refine bodyPost_ret (results_none rfl _ _ _) rfl ?_
          exact ⟨⟨_, rfl⟩, .inr ⟨_, trivial, HJX.out⟩⟩
    · have hkn : k = n := by have := HR.out; omega
      have HKN := Lib.hid hkn
      have hlti : ¬ (k : Int) < (n : Int) := by omega
      clear hlt
      gi_wp2
      go_end0
      exact ⟨⟨_, rfl⟩, .inl ⟨pre, (by have h := HR.out.1; rw [HKN.out] at h; exact h), HR.out.2.2⟩⟩
end Go.Proofs.YtbbcphloafmldaaGreat
