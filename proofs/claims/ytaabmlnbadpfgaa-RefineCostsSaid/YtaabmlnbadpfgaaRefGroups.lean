/- refine.groups: the iterator over groups of symbols: its contract. -/
import Derived.RangeFuncNested
import Derived.RangeFuncBound
import Derived.RangeFuncCalls
import Derived.RangeFuncLeaves
import Derived.RangeFuncBox
import Derived.Shelf.Abstract
import Derived.Shelf.RegionOpen
import Derived.WalkKit
import Derived.OwnWalkIn
import Derived.TacticsInMore
import Derived.LoopNIn
import Derived.LoopIn
import Derived.Maps.AppendAt
import Derived.Sort.QuietIn
import Derived.Test.YtaabmlnbadpfgaaSeqT
import Derived.Test.YtaabmlnbadpfgaaView
import Derived.Test.YtaabmlnbadpfgaaRows
namespace Go.Proofs.Ytaabmlnbadpfgaa
open Go.RowKit Go.Shelf
set_option linter.unusedVariables false
attribute [local go_sem] Oper.semAt_some

/-- which group. -/
abbrev GIx (N : Nat) := { i : Nat // 50 * i < N }
def manyG (N : Nat) : Nat := (N + 49) / 50
/-- a group's slice. -/
def grpV (b o N cap i : Nat) : Value := .slice (some ⟨b, o + 50 * i, none⟩) (min 50 (N - 50 * i)) (cap - 50 * i)
/-- what a round keeps: the iterator's box. -/
def KpG (Bn : Nat) (W W' : World) : Prop := ∀ v, Boxed W Bn 23 v → Boxed W' Bn 23 v
theorem kpG_t {Bn : Nat} {A B C : World} (h : KpG Bn A B) (k : KpG Bn B C) : KpG Bn A C := fun v x => k v (h v x)
theorem kpG_b {n : Nat} {Bn : Nat} (W : World) (l : Nat) (o o' : Obj) (hl : n ≤ l) (h : W.heap[l]? = some o) (hc : o.isCells = false) (hw : o.isWalk = false) : KpG Bn W (W.putObj l o') := fun v hb => by
  refine hb.kept (grownBy_putObj' W l o') (fun e => ?_)
  cases e
  have hb' : W.heap[Bn]? = _ := hb
  rw [hb'] at h
  cases h
  simp [Obj.isCells] at hc
def GrI (b o N cap Bn : Nat) (J : List (GIx N) → World → Prop) (vi : Value) (wr : World) : Prop :=
  ∃ (pre : List (GIx N)) (k R : Nat) (a : Option Addr) (c : Nat), vi = .int .i64 k ∧ R = N - 50 * k ∧ pre.map (·.1) = List.range k ∧ k ≤ manyG N ∧ Boxed wr Bn 23 (.slice a R c) ∧ (0 < R → a = some ⟨b, o + 50 * k, none⟩ ∧ c = cap - 50 * k) ∧ J pre wr
set_option maxRecDepth 100000 in
set_option maxHeartbeats 4000000 in
theorem groups_in (n : Nat) (hn : 1 ≤ n) (l Bn b o N cap : Nat) (hNc : N ≤ cap) (hN : N ≤ 2 ^ 40) (J Jx : List (GIx N) → World → Prop)
    (hJ : ∀ s W v, J s W → J s (W.setCell ⟨Bn, 0, none⟩ v))
    (hY : ∀ pre (x : GIx N) W, J pre W → pre.length < manyG N → x.1 = pre.length → YieldAt Fence.wide (n - 1) Try.prog l #[.int .i64 x.1, grpV b o N cap x.1] W fun e W' =>
      (e = .returned (.bool true) ∧ J (pre ++ [x]) W' ∧ KpG Bn W W') ∨ (e = .returned (.bool false) ∧ Jx (pre ++ [x]) W'))
    (W : World) (hbx : Boxed W Bn 23 (.slice (some ⟨b, o, none⟩) N cap)) (h0 : J [] W) :
    CallsIn Fence.wide n Try.prog 46 #[.func (.yield l) #[] #[], .pointer (some ⟨Bn, 0, none⟩)] W fun e W' => (∃ v, e = .returned v) ∧
      ((∃ ys : List (GIx N), ys.map (·.1) = List.range (manyG N) ∧ J ys W') ∨ (∃ pre, True ∧ Jx pre W')) := by
  have HJ := Lib.hid hJ
  have HY := Lib.hid hY
  have HN := Lib.hid (And.intro hNc hN)
  have HS := Lib.hid (show GrI b o N cap Bn J (.int .i64 ((0 : Nat) : Int)) W from ⟨[], 0, N, _, _, rfl, by omega, rfl, Nat.zero_le _, hbx, fun _ => ⟨by simp, by simp⟩, h0⟩)
  clear hJ hY hbx h0 hNc hN
  refine callsIn_of_wp Try.func46 rfl trivial ?_ rfl
  simp only [Try.ntmps46, List.size_toArray, List.length_cons, List.length_nil, Nat.reduceAdd, Nat.reduceSub, Array.replicate_succ, Array.replicate_zero, List.push_toArray, List.append_toArray, List.nil_append, List.cons_append]
  gi_wp2
  gi_loopw [3] (fun vi wr => GrI b o N cap Bn J vi wr) (fun vi _ => manyG N - (intOf vi).toNat)
  case atStart => exact HS.out
  case round =>
    obtain ⟨pre, k, R, a, c, rfl, hR, hpre, hk, hbx, ha, hj⟩ := hrel
    have HR := Lib.hid (show R = N - 50 * k ∧ pre.map (·.1) = List.range k ∧ k ≤ manyG N ∧ J pre wr from ⟨hR, hpre, hk, hj⟩)
    have HBX := Lib.hid hbx
    have HA := Lib.hid ha
    have hc := hbx.cell
    have hfz := hbx.frozen
    clear hR hpre hk hbx ha hj
    by_cases h0 : 0 < R
    · have h0i : (0 : Int) < (R : Int) := by omega
      obtain ⟨rfl, rfl⟩ := HA.out h0
      have hpl : pre.length = k := by have := congrArg List.length HR.out.2.1; simpa using this
      have hkm : k < manyG N := by have := HR.out.1; unfold manyG; omega
      have h50 : 50 * k < N := by have := HR.out.1; omega
      obtain ⟨fn, tmps, assign, body, hy, hRd⟩ := HY.out pre ⟨k, h50⟩ wr HR.out.2.2.2 (by rw [hpl]; exact hkm) hpl.symm
      obtain ⟨k1, hk1⟩ : ∃ k1, k1 = k + 1 := ⟨_, rfl⟩
      obtain ⟨p, hp⟩ : ∃ p, p = o + 50 * k := ⟨_, rfl⟩
      obtain ⟨q, hq⟩ : ∃ q, q = cap - 50 * k := ⟨_, rfl⟩
      have hRq : R ≤ q := by have := HR.out.1; have := HN.out; omega
      have wk : IntKind.i64.wrap ((k : Int) + 1) = (k1 : Int) := by rw [show (k : Int) + 1 = ((k1 : Nat) : Int) by omega]; exact IntWalk.i64_in _ (by have := HN.out; omega)
      have HK := Lib.hid (show k1 = k + 1 ∧ k < manyG N ∧ p = o + 50 * k ∧ q = cap - 50 * k ∧ (pre ++ [⟨k, h50⟩] : List (GIx N)).map (·.1) = List.range k1 from ⟨hk1, hkm, hp, hq, by rw [List.map_append, HR.out.2.1, hk1, List.range_succ]; rfl⟩)
      have hnext := fun (W3 : World) (av : Option Addr) (cv Rn : Nat) (hb : Boxed W3 Bn 23 (.slice av Rn cv)) (h1 : Rn = N - 50 * k1) (h2 : 0 < Rn → av = some ⟨b, o + 50 * k1, none⟩ ∧ cv = cap - 50 * k1) (h3 : J (pre ++ [⟨k, h50⟩]) W3) =>
        (show GrI b o N cap Bn J (.int .i64 k1) W3 from ⟨pre ++ [⟨k, h50⟩], k1, Rn, av, cv, rfl, h1, HK.out.2.2.2.2, by have := HK.out; omega, hb, h2, h3⟩)
      have HNEXT := Lib.hid hnext
      unfold grpV at hy
      dsimp only at hy
      rw [← hp, ← hq] at hy
      rw [← hp, ← hq] at hc HBX
      have HHR := Lib.hid hRd
      clear hpl hkm hk1 hp hq hnext hRd
      by_cases hle : R ≤ 50
      · have hlei : (R : Int) ≤ 50 := by omega
        have hmin : min (R : Int) 50 = (R : Int) := Int.min_eq_left hlei
        have hmn : min 50 (N - 50 * k) = R := by have := HR.out.1; omega
        rw [hmn] at hy
        have hRq2 : (R : Int) ≤ (q : Int) := by omega
        have hR0 : (0 : Int) ≤ (R : Int) := by omega
        have hRN : N - 50 * k1 = 0 := by have := HR.out.1; have := HK.out.1; omega
        have HRN := Lib.hid hRN
        clear hmn hle hRq hRN
        gi_wp2
        refine HHR.out.mono ?_
        rintro e W3 (⟨rfl, hJ3, hk3⟩ | ⟨rfl, hJx3⟩)
        · have hb3 := hk3 _ HBX.out
          have hc3 := hb3.cell
          have hf3 := hb3.frozen
          have HB3 := Lib.hid hb3
          have HJ3 := Lib.hid hJ3
          clear hb3 hJ3 hk3 hc hfz
          by_cases hqR : q = R
          · subst hqR
            gi_wp2
            exact ⟨HNEXT.out _ _ _ _ (HB3.out.set _) (by have := HRN.out; omega) (fun h => by omega) (HJ.out _ _ _ HJ3.out), by simp [intOf]; have := HK.out; omega⟩
          · gi_wp2
            exact ⟨HNEXT.out _ _ _ _ (HB3.out.set _) (by have := HRN.out; omega) (fun h => by omega) (HJ.out _ _ _ HJ3.out), by simp [intOf]; have := HK.out; omega⟩
        · have HJX := Lib.hid hJx3
          clear hJx3
          gi_wp2
          refine bodyPost_ret (results_none rfl _ _ _) rfl ?_
          exact ⟨⟨_, rfl⟩, .inr ⟨_, trivial, HJX.out⟩⟩
      · have hlei : ¬ (R : Int) ≤ 50 := by omega
        have hmin : min (R : Int) 50 = 50 := Int.min_eq_right (by omega)
        have hmn : min 50 (N - 50 * k) = 50 := by have := HR.out.1; omega
        rw [hmn] at hy
        have hRq2 : (50 : Int) ≤ (q : Int) := by omega
        have hRq3 : (50 : Int) ≤ (R : Int) := by omega
        have hqR : ¬ q = 50 := by omega
        have HRN := Lib.hid (show R - 50 = N - 50 * k1 ∧ p + 50 = o + 50 * k1 ∧ q - 50 = cap - 50 * k1 from by have := HR.out.1; have := HK.out; omega)
        clear hmn hle hRq
        gi_wp2
        refine HHR.out.mono ?_
        rintro e W3 (⟨rfl, hJ3, hk3⟩ | ⟨rfl, hJx3⟩)
        · have hb3 := hk3 _ HBX.out
          have hc3 := hb3.cell
          have hf3 := hb3.frozen
          have HB3 := Lib.hid hb3
          have HJ3 := Lib.hid hJ3
          clear hb3 hJ3 hk3 hc hfz
          gi_wp2
          exact ⟨HNEXT.out _ _ _ _ (HB3.out.set _) HRN.out.1 (fun h => ⟨by rw [← HRN.out.2.1], HRN.out.2.2⟩) (HJ.out _ _ _ HJ3.out), by simp [intOf]; have := HK.out; omega⟩
        · have HJX := Lib.hid hJx3
          clear hJx3
          gi_wp2
          refine bodyPost_ret (results_none rfl _ _ _) rfl ?_
          exact ⟨⟨_, rfl⟩, .inr ⟨_, trivial, HJX.out⟩⟩
    · have h0i : ¬ (0 : Int) < (R : Int) := by omega
      have hkm : k = manyG N := by have := HR.out; unfold manyG at *; omega
      have HKM := Lib.hid hkm
      clear h0 hkm
      gi_wp2
      go_end0
      exact ⟨⟨_, rfl⟩, .inl ⟨pre, (by have h := HR.out.2.1; rw [HKM.out] at h; exact h), HR.out.2.2.2⟩⟩
/-- the iterator, as the law of a range over a function asks. -/
theorem groups_seq (n : Nat) (hn : 1 ≤ n) (Bn b o N cap : Nat) (hNc : N ≤ cap) (hN : N ≤ 2 ^ 40) (w : World) (hbx : Boxed w Bn 23 (.slice (some ⟨b, o, none⟩) N cap)) :
    SeqT (fun k => k = Bn) Fence.wide n Try.prog 46 #[.pointer (some ⟨Bn, 0, none⟩)] (fun x : GIx N => #[Value.int .i64 x.1, grpV b o N cap x.1]) (KpG Bn) (fun pre x => x.1 = pre.length) (fun ys => ys.map (·.1) = List.range (manyG N)) (fun _ => True) (manyG N) w := fun l J Jx W hW hJ hJx hY h0 =>
  groups_in n hn l Bn b o N cap hNc hN J Jx (fun s W v hs => hJ s W _ (some Bn) hs (grownBy_setCell' W Bn v) (fun r e => by cases e; exact Or.inl rfl)) hY W ((hW.block Bn hbx.lt).trans hbx) h0
theorem ref_groups (ao : Option Addr) (n cap : Nat) (w : World) : Calls Try.prog 23 #[.slice ao n cap] w fun e w' => e = .returned (.func (.func 46) #[] #[.pointer (some ⟨w.heap.size, 0, none⟩)]) ∧ w' = w.alloc (.cells #[.slice ao n cap] 23) := by
  go_enter Try.func23, Try.ntmps23
  go_wp2_with fail
  go_ret
  exact ⟨rfl, rfl⟩
end Go.Proofs.Ytaabmlnbadpfgaa
