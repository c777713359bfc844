/- repeat.runs: the iterator over runs of like lengths: its contract. -/
import Derived.RangeFuncNested
import Derived.RangeFuncBound
import Derived.RangeFuncCalls
import Derived.RangeFuncLeaves
import Derived.RangeFuncBox
import Derived.Shelf.Abstract
import Derived.Shelf.RegionOpen
import Derived.WalkKit
import Derived.OwnWalkIn
import Derived.TacticsInMore
import Derived.LoopNIn
import Derived.LoopIn
import Derived.Maps.AppendAt
import Derived.Sort.QuietIn
import Derived.Test.YtclnmddlcjgfbaaRepLaw
import Derived.Test.YtclnmddlcjgfbaaView
import Derived.Test.YtclnmddlcjgfbaaRows
namespace Go.Proofs.Ytclnmddlcjgfbaa
open Go.RowKit Go.Shelf
set_option linter.unusedVariables false
attribute [local go_sem] Oper.semAt_some

/-- a run: a length, and how often. -/
abbrev Run := { r : Nat × Nat // r.1 ≤ 15 ∧ 0 < r.2 ∧ r.2 ≤ 10000 }
/-- what a round keeps: what lay below n₀, and the iterator's own box. -/
def KpB (n₀ Bn : Nat) (sv : Value) (W W' : World) : Prop := Below n₀ W W' ∧ (Boxed W Bn 22 sv → Boxed W' Bn 22 sv)
theorem kpB_t {n₀ Bn : Nat} {sv : Value} {A B C : World} (h : KpB n₀ Bn sv A B) (k : KpB n₀ Bn sv B C) : KpB n₀ Bn sv A C := ⟨h.1.trans k.1, fun x => k.2 (h.2 x)⟩
theorem kpB_b {n₀ Bn : Nat} {sv : Value} {w : World} (hn : n₀ ≤ w.heap.size) (W : World) (l : Nat) (o o' : Obj) (hl : w.heap.size ≤ l) (h : W.heap[l]? = some o) (hc : o.isCells = false) (hw : o.isWalk = false) : KpB n₀ Bn sv W (W.putObj l o') := by
  refine ⟨belowK_b hn W l o o' hl h hc hw, fun hb => ?_⟩
  refine hb.kept (grownBy_putObj' W l o') (fun e => ?_)
  cases e
  have hb' : W.heap[Bn]? = _ := hb
  rw [hb'] at h
  cases h
  simp [Obj.isCells] at hc
/-- bytes below n₀. -/
def VB (n₀ : Nat) (W : World) (sv : Value) (bs : List Nat) : Prop := ViewL W sv (u8s bs) ∧ (0 < bs.length → ∀ b o n cap, sv = .slice (some ⟨b, o, none⟩) n cap → b < n₀)
theorem VB.below {n₀ : Nat} {W W' : World} {sv : Value} {bs : List Nat} (h : VB n₀ W sv bs) (hb : Below n₀ W W') : VB n₀ W' sv bs := by
  obtain ⟨⟨ao, cap, rfl, h1, h2, h3⟩, h4⟩ := h
  refine ⟨⟨ao, cap, rfl, h1, h2, fun h0 => ?_⟩, h4⟩
  obtain ⟨b, o, rfl, hc⟩ := h3 h0
  exact ⟨b, o, rfl, fun j u hu => (hb.cell (p := ⟨b, o + j, none⟩) (h4 (by rwa [length_u8s] at h0) _ _ _ _ rfl)).trans (hc j u hu)⟩
theorem VB.cells {n₀ : Nat} {W : World} {ao : Option Addr} {n cap : Nat} {bs : List Nat} (h : VB n₀ W (.slice ao n cap) bs) (h0 : 0 < bs.length) : ∃ b o, ao = some ⟨b, o, none⟩ ∧ b < n₀ ∧ ∀ (j x : Nat), bs[j]? = some x → W.cell? ⟨b, o + j, none⟩ = some (.int .u8 x) := by
  obtain ⟨⟨ao', cap', e, _, _, h3⟩, h4⟩ := h
  obtain ⟨b, o, rfl, hc⟩ := h3 (by rw [length_u8s]; exact h0)
  cases e
  exact ⟨b, o, rfl, h4 h0 _ _ _ _ rfl, fun j x hj => hc j _ (by simp [u8s, hj])⟩
theorem VB.mono {n₀ n₁ : Nat} {W : World} {sv : Value} {bs : List Nat} (h : VB n₀ W sv bs) (hn : n₀ ≤ n₁) : VB n₁ W sv bs := ⟨h.1, fun h0 b o n cap e => Nat.lt_of_lt_of_le (h.2 h0 b o n cap e) hn⟩
theorem grownBy_drewN (W : World) (n : Nat) : W.grownBy (W.drewN n) none := ⟨rfl, rfl, rfl, Nat.le_refl _, fun _ _ _ => rfl⟩

set_option maxRecDepth 100000 in
set_option maxHeartbeats 4000000 in
theorem runs1_in (n : Nat) (hn : 1 ≤ n) (l Bn n₀ : Nat) (sv : Value) (bs : List Nat) (h256 : ∀ b ∈ bs, b < 256) (hlen : bs.length ≤ 10000) (xs : List Run) (hxs : xs.map (·.1) = runsL bs) (J Jx : List Run → World → Prop)
    (hJ : ∀ s W W', J s W → W.grownBy W' none → J s W')
    (hY : ∀ pre x W, J pre W → pre.length < xs.length → YieldAt Fence.wide (n - 1) Try.prog l #[.int .u8 x.1.1, .int .i64 x.1.2] W fun e W' =>
      (e = .returned (.bool true) ∧ J (pre ++ [x]) W' ∧ KpB n₀ Bn sv W W') ∨ (e = .returned (.bool false) ∧ Jx (pre ++ [x]) W'))
    (W : World) (hn₀ : n₀ ≤ W.heap.size) (hBn : Boxed W Bn 22 sv) (hL : VB n₀ W sv bs) (h0 : J [] W) :
    CallsIn Fence.wide n Try.prog 23 #[.func (.yield l) #[] #[], .pointer (some ⟨Bn, 0, none⟩)] W fun e W' => (∃ v, e = .returned v) ∧
      ((∃ ys, ys = xs ∧ J ys W') ∨ (∃ pre, pre <+: xs ∧ Jx pre W')) := by
  obtain ⟨ao, cap, rfl⟩ := hL.1.shape
  rw [length_u8s] at *
  have HXS := Lib.hid hxs
  have H256 := Lib.hid h256
  have HJ := Lib.hid hJ
  have HY := Lib.hid hY
  have HS : Hid (Boxed W Bn 22 (.slice ao bs.length cap) ∧ VB n₀ W (.slice ao bs.length cap) bs ∧ J [] W) := Lib.hid ⟨hBn, hL, h0⟩
  clear hxs h256 hJ hY hBn hL h0
  refine callsIn_of_wp Try.func23 rfl trivial ?_ rfl
  simp only [Try.ntmps23, List.size_toArray, List.length_cons, List.length_nil, Nat.reduceAdd, Nat.reduceSub, Array.replicate_succ, Array.replicate_zero, List.push_toArray, List.append_toArray, List.nil_append, List.cons_append]
  gi_wp2
  gi_loopw [3] (fun i wr => ∃ (pre rest : List Run) (k : Nat), i = .int .i64 k ∧ k ≤ bs.length ∧ xs = pre ++ rest ∧ rest.map (·.1) = runsL (bs.drop k) ∧ Boxed wr Bn 22 (.slice ao bs.length cap) ∧ VB n₀ wr (.slice ao bs.length cap) bs ∧ n₀ ≤ wr.heap.size ∧ J pre wr)
    (fun i _ => bs.length - (intOf i).toNat)
  case atStart => exact ⟨[], xs, 0, rfl, Nat.zero_le _, rfl, HXS.out, HS.out.1, HS.out.2.1, hn₀, HS.out.2.2⟩
  case round =>
    obtain ⟨pre, rest, k, rfl, hk, hx, hr, hbx, hv, hns, hj⟩ := hrel
    have HNS := Lib.hid hns
    have HX := Lib.hid hx
    have HR := Lib.hid hr
    have HV := Lib.hid hv
    have HJP := Lib.hid hj
    have HBX := Lib.hid hbx
    have hc := hbx.cell
    clear hx hr hv hj hbx hns
    by_cases hlt : k < bs.length
    · have hlti : (k : Int) < (bs.length : Int) := by omega
      obtain ⟨b, o, rfl, hbn, hcells⟩ := HV.out.cells (by omega)
      obtain ⟨x, hxk⟩ : ∃ x, bs[k]? = some x := ⟨_, List.getElem?_eq_getElem hlt⟩
      have hcx := hcells k x hxk
      have HCELLS := Lib.hid hcells
      have HXK := Lib.hid hxk
      clear hcells hxk
      gi_wp2
      gi_loopw [4] (fun nv wi => ∃ (m q : Nat), nv = .int .i64 m ∧ 1 ≤ m ∧ k + m ≤ bs.length ∧ (∀ j, j < m → bs[k + j]? = some x) ∧ wi = wr.drewN q) (fun nv _ => bs.length - (intOf nv).toNat)
      case atStart => exact ⟨1, 0, rfl, Nat.le_refl _, by omega, fun j hj => (by rw [show j = 0 by omega]; simpa using HXK.out), rfl⟩
      case round =>
        obtain ⟨m, q, rfl, hm1, hm, hall, rfl⟩ := hrel
        have HALL := Lib.hid hall
        clear hall
        have k1 : IntKind.i64.wrap ((k : Int) + (m : Int)) = (k : Int) + (m : Int) := IntWalk.i64_in _ (by omega)
        have k2 : ((k : Int) + (m : Int)).toNat = k + m := by omega
        have k3 : (0 : Int) ≤ (k : Int) + (m : Int) := by omega
        have k4 : (k : Int).toNat = k := by omega
        have k5 : (0 : Int) ≤ (k : Int) := by omega
        -- the run ends here: it is told
        have endRun : bs[k + m]? ≠ some x → ∃ (r0 : Run) (rest' : List Run), rest = r0 :: rest' ∧ r0.1 = (x, m) ∧ rest'.map (·.1) = runsL (bs.drop (k + m)) := by
          intro hne
          have h1 := runsL_at bs k m x HXK.out (by omega) HALL.out hne
          have h2 := HR.out
          rw [h1] at h2
          cases rest with
          | nil => simp at h2
          | cons r0 rest' =>
            simp only [List.map_cons, List.cons.injEq] at h2
            exact ⟨r0, rest', rfl, h2.1, h2.2⟩
        have ENDRUN := Lib.hid endRun
        clear endRun
        by_cases hlt2 : k + m < bs.length
        · have k6 : (k : Int) + (m : Int) < (bs.length : Int) := by omega
          obtain ⟨y, hyk⟩ : ∃ y, bs[k + m]? = some y := ⟨_, List.getElem?_eq_getElem hlt2⟩
          have hcy := HCELLS.out (k + m) y hyk
          have HYK := Lib.hid hyk
          clear hyk
          by_cases hxy : y = x
          · have hb : ((y : Int) == (x : Int)) = true := by rw [hxy]; simp
            have hf : ∀ j, j < m + 1 → bs[k + j]? = some x := fun j hj => by
              by_cases h : j < m
              · exact HALL.out j h
              · rw [show j = m by omega, HYK.out, hxy]
            have HF := Lib.hid hf
            clear hf
            gi_wp2
            gi_quiet (fail)
            clear hb
            gi_wp2
            go_roundw
            case rel => exact ⟨m + 1, _, by go_num, by omega, by omega, HF.out, rfl⟩
            case measure => simp [intOf]; omega
          · have hb : ((y : Int) == (x : Int)) = false := by rw [beq_eq_false_iff_ne]; omega
            obtain ⟨r0, rest', hrest, hr0, hr'⟩ := ENDRUN.out (by rw [HYK.out]; simpa using hxy)
            gi_wp2
            gi_quiet (fail)
            subst hrest
            obtain ⟨⟨r1, r2⟩, hrp⟩ := r0
            simp only [Prod.mk.injEq] at hr0
            obtain ⟨rfl, rfl⟩ := hr0
            have hbq := HBX.out.kept (grownBy_drewN wr (q + nq)) (by simp)
            have HVQ := Lib.hid (HV.out.below ((Below.refl n₀ wr).grown (grownBy_drewN wr (q + nq)) HNS.out (fun _ e => by cases e)))
            obtain ⟨fn, tmps, assign, body, hy, hR⟩ := HY.out pre ⟨(r1, r2), hrp⟩ _ (HJ.out _ _ _ HJP.out (grownBy_drewN wr (q + nq))) (by rw [HX.out]; simp)
            dsimp only at hy
            have HR' := Lib.hid hr'
            have HBQ := Lib.hid hbq
            have HHR := Lib.hid hR
            clear hr' hbq hR
            gi_wp2
            refine HHR.out.mono ?_
            rintro e W3 (⟨rfl, hJ3, hk3⟩ | ⟨rfl, hJx3⟩)
            · have hb3 := hk3.2 HBQ.out
              have HB3 := Lib.hid hb3
              have hv3 := HVQ.out.below hk3.1
              have HV3 := Lib.hid hv3
              have HJ3 := Lib.hid hJ3
              have HN3 := Lib.hid (Nat.le_trans (show n₀ ≤ (wr.drewN (q + nq)).heap.size from HNS.out) hk3.1.size)
              clear hb3 hv3 hJ3 hk3
              gi_wp2
              go_roundw
              case rel => exact ⟨pre ++ [⟨(r1, r2), hrp⟩], rest', k + r2, by go_num, by omega, by rw [HX.out]; simp, HR'.out, HB3.out, HV3.out, HN3.out, HJ3.out⟩
              case measure => simp [intOf]; omega
            · have HJX := Lib.hid hJx3
              clear hJx3
              gi_wp2
              refine bodyPost_ret (results_none rfl _ _ _) rfl ?_
              exact ⟨⟨_, rfl⟩, .inr ⟨pre ++ [⟨(r1, r2), hrp⟩], ⟨rest', by rw [HX.out]; simp⟩, HJX.out⟩⟩
        · have hkm : k + m = bs.length := by omega
          have k6 : ¬ (k : Int) + (m : Int) < (bs.length : Int) := by omega
          have k7 : decide ((k : Int) + (m : Int) < (bs.length : Int)) = false := decide_eq_false k6
          clear k6
          obtain ⟨r0, rest', hrest, hr0, hr'⟩ := ENDRUN.out (by rw [hkm]; simp)
          gi_wp2
          gi_quiet (fail)
          subst hrest
          obtain ⟨⟨r1, r2⟩, hrp⟩ := r0
          simp only [Prod.mk.injEq] at hr0
          obtain ⟨rfl, rfl⟩ := hr0
          have hbq := HBX.out.kept (grownBy_drewN wr (q + nq)) (by simp)
          have HVQ := Lib.hid (HV.out.below ((Below.refl n₀ wr).grown (grownBy_drewN wr (q + nq)) HNS.out (fun _ e => by cases e)))
          obtain ⟨fn, tmps, assign, body, hy, hR⟩ := HY.out pre ⟨(r1, r2), hrp⟩ _ (HJ.out _ _ _ HJP.out (grownBy_drewN wr (q + nq))) (by rw [HX.out]; simp)
          dsimp only at hy
          have HR' := Lib.hid hr'
          have HBQ := Lib.hid hbq
          have HHR := Lib.hid hR
          clear hr' hbq hR
          gi_wp2
          refine HHR.out.mono ?_
          rintro e W3 (⟨rfl, hJ3, hk3⟩ | ⟨rfl, hJx3⟩)
          · have hb3 := hk3.2 HBQ.out
            have HB3 := Lib.hid hb3
            have hv3 := HVQ.out.below hk3.1
            have HV3 := Lib.hid hv3
            have HJ3 := Lib.hid hJ3
            have HN3 := Lib.hid (Nat.le_trans (show n₀ ≤ (wr.drewN (q + nq)).heap.size from HNS.out) hk3.1.size)
            clear hb3 hv3 hJ3 hk3
            gi_wp2
            go_roundw
            case rel => exact ⟨pre ++ [⟨(r1, r2), hrp⟩], rest', k + r2, by go_num, by omega, by rw [HX.out]; simp, HR'.out, HB3.out, HV3.out, HN3.out, HJ3.out⟩
            case measure => simp [intOf]; omega
          · have HJX := Lib.hid hJx3
            clear hJx3
            gi_wp2
            refine bodyPost_ret (results_none rfl _ _ _) rfl ?_
            exact ⟨⟨_, rfl⟩, .inr ⟨pre ++ [⟨(r1, r2), hrp⟩], ⟨rest', by rw [HX.out]; simp⟩, HJX.out⟩⟩
    · obtain rfl : k = bs.length := by omega
      have hrest : rest = [] := by
        have := HR.out
        rw [List.drop_length, runsL_nil] at this
        simpa using this
      subst hrest
      gi_wp2
      go_end0
      exact ⟨⟨_, rfl⟩, .inl ⟨pre, by have := HX.out; simpa using this.symm, HJP.out⟩⟩
theorem ViewL.vb {W : World} {sv : Value} {bs : List Nat} (h : ViewL W sv (u8s bs)) : VB W.heap.size W sv bs := by
  refine ⟨h, fun h0 b o n cap e => ?_⟩
  obtain ⟨ao, cap', e', _, _, h3⟩ := h
  obtain ⟨b', o', rfl, hc⟩ := h3 (by rwa [length_u8s])
  rw [e] at e'
  cases e'
  have := hc 0 _ (by rw [getElem?_u8s _ _ h0])
  apply Classical.byContradiction
  intro hn
  simp [World.cell?, Array.getElem?_eq_none (Nat.le_of_not_lt hn)] at this
/-- the iterator, as the law of a range over a function asks. -/
theorem runs_stops (n : Nat) (hn : 1 ≤ n) (Bn n₀ : Nat) (sv : Value) (bs : List Nat) (h256 : ∀ b ∈ bs, b < 256) (hlen : bs.length ≤ 10000) (xs : List Run) (hxs : xs.map (·.1) = runsL bs) (w : World) (hn₀ : n₀ ≤ w.heap.size) (hBn : Boxed w Bn 22 sv) (hL : VB n₀ w sv bs) :
    SeqStopsK Fence.wide n Try.prog 23 #[.pointer (some ⟨Bn, 0, none⟩)] (fun x : Run => #[Value.int .u8 x.1.1, Value.int .i64 x.1.2]) (KpB n₀ Bn sv) (fun ys => ys = xs) (fun pre => pre <+: xs) xs.length w := fun l J Jx W hW hJ hJx hY h0 =>
  runs1_in n hn l Bn n₀ sv bs h256 hlen xs hxs J Jx (fun s W W' hs hg => hJ s W W' none hs hg (fun r e => by cases e)) hY W (Nat.le_trans hn₀ hW.size) ((hW.block Bn hBn.lt).trans hBn) (hL.below (hW.mono hn₀)) h0
end Go.Proofs.Ytclnmddlcjgfbaa
