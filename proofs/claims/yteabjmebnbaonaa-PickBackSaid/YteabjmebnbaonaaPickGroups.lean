/- pick.groups: the iterator over the groups of used bytes: its contract. -/
import Derived.RangeFuncNested
import Derived.RangeFuncBound
import Derived.RangeFuncCalls
import Derived.RangeFuncLeaves
import Derived.RangeFuncBox
import Derived.Shelf.Abstract
import Derived.Shelf.RegionOpen
import Derived.WalkKit
import Derived.OwnWalkIn
import Derived.TacticsInMore
import Derived.LoopNIn
import Derived.LoopIn
import Derived.Maps.AppendAt
import Derived.Sort.QuietIn
import Derived.Test.YteabjmebnbaonaaPickCompact
import Derived.Test.YteabjmebnbaonaaPickLaw
namespace Go.Proofs.Yteabjmebnbaonaa
open Go.RowKit Go.Shelf
set_option linter.unusedVariables false
attribute [local go_sem] Oper.semAt_some

/-- the first k bits of group g. -/
def grpB (us : List Nat) (g k : Nat) : List Bool := (List.range k).map fun j => decide (16 * g + j ∈ us)
theorem grpB_succ (us : List Nat) (g k : Nat) : grpB us g (k + 1) = grpB us g k ++ [decide (16 * g + k ∈ us)] := by simp [grpB, List.range_succ]
theorem length_grpB (us : List Nat) (g k : Nat) : (grpB us g k).length = k := by simp [grpB]
/-- its number. -/
def grpN (us : List Nat) (g : Nat) : Nat := numOf true (grpB us g 16)
theorem grpN_lt (us : List Nat) (g : Nat) : grpN us g < 65536 := by have := numOf_lt true (grpB us g 16); rw [length_grpB] at this; exact this
/-- a group: which, and its number. -/
abbrev Grp := { r : Nat × Nat // r.1 < 16 ∧ r.2 < 65536 }
theorem grps_are : ∀ l : List (Nat × Nat), (∀ r ∈ l, r.1 < 16 ∧ r.2 < 65536) → ∃ xs : List Grp, xs.map (·.1) = l
  | [], _ => ⟨[], rfl⟩
  | r :: l, h => by
    obtain ⟨xs, hx⟩ := grps_are l (fun q hq => h q (List.mem_cons_of_mem _ hq))
    exact ⟨⟨r, h r (List.mem_cons_self ..)⟩ :: xs, by rw [List.map_cons, hx]⟩
def grpsL (us : List Nat) : List (Nat × Nat) := (List.range' 0 16).map fun g => (g, grpN us g)
theorem grps_all (us : List Nat) : ∃ xs : List Grp, xs.map (·.1) = grpsL us := grps_are _ fun r hr => by
  simp only [grpsL, List.mem_map, List.mem_range'_1] at hr
  obtain ⟨g, hg, rfl⟩ := hr
  exact ⟨by omega, grpN_lt us g⟩
/-- what the iterator reads: its box, and the bytes. -/
def GV (Bn : Nat) (sv : Value) (bs : List Nat) (W : World) : Prop := Boxed W Bn 22 sv ∧ ViewL W sv (u8s bs)
def KpV (Bn : Nat) (sv : Value) (bs : List Nat) (W W' : World) : Prop := GV Bn sv bs W → GV Bn sv bs W'
theorem kpV_t {Bn : Nat} {sv : Value} {bs : List Nat} {A B C : World} (h : KpV Bn sv bs A B) (k : KpV Bn sv bs B C) : KpV Bn sv bs A C := fun x => k (h x)
theorem grownBy_drewN (W : World) (n : Nat) : W.grownBy (W.drewN n) none := ⟨rfl, rfl, rfl, Nat.le_refl _, fun _ _ _ => rfl⟩
theorem ViewL.grown {W W' : World} {row : Option Nat} {v : Value} {xs : List Value} (h : ViewL W v xs) (hg : W.grownBy W' row) (hr : ∀ r, row = some r → ∃ o : Obj, W.heap[r]? = some o ∧ o.isCells = false) : ViewL W' v xs := by
  obtain ⟨ao, cap, rfl, h1, h2, h3⟩ := h
  refine ⟨ao, cap, rfl, h1, h2, fun h0 => ?_⟩
  obtain ⟨b, o, rfl, hc⟩ := h3 h0
  refine ⟨b, o, rfl, fun j u hu => ?_⟩
  have hcu := hc j u hu
  have hlt := World.block_lt_of_cell? _ _ hcu
  refine (World.cell?_of_block (hg.block b hlt (fun e => ?_))).trans hcu
  obtain ⟨ob, ho, hn⟩ := hr b e.symm
  have : W.cell? ⟨b, o + j, none⟩ = none := by
    simp only [World.cell?, ho]
    cases ob <;> simp_all [Obj.isCells]
  rw [this] at hcu
  cases hcu
theorem kpV_b {n : Nat} {Bn : Nat} {sv : Value} {bs : List Nat} (W : World) (l : Nat) (o o' : Obj) (hl : n ≤ l) (h : W.heap[l]? = some o) (hc : o.isCells = false) (hw : o.isWalk = false) : KpV Bn sv bs W (W.putObj l o') := by
  rintro ⟨hb, hv⟩
  refine ⟨?_, hv.grown (grownBy_putObj' W l o') (fun r e => by cases e; exact ⟨o, h, hc⟩)⟩
  refine hb.kept (grownBy_putObj' W l o') (fun e => ?_)
  cases e
  have hb' : W.heap[Bn]? = _ := hb
  rw [hb'] at h
  cases h
  simp [Obj.isCells] at hc
theorem GV.drewN {Bn : Nat} {sv : Value} {bs : List Nat} {W : World} (h : GV Bn sv bs W) (n : Nat) : GV Bn sv bs (W.drewN n) := ⟨h.1.kept (grownBy_drewN W n) (by simp), h.2.grown (grownBy_drewN W n) (fun _ e => by cases e)⟩
theorem pick_groups (ao : Option Addr) (n cap : Nat) (w : World) : Calls Try.prog 45 #[.slice ao n cap] w fun e w' => e = .returned (.func (.func 62) #[] #[.pointer (some ⟨w.heap.size, 0, none⟩)]) ∧ w' = w.alloc (.cells #[.slice ao n cap] 22) := by
  go_enter Try.func45, Try.ntmps45
  go_wp2_with fail
  go_ret
  exact ⟨rfl, rfl⟩
theorem or_one (n : Nat) (h : n < 32768) : bits .or .u32 ((n : Int) * 2) 1 = ((2 * n + 1 : Nat) : Int) := by
  have e1 : (n : Int) * 2 = ((n * 2 : Nat) : Int) := by simp
  have e3 : 1 ||| n * 2 ^ 1 = 1 + n * 2 ^ 1 := or_low 1 n 1 (by decide)
  have e4 : bits .or .u32 ((n * 2 : Nat) : Int) ((1 : Nat) : Int) = ((n * 2 ||| 1 : Nat) : Int) := u32_or_nat _ _ (by omega) (by omega)
  rw [e1]
  refine e4.trans ?_
  rw [Nat.or_comm, show n * 2 = n * 2 ^ 1 by rfl, e3]
  simp only [Nat.pow_one]
  omega

set_option maxRecDepth 100000 in
set_option maxHeartbeats 4000000 in
theorem groups1_in (n : Nat) (hn : 1 ≤ n) (l Bn : Nat) (sv : Value) (bs : List Nat) (hlen : bs.length ≤ 2 ^ 40) (xs : List Grp) (hxs : xs.map (·.1) = grpsL bs) (J Jx : List Grp → World → Prop)
    (hY : ∀ pre x W, J pre W → pre.length < xs.length → YieldAt Fence.wide (n - 1) Try.prog l #[.int .i64 x.1.1, .int .u32 x.1.2] W fun e W' =>
      (e = .returned (.bool true) ∧ J (pre ++ [x]) W' ∧ KpV Bn sv bs W W') ∨ (e = .returned (.bool false) ∧ Jx (pre ++ [x]) W'))
    (W : World) (hL : GV Bn sv bs W) (h0 : J [] W) :
    CallsIn Fence.wide n Try.prog 62 #[.func (.yield l) #[] #[], .pointer (some ⟨Bn, 0, none⟩)] W fun e W' => (∃ v, e = .returned v) ∧
      ((∃ ys, ys = xs ∧ J ys W') ∨ (∃ pre, pre <+: xs ∧ Jx pre W')) := by
  obtain ⟨ao, cap, rfl⟩ := hL.2.shape
  rw [length_u8s] at *
  have HXS := Lib.hid hxs
  have HY := Lib.hid hY
  have HS : Hid (GV Bn (.slice ao bs.length cap) bs W ∧ J [] W) := Lib.hid ⟨hL, h0⟩
  clear hxs hY hL h0
  refine callsIn_of_wp Try.func62 rfl trivial ?_ rfl
  simp only [Try.ntmps62, List.size_toArray, List.length_cons, List.length_nil, Nat.reduceAdd, Nat.reduceSub, Array.replicate_succ, Array.replicate_zero, List.push_toArray, List.append_toArray, List.nil_append, List.cons_append]
  gi_wp2
  gi_loopw [6] (fun i wr => ∃ (pre rest : List Grp) (k : Nat), i = .int .i64 k ∧ k ≤ 16 ∧ xs = pre ++ rest ∧ rest.map (·.1) = (List.range' k (16 - k)).map (fun g => (g, grpN bs g)) ∧ GV Bn (.slice ao bs.length cap) bs wr ∧ J pre wr)
    (fun i _ => 16 - (intOf i).toNat)
  case atStart => exact ⟨[], xs, 0, rfl, Nat.zero_le _, rfl, HXS.out, HS.out.1, HS.out.2⟩
  case round =>
    obtain ⟨pre, rest, k, rfl, hk, hx, hr, hgv, hj⟩ := hrel
    have HX := Lib.hid hx
    have HR := Lib.hid hr
    have HGV := Lib.hid hgv
    have HJP := Lib.hid hj
    clear hx hr hgv hj
    by_cases hlt : k < 16
    · have hlti : (k : Int) < 16 := by omega
      gi_wp2
      gi_loopw [4, 9] (fun bv kv wi => ∃ j : Nat, kv = .int .i64 j ∧ bv = .int .u32 (numOf true (grpB bs k j)) ∧ j ≤ 16 ∧ GV Bn (.slice ao bs.length cap) bs wi ∧ J pre wi) (fun _ kv _ => 16 - (intOf kv).toNat)
      case atStart => exact ⟨0, rfl, rfl, Nat.zero_le _, HGV.out, HJP.out⟩
      case round =>
        obtain ⟨j, rfl, rfl, hj, hgv2, hj2⟩ := hrel
        have hbox := hgv2.1.cell
        have HGV2 := Lib.hid hgv2
        have HJ2 := Lib.hid hj2
        clear hgv2 hj2
        by_cases hj16 : j < 16
        · have hji : (j : Int) < 16 := by omega
          have hN := numOf_lt true (grpB bs k j)
          rw [length_grpB] at hN
          have hN2 : numOf true (grpB bs k j) < 32768 := Nat.lt_of_lt_of_le hN (Nat.pow_le_pow_right (by decide) (show j ≤ 15 by omega))
          have hS1 := numOf_high (grpB bs k j) (decide (16 * k + j ∈ bs))
          rw [← grpB_succ] at hS1
          have HS1 := Lib.hid hS1
          clear hS1 hN
          generalize numOf true (grpB bs k j) = N at *
          obtain ⟨c, hcd⟩ : ∃ c, c = 16 * k + j := ⟨_, rfl⟩
          have hc256 : c < 256 := by omega
          have k1 : 16 * (k : Int) + (j : Int) = (c : Int) := by omega
          have k2 : IntKind.i64.wrap (16 * (k : Int)) = 16 * (k : Int) := IntWalk.i64_in _ (by omega)
          have k3 : IntKind.i64.wrap (c : Int) = (c : Int) := IntWalk.i64_in _ (by omega)
          have k4 : IntKind.u8.wrap (c : Int) = (c : Int) := IntWalk.u8_in _ (by omega)
          have k5 : IntKind.u32.wrap ((N : Int) * 2) = (N : Int) * 2 := IntWalk.u32_in _ (by omega)
          rw [← hcd] at HS1
          clear hcd
          gi_wp2_with fail
          refine ⟨trivial, (callsIn_wide.2 (pick_contains _ bs c _ HGV2.out.2 hlen)).mono ?_⟩
          obtain ⟨d, hd⟩ : ∃ d, d = decide (c ∈ bs) := ⟨_, rfl⟩
          rw [← hd] at HS1 ⊢
          clear hd
          rintro e w' ⟨rfl, rfl⟩
          cases d with
          | false =>
            gi_wp2_with fail
            go_roundw
            case rel => exact ⟨j + 1, by go_num, by rw [HS1.out]; simp; omega, by omega, HGV2.out, HJ2.out⟩
            case measure => simp [intOf]; omega
          | true =>
            have hor := or_one N hN2
            have hM : numOf true (grpB bs k (j + 1)) = 2 * N + 1 := HS1.out
            rw [← hM] at hor
            have HM := Lib.hid hM
            clear hM
            gi_wp2_with fail
            go_roundw
            case rel => exact ⟨j + 1, by go_num, rfl, by omega, HGV2.out, HJ2.out⟩
            case measure => simp [intOf]; omega
        · obtain rfl : j = 16 := by omega
          have hrr : rest.map (·.1) = (k, grpN bs k) :: (List.range' (k + 1) (16 - (k + 1))).map (fun g => (g, grpN bs g)) := by
            rw [HR.out, show 16 - k = (16 - (k + 1)) + 1 by omega, List.range'_succ]; rfl
          cases rest with
          | nil => simp at hrr
          | cons r0 rest' =>
            simp only [List.map_cons, List.cons.injEq] at hrr
            obtain ⟨hr0, hr'⟩ := hrr
            obtain ⟨⟨r1, r2⟩, hrp⟩ := r0
            simp only [Prod.mk.injEq] at hr0
            obtain ⟨rfl, hr2⟩ := hr0
            obtain ⟨fn, tmps, assign, body, hy, hR⟩ := HY.out pre ⟨(r1, r2), hrp⟩ _ HJ2.out (by rw [HX.out]; simp)
            dsimp only at hy
            have hgr : numOf true (grpB bs r1 16) = r2 := hr2.symm
            rw [hgr]
            have HR' := Lib.hid hr'
            have HHR := Lib.hid hR
            clear hr' hR hgr hr2
            gi_wp2
            refine HHR.out.mono ?_
            rintro e W3 (⟨rfl, hJ3, hk3⟩ | ⟨rfl, hJx3⟩)
            · have HGV3 := Lib.hid (hk3 HGV2.out)
              have HJ3 := Lib.hid hJ3
              clear hJ3 hk3
              gi_wp2
              go_roundw
              case rel => exact ⟨pre ++ [⟨(r1, r2), hrp⟩], rest', r1 + 1, by go_num, by omega, by rw [HX.out]; simp, HR'.out, HGV3.out, HJ3.out⟩
              case measure => simp [intOf]; omega
            · have HJX := Lib.hid hJx3
              clear hJx3
              gi_wp2
              refine bodyPost_ret (results_none rfl _ _ _) rfl ?_
              exact ⟨⟨_, rfl⟩, .inr ⟨pre ++ [⟨(r1, r2), hrp⟩], ⟨rest', by rw [HX.out]; simp⟩, HJX.out⟩⟩
    · obtain rfl : k = 16 := by omega
      have hrest : rest = [] := by
        have := HR.out
        simpa using this
      subst hrest
      gi_wp2
      go_end0
      exact ⟨⟨_, rfl⟩, .inl ⟨pre, by have := HX.out; simpa using this.symm, HJP.out⟩⟩
/-- the iterator, as the law of a range over a function asks. -/
theorem groups_stops (n : Nat) (hn : 1 ≤ n) (Bn : Nat) (sv : Value) (bs : List Nat) (hlen : bs.length ≤ 2 ^ 40) (xs : List Grp) (hxs : xs.map (·.1) = grpsL bs) (w : World) (hL : GV Bn sv bs w) :
    SeqStopsK Fence.wide n Try.prog 62 #[.pointer (some ⟨Bn, 0, none⟩)] (fun x : Grp => #[Value.int .i64 x.1.1, Value.int .u32 x.1.2]) (KpV Bn sv bs) (fun ys => ys = xs) (fun pre => pre <+: xs) xs.length w := fun l J Jx W hW hJ hJx hY h0 =>
  groups1_in n hn l Bn sv bs hlen xs hxs J Jx hY W ⟨(hW.block Bn hL.1.lt).trans hL.1, hL.2.keep (Touch.of_below (S := fun _ => False) hW) (fun _ _ _ _ _ f => f)⟩ h0
end Go.Proofs.Yteabjmebnbaonaa
