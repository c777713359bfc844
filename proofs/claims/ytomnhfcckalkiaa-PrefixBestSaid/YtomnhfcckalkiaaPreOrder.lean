/- kraft.order: the iterator over the symbols in order: its contract. -/
import Derived.RangeFuncNested
import Derived.RangeFuncBound
import Derived.RangeFuncCalls
import Derived.RangeFuncLeaves
import Derived.RangeFuncBox
import Derived.Shelf.Abstract
import Derived.Shelf.RegionOpen
import Derived.WalkKit
import Derived.OwnWalkIn
import Derived.TacticsInMore
import Derived.LoopNIn
import Derived.LoopIn
import Derived.Maps.AppendAt
import Derived.Sort.QuietIn
import Derived.Test.YtomnhfcckalkiaaPreKraft
import Derived.Test.YtomnhfcckalkiaaPreMake
namespace Go.Proofs.Ytomnhfcckalkiaa
open Go.RowKit Go.Shelf
set_option linter.unusedVariables false
attribute [local go_sem] Oper.semAt_some

/-- a symbol, and its length. -/
abbrev Wd (N : Nat) := { r : Nat × Nat // r.1 < N ∧ 1 ≤ r.2 ∧ r.2 ≤ 20 }
theorem wds_are {N : Nat} : ∀ l : List (Nat × Nat), (∀ r ∈ l, r.1 < N ∧ 1 ≤ r.2 ∧ r.2 ≤ 20) → ∃ xs : List (Wd N), xs.map (·.1) = l
  | [], _ => ⟨[], rfl⟩
  | r :: l, h => by
    obtain ⟨xs, hx⟩ := wds_are l (fun q hq => h q (List.mem_cons_of_mem _ hq))
    exact ⟨⟨r, h r (List.mem_cons_self ..)⟩ :: xs, by rw [List.map_cons, hx]⟩
theorem wds_all {L : List Nat} (hm : MayK L) : ∃ xs : List (Wd L.length), xs.map (·.1) = prs L 20 L.length := wds_are _ fun r hr => by
  obtain ⟨h1, h2, h3, h4⟩ := mem_prs hr (Nat.le_refl _) (by decide)
  exact ⟨h1, h3, h4⟩
theorem wd_next {L : List Nat} {N : Nat} {xs pre rest : List (Wd N)} {n i : Nat} (hx : xs = pre ++ rest) (hxs : xs.map (·.1) = prs L 20 L.length) (hp : pre.map (·.1) = prs L n i) (hit : L.getD i 0 = n) (hi : i < L.length) (h1 : 1 ≤ n) (h20 : n ≤ 20) :
    ∃ r0 rest', rest = r0 :: rest' ∧ r0.1 = (i, n) := by
  obtain ⟨t, ht⟩ := prs_prefix_all L n (i + 1) h1 h20 hi
  rw [prs_hit L n i hit, ← hxs, hx, List.map_append, hp, List.append_assoc] at ht
  have := List.append_cancel_left ht
  cases rest with
  | nil => simp at this
  | cons r0 rest' =>
    simp only [List.map_cons, List.cons_append, List.nil_append, List.cons.injEq] at this
    exact ⟨r0, rest', rfl, this.1.symm⟩
theorem wd_end {L : List Nat} {N : Nat} {xs pre rest : List (Wd N)} (hx : xs = pre ++ rest) (hxs : xs.map (·.1) = prs L 20 L.length) (hp : pre.map (·.1) = prs L 21 0) : pre = xs := by
  rw [prs_next L 20 (by decide), ← hxs, hx, List.map_append] at hp
  have := congrArg List.length hp
  simp only [List.length_append, List.length_map] at this
  have : rest = [] := List.eq_nil_of_length_eq_zero (by omega)
  rw [hx, this, List.append_nil]
/-- what the iterator reads: its box, and the bytes. -/
def GV (Bn : Nat) (sv : Value) (bs : List Nat) (W : World) : Prop := Boxed W Bn 22 sv ∧ ViewL W sv (u8s bs)
def KpV (Bn : Nat) (sv : Value) (bs : List Nat) (W W' : World) : Prop := GV Bn sv bs W → GV Bn sv bs W'
theorem kpV_t {Bn : Nat} {sv : Value} {bs : List Nat} {A B C : World} (h : KpV Bn sv bs A B) (k : KpV Bn sv bs B C) : KpV Bn sv bs A C := fun x => k (h x)
theorem ViewL.grown {W W' : World} {row : Option Nat} {v : Value} {xs : List Value} (h : ViewL W v xs) (hg : W.grownBy W' row) (hr : ∀ r, row = some r → ∃ o : Obj, W.heap[r]? = some o ∧ o.isCells = false) : ViewL W' v xs := by
  obtain ⟨ao, cap, rfl, h1, h2, h3⟩ := h
  refine ⟨ao, cap, rfl, h1, h2, fun h0 => ?_⟩
  obtain ⟨b, o, rfl, hc⟩ := h3 h0
  refine ⟨b, o, rfl, fun j u hu => ?_⟩
  have hcu := hc j u hu
  have hlt := World.block_lt_of_cell? _ _ hcu
  refine (World.cell?_of_block (hg.block b hlt (fun e => ?_))).trans hcu
  obtain ⟨ob, ho, hn⟩ := hr b e.symm
  have : W.cell? ⟨b, o + j, none⟩ = none := by
    simp only [World.cell?, ho]
    cases ob <;> simp_all [Obj.isCells]
  rw [this] at hcu
  cases hcu
theorem kpV_b {n : Nat} {Bn : Nat} {sv : Value} {bs : List Nat} (W : World) (l : Nat) (o o' : Obj) (hl : n ≤ l) (h : W.heap[l]? = some o) (hc : o.isCells = false) (hw : o.isWalk = false) : KpV Bn sv bs W (W.putObj l o') := by
  rintro ⟨hb, hv⟩
  refine ⟨?_, hv.grown (grownBy_putObj' W l o') (fun r e => by cases e; exact ⟨o, h, hc⟩)⟩
  refine hb.kept (grownBy_putObj' W l o') (fun e => ?_)
  cases e
  have hb' : W.heap[Bn]? = _ := hb
  rw [hb'] at h
  cases h
  simp [Obj.isCells] at hc
theorem kraft_order (ao : Option Addr) (n cap : Nat) (w : World) : Calls Try.prog 47 #[.slice ao n cap] w fun e w' => e = .returned (.func (.func 61) #[] #[.pointer (some ⟨w.heap.size, 0, none⟩)]) ∧ w' = w.alloc (.cells #[.slice ao n cap] 22) := by
  go_enter Try.func47, Try.ntmps47
  go_wp2_with fail
  go_ret
  exact ⟨rfl, rfl⟩

set_option maxRecDepth 100000 in
set_option maxHeartbeats 4000000 in
theorem order1_in (n : Nat) (hn : 1 ≤ n) (l Bn : Nat) (sv : Value) (bs : List Nat) (hm : MayK bs) (xs : List (Wd bs.length)) (hxs : xs.map (·.1) = prs bs 20 bs.length) (J Jx : List (Wd bs.length) → World → Prop)
    (hY : ∀ pre x W, J pre W → pre.length < xs.length → YieldAt Fence.wide (n - 1) Try.prog l #[.int .i64 x.1.1, .int .u8 x.1.2] W fun e W' =>
      (e = .returned (.bool true) ∧ J (pre ++ [x]) W' ∧ KpV Bn sv bs W W') ∨ (e = .returned (.bool false) ∧ Jx (pre ++ [x]) W'))
    (W : World) (hL : GV Bn sv bs W) (h0 : J [] W) :
    CallsIn Fence.wide n Try.prog 61 #[.func (.yield l) #[] #[], .pointer (some ⟨Bn, 0, none⟩)] W fun e W' => (∃ v, e = .returned v) ∧
      ((∃ ys, ys = xs ∧ J ys W') ∨ (∃ pre, pre <+: xs ∧ Jx pre W')) := by
  obtain ⟨ao, cap, rfl⟩ := hL.2.shape
  rw [length_u8s] at *
  have hl := hm.1
  have HM := Lib.hid hm
  have HXS := Lib.hid hxs
  have HY := Lib.hid hY
  have HS : Hid (GV Bn (.slice ao bs.length cap) bs W ∧ J [] W) := Lib.hid ⟨hL, h0⟩
  clear hxs hY hL h0 hm
  refine callsIn_of_wp Try.func61 rfl trivial ?_ rfl
  simp only [Try.ntmps61, List.size_toArray, List.length_cons, List.length_nil, Nat.reduceAdd, Nat.reduceSub, Array.replicate_succ, Array.replicate_zero, List.push_toArray, List.append_toArray, List.nil_append, List.cons_append]
  gi_wp2
  gi_loopw [3] (fun nv wr => ∃ (pre rest : List (Wd bs.length)) (n : Nat), nv = .int .u8 n ∧ 1 ≤ n ∧ n ≤ 21 ∧ xs = pre ++ rest ∧ pre.map (·.1) = prs bs n 0 ∧ GV Bn (.slice ao bs.length cap) bs wr ∧ J pre wr)
    (fun nv _ => 21 - (intOf nv).toNat)
  case atStart => exact ⟨[], xs, 1, rfl, Nat.le_refl _, by omega, rfl, rfl, HS.out.1, HS.out.2⟩
  case round =>
    obtain ⟨pre, rest, n, rfl, hn1, hn21, hx, hp, hgv, hj⟩ := hrel
    have HX := Lib.hid hx
    have HP := Lib.hid hp
    have HGV := Lib.hid hgv
    have hbox := hgv.1.cell
    have HJP := Lib.hid hj
    clear hx hp hgv hj
    by_cases hlt : n ≤ 20
    · have hlti : (n : Int) ≤ 20 := by omega
      gi_wp2
      clear hbox
      gi_loopw [12] (fun iv wi => ∃ (pre rest : List (Wd bs.length)) (i : Nat), iv = .int .i64 i ∧ i ≤ bs.length ∧ xs = pre ++ rest ∧ pre.map (·.1) = prs bs n i ∧ GV Bn (.slice ao bs.length cap) bs wi ∧ J pre wi) (fun iv _ => bs.length - (intOf iv).toNat)
      case atStart => exact ⟨pre, rest, 0, rfl, Nat.zero_le _, HX.out, HP.out, HGV.out, HJP.out⟩
      case round =>
        obtain ⟨pre2, rest2, i, rfl, hi, hx2, hp2, hgv2, hj2⟩ := hrel
        have HX2 := Lib.hid hx2
        have HP2 := Lib.hid hp2
        have HGV2 := Lib.hid hgv2
        have HJ2 := Lib.hid hj2
        clear hx2 hp2 hgv2 hj2
        by_cases hil : i < bs.length
        · have hili : (i : Int) < (bs.length : Int) := by omega
          obtain ⟨b, o, rfl, _, hc⟩ := viewL_cells HGV2.out.2 (by rw [length_u8s]; omega)
          obtain ⟨y, hy⟩ : ∃ y, bs.getD i 0 = y := ⟨_, rfl⟩
          have c1 := hc i (.int .u8 y) (by rw [getElem?_u8s _ _ hil, hy])
          clear hc
          by_cases hyn : y = n
          · obtain ⟨r0, rest', rfl, hr0⟩ := wd_next HX2.out HXS.out HP2.out (hy.trans hyn) hil hn1 hlt
            obtain ⟨⟨r1, r2⟩, hrp⟩ := r0
            simp only [Prod.mk.injEq] at hr0
            obtain ⟨rfl, rfl⟩ := hr0
            obtain ⟨fn, tmps, assign, body, hyy, hR⟩ := HY.out pre2 ⟨(r1, r2), hrp⟩ _ HJ2.out (by rw [HX2.out]; simp)
            dsimp only at hyy
            have HN := Lib.hid (show (pre2 ++ [(⟨(r1, r2), hrp⟩ : Wd bs.length)]).map (·.1) = prs bs r2 (r1 + 1) by rw [prs_hit bs r2 r1 (hy.trans hyn), List.map_append, HP2.out]; rfl)
            have HHR := Lib.hid hR
            subst hyn
            clear hR hy
            have hb : ((y : Int) == (y : Int)) = true := by simp
            gi_wp2
            refine HHR.out.mono ?_
            rintro e W3 (⟨rfl, hJ3, hk3⟩ | ⟨rfl, hJx3⟩)
            · have HGV3 := Lib.hid (hk3 HGV2.out)
              have HJ3 := Lib.hid hJ3
              clear hJ3 hk3
              gi_wp2
              go_roundw
              case rel => exact ⟨pre2 ++ [⟨(r1, y), hrp⟩], rest', r1 + 1, by go_num, by omega, by rw [HX2.out]; simp, HN.out, HGV3.out, HJ3.out⟩
              case measure => simp [intOf]; omega
            · have HJX := Lib.hid hJx3
              clear hJx3
              gi_wp2
              refine bodyPost_ret (results_none rfl _ _ _) rfl ?_
              exact ⟨⟨_, rfl⟩, .inr ⟨pre2 ++ [⟨(r1, y), hrp⟩], ⟨rest', by rw [HX2.out]; simp⟩, HJX.out⟩⟩
          · have hyi : ((y : Int) == (n : Int)) = false := by rw [beq_eq_false_iff_ne]; omega
            have HN := Lib.hid (prs_miss bs n i (by rw [hy]; exact hyn))
            gi_wp2
            refine ⟨fun _ _ => trivial, ?_⟩
            gi_wp2
            go_roundw
            case rel => exact ⟨pre2, rest2, i + 1, by go_num, by omega, HX2.out, by rw [HN.out]; exact HP2.out, HGV2.out, HJ2.out⟩
            case measure => simp [intOf]; omega
        · obtain rfl : i = bs.length := by omega
          have HN := Lib.hid (prs_next bs n hn1)
          gi_wp2
          go_roundw
          case rel => exact ⟨pre2, rest2, n + 1, by go_num, by omega, by omega, HX2.out, by rw [HN.out]; exact HP2.out, HGV2.out, HJ2.out⟩
          case measure => simp [intOf]; omega
    · obtain rfl : n = 21 := by omega
      have HE := Lib.hid (wd_end HX.out HXS.out HP.out)
      gi_wp2
      go_end0
      exact ⟨⟨_, rfl⟩, .inl ⟨pre, HE.out, HJP.out⟩⟩
/-- the iterator, as the law of a range over a function asks. -/
theorem order_stops (n : Nat) (hn : 1 ≤ n) (Bn : Nat) (sv : Value) (bs : List Nat) (hm : MayK bs) (xs : List (Wd bs.length)) (hxs : xs.map (·.1) = prs bs 20 bs.length) (w : World) (hL : GV Bn sv bs w) :
    SeqStopsK Fence.wide n Try.prog 61 #[.pointer (some ⟨Bn, 0, none⟩)] (fun x : Wd bs.length => #[Value.int .i64 x.1.1, Value.int .u8 x.1.2]) (KpV Bn sv bs) (fun ys => ys = xs) (fun pre => pre <+: xs) xs.length w := fun l J Jx W hW hJ hJx hY h0 =>
  order1_in n hn l Bn sv bs hm xs hxs J Jx hY W ⟨(hW.block Bn hL.1.lt).trans hL.1, hL.2.keep (Touch.of_below (S := fun _ => False) hW) (fun _ _ _ _ _ f => f)⟩ h0
end Go.Proofs.Ytomnhfcckalkiaa
