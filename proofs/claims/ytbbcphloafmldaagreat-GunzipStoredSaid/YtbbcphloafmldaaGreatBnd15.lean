/- token.LengthOf and token.DistanceOf: their walks. kraft.order: the iterator over the symbols in order: its contract. -/
import Derived.BigQuiet
import Derived.Test.YtbbcphloafmldaaGreatTokColZ
import Derived.RangeFuncNested
import Derived.RangeFuncBound
import Derived.RangeFuncCalls
import Derived.RangeFuncLeaves
import Derived.RangeFuncBox
import Derived.Shelf.Abstract
import Derived.Shelf.RegionOpen
import Derived.WalkKit
import Derived.OwnWalkIn
import Derived.TacticsInMore
import Derived.LoopNIn
import Derived.LoopIn
import Derived.Maps.AppendAt
import Derived.Sort.QuietIn
import Derived.Test.YtbbcphloafmldaaGreatBnd5
import Derived.Test.YtbbcphloafmldaaGreatBnd3
/-! token.LengthOf and token.DistanceOf: their walks. -/
namespace Go.Proofs.YtbbcphloafmldaaGreat
open Go.RowKit Go.Shelf
set_option linter.unusedVariables false

def LbE (w : World) (r : Option (Nat × Nat)) (e : Ending) (w' : World) : Prop := ((∃ l b, r = some (l, b) ∧ e = .returned (.tuple #[.int .i64 (l : Nat), .int .i64 (b : Nat), .int .i64 0])) ∨ (r = none ∧ e = .returned (.tuple #[.int .i64 0, .int .i64 0, .int .i64 5]))) ∧ Ext w w'
/-- a rule's rows, as they are read. -/
theorem rule_read {w : World} {v : Value} {og : Option Nat} {n : Nat} {f : Nat → Nat} (h : Owns w 3 1 v og n ((List.range n).map fun k => .int .i64 (f k))) (hn : 0 < n) : ∃ g cap, v = .slice (some ⟨g, 0, none⟩) n cap ∧ n ≤ cap ∧ ∀ wx, Ext w wx → ∀ k, k < n → wx.cell? ⟨g, k, none⟩ = some (.int .i64 (f k : Nat)) := by
  obtain ⟨ao, cap, e, hc, _, hv⟩ := h.viewL
  obtain ⟨b, o, rfl, hcell⟩ := hv (by simpa using hn)
  rcases h.form with ⟨_, _, h0, _⟩ | ⟨g, cap2, cur, h4, h5, h6, _⟩
  · omega
  · rw [h5] at e
    simp only [List.length_map, List.length_range] at e hc
    injection e with e1 e2 e3
    injection e1 with e1
    injection e1 with e4 e5
    subst e4 e5 e3
    refine ⟨g, cap2, h5, hc, fun wx hx k hk => ?_⟩
    have := hcell k (.int .i64 (f k : Nat)) (by simp [hk])
    rw [Nat.zero_add] at this
    have hg : g < w.heap.size := block_lt h6
    rw [hx.cell (p := ⟨g, k, none⟩) hg (fun f => f)]; exact this
def tokW (n none each least : Nat) (w : World) : World := (((w.alloc (.cells #[.int .i64 n] 3)).alloc (.cells #[.int .i64 none] 3)).alloc (.cells #[.int .i64 each] 3)).alloc (.cells #[.int .i64 least] 3)
def RuleR (w : World) (n none each least : Nat) (e : Ending) (w2 : World) : Prop := ∃ ga ca gb cb, e = .returned (.agg #[.slice (some ⟨ga, 0, Option.none⟩) n ca, .slice (some ⟨gb, 0, Option.none⟩) n cb]) ∧ Ext w w2 ∧ (n ≤ ca ∧ n ≤ cb) ∧ ∀ wx, Ext w2 wx → ∀ k, k < n → wx.cell? ⟨ga, k, Option.none⟩ = some (.int .i64 (scL none each least k : Nat)) ∧ wx.cell? ⟨gb, k, Option.none⟩ = some (.int .i64 (scB none each k : Nat))
theorem tok_rule (n none each least : Nat) (hN : n ≤ 30 ∧ none ≤ 30 ∧ 1 ≤ each ∧ each ≤ 30 ∧ least ≤ 30) (hn : 0 < n) (w : World) :
    Calls Tryz.prog 128 #[.func (.func 139) #[] #[.pointer (some ⟨w.heap.size, 0, Option.none⟩), .pointer (some ⟨w.heap.size + 1, 0, Option.none⟩), .pointer (some ⟨w.heap.size + 2, 0, Option.none⟩), .pointer (some ⟨w.heap.size + 3, 0, Option.none⟩)]] (tokW n none each least w) (RuleR w n none each least) := by
  have hx : Ext w (tokW n none each least w) := (((((Ext.refl w).alloc _).alloc _).alloc _).alloc _)
  have b0 : Boxed (tokW n none each least w) w.heap.size 3 (.int .i64 n) := (((Boxed.new w 3 (.int .i64 n)).alloc _).alloc _).alloc _
  have b1 : Boxed (tokW n none each least w) (w.heap.size + 1) 3 (.int .i64 none) := by
    have h := Boxed.new (w.alloc (.cells #[.int .i64 n] 3)) 3 (.int .i64 none)
    rw [World.size_alloc] at h
    exact (h.alloc _).alloc _
  have b2 : Boxed (tokW n none each least w) (w.heap.size + 2) 3 (.int .i64 each) := by
    have h := Boxed.new ((w.alloc (.cells #[.int .i64 n] 3)).alloc (.cells #[.int .i64 none] 3)) 3 (.int .i64 each)
    rw [World.size_alloc, World.size_alloc] at h
    exact h.alloc _
  have b3 : Boxed (tokW n none each least w) (w.heap.size + 3) 3 (.int .i64 least) := by
    have h := Boxed.new (((w.alloc (.cells #[.int .i64 n] 3)).alloc (.cells #[.int .i64 none] 3)).alloc (.cells #[.int .i64 each] 3)) 3 (.int .i64 least)
    rw [World.size_alloc, World.size_alloc, World.size_alloc] at h
    exact h
  refine (tok_collect n none each least _ _ _ _ hN ⟨by omega, by omega, by omega⟩ _ ⟨b0, b1, b2⟩ b3).mono ?_
  rintro e w2 ⟨va, vb, oa, ob, rfl, hA, hB, _, _, ht⟩
  obtain ⟨ga, ca, rfl, h1, h2⟩ := rule_read hA hn
  obtain ⟨gb, cb, rfl, h3, h4⟩ := rule_read hB hn
  exact ⟨ga, ca, gb, cb, rfl, hx.touch ht (fun k hk e => by omega), ⟨h1, h3⟩, fun wx hwx k hk => ⟨h2 wx hwx k hk, h4 wx hwx k hk⟩⟩
set_option maxRecDepth 100000 in
set_option maxHeartbeats 2000000 in
theorem tok_length_of (c : Nat) (hc : c ≤ 1000) (w : World) : Calls Tryz.prog 105 #[.int .i64 c] w (LbE w (lenOf c)) := by
  obtain ⟨r, hr⟩ : ∃ r, r = lenOf c := ⟨_, rfl⟩
  rw [← hr]
  by_cases h1 : c < 257
  · have HR := Lib.hid (show r = none from by rw [hr, lenOf, if_pos (Or.inl h1)])
    have k1 : (c : Int) < 257 := by omega
    clear hr
    go_enter Tryz.func105, Tryz.ntmps105
    go_wp2_with fail
    go_ret3
    exact ⟨Or.inr ⟨HR.out, rfl⟩, Ext.refl _⟩
  · have k1 : ¬ (c : Int) < 257 := by omega
    by_cases h2 : 285 < c
    · have HR := Lib.hid (show r = none from by rw [hr, lenOf, if_pos (Or.inr h2)])
      have k2 : (285 : Int) < (c : Int) := by omega
      clear hr
      go_enter Tryz.func105, Tryz.ntmps105
      go_wp2_with fail
      go_ret3
      exact ⟨Or.inr ⟨HR.out, rfl⟩, Ext.refl _⟩
    · have k2 : ¬ (285 : Int) < (c : Int) := by omega
      by_cases h3 : c = 285
      · have HR := Lib.hid (show r = some (258, 0) from by rw [hr, lenOf, if_neg (by omega), if_pos h3])
        subst h3
        clear hr k1 k2 h1 h2 hc
        go_enter Tryz.func105, Tryz.ntmps105
        go_wp2_with fail
        go_ret3
        exact ⟨Or.inl ⟨_, _, HR.out, rfl⟩, Ext.refl _⟩
      · obtain ⟨k, hk⟩ : ∃ k, k = c - 257 := ⟨_, rfl⟩
        have HR := Lib.hid (show r = some (scL 8 4 3 k, scB 8 4 k) ∧ k < 28 from by rw [hr, lenOf, if_neg (by omega), if_neg h3, hk]; exact ⟨rfl, by omega⟩)
        have k3 : ((c : Int) == 285) = false := by rw [beq_eq_false_iff_ne]; omega
        have k4 : IntKind.i64.wrap ((c : Int) - 257) = (k : Int) := by rw [show (c : Int) - 257 = (k : Int) by omega]; exact IntWalk.i64_in _ (by omega)
        have k5 : (k : Int) < 28 := by omega
        clear hr hk h1 h2 h3 hc
        go_enter Tryz.func105, Tryz.ntmps105
        go_wp2_with fail
        refine (tok_scale 28 8 4 3 w).mono ?_
        rintro e w1 ⟨rfl, hw1⟩
        have hw1 : w1 = tokW 28 8 4 3 w := hw1
        subst hw1
        go_wp2_with fail
        refine (tok_rule 28 8 4 3 (by decide) (by decide) w).mono ?_
        rintro e w2 ⟨ga, ca, gb, cb, rfl, hx2, ⟨hca, hcb⟩, hcell⟩
        have HX2 := Lib.hid hx2
        have HC := Lib.hid hcell
        clear hx2 hcell
        go_wp2_with fail
        obtain ⟨L, hL⟩ : ∃ L, L = scL 8 4 3 k := ⟨_, rfl⟩
        obtain ⟨B, hB⟩ : ∃ B, B = scB 8 4 k := ⟨_, rfl⟩
        have hcell := HC.out (w2.alloc (.cells #[.slice (some ⟨ga, 0, none⟩) 28 ca, .slice (some ⟨gb, 0, none⟩) 28 cb] 159)) ((Ext.refl _).alloc _) k HR.out.2
        rw [← hL, ← hB] at hcell
        have HLB := Lib.hid (And.intro hL hB)
        have cA := hcell.1
        have cB := hcell.2
        clear hL hB hcell hw1
        go_quiet (fail)
        go_wp2_with fail
        go_ret3
        exact ⟨Or.inl ⟨L, B, by rw [HLB.out.1, HLB.out.2]; exact HR.out.1, rfl⟩, (HX2.out.alloc _).drewN _⟩
set_option maxRecDepth 100000 in
set_option maxHeartbeats 2000000 in
theorem tok_distance_of (c : Nat) (hc : c ≤ 1000) (w : World) : Calls Tryz.prog 106 #[.int .i64 c] w (LbE w (distOf c)) := by
  obtain ⟨r, hr⟩ : ∃ r, r = distOf c := ⟨_, rfl⟩
  rw [← hr]
  by_cases h1 : 30 ≤ c
  · have HR := Lib.hid (show r = none from by rw [hr, distOf, if_pos h1])
    have k1 : (30 : Int) ≤ (c : Int) := by omega
    clear hr
    go_enter Tryz.func106, Tryz.ntmps106
    go_wp2_with fail
    go_ret3
    exact ⟨Or.inr ⟨HR.out, rfl⟩, Ext.refl _⟩
  · have k1 : ¬ (30 : Int) ≤ (c : Int) := by omega
    obtain ⟨k, hk⟩ : ∃ k, k = c := ⟨_, rfl⟩
    have HR := Lib.hid (show r = some (scL 4 2 1 k, scB 4 2 k) ∧ k < 30 from by rw [hr, distOf, if_neg h1, hk]; exact ⟨rfl, by omega⟩)
    obtain rfl := hk
    have k5 : (k : Int) < 30 := by omega
    clear hr h1 hc k1
    go_enter Tryz.func106, Tryz.ntmps106
    go_wp2_with fail
    refine (tok_scale 30 4 2 1 w).mono ?_
    rintro e w1 ⟨rfl, hw1⟩
    have hw1 : w1 = tokW 30 4 2 1 w := hw1
    subst hw1
    go_wp2_with fail
    refine (tok_rule 30 4 2 1 (by decide) (by decide) w).mono ?_
    rintro e w2 ⟨ga, ca, gb, cb, rfl, hx2, ⟨hca, hcb⟩, hcell⟩
    have HX2 := Lib.hid hx2
    have HC := Lib.hid hcell
    clear hx2 hcell
    go_wp2_with fail
    obtain ⟨L, hL⟩ : ∃ L, L = scL 4 2 1 k := ⟨_, rfl⟩
    obtain ⟨B, hB⟩ : ∃ B, B = scB 4 2 k := ⟨_, rfl⟩
    have hcell := HC.out (w2.alloc (.cells #[.slice (some ⟨ga, 0, none⟩) 30 ca, .slice (some ⟨gb, 0, none⟩) 30 cb] 159)) ((Ext.refl _).alloc _) k HR.out.2
    rw [← hL, ← hB] at hcell
    have HLB := Lib.hid (And.intro hL hB)
    have cA := hcell.1
    have cB := hcell.2
    clear hL hB hcell hw1
    go_quiet (fail)
    go_wp2_with fail
    go_ret3
    exact ⟨Or.inl ⟨L, B, by rw [HLB.out.1, HLB.out.2]; exact HR.out.1, rfl⟩, (HX2.out.alloc _).drewN _⟩
end Go.Proofs.YtbbcphloafmldaaGreat

/-! kraft.order: the iterator over the symbols in order: its contract. -/
namespace Go.Proofs.YtbbcphloafmldaaGreat
open Go.RowKit Go.Shelf
set_option linter.unusedVariables false
attribute [local go_sem] Oper.semAt_some

/-- a symbol, and its length. -/
abbrev Wd (N : Nat) := { r : Nat × Nat // r.1 < N ∧ 1 ≤ r.2 ∧ r.2 ≤ 20 }
theorem wds_are {N : Nat} : ∀ l : List (Nat × Nat), (∀ r ∈ l, r.1 < N ∧ 1 ≤ r.2 ∧ r.2 ≤ 20) → ∃ xs : List (Wd N), xs.map (·.1) = l
  | [], _ => ⟨[], rfl⟩
  | r :: l, h => by
    obtain ⟨xs, hx⟩ := wds_are l (fun q hq => h q (List.mem_cons_of_mem _ hq))
    exact ⟨⟨r, h r (List.mem_cons_self ..)⟩ :: xs, by rw [List.map_cons, hx]⟩
theorem wds_all {L : List Nat} (hm : MayK L) : ∃ xs : List (Wd L.length), xs.map (·.1) = prs L 20 L.length := wds_are _ fun r hr => by
  obtain ⟨h1, h2, h3, h4⟩ := mem_prs hr (Nat.le_refl _) (by decide)
  exact ⟨h1, h3, h4⟩
theorem wd_next {L : List Nat} {N : Nat} {xs pre rest : List (Wd N)} {n i : Nat} (hx : xs = pre ++ rest) (hxs : xs.map (·.1) = prs L 20 L.length) (hp : pre.map (·.1) = prs L n i) (hit : L.getD i 0 = n) (hi : i < L.length) (h1 : 1 ≤ n) (h20 : n ≤ 20) :
    ∃ r0 rest', rest = r0 :: rest' ∧ r0.1 = (i, n) := by
  obtain ⟨t, ht⟩ := prs_prefix_all L n (i + 1) h1 h20 hi
  rw [prs_hit L n i hit, ← hxs, hx, List.map_append, hp, List.append_assoc] at ht
  have := List.append_cancel_left ht
  cases rest with
  | nil => simp at this
  | cons r0 rest' =>
    simp only [List.map_cons, List.cons_append, List.nil_append, List.cons.injEq] at this
    exact ⟨r0, rest', rfl, this.1.symm⟩
theorem wd_end {L : List Nat} {N : Nat} {xs pre rest : List (Wd N)} (hx : xs = pre ++ rest) (hxs : xs.map (·.1) = prs L 20 L.length) (hp : pre.map (·.1) = prs L 21 0) : pre = xs := by
  rw [prs_next L 20 (by decide), ← hxs, hx, List.map_append] at hp
  have := congrArg List.length hp
  simp only [List.length_append, List.length_map] at this
  have : rest = [] := List.eq_nil_of_length_eq_zero (by omega)
  rw [hx, this, List.append_nil]
/-- what the iterator reads: its box, and the bytes. -/
def GV (Bn : Nat) (sv : Value) (bs : List Nat) (W : World) : Prop := Boxed W Bn 22 sv ∧ ViewL W sv (u8s bs)
def KpV (Bn : Nat) (sv : Value) (bs : List Nat) (W W' : World) : Prop := GV Bn sv bs W → GV Bn sv bs W'
theorem kpV_t {Bn : Nat} {sv : Value} {bs : List Nat} {A B C : World} (h : KpV Bn sv bs A B) (k : KpV Bn sv bs B C) : KpV Bn sv bs A C := fun x => k (h x)
theorem ViewL.grown {W W' : World} {row : Option Nat} {v : Value} {xs : List Value} (h : ViewL W v xs) (hg : W.grownBy W' row) (hr : ∀ r, row = some r → ∃ o : Obj, W.heap[r]? = some o ∧ o.isCells = false) : ViewL W' v xs := by
  obtain ⟨ao, cap, rfl, h1, h2, h3⟩ := h
  refine ⟨ao, cap, rfl, h1, h2, fun h0 => ?_⟩
  obtain ⟨b, o, rfl, hc⟩ := h3 h0
  refine ⟨b, o, rfl, fun j u hu => ?_⟩
  have hcu := hc j u hu
  have hlt := World.block_lt_of_cell? _ _ hcu
  refine (World.cell?_of_block (hg.block b hlt (fun e => ?_))).trans hcu
  obtain ⟨ob, ho, hn⟩ := hr b e.symm
  have : W.cell? ⟨b, o + j, none⟩ = none := by
    simp only [World.cell?, ho]
    cases ob <;> simp_all [Obj.isCells]
  rw [this] at hcu
  cases hcu
theorem kpV_b {n : Nat} {Bn : Nat} {sv : Value} {bs : List Nat} (W : World) (l : Nat) (o o' : Obj) (hl : n ≤ l) (h : W.heap[l]? = some o) (hc : o.isCells = false) (hw : o.isWalk = false) : KpV Bn sv bs W (W.putObj l o') := by
  rintro ⟨hb, hv⟩
  refine ⟨?_, hv.grown (grownBy_putObj' W l o') (fun r e => by cases e; exact ⟨o, h, hc⟩)⟩
  refine hb.kept (grownBy_putObj' W l o') (fun e => ?_)
  cases e
  have hb' : W.heap[Bn]? = _ := hb
  rw [hb'] at h
  cases h
  simp [Obj.isCells] at hc
theorem kraft_order (ao : Option Addr) (n cap : Nat) (w : World) : Calls Tryz.prog 138 #[.slice ao n cap] w fun e w' => e = .returned (.func (.func 143) #[] #[.pointer (some ⟨w.heap.size, 0, none⟩)]) ∧ w' = w.alloc (.cells #[.slice ao n cap] 22) := by
  go_enter Tryz.func138, Tryz.ntmps138
  go_wp2_with fail
  go_ret
  exact ⟨rfl, rfl⟩

set_option maxRecDepth 100000 in
set_option maxHeartbeats 4000000 in
theorem order1_in (n : Nat) (hn : 1 ≤ n) (l Bn : Nat) (sv : Value) (bs : List Nat) (hm : MayK bs) (xs : List (Wd bs.length)) (hxs : xs.map (·.1) = prs bs 20 bs.length) (J Jx : List (Wd bs.length) → World → Prop)
    (hY : ∀ pre x W, J pre W → pre.length < xs.length → YieldAt Fence.wide (n - 1) Tryz.prog l #[.int .i64 x.1.1, .int .u8 x.1.2] W fun e W' =>
      (e = .returned (.bool true) ∧ J (pre ++ [x]) W' ∧ KpV Bn sv bs W W') ∨ (e = .returned (.bool false) ∧ Jx (pre ++ [x]) W'))
    (W : World) (hL : GV Bn sv bs W) (h0 : J [] W) :
    CallsIn Fence.wide n Tryz.prog 143 #[.func (.yield l) #[] #[], .pointer (some ⟨Bn, 0, none⟩)] W fun e W' => (∃ v, e = .returned v) ∧
      ((∃ ys, ys = xs ∧ J ys W') ∨ (∃ pre, pre <+: xs ∧ Jx pre W')) := by
  obtain ⟨ao, cap, rfl⟩ := hL.2.shape
  rw [length_u8s] at *
  have hl := hm.1
  have HM := Lib.hid hm
  have HXS := Lib.hid hxs
  have HY := Lib.hid hY
  have HS : Hid (GV Bn (.slice ao bs.length cap) bs W ∧ J [] W) := Lib.hid ⟨hL, h0⟩
  clear hxs hY hL h0 hm
  refine callsIn_of_wp Tryz.func143 rfl trivial ?_ rfl
  simp only [Tryz.ntmps143, List.size_toArray, List.length_cons, List.length_nil, Nat.reduceAdd, Nat.reduceSub, Array.replicate_succ, Array.replicate_zero, List.push_toArray, List.append_toArray, List.nil_append, List.cons_append]
  gi_wp2
  gi_loopw [3] (fun nv wr => ∃ (pre rest : List (Wd bs.length)) (n : Nat), nv = .int .u8 n ∧ 1 ≤ n ∧ n ≤ 21 ∧ xs = pre ++ rest ∧ pre.map (·.1) = prs bs n 0 ∧ GV Bn (.slice ao bs.length cap) bs wr ∧ J pre wr)
    (fun nv _ => 21 - (intOf nv).toNat)
  case atStart => exact ⟨[], xs, 1, rfl, Nat.le_refl _, by omega, rfl, rfl, HS.out.1, HS.out.2⟩
  case round =>
    obtain ⟨pre, rest, n, rfl, hn1, hn21, hx, hp, hgv, hj⟩ := hrel
    have HX := Lib.hid hx
    have HP := Lib.hid hp
    have HGV := Lib.hid hgv
    have hbox := hgv.1.cell
    have HJP := Lib.hid hj
    clear hx hp hgv hj
    by_cases hlt : n ≤ 20
    · have hlti : (n : Int) ≤ 20 := by omega
      gi_wp2
      clear hbox
      gi_loopw [12] (fun iv wi => ∃ (pre rest : List (Wd bs.length)) (i : Nat), iv = .int .i64 i ∧ i ≤ bs.length ∧ xs = pre ++ rest ∧ pre.map (·.1) = prs bs n i ∧ GV Bn (.slice ao bs.length cap) bs wi ∧ J pre wi) (fun iv _ => bs.length - (intOf iv).toNat)
      case atStart => exact ⟨pre, rest, 0, rfl, Nat.zero_le _, HX.out, HP.out, HGV.out, HJP.out⟩
      case round =>
        obtain ⟨pre2, rest2, i, rfl, hi, hx2, hp2, hgv2, hj2⟩ := hrel
        have HX2 := Lib.hid hx2
        have HP2 := Lib.hid hp2
        have HGV2 := Lib.hid hgv2
        have HJ2 := Lib.hid hj2
        clear hx2 hp2 hgv2 hj2
        by_cases hil : i < bs.length
        · have hili : (i : Int) < (bs.length : Int) := by omega
          obtain ⟨b, o, rfl, _, hc⟩ := viewL_cells HGV2.out.2 (by rw [length_u8s]; omega)
          obtain ⟨y, hy⟩ : ∃ y, bs.getD i 0 = y := ⟨_, rfl⟩
          have c1 := hc i (.int .u8 y) (by rw [getElem?_u8s _ _ hil, hy])
          clear hc
          by_cases hyn : y = n
          · obtain ⟨r0, rest', rfl, hr0⟩ := wd_next HX2.out HXS.out HP2.out (hy.trans hyn) hil hn1 hlt
            obtain ⟨⟨r1, r2⟩, hrp⟩ := r0
            simp only [Prod.mk.injEq] at hr0
            obtain ⟨rfl, rfl⟩ := hr0
            obtain ⟨fn, tmps, assign, body, hyy, hR⟩ := HY.out pre2 ⟨(r1, r2), hrp⟩ _ HJ2.out (by rw [HX2.out]; simp)
            dsimp only at hyy
            have HN := Lib.hid (show (pre2 ++ [(⟨(r1, r2), hrp⟩ : Wd bs.length)]).map (·.1) = prs bs r2 (r1 + 1) by rw [prs_hit bs r2 r1 (hy.trans hyn), List.map_append, HP2.out]; rfl)
            have HHR := Lib.hid hR
            subst hyn
            clear hR hy
            have hb : ((y : Int) == (y : Int)) = true := by simp
            gi_wp2
            refine HHR.out.mono ?_
            rintro e W3 (⟨rfl, hJ3, hk3⟩ | ⟨rfl, hJx3⟩)
            · have HGV3 := Lib.hid (hk3 HGV2.out)
              have HJ3 := Lib.hid hJ3
              clear hJ3 hk3
              gi_wp2
              go_roundw
              case rel => exact ⟨pre2 ++ [⟨(r1, y), hrp⟩], rest', r1 + 1, by go_num, by omega, by rw [HX2.out]; simp, HN.out, HGV3.out, HJ3.out⟩
              case measure => simp [intOf]; omega
            · have HJX := Lib.hid hJx3
              clear hJx3
              gi_wp2
              refine bodyPost_ret (results_none rfl _ _ _) rfl ?_
              exact ⟨⟨_, rfl⟩, .inr ⟨pre2 ++ [⟨(r1, y), hrp⟩], ⟨rest', by rw [HX2.out]; simp⟩, HJX.out⟩⟩
          · have hyi : ((y : Int) == (n : Int)) = false := by rw [beq_eq_false_iff_ne]; omega
            have HN := Lib.hid (prs_miss bs n i (by rw [hy]; exact hyn))
            gi_wp2
            refine ⟨fun _ _ => trivial, ?_⟩
            gi_wp2
            go_roundw
            case rel => exact ⟨pre2, rest2, i + 1, by go_num, by omega, HX2.out, by rw [HN.out]; exact HP2.out, HGV2.out, HJ2.out⟩
            case measure => simp [intOf]; omega
        · obtain rfl : i = bs.length := by omega
          have HN := Lib.hid (prs_next bs n hn1)
          gi_wp2
          go_roundw
          case rel => exact ⟨pre2, rest2, n + 1, by go_num, by omega, by omega, HX2.out, by rw [HN.out]; exact HP2.out, HGV2.out, HJ2.out⟩
          case measure => simp [intOf]; omega
    · obtain rfl : n = 21 := by omega
      have HE := Lib.hid (wd_end HX.out HXS.out HP.out)
      gi_wp2
      go_end0
      exact ⟨⟨_, rfl⟩, .inl ⟨pre, HE.out, HJP.out⟩⟩
/-- the iterator, as the law of a range over a function asks. -/
theorem order_stops (n : Nat) (hn : 1 ≤ n) (Bn : Nat) (sv : Value) (bs : List Nat) (hm : MayK bs) (xs : List (Wd bs.length)) (hxs : xs.map (·.1) = prs bs 20 bs.length) (w : World) (hL : GV Bn sv bs w) :
    SeqStopsK Fence.wide n Tryz.prog 143 #[.pointer (some ⟨Bn, 0, none⟩)] (fun x : Wd bs.length => #[Value.int .i64 x.1.1, Value.int .u8 x.1.2]) (KpV Bn sv bs) (fun ys => ys = xs) (fun pre => pre <+: xs) xs.length w := fun l J Jx W hW hJ hJx hY h0 =>
  order1_in n hn l Bn sv bs hm xs hxs J Jx hY W ⟨(hW.block Bn hL.1.lt).trans hL.1, hL.2.keep (Touch.of_below (S := fun _ => False) hW) (fun _ _ _ _ _ f => f)⟩ h0
end Go.Proofs.YtbbcphloafmldaaGreat
