/- frame.reader: what it is in memory; take: its walk. header.must, header.order, and header.Get's deferred closure: their walks; the ways out of header.Get. slices.ContainsFunc of bytes, repeat.Pack's test; repeat.runs; Sign.times; repeat.Bits. -/
import Derived.Lib.BytesEntry
import Derived.WalkLawsBesides
import Derived.Test.YtbbcphloafmldaaGreatFrmPutZ
import Derived.Defers
import Derived.Recover
import Derived.Test.YtbbcphloafmldaaGreatBnd7
import Derived.Test.YtbbcphloafmldaaGreatRepLaw
import Derived.Test.YtbbcphloafmldaaGreatBnd3
import Derived.Test.YtbbcphloafmldaaGreatRows
import Derived.Outline
import Derived.Deep.DeepMust
/-! frame.reader: what it is in memory; take: its walk. -/
namespace Go.Proofs.YtbbcphloafmldaaGreat
open Go.RowKit
set_option linter.unusedVariables false

/-- the panic of the form. -/
def formF : PanicEntry := { v := .iface 25 (.int .i64 2), recovered := false }
def rcells (bv : Value) (at_ : Nat) (h : Hd) (ev : Value) (wr : Bool) : Array Value := #[bv, .int .i64 at_, .bool h.text, .int .u32 h.time, .int .u8 h.xfl, .int .u8 h.os, ev, .string h.name, .string h.comment, .int .u8 h.has, .bool h.sum, .bool wr]
/-- block B is a reader; w0: the world ahead of it. -/
structure FR (w0 : World) (B : Nat) (bv : Value) (at_ : Nat) (h : Hd) (ev : Value) (wr : Bool) (w : World) : Prop where
  box : w.heap[B]? = some (.cells (rcells bv at_ h ev wr) 77 (0, 0))
  ext : Ext w0 w
  low : w0.heap.size ≤ B
  own : ∃ og, Owns w 5 1 ev og h.extra.length (u8s h.extra) ∧ og ≠ some B ∧ ∀ g, og = some g → w0.heap.size ≤ g
def FRP (w0 : World) (B : Nat) (bv : Value) (at_ : Nat) (h : Hd) (ev : Value) (wr : Bool) (w w' : World) : Prop := FR w0 B bv at_ h ev wr w' ∧ Touch (fun k => k = B) w w'
section
variable {w0 w w1 : World} {B at_ : Nat} {bv ev : Value} {h : Hd} {wr : Bool}
theorem FR.cell (r : FR w0 B bv at_ h ev wr w) (i : Nat) : w.cell? ⟨B, i, none⟩ = (rcells bv at_ h ev wr)[i]? := cell_of_row w B i _ _ _ r.box
theorem FR.free (r : FR w0 B bv at_ h ev wr w) (i : Nat) : w.frozen? ⟨B, i, none⟩ = false := Lib.frozen_of_heap r.box _
theorem FR.keep {S : Nat → Prop} (r : FR w0 B bv at_ h ev wr w) (t : Touch S w w1) (hn : ¬ S B) (hl : ∀ k, S k → w.heap.size ≤ k) : FR w0 B bv at_ h ev wr w1 := by
  obtain ⟨og, k1, k2, k3⟩ := r.own
  have hs := r.ext.size
  exact ⟨t.keep r.box hn, r.ext.touch t (fun i hi e => by have := hl i e; omega), r.low, og, k1.keep t (fun g e f => by have := hl g f; have := k1.lt g e; omega), k2, k3⟩
theorem FR.up (r : FR w0 B bv at_ h ev wr w) (t : Ext w w1) : FR w0 B bv at_ h ev wr w1 := r.keep t (fun f => f) (fun _ f => f.elim)
theorem FRP.refl (r : FR w0 B bv at_ h ev wr w) : FRP w0 B bv at_ h ev wr w w := ⟨r, Touch.refl _ _⟩
theorem FRP.up {w2 : World} (r : FRP w0 B bv at_ h ev wr w w1) (t : Ext w1 w2) : FRP w0 B bv at_ h ev wr w w2 := ⟨r.1.up t, r.2.trans (t.mono (fun _ _ f => f.elim)) fun _ _ h => h⟩
theorem FRP.step {w2 : World} {at2 : Nat} {h2 : Hd} {ev2 : Value} {wr2 : Bool} (r : FRP w0 B bv at_ h ev wr w w1) (q : FRP w0 B bv at2 h2 ev2 wr2 w1 w2) : FRP w0 B bv at2 h2 ev2 wr2 w w2 := ⟨q.1, r.2.trans q.2 fun _ _ h => h⟩
theorem FR.set {at2 : Nat} {h2 : Hd} {ev2 : Value} {wr2 : Bool} (r : FR w0 B bv at_ h ev wr w) (i : Nat) (u : Value) (he : (rcells bv at_ h ev wr).setIfInBounds i u = rcells bv at2 h2 ev2 wr2)
    (ho : ∃ og, Owns w 5 1 ev2 og h2.extra.length (u8s h2.extra) ∧ og ≠ some B ∧ ∀ g, og = some g → w0.heap.size ≤ g) : FRP w0 B bv at2 h2 ev2 wr2 w (w.setCell ⟨B, i, none⟩ u) := by
  have ht : Touch (fun k => k = B) w (w.setCell ⟨B, i, none⟩ u) := (Touch.refl (fun k => k = B) w).setCell (Or.inl rfl) _
  obtain ⟨og, k1, k2, k3⟩ := ho
  have hlow := r.low
  refine ⟨⟨?_, r.ext.touch ht (fun i hi e => by omega), r.low, og, k1.keep ht (fun g e hk => k2 (by rw [e]; exact congrArg some hk)), k2, k3⟩, ht⟩
  rw [heap_setCell_at (w := w) (a := ⟨B, i, none⟩) (u := u) r.box rfl, ← he]
end
theorem view_none0' (ao : Option Addr) (w : World) : ViewL w (.slice ao 0 0) [] := ⟨ao, 0, rfl, Nat.le_refl _, fun _ => rfl, fun h => by simp at h⟩
set_option maxRecDepth 100000 in
set_option maxHeartbeats 4000000 in
theorem frd_take_ok (w0 : World) (B : Nat) (bo : Option Addr) (bcap : Nat) (bs : List Nat) (p n : Nat) (h : Hd) (ev : Value) (wr : Bool) (w : World) (hr : FR w0 B (.slice bo bs.length bcap) p h ev wr w) (hv : ViewL w0 (.slice bo bs.length bcap) (u8s bs)) (hl : bs.length ≤ 2 ^ 40) (hn : p + n ≤ bs.length) :
    Calls Tryz.prog 47 #[.pointer (some ⟨B, 0, none⟩), .int .i64 n] w fun e w' => ∃ v, e = .returned v ∧ ViewL w0 v (u8s ((bs.drop p).take n)) ∧ FRP w0 B (.slice bo bs.length bcap) (p + n) h ev wr w w' := by
  have hcap : bs.length ≤ bcap := by obtain ⟨ao', cap', e, h1, _⟩ := hv; rw [length_u8s] at e h1; cases e; exact h1
  have c0 : w.cell? ⟨B, 0, none⟩ = some (.slice bo bs.length bcap) := hr.cell 0
  have c1 : w.cell? ⟨B, 1, none⟩ = some (.int .i64 p) := hr.cell 1
  have f1 := hr.free 1
  have h1 : ¬ (bs.length : Int) - p < (n : Int) := by omega
  have HR := Lib.hid hr
  have hpc : ((u8s bs).drop p).take n = u8s ((bs.drop p).take n) := by simp [u8s, List.map_drop, List.map_take]
  obtain ⟨q, hqe⟩ : ∃ q, q = p + n := ⟨_, rfl⟩
  have k0 : IntKind.i64.wrap ((bs.length : Int) - (p : Int)) = (bs.length : Int) - (p : Int) := IntWalk.i64_in _ (by omega)
  have k1 : IntKind.i64.wrap ((p : Int) + (n : Int)) = (q : Int) := by rw [IntWalk.i64_in _ (by omega)]; omega
  have k2 : IntKind.i64.wrap ((q : Int) - (n : Int)) = (p : Int) := by rw [IntWalk.i64_in _ (by omega)]; omega
  have hq : (q : Int) ≤ (bcap : Int) := by omega
  have hpq : (p : Int) ≤ (q : Int) := by omega
  have hqp : q - p = n := by omega
  have hqpi : (q : Int) - (p : Int) = (n : Int) := by omega
  have h0p : (0 : Int) ≤ (p : Int) := by omega
  have k3 : IntKind.i64.wrap (p : Int) = (p : Int) := IntWalk.i64_in _ (by omega)
  by_cases hci : bcap = p
  · have hn0 : n = 0 := by omega
    have hpv := (show ViewL w0 (.slice bo (u8s bs).length bcap) (u8s bs) by rw [length_u8s]; exact hv).piece_end n (by rw [length_u8s]; omega)
    have HP := Lib.hid (show ViewL w0 (.slice bo 0 0) (u8s ((bs.drop p).take n)) by rw [hn0]; exact hpv.2)
    rw [← hqe]
    subst hn0
    obtain rfl : q = p := by omega
    have HW := Lib.hid (show ∀ k, FRP w0 B (.slice bo bs.length bcap) q h ev wr w ((w.drewN k).setCell ⟨B, 1, none⟩ (.int .i64 q)) from fun k => by
      have x := ((Ext.refl w).drewN k)
      exact ((FRP.refl hr).up x).step ((hr.up x).set (h2 := h) (at2 := q) (ev2 := ev) (wr2 := wr) 1 (.int .i64 q) rfl (hr.up x).own))
    subst hci
    clear hqe hpv hr hv hpc
    go_enter Tryz.func47, Tryz.ntmps47
    go_wp2_with fail
    go_quiet (fail)
    go_wp2_with fail
    go_quiet (fail)
    go_wp2_with fail
    go_ret
    exact ⟨_, rfl, HP.out, (HW.out _).up ((Ext.refl _).drewN _)⟩
  · have hpv := (show ViewL w0 (.slice bo (u8s bs).length bcap) (u8s bs) by rw [length_u8s]; exact hv).piece p n (by rw [length_u8s]; omega) hci
    rw [hpc] at hpv
    have HP := Lib.hid hpv
    rw [← hqe]
    have HW := Lib.hid (show ∀ k, FRP w0 B (.slice bo bs.length bcap) q h ev wr w ((w.drewN k).setCell ⟨B, 1, none⟩ (.int .i64 q)) from fun k => by
      have x := ((Ext.refl w).drewN k)
      exact ((FRP.refl hr).up x).step ((hr.up x).set (h2 := h) (at2 := q) (ev2 := ev) (wr2 := wr) 1 (.int .i64 q) rfl (hr.up x).own))
    clear hqe hpv hr hv hpc
    go_enter Tryz.func47, Tryz.ntmps47
    go_wp2_with fail
    go_quiet (fail)
    go_wp2_with fail
    go_quiet (fail)
    go_wp2_with fail
    go_ret
    exact ⟨_, rfl, HP.out, (HW.out _).up ((Ext.refl _).drewN _)⟩
set_option maxRecDepth 100000 in
set_option maxHeartbeats 4000000 in
theorem frd_take_bad (w0 : World) (B : Nat) (bo : Option Addr) (bcap : Nat) (bs : List Nat) (p : Nat) (n : Int) (h : Hd) (ev : Value) (wr : Bool) (w : World) (hr : FR w0 B (.slice bo bs.length bcap) p h ev wr w) (hl : bs.length ≤ 2 ^ 40) (hp : p ≤ bs.length) (hn : (bs.length : Int) - p < n) :
    Calls Tryz.prog 47 #[.pointer (some ⟨B, 0, none⟩), .int .i64 n] w fun e w' => e = .panicked [formF] ∧ FRP w0 B (.slice bo bs.length bcap) p h ev wr w w' := by
  have c0 : w.cell? ⟨B, 0, none⟩ = some (.slice bo bs.length bcap) := hr.cell 0
  have c1 : w.cell? ⟨B, 1, none⟩ = some (.int .i64 p) := hr.cell 1
  have k0 : IntKind.i64.wrap ((bs.length : Int) - (p : Int)) = (bs.length : Int) - (p : Int) := IntWalk.i64_in _ (by omega)
  have HW := Lib.hid (FRP.refl hr)
  clear hr
  go_enter Tryz.func47, Tryz.ntmps47
  go_wp2_with fail
  go_quiet (fail)
  go_wp2_with fail
  exact ⟨rfl, rfl, HW.out.up ((Ext.refl _).drewN _)⟩
theorem run_indexByte_view {P : Program} (v : Value) (bs : List Nat) (w : World) (hv : ViewL w v (u8s bs)) (hb : ∀ b ∈ bs, b < 256) : (Extern.BytealgIndexByte.indexByte #[v, .int .u8 0]).run P w = .ok (.int .i64 (fzI bs)) w := by
  obtain ⟨ao, cap, rfl, hcap, hnil, hc⟩ := hv
  rw [length_u8s] at *
  by_cases h0 : bs.length = 0
  · obtain rfl : bs = [] := List.eq_nil_of_length_eq_zero h0
    have hs := Lib.run_indexByteString (P := P) ⟨#[]⟩ 0 w
    change Sem.run P (do
      let b ← Extern.Bytes.bytesOf (.string ⟨#[]⟩)
      let c ← Extern.Bytes.asByte (.int .u8 0)
      match (List.range b.size).find? fun i => b[i]! == c with
      | some i => pure (goInt i)
      | none => pure (goInt (-1))) w = _ at hs
    change Sem.run P (do
      let b ← Extern.Bytes.bytesOf (.slice ao 0 cap)
      let c ← Extern.Bytes.asByte (.int .u8 0)
      match (List.range b.size).find? fun i => b[i]! == c with
      | some i => pure (goInt i)
      | none => pure (goInt (-1))) w = _
    cases ao with
    | none =>
      simp only [Extern.Bytes.bytesOf, Sem.run_bind, Sem.run_pure, Result.andThen] at hs ⊢
      exact hs
    | some ad =>
      simp only [Extern.Bytes.bytesOf, Extern.Bytes.loadBytes, Sem.run_bind, Sem.run_pure, Result.andThen] at hs ⊢
      exact hs
  · obtain ⟨b, o, rfl, hcx⟩ := hc (by omega)
    have h := Lib.run_indexByteSlice (P := P) w b o bs.length cap (bs.map fun (x : Nat) => (x : Int)) (by simp) (fun i hi => by
      rw [hcx i (.int .u8 bs[i]) (by simp [u8s, hi]), List.getD_eq_getElem?_getD, List.getElem?_map, List.getElem?_eq_getElem hi]; rfl) 0
    rw [h, show ((0 : Int).toNat.toUInt8) = 0 from rfl, fzI_byte]
    have e : (Lib.bytesOf (bs.map fun (x : Nat) => (x : Int))).map UInt8.toNat = bs := by
      simp only [Lib.bytesOf, List.map_map]
      refine (List.map_congr_left (g := id) (fun x hx => ?_)).trans (List.map_id _)
      have := hb x hx
      simp [Function.comp]
      omega
    rw [e]
set_option maxRecDepth 100000 in
/-- bytes.IndexByte. -/
theorem frm_indexByteB (v : Value) (bs : List Nat) (w : World) (hv : ViewL w v (u8s bs)) (hb : ∀ b ∈ bs, b < 256) : Calls Tryz.prog 100 #[v, .int .u8 0] w fun e w' => e = .returned (.int .i64 (fzI bs)) ∧ w = w' := by
  have HI := Lib.hid (run_indexByte_view (P := Tryz.prog) v bs w hv hb)
  go_enter Tryz.func100, Tryz.ntmps100
  go_wp2_with fail
  rw [run_callFunc_extern Tryz.func123 (by kernel_rfl) (by kernel_rfl) (by kernel_rfl) (e := Extern.BytealgIndexByte.indexByte) (by kernel_rfl), HI.out]
  simp only [Result.andThen]
  rw [Oper.upon_value]
  go_wp2_with fail
  go_ret
  exact ⟨rfl, rfl⟩
end Go.Proofs.YtbbcphloafmldaaGreat

/-! header.must, header.order, and header.Get's deferred closure: their walks; the ways out of header.Get. -/
namespace Go.Proofs.YtbbcphloafmldaaGreat
open Go.RowKit
set_option linter.unusedVariables false
set_option linter.unusedSimpArgs false

set_option maxRecDepth 100000 in
theorem hdr_must_u (v : Int) (w : World) : Calls Tryz.prog 110 #[.int .u32 v, .int .i64 0] w fun e w' => e = .returned (.int .u32 v) ∧ w' = w := by
  go_enter Tryz.func110, Tryz.ntmps110
  go_wp2_with fail
  go_ret
  exact ⟨rfl, rfl⟩
set_option maxRecDepth 100000 in
theorem hdr_must_u_bad (v : Int) (x : Int) (w : World) (hx : x ≠ 0) : Calls Tryz.prog 110 #[.int .u32 v, .int .i64 x] w fun e w' => e = .panicked [formF] ∧ w' = w := by
  have h1 : (x == 0) = false := by rw [beq_eq_false_iff_ne]; exact hx
  have h2 : (x != 0) = true := by rw [bne_iff_ne]; exact hx
  go_enter Tryz.func110, Tryz.ntmps110
  go_wp2_with fail
  exact ⟨rfl, rfl, rfl⟩
set_option maxRecDepth 100000 in
theorem hdr_must_i (v : Int) (w : World) : Calls Tryz.prog 113 #[.int .i64 v, .int .i64 0] w fun e w' => e = .returned (.int .i64 v) ∧ w' = w := by
  go_enter Tryz.func113, Tryz.ntmps113
  go_wp2_with fail
  go_ret
  exact ⟨rfl, rfl⟩
set_option maxRecDepth 100000 in
theorem hdr_must_i_bad (v : Int) (x : Int) (w : World) (hx : x ≠ 0) : Calls Tryz.prog 113 #[.int .i64 v, .int .i64 x] w fun e w' => e = .panicked [formF] ∧ w' = w := by
  have h1 : (x == 0) = false := by rw [beq_eq_false_iff_ne]; exact hx
  have h2 : (x != 0) = true := by rw [bne_iff_ne]; exact hx
  go_enter Tryz.func113, Tryz.ntmps113
  go_wp2_with fail
  exact ⟨rfl, rfl, rfl⟩
set_option maxRecDepth 100000 in
theorem hdr_must_s (a : Option Addr) (n c : Nat) (w : World) : Calls Tryz.prog 115 #[.slice a n c, .int .i64 0] w fun e w' => e = .returned (.slice a n c) ∧ w' = w := by
  go_enter Tryz.func115, Tryz.ntmps115
  go_wp2_with fail
  go_ret
  exact ⟨rfl, rfl⟩
set_option maxRecDepth 100000 in
theorem hdr_must_s_bad (a : Option Addr) (n c : Nat) (x : Int) (w : World) (hx : x ≠ 0) : Calls Tryz.prog 115 #[.slice a n c, .int .i64 x] w fun e w' => e = .panicked [formF] ∧ w' = w := by
  have h1 : (x == 0) = false := by rw [beq_eq_false_iff_ne]; exact hx
  have h2 : (x != 0) = true := by rw [bne_iff_ne]; exact hx
  go_enter Tryz.func115, Tryz.ntmps115
  go_wp2_with fail
  exact ⟨rfl, rfl, rfl⟩
set_option maxRecDepth 100000 in
theorem hdr_order (w : World) : Calls Tryz.prog 111 #[] w fun e w' => e = .returned (.slice (some ⟨w.heap.size, 0, none⟩) 19 19) ∧ w' = w.alloc (.cells (u8s ordH).toArray 5) := by
  go_enter Tryz.func111, Tryz.ntmps111
  go_wp2_with fail
  go_ret
  exact ⟨rfl, rfl⟩
theorem hdr_assert (w : World) : (Instr.typeAssert (.iface 25 (.int .i64 2)) 20 25 true).run Tryz.prog w = .ok (.tuple #[.int .i64 2, .bool true]) w := by kernel_rfl
theorem hdr_assert_nil (w : World) : (Instr.typeAssert .nilIface 20 25 true).run Tryz.prog w = .ok (.tuple #[.int .i64 0, .bool false]) w := by kernel_rfl
theorem hdr_idle (p q s : Addr) (w : World) :
    CallsD Tryz.prog 109 #[.pointer (some p), .pointer (some q), .pointer (some s)] .returning w fun e u' w' => e = .returned (.tuple #[]) ∧ u' = .returning ∧ w' = w := by
  refine callsD_of_wpS Tryz.func109 rfl fun c₀ cs hu => ?_
  have ha := hdr_assert_nil
  simp only [Tryz.ntmps109, List.size_toArray, List.length_cons, List.length_nil, Nat.reduceAdd, Nat.reduceSub, Array.replicate_succ, Array.replicate_zero, List.push_toArray, List.append_toArray, List.nil_append, List.cons_append]
  apply wpS_seq
  apply wpS_region
  simp [wpOpsS, go_sem, recoverD, hu, ha, Exit.thenS]
  apply wpS_seq
  apply wpS_region
  simp [wpOpsS, go_sem, Exit.thenS]
  refine wpS_cond (t := false) (by simp [Act.eval]) ?_
  simp only [Bool.false_eq_true, if_false]
  refine wpS_of_wp (wp_skip ?_)
  cases c₀
  simp_all [bodyPostS, results, Tryz.results109]
/-- the results' boxes. -/
structure HBx (w : World) (p q s : Nat) (v1 v2 : Value) (x : Int) : Prop where
  hp : w.heap[p]? = some (.cells #[v1] 22 (0, 0))
  hq : w.heap[q]? = some (.cells #[v2] 22 (0, 0))
  hs : w.heap[s]? = some (.cells #[.int .i64 x] 25 (0, 0))
theorem hdr_catch (p q s : Nat) (v1 v2 : Value) (x : Int) (w : World) (hb : HBx w p q s v1 v2 x) (d1 : q ≠ p) (d3 : s ≠ p) (d5 : s ≠ q) :
    CallsD Tryz.prog 109 #[.pointer (some ⟨p, 0, none⟩), .pointer (some ⟨q, 0, none⟩), .pointer (some ⟨s, 0, none⟩)] (.panicking [formF]) w fun e u' w' =>
      e = .returned (.tuple #[]) ∧ u' = .panicking [{ formF with recovered := true }] ∧ w' = ((w.setCell ⟨p, 0, none⟩ (.slice none 0 0)).setCell ⟨q, 0, none⟩ (.slice none 0 0)).setCell ⟨s, 0, none⟩ (.int .i64 2) := by
  refine callsD_of_wpS Tryz.func109 rfl fun c₀ cs hu => ?_
  unfold formF at hu
  have ha := hdr_assert
  simp only [Tryz.ntmps109, List.size_toArray, List.length_cons, List.length_nil, Nat.reduceAdd, Nat.reduceSub, Array.replicate_succ, Array.replicate_zero, List.push_toArray, List.append_toArray, List.nil_append, List.cons_append]
  apply wpS_seq
  apply wpS_region
  simp [wpOpsS, go_sem, recoverD, hu, ha, Exit.thenS]
  apply wpS_seq
  apply wpS_region
  simp [wpOpsS, go_sem, Exit.thenS]
  refine wpS_cond (t := true) (by simp [Act.eval]) ?_
  simp only [if_true]
  apply wpS_region
  have c0 : w.cell? ⟨p, 0, none⟩ = some v1 := by simp [World.cell?, hb.hp]
  have f0 : w.frozen? ⟨p, 0, none⟩ = false := Lib.frozen_of_heap hb.hp _
  have c1 : w.cell? ⟨q, 0, none⟩ = some v2 := by simp [World.cell?, hb.hq]
  have f1 : w.frozen? ⟨q, 0, none⟩ = false := Lib.frozen_of_heap hb.hq _
  have c2 : w.cell? ⟨s, 0, none⟩ = some (.int .i64 x) := by simp [World.cell?, hb.hs]
  have f2 : w.frozen? ⟨s, 0, none⟩ = false := Lib.frozen_of_heap hb.hs _
  simp [wpOpsS, go_sem, c0, f0, c1, f1, c2, f2, d1, d3, d5, bodyPostS, results, Tryz.results109, formF]
theorem hdr_ret {R : Ending → World → Prop} {wr : World} {p q s : Nat} {v1 v2 : Value} {x : Int} {tmps : Array Value} (t2 : tmps[2]? = some (.pointer (some ⟨p, 0, none⟩))) (t3 : tmps[3]? = some (.pointer (some ⟨q, 0, none⟩))) (t4 : tmps[4]? = some (.pointer (some ⟨s, 0, none⟩)))
    (hp : wr.cell? ⟨p, 0, none⟩ = some v1) (hq : wr.cell? ⟨q, 0, none⟩ = some v2) (hs : wr.cell? ⟨s, 0, none⟩ = some (.int .i64 x))
    (hR : R (.returned (.tuple #[v1, v2, .int .i64 x])) wr) :
    bodyPostD Tryz.prog Tryz.f86 R Exit.ret { tmps := tmps, defers := [{ target := .fn (.func 109) #[.pointer (some ⟨p, 0, none⟩), .pointer (some ⟨q, 0, none⟩), .pointer (some ⟨s, 0, none⟩)], args := #[] }] } wr := by
  refine leaves_cons (f := 109) (args := #[.pointer (some ⟨p, 0, none⟩), .pointer (some ⟨q, 0, none⟩), .pointer (some ⟨s, 0, none⟩)]) (by simp) (by simp [go_sem]) ?_
  refine (hdr_idle _ _ _ _).mono ?_
  rintro e u' w'' ⟨rfl, rfl, rfl⟩
  simp [Leaves, settle, results, Tryz.results86, go_sem, t2, t3, t4, hp, hq, hs]
  exact hR
theorem hdr_panic {R : Ending → World → Prop} {wr : World} {p q s : Nat} {v1 v2 : Value} {x : Int} {tmps : Array Value} (t2 : tmps[2]? = some (.pointer (some ⟨p, 0, none⟩))) (t3 : tmps[3]? = some (.pointer (some ⟨q, 0, none⟩))) (t4 : tmps[4]? = some (.pointer (some ⟨s, 0, none⟩)))
    (hb : HBx wr p q s v1 v2 x) (d1 : q ≠ p) (d3 : s ≠ p) (d5 : s ≠ q)
    (hR : ∀ w', Touch (fun k => k = p ∨ k = q ∨ k = s) wr w' → R (.returned (.tuple #[.slice none 0 0, .slice none 0 0, .int .i64 2])) w') :
    bodyPostD Tryz.prog Tryz.f86 R (Exit.panic [formF]) { tmps := tmps, defers := [{ target := .fn (.func 109) #[.pointer (some ⟨p, 0, none⟩), .pointer (some ⟨q, 0, none⟩), .pointer (some ⟨s, 0, none⟩)], args := #[] }] } wr := by
  refine leaves_cons (f := 109) (args := #[.pointer (some ⟨p, 0, none⟩), .pointer (some ⟨q, 0, none⟩), .pointer (some ⟨s, 0, none⟩)]) (by simp) (by simp [go_sem]) ?_
  refine (hdr_catch p q s v1 v2 x wr hb d1 d3 d5).mono ?_
  rintro e u' w'' ⟨rfl, rfl, rfl⟩
  have c0 : wr.cell? ⟨p, 0, none⟩ = some v1 := by simp [World.cell?, hb.hp]
  have c1 : wr.cell? ⟨q, 0, none⟩ = some v2 := by simp [World.cell?, hb.hq]
  have c2 : wr.cell? ⟨s, 0, none⟩ = some (.int .i64 x) := by simp [World.cell?, hb.hs]
  simp [Leaves, settle, results, Tryz.results86, go_sem, t2, t3, t4, c0, c1, c2, d1, d3, d5, d1.symm, d3.symm, d5.symm]
  refine hR _ ?_
  repeat (refine Touch.setCell ?_ (Or.inl (by simp)) _)
  exact Touch.refl _ _
end Go.Proofs.YtbbcphloafmldaaGreat

/-! slices.ContainsFunc of bytes, repeat.Pack's test; repeat.runs; Sign.times; repeat.Bits. -/
namespace Go.Proofs.YtbbcphloafmldaaGreat
open Go.RowKit
set_option linter.unusedVariables false

theorem rep_cells {w : World} {ao : Option Addr} {n cap : Nat} {xs : List Value} (h : ViewL w (.slice ao n cap) xs) (h0 : 0 < xs.length) : ∃ b o, ao = some ⟨b, o, none⟩ ∧ ∀ j u, xs[j]? = some u → w.cell? ⟨b, o + j, none⟩ = some u := by
  obtain ⟨ao', cap', e, _, _, h3⟩ := h
  injection e with e1 e2 e3
  subst e1
  exact h3 h0
theorem rep_bits (c : Nat) (w : World) (hc : c < 256) : Calls Tryz.prog 114 #[.int .u8 c] w fun e w' => e = .returned (.int .i64 (bitsOfCode c : Nat)) ∧ w = w' := by
  by_cases h1 : c = 16
  · subst h1
    go_enter Tryz.func114, Tryz.ntmps114
    go_wp2_with fail
    go_ret
    exact ⟨rfl, rfl⟩
  · by_cases h2 : c = 17
    · subst h2
      go_enter Tryz.func114, Tryz.ntmps114
      go_wp2_with fail
      go_ret
      exact ⟨rfl, rfl⟩
    · by_cases h3 : c = 18
      · subst h3
        go_enter Tryz.func114, Tryz.ntmps114
        go_wp2_with fail
        go_ret
        exact ⟨rfl, rfl⟩
      · have k1 : ¬ (c : Int) = 16 := by omega
        have k2 : ¬ (c : Int) = 17 := by omega
        have k3 : ¬ (c : Int) = 18 := by omega
        rw [show bitsOfCode c = 0 by simp [bitsOfCode, h1, h2, h3]]
        clear h1 h2 h3
        go_enter Tryz.func114, Tryz.ntmps114
        go_wp2_with fail
        go_ret
        exact ⟨rfl, rfl⟩
theorem rep_times (c x : Nat) (w : World) (hc : c < 256) (hx : x < 256) : Calls Tryz.prog 134 #[.agg #[.int .u8 c, .int .u8 x]] w fun e w' => e = .returned (.int .i64 (timesOf (c, x) : Nat)) ∧ Ext w w' := by
  by_cases h1 : c < 16
  · have k1 : (c : Int) < 16 := by omega
    rw [show timesOf (c, x) = 1 by simp [timesOf, h1]]
    go_enter Tryz.func134, Tryz.ntmps134
    go_wp2_with fail
    go_ret
    exact ⟨rfl, (Ext.refl w).alloc _⟩
  · have k1 : ¬ (c : Int) < 16 := by omega
    by_cases h2 : c < 18
    · have k2 : (c : Int) < 18 := by omega
      rw [show timesOf (c, x) = 3 + x by simp [timesOf, h1, h2]]
      go_enter Tryz.func134, Tryz.ntmps134
      go_wp2_with fail
      go_ret
      exact ⟨by go_num, (Ext.refl w).alloc _⟩
    · have k2 : ¬ (c : Int) < 18 := by omega
      rw [show timesOf (c, x) = 11 + x by simp [timesOf, h1, h2]]
      go_enter Tryz.func134, Tryz.ntmps134
      go_wp2_with fail
      go_ret
      exact ⟨by go_num, (Ext.refl w).alloc _⟩
end Go.Proofs.YtbbcphloafmldaaGreat
-- pruned by prune.py for gunzipz
