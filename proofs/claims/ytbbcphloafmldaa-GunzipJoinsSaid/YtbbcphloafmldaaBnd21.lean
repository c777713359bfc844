/- bytes.Equal; frame.Tail, Ends; pressworkref11.Tail: their walks. Gunzip, plain: what a file says. No program is named here. frame.Get's deferred closure: its walk. The ways out of frame.Get. -/
import Derived.Test.YtbbcphloafmldaaBnd10
import Derived.Test.YtbbcphloafmldaaBnd20
import Derived.Test.YtbbcphloafmldaaBnd18
import Derived.Test.YtbbcphloafmldaaFrmPlainZ
import Derived.Defers
import Derived.Recover
/-! bytes.Equal; frame.Tail, Ends; pressworkref11.Tail: their walks. -/
namespace Go.Proofs.Ytbbcphloafmldaa
open Go.RowKit
set_option linter.unusedVariables false
set_option linter.unusedSimpArgs false

theorem frm_equal (u v : Value) (a b : List Nat) (w : World) (hu : ViewL w u (u8s a)) (hv : ViewL w v (u8s b)) (ha : ∀ x ∈ a, x < 256) (hb : ∀ x ∈ b, x < 256) :
    Calls Try.prog 18 #[u, v] w fun e w' => e = .returned (.bool (decide (a = b))) ∧ w = w' := by
  have hs1 := run_string_view (P := Try.prog) 22 9 5 (viewL_view8 hu) Try.underlying22 Try.underlying5 Try.underlying9
  have hs2 := run_string_view (P := Try.prog) 22 9 5 (viewL_view8 hv) Try.underlying22 Try.underlying5 Try.underlying9
  have HE := Lib.hid (str_eq ha hb)
  clear hu hv
  go_enter Try.func18, Try.ntmps18
  go_wp2_with fail
  go_ret
  exact ⟨by rw [← HE.out]; rfl, rfl⟩
/-- a member's tail. -/
def tailL (bs : List Nat) : List Nat := leN 4 (crcL bs) ++ leN 4 bs.length
theorem tailL_lt (bs : List Nat) : ∀ b ∈ tailL bs, b < 256 := fun b hb => by
  rcases List.mem_append.1 hb with h | h
  · exact leN_lt _ _ _ h
  · exact leN_lt _ _ _ h
theorem leN_len (n : Nat) : leN 4 (n % 4294967296) = leN 4 n := by
  simp only [leN, List.range_succ, List.range_zero, List.nil_append, List.map_append, List.map_cons, List.map_nil]
  have e : ∀ k, k < 4 → n % 4294967296 / 256 ^ k % 256 = n / 256 ^ k % 256 := by
    intro k hk
    have : k = 0 ∨ k = 1 ∨ k = 2 ∨ k = 3 := by omega
    rcases this with rfl | rfl | rfl | rfl <;> omega
  rw [e 0 (by decide), e 1 (by decide), e 2 (by decide), e 3 (by decide)]
set_option maxRecDepth 100000 in
set_option maxHeartbeats 4000000 in
theorem frm_tail (v : Value) (bs : List Nat) (w : World) (hv : ViewL w v (u8s bs)) (hb : ∀ b ∈ bs, b < 256) (hl : bs.length ≤ 2 ^ 30) : Calls Try.prog 32 #[v] w (CloneOf w (tailL bs)) := by
  obtain ⟨ao, cap, rfl⟩ := hv.shape
  rw [length_u8s] at *
  have k32 : IntKind.u32.wrap (bs.length : Int) = (bs.length : Int) := IntWalk.u32_in _ (by omega)
  have HLOW := Lib.hid (crc_low _ bs w hv hb (by omega))
  clear hv hb
  go_enter Try.func32, Try.ntmps32
  go_wp2_with fail
  refine HLOW.out.mono ?_
  rintro e w2 ⟨rfl, he⟩
  have HE := Lib.hid he
  clear he
  go_wp2_with fail
  refine (frm_low _ none [] (crcL bs) 4 w2 (Owns.nil _ _ _) (by simp) (crcL_lt _) (by decide)).mono ?_
  rintro e w3 ⟨v3, rfl, hre⟩
  have hc := clone_regrown (w := w) (l := []) (Owns.nil w2 5 1) (fun g e => by cases e) HE.out hre
  obtain ⟨u, og, e, k1, k2, k3⟩ := hc
  cases e
  have K3 := Lib.hid (show Ext w w3 from k3)
  have K2 := Lib.hid k2
  have K1 := Lib.hid k1
  clear k1 k2 k3 hre
  go_wp2_with fail
  refine (frm_low _ og _ bs.length 4 w3 K1.out (by simp [length_leN]) (by omega) (by decide)).mono ?_
  rintro e w4 ⟨v4, rfl, hre⟩
  have HF := Lib.hid (clone_regrown (w := w) K1.out K2.out K3.out hre)
  clear hre
  go_wp2_with fail
  go_ret
  exact HF.out
theorem frm_ends (v t : Value) (bs ts : List Nat) (w : World) (hv : ViewL w v (u8s bs)) (ht : ViewL w t (u8s ts)) (hb : ∀ b ∈ bs, b < 256) (htb : ∀ b ∈ ts, b < 256) (hl : bs.length ≤ 2 ^ 30) :
    Calls Try.prog 15 #[v, t] w fun e w' => e = .returned (.bool (decide (ts = tailL bs))) ∧ Ext w w' := by
  have HT := Lib.hid (frm_tail v bs w hv hb hl)
  have HV := Lib.hid ht
  clear hv ht
  go_enter Try.func15, Try.ntmps15
  go_wp2_with fail
  refine HT.out.mono ?_
  rintro e w2 ⟨u, og, rfl, k1, k2, k3⟩
  have k3 : Ext w w2 := k3
  have HQ := Lib.hid (frm_equal t u ts (tailL bs) w2 (HV.out.ext k3) k1.viewL htb (tailL_lt bs))
  have HX := Lib.hid k3
  clear k1 k2 k3
  go_wp2_with fail
  refine HQ.out.mono ?_
  rintro e w3 ⟨rfl, rfl⟩
  go_wp2_with fail
  go_ret
  exact ⟨rfl, HX.out⟩
end Go.Proofs.Ytbbcphloafmldaa
-- pruned by prune.py for gunzip

/-! Gunzip, plain: what a file says. No program is named here. -/
namespace Go.Proofs.Ytbbcphloafmldaa
open Go.RowKit
set_option linter.unusedVariables false

/-- a member: what it says, how many bytes it has, whether it is wrong. -/
noncomputable def memF (g : List Nat) (keep : Nat) : Option (List Nat × Nat × Bool) :=
  match getH g with
  | none => none
  | some (h, n, wr) => match inflF (ofBits false (g.drop n)) 0 [] with
    | none => none
    | some (q, full) => if g.length < n + (q + 7) / 8 + 8 then none else some (full, n + (q + 7) / 8 + 8, wr || (decide (full.length ≤ keep) && !decide ((g.drop (n + (q + 7) / 8)).take 8 = tailL full)))
theorem memF_fit {g : List Nat} {keep : Nat} {full : List Nat} {u : Nat} {wr : Bool} (h : memF g keep = some (full, u, wr)) : 0 < u ∧ u ≤ g.length := by
  unfold memF at h
  split at h
  · cases h
  · split at h
    · cases h
    · split at h
      · cases h
      · cases h; omega
/-- a file: what it says, and whether it is wrong. -/
noncomputable def gunF (g : List Nat) (keep : Nat) : Option (List Nat × Bool) :=
  match memF g keep with
  | none => none
  | some (full, u, wr) => if u = g.length then some (full, wr) else if 0 < u ∧ u < g.length then (gunF (g.drop u) (keep - full.length)).map fun r => (full ++ r.1, wr || r.2) else none
  termination_by g.length
  decreasing_by rw [List.length_drop]; omega
theorem gunF_none {g : List Nat} {keep : Nat} (h : memF g keep = none) : gunF g keep = none := by rw [gunF, h]
theorem gunF_last {g : List Nat} {keep : Nat} {full : List Nat} {u : Nat} {wr : Bool} (h : memF g keep = some (full, u, wr)) (hu : u = g.length) : gunF g keep = some (full, wr) := by rw [gunF, h]; simp only; rw [if_pos hu]
theorem gunF_more {g : List Nat} {keep : Nat} {full : List Nat} {u : Nat} {wr : Bool} (h : memF g keep = some (full, u, wr)) (hu : u ≠ g.length) : gunF g keep = (gunF (g.drop u) (keep - full.length)).map fun r => (full ++ r.1, wr || r.2) := by
  have := memF_fit h
  rw [gunF, h]; simp only; rw [if_neg hu, if_pos (by omega)]
/-- what the iterator over the members yields. -/
structure GX where
  ov : Value
  full : List Nat
  u : Nat
  wr : Bool
  e : Nat
def gkS (s : List Nat × Nat) (x : GX) : List Nat × Nat := (s.1.drop x.u, s.2 - x.full.length)
def gkF (g : List Nat) (keep : Nat) (pre : List GX) : List Nat × Nat := pre.foldl gkS (g, keep)
theorem gk_snoc (g : List Nat) (keep : Nat) (pre : List GX) (x : GX) : gkF g keep (pre ++ [x]) = ((gkF g keep pre).1.drop x.u, (gkF g keep pre).2 - x.full.length) := by simp [gkF, gkS]
def fullsG (pre : List GX) : List Nat := (pre.map (·.full)).flatten
def wrsG (pre : List GX) : Bool := pre.any (·.wr)
theorem fullsG_snoc (pre : List GX) (x : GX) : fullsG (pre ++ [x]) = fullsG pre ++ x.full := by simp [fullsG]
theorem wrsG_snoc (pre : List GX) (x : GX) : wrsG (pre ++ [x]) = (wrsG pre || x.wr) := by simp [wrsG]
/-- how the file's answer hangs on what has been read. -/
def ChG (r : Option (List Nat × Bool)) (g : List Nat) (keep : Nat) (pre : List GX) : Prop :=
  (∀ x ∈ pre, x.e = 0) ∧ ((pre ≠ [] ∧ (gkF g keep pre).1 = []) → r = some (fullsG pre, wrsG pre)) ∧ (¬ (pre ≠ [] ∧ (gkF g keep pre).1 = []) → r = (gunF (gkF g keep pre).1 (gkF g keep pre).2).map fun z => (fullsG pre ++ z.1, wrsG pre || z.2))
theorem chG_nil {r : Option (List Nat × Bool)} {g : List Nat} {keep : Nat} (h : r = gunF g keep) : ChG r g keep [] := by
  refine ⟨(fun x hx => by cases hx), (fun h => absurd rfl h.1), fun _ => ?_⟩
  rw [h]
  show gunF g keep = (gunF g keep).map _
  cases gunF g keep <;> simp [fullsG, wrsG]
/-- what is yielded is what the member says. -/
def IsGX (x : GX) (g : List Nat) (keep : Nat) : Prop := (x.e = 0 ∧ memF g keep = some (x.full, x.u, x.wr)) ∨ (x.e = 2 ∧ memF g keep = none ∧ x.full = [] ∧ x.u = 0 ∧ x.wr = false)
theorem chG_snoc {r : Option (List Nat × Bool)} {g : List Nat} {keep : Nat} {pre : List GX} {x : GX} (h : ChG r g keep pre) (hn : pre ≠ [] → (gkF g keep pre).1 ≠ []) (hx : IsGX x (gkF g keep pre).1 (gkF g keep pre).2) (he : x.e = 0) : ChG r g keep (pre ++ [x]) := by
  rcases hx with ⟨_, hm⟩ | ⟨h2, _⟩
  · have hf := memF_fit hm
    refine ⟨fun y hy => ?_, ?_⟩
    · rcases List.mem_append.1 hy with hy | hy
      · exact h.1 y hy
      · rw [List.mem_singleton] at hy; rw [hy]; exact he
    · have hr := h.2.2 (fun h => hn h.1 h.2)
      rw [gk_snoc, fullsG_snoc, wrsG_snoc]
      refine ⟨fun hc => ?_, fun hc => ?_⟩
      · have hu : x.u = (gkF g keep pre).1.length := by
          have := List.drop_eq_nil_iff.1 hc.2
          omega
        rw [hr, gunF_last hm hu]; rfl
      · have hu : x.u ≠ (gkF g keep pre).1.length := fun hu => hc ⟨by simp, by rw [hu, List.drop_length]⟩
        rw [hr, gunF_more hm hu]
        cases gunF ((gkF g keep pre).1.drop x.u) ((gkF g keep pre).2 - x.full.length) <;> simp [List.append_assoc, Bool.or_assoc]
  · omega
theorem chG_bad {r : Option (List Nat × Bool)} {g : List Nat} {keep : Nat} {pre : List GX} {x : GX} (h : ChG r g keep pre) (hn : pre ≠ [] → (gkF g keep pre).1 ≠ []) (hx : IsGX x (gkF g keep pre).1 (gkF g keep pre).2) (he : x.e ≠ 0) : r = none := by
  rcases hx with ⟨h0, _⟩ | ⟨_, hm, _⟩
  · exact absurd h0 he
  · rw [h.2.2 (fun h => hn h.1 h.2), gunF_none hm]; rfl
end Go.Proofs.Ytbbcphloafmldaa

/-! frame.Get's deferred closure: its walk. -/
namespace Go.Proofs.Ytbbcphloafmldaa
open Go.RowKit
set_option linter.unusedVariables false
set_option linter.unusedSimpArgs false

theorem frm_assert (w : World) : (Instr.typeAssert (.iface 26 (.int .i64 2)) 20 26 true).run Try.prog w = .ok (.tuple #[.int .i64 2, .bool true]) w := by kernel_rfl
theorem frm_assert_nil (w : World) : (Instr.typeAssert .nilIface 20 26 true).run Try.prog w = .ok (.tuple #[.int .i64 0, .bool false]) w := by kernel_rfl
theorem frm_get_idle (p q r s : Addr) (w : World) :
    CallsD Try.prog 16 #[.pointer (some p), .pointer (some q), .pointer (some r), .pointer (some s)] .returning w fun e u' w' => e = .returned (.tuple #[]) ∧ u' = .returning ∧ w' = w := by
  refine callsD_of_wpS Try.func16 rfl fun c₀ cs hu => ?_
  have ha := frm_assert_nil
  simp only [Try.ntmps16, List.size_toArray, List.length_cons, List.length_nil, Nat.reduceAdd, Nat.reduceSub, Array.replicate_succ, Array.replicate_zero, List.push_toArray, List.append_toArray, List.nil_append, List.cons_append]
  apply wpS_seq
  apply wpS_region
  simp [wpOpsS, go_sem, recoverD, hu, ha, Exit.thenS]
  apply wpS_seq
  apply wpS_region
  simp [wpOpsS, go_sem, Exit.thenS]
  refine wpS_cond (t := false) (by simp [Act.eval]) ?_
  simp only [Bool.false_eq_true, if_false]
  refine wpS_of_wp (wp_skip ?_)
  cases c₀
  simp_all [bodyPostS, results, Try.results16]
theorem frm_get_catch (p q r s : Nat) (h : Hd) (ev : Value) (n : Int) (wr : Bool) (x : Int) (w : World) (hp : IsBox w p h ev) (hq : w.heap[q]? = some (.cells #[.int .i64 n] 3 (0, 0))) (hr : w.heap[r]? = some (.cells #[.bool wr] 4 (0, 0))) (hs : w.heap[s]? = some (.cells #[.int .i64 x] 26 (0, 0))) (d1 : q ≠ p) (d2 : r ≠ p) (d3 : s ≠ p) (d4 : r ≠ q) (d5 : s ≠ q) (d6 : s ≠ r) :
    CallsD Try.prog 16 #[.pointer (some ⟨p, 0, none⟩), .pointer (some ⟨q, 0, none⟩), .pointer (some ⟨r, 0, none⟩), .pointer (some ⟨s, 0, none⟩)] (.panicking [formF]) w fun e u' w' =>
      e = .returned (.tuple #[]) ∧ u' = .panicking [{ formF with recovered := true }] ∧ w' = (((((((((((w.setCell ⟨p, 0, none⟩ (.bool false)).setCell ⟨p, 1, none⟩ (.int .u32 0)).setCell ⟨p, 2, none⟩ (.int .u8 0)).setCell ⟨p, 3, none⟩ (.int .u8 0)).setCell ⟨p, 4, none⟩ (.slice none 0 0)).setCell ⟨p, 5, none⟩ (.string ⟨#[]⟩)).setCell ⟨p, 6, none⟩ (.string ⟨#[]⟩)).setCell ⟨p, 7, none⟩ (.int .u8 0)).setCell ⟨p, 8, none⟩ (.bool false)).setCell ⟨q, 0, none⟩ (.int .i64 0)).setCell ⟨r, 0, none⟩ (.bool false)).setCell ⟨s, 0, none⟩ (.int .i64 2) := by
  refine callsD_of_wpS Try.func16 rfl fun c₀ cs hu => ?_
  unfold formF at hu
  have ha := frm_assert
  simp only [Try.ntmps16, List.size_toArray, List.length_cons, List.length_nil, Nat.reduceAdd, Nat.reduceSub, Array.replicate_succ, Array.replicate_zero, List.push_toArray, List.append_toArray, List.nil_append, List.cons_append]
  apply wpS_seq
  apply wpS_region
  simp [wpOpsS, go_sem, recoverD, hu, ha, Exit.thenS]
  apply wpS_seq
  apply wpS_region
  simp [wpOpsS, go_sem, Exit.thenS]
  refine wpS_cond (t := true) (by simp [Act.eval]) ?_
  simp only [if_true]
  apply wpS_region
  have c0 : w.cell? ⟨p, 0, none⟩ = some (.bool h.text) := hp.cell 0
  have f0 : w.frozen? ⟨p, 0, none⟩ = false := Lib.frozen_of_heap hp _
  have c1 : w.cell? ⟨p, 1, none⟩ = some (.int .u32 h.time) := hp.cell 1
  have f1 : w.frozen? ⟨p, 1, none⟩ = false := Lib.frozen_of_heap hp _
  have c2 : w.cell? ⟨p, 2, none⟩ = some (.int .u8 h.xfl) := hp.cell 2
  have f2 : w.frozen? ⟨p, 2, none⟩ = false := Lib.frozen_of_heap hp _
  have c3 : w.cell? ⟨p, 3, none⟩ = some (.int .u8 h.os) := hp.cell 3
  have f3 : w.frozen? ⟨p, 3, none⟩ = false := Lib.frozen_of_heap hp _
  have c4 : w.cell? ⟨p, 4, none⟩ = some (ev) := hp.cell 4
  have f4 : w.frozen? ⟨p, 4, none⟩ = false := Lib.frozen_of_heap hp _
  have c5 : w.cell? ⟨p, 5, none⟩ = some (.string h.name) := hp.cell 5
  have f5 : w.frozen? ⟨p, 5, none⟩ = false := Lib.frozen_of_heap hp _
  have c6 : w.cell? ⟨p, 6, none⟩ = some (.string h.comment) := hp.cell 6
  have f6 : w.frozen? ⟨p, 6, none⟩ = false := Lib.frozen_of_heap hp _
  have c7 : w.cell? ⟨p, 7, none⟩ = some (.int .u8 h.has) := hp.cell 7
  have f7 : w.frozen? ⟨p, 7, none⟩ = false := Lib.frozen_of_heap hp _
  have c8 : w.cell? ⟨p, 8, none⟩ = some (.bool h.sum) := hp.cell 8
  have f8 : w.frozen? ⟨p, 8, none⟩ = false := Lib.frozen_of_heap hp _
  have cq : w.cell? ⟨q, 0, none⟩ = some (.int .i64 n) := by simp [World.cell?, hq]
  have fq : w.frozen? ⟨q, 0, none⟩ = false := Lib.frozen_of_heap hq _
  have cr : w.cell? ⟨r, 0, none⟩ = some (.bool wr) := by simp [World.cell?, hr]
  have fr : w.frozen? ⟨r, 0, none⟩ = false := Lib.frozen_of_heap hr _
  have cs : w.cell? ⟨s, 0, none⟩ = some (.int .i64 x) := by simp [World.cell?, hs]
  have fs : w.frozen? ⟨s, 0, none⟩ = false := Lib.frozen_of_heap hs _
  simp [wpOpsS, go_sem, c0, f0, c1, f1, c2, f2, c3, f3, c4, f4, c5, f5, c6, f6, c7, f7, c8, f8, cq, fq, cr, fr, cs, fs, bodyPostS, results, Try.results16, formF, d1, d2, d3, d4, d5, d6, d1.symm, d2.symm, d3.symm, d4.symm, d5.symm, d6.symm]
end Go.Proofs.Ytbbcphloafmldaa

/-! The ways out of frame.Get. -/
namespace Go.Proofs.Ytbbcphloafmldaa
open Go.RowKit
set_option linter.unusedVariables false
set_option linter.unusedSimpArgs false

/-- no head. -/
def hdZ : Hd := { text := false, time := 0, xfl := 0, os := 0, extra := [], name := ⟨#[]⟩, comment := ⟨#[]⟩, has := 0, sum := false }
theorem get_ret {R : Ending → World → Prop} {wr : World} {p q r s : Nat} {h : Hd} {ev : Value} {n : Int} {b : Bool} {x : Int} {tmps : Array Value} (t2 : tmps[2]? = some (.pointer (some ⟨p, 0, none⟩))) (t3 : tmps[3]? = some (.pointer (some ⟨q, 0, none⟩))) (t4 : tmps[4]? = some (.pointer (some ⟨r, 0, none⟩))) (t5 : tmps[5]? = some (.pointer (some ⟨s, 0, none⟩)))
    (hp : IsBox wr p h ev) (hq : wr.cell? ⟨q, 0, none⟩ = some (.int .i64 n)) (hr : wr.cell? ⟨r, 0, none⟩ = some (.bool b)) (hs : wr.cell? ⟨s, 0, none⟩ = some (.int .i64 x))
    (hR : R (.returned (.tuple #[.agg (hcells h ev), .int .i64 n, .bool b, .int .i64 x])) wr) :
    bodyPostD Try.prog Try.f13 R Exit.ret { tmps := tmps, defers := [{ target := .fn (.func 16) #[.pointer (some ⟨p, 0, none⟩), .pointer (some ⟨q, 0, none⟩), .pointer (some ⟨r, 0, none⟩), .pointer (some ⟨s, 0, none⟩)], args := #[] }] } wr := by
  refine leaves_cons (f := 16) (args := #[.pointer (some ⟨p, 0, none⟩), .pointer (some ⟨q, 0, none⟩), .pointer (some ⟨r, 0, none⟩), .pointer (some ⟨s, 0, none⟩)]) (by simp) (by simp [go_sem]) ?_
  refine (frm_get_idle _ _ _ _ _).mono ?_
  rintro e u' w'' ⟨rfl, rfl, rfl⟩
  have c0 : w''.cell? ⟨p, 0, none⟩ = some (.bool h.text) := hp.cell 0
  have c1 : w''.cell? ⟨p, 1, none⟩ = some (.int .u32 h.time) := hp.cell 1
  have c2 : w''.cell? ⟨p, 2, none⟩ = some (.int .u8 h.xfl) := hp.cell 2
  have c3 : w''.cell? ⟨p, 3, none⟩ = some (.int .u8 h.os) := hp.cell 3
  have c4 : w''.cell? ⟨p, 4, none⟩ = some ev := hp.cell 4
  have c5 : w''.cell? ⟨p, 5, none⟩ = some (.string h.name) := hp.cell 5
  have c6 : w''.cell? ⟨p, 6, none⟩ = some (.string h.comment) := hp.cell 6
  have c7 : w''.cell? ⟨p, 7, none⟩ = some (.int .u8 h.has) := hp.cell 7
  have c8 : w''.cell? ⟨p, 8, none⟩ = some (.bool h.sum) := hp.cell 8
  simp [Leaves, settle, results, Try.results13, go_sem, t2, t3, t4, t5, c0, c1, c2, c3, c4, c5, c6, c7, c8, hq, hr, hs]
  exact hR
set_option maxRecDepth 100000 in
set_option maxHeartbeats 1000000 in
theorem get_panic {R : Ending → World → Prop} {wr : World} {p q r s : Nat} {h : Hd} {ev : Value} {n : Int} {b : Bool} {x : Int} {tmps : Array Value} (t2 : tmps[2]? = some (.pointer (some ⟨p, 0, none⟩))) (t3 : tmps[3]? = some (.pointer (some ⟨q, 0, none⟩))) (t4 : tmps[4]? = some (.pointer (some ⟨r, 0, none⟩))) (t5 : tmps[5]? = some (.pointer (some ⟨s, 0, none⟩)))
    (hp : IsBox wr p h ev) (hq : wr.heap[q]? = some (.cells #[.int .i64 n] 3 (0, 0))) (hr : wr.heap[r]? = some (.cells #[.bool b] 4 (0, 0))) (hs : wr.heap[s]? = some (.cells #[.int .i64 x] 26 (0, 0))) (d1 : q ≠ p) (d2 : r ≠ p) (d3 : s ≠ p) (d4 : r ≠ q) (d5 : s ≠ q) (d6 : s ≠ r)
    (hR : ∀ w', Touch (fun k => k = p ∨ k = q ∨ k = r ∨ k = s) wr w' → R (.returned (.tuple #[.agg (hcells hdZ (.slice none 0 0)), .int .i64 0, .bool false, .int .i64 2])) w') :
    bodyPostD Try.prog Try.f13 R (Exit.panic [formF]) { tmps := tmps, defers := [{ target := .fn (.func 16) #[.pointer (some ⟨p, 0, none⟩), .pointer (some ⟨q, 0, none⟩), .pointer (some ⟨r, 0, none⟩), .pointer (some ⟨s, 0, none⟩)], args := #[] }] } wr := by
  refine leaves_cons (f := 16) (args := #[.pointer (some ⟨p, 0, none⟩), .pointer (some ⟨q, 0, none⟩), .pointer (some ⟨r, 0, none⟩), .pointer (some ⟨s, 0, none⟩)]) (by simp) (by simp [go_sem]) ?_
  refine (frm_get_catch p q r s h ev n b x wr hp hq hr hs d1 d2 d3 d4 d5 d6).mono ?_
  rintro e u' w'' ⟨rfl, rfl, rfl⟩
  have c0 : wr.cell? ⟨p, 0, none⟩ = some (.bool h.text) := hp.cell 0
  have c1 : wr.cell? ⟨p, 1, none⟩ = some (.int .u32 h.time) := hp.cell 1
  have c2 : wr.cell? ⟨p, 2, none⟩ = some (.int .u8 h.xfl) := hp.cell 2
  have c3 : wr.cell? ⟨p, 3, none⟩ = some (.int .u8 h.os) := hp.cell 3
  have c4 : wr.cell? ⟨p, 4, none⟩ = some (ev) := hp.cell 4
  have c5 : wr.cell? ⟨p, 5, none⟩ = some (.string h.name) := hp.cell 5
  have c6 : wr.cell? ⟨p, 6, none⟩ = some (.string h.comment) := hp.cell 6
  have c7 : wr.cell? ⟨p, 7, none⟩ = some (.int .u8 h.has) := hp.cell 7
  have c8 : wr.cell? ⟨p, 8, none⟩ = some (.bool h.sum) := hp.cell 8
  have cq : wr.cell? ⟨q, 0, none⟩ = some (.int .i64 n) := by simp [World.cell?, hq]
  have cr : wr.cell? ⟨r, 0, none⟩ = some (.bool b) := by simp [World.cell?, hr]
  have cs : wr.cell? ⟨s, 0, none⟩ = some (.int .i64 x) := by simp [World.cell?, hs]
  simp [Leaves, settle, results, Try.results13, go_sem, t2, t3, t4, t5, c0, c1, c2, c3, c4, c5, c6, c7, c8, cq, cr, cs, d1, d2, d3, d4, d5, d6, d1.symm, d2.symm, d3.symm, d4.symm, d5.symm, d6.symm]
  refine hR _ ?_
  repeat (refine Touch.setCell ?_ (Or.inl (by simp)) _)
  exact Touch.refl _ _
end Go.Proofs.Ytbbcphloafmldaa
