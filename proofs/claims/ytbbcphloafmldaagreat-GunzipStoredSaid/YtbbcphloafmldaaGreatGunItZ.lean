/- gunzip.members: the iterator over the members: its contract. -/
import Derived.RangeFuncNested
import Derived.RangeFuncBound
import Derived.RangeFuncCalls
import Derived.RangeFuncLeaves
import Derived.RangeFuncBox
import Derived.Shelf.Abstract
import Derived.Shelf.RegionOpen
import Derived.WalkKit
import Derived.OwnWalkIn
import Derived.TacticsInMore
import Derived.LoopNIn
import Derived.LoopIn
import Derived.Sort.QuietIn
import Derived.Sort.LoopGhostIn
import Derived.Test.YtbbcphloafmldaaGreatBnd26
import Derived.Test.YtbbcphloafmldaaGreatGunMemZ
namespace Go.Proofs.YtbbcphloafmldaaGreat
open Go.RowKit Go.Shelf
set_option linter.unusedVariables false
attribute [local go_sem] Oper.semAt_some

/-- what a round keeps: all but block A and rows of bytes; and the bytes of block b0. -/
def KpM (b0 A : Nat) (W W' : World) : Prop := (∀ (k : Nat) (cur : Array Value) (T : TypeId) (fz : Nat × Nat), W.heap[k]? = some (.cells cur T fz) → T ≠ 5 → k ≠ A → W'.heap[k]? = some (.cells cur T fz)) ∧ ∀ (o : Nat) (u : Value), W.cell? ⟨b0, o, none⟩ = some u → W'.cell? ⟨b0, o, none⟩ = some u
theorem kpM_t {b0 A : Nat} {X Y Z : World} (h : KpM b0 A X Y) (k : KpM b0 A Y Z) : KpM b0 A X Z := ⟨fun i cur T fz h1 h2 h3 => k.1 i cur T fz (h.1 i cur T fz h1 h2 h3) h2 h3, fun o u hu => k.2 o u (h.2 o u hu)⟩
theorem kpM_b {b0 A : Nat} {w : World} (W : World) (l : Nat) (o o' : Obj) (hl : w.heap.size ≤ l) (h : W.heap[l]? = some o) (hc : o.isCells = false) (hw : o.isWalk = false) : KpM b0 A W (W.putObj l o') := by
  refine ⟨fun k cur T fz hk _ _ => ?_, fun i u hu => ?_⟩
  · refine (World.putObj_heap_other (fun e => ?_)).trans hk
    rw [e, h] at hk; cases hk; cases hc
  · by_cases e : b0 = l
    · subst e
      simp only [World.cell?, h] at hu
      cases o <;> simp_all [Obj.isCells]
    · rw [World.cell?_of_block (w := W) (World.putObj_heap_other (fun e2 => e (by simpa using e2)))]; exact hu
/-- a slice of block b0 that reads as bytes. -/
def VG (W : World) (b0 : Nat) (v : Value) (xs : List Nat) : Prop := ViewL W v (u8s xs) ∧ ∀ b o n c, v = .slice (some ⟨b, o, none⟩) n c → 0 < xs.length → b = b0
theorem VG.kp {W W' : World} {b0 : Nat} {v : Value} {xs : List Nat} (h : VG W b0 v xs) (hk : ∀ (o : Nat) (u : Value), W.cell? ⟨b0, o, none⟩ = some u → W'.cell? ⟨b0, o, none⟩ = some u) : VG W' b0 v xs := by
  obtain ⟨⟨ao, cap, rfl, h1, h2, h3⟩, h4⟩ := h
  refine ⟨⟨ao, cap, rfl, h1, h2, fun h0 => ?_⟩, h4⟩
  obtain ⟨b, o, rfl, hc⟩ := h3 h0
  have e := h4 b o _ _ rfl (by rwa [length_u8s] at h0)
  subst e
  exact ⟨b, o, rfl, fun j u hu => hk _ _ (hc j u hu)⟩
theorem VG.ext {W W' : World} {b0 : Nat} {v : Value} {xs : List Nat} (h : VG W b0 v xs) (hx : Ext W W') : VG W' b0 v xs := ⟨h.1.ext hx, h.2⟩
theorem memF_len {g : List Nat} {keep : Nat} {full : List Nat} {u : Nat} {wr : Bool} (h : memF g keep = some (full, u, wr)) : full.length ≤ 258 * (8 * g.length) := by
  unfold memF at h
  split at h
  · cases h
  · rename_i hd n w2 hgh
    split at h
    · cases h
    · rename_i q f2 hinf
      have hif := inflF_fit (bits := ofBits false (g.drop n)) (by rw [length_ofBits]; exact ⟨_, rfl⟩) _ 0 [] (Nat.le_refl _) hinf (Nat.zero_le _)
      rw [length_ofBits, List.length_drop] at hif
      split at h
      · cases h
      · cases h
        simp at hif; omega
def encG (x : GX) : Array Value := #[.agg #[x.ov, .int .i64 (x.full.length : Nat), .int .i64 (x.u : Nat), .bool x.wr], .int .i64 (x.e : Nat)]
def NxG (n0 : Nat) (g : List Nat) (keep : Nat) (pre : List GX) (x : GX) (W : World) : Prop :=
  IsGX x (gkF g keep pre).1 (gkF g keep pre).2 ∧ (pre ≠ [] → (gkF g keep pre).1 ≠ []) ∧ ∃ oo, Owns W 5 1 x.ov oo (x.full.take (gkF g keep pre).2).length (u8s (x.full.take (gkF g keep pre).2)) ∧ ∀ k, oo = some k → n0 ≤ k
def EndG (g : List Nat) (keep : Nat) (ys : List GX) : Prop := ∃ pre x, ys = pre ++ [x] ∧ (x.e ≠ 0 ∨ (gkF g keep ys).1 = [])
def GiI (b0 Bg Bk : Nat) (g : List Nat) (keep : Nat) (J : List GX → World → Prop) (k : Nat) (wr : World) : Prop :=
  ∃ (pre : List GX) (gv : Value), k = (gkF g keep pre).1.length ∧ pre.length + (gkF g keep pre).1.length ≤ g.length ∧ (pre ≠ [] → (gkF g keep pre).1 ≠ []) ∧ (gkF g keep pre).2 ≤ keep ∧ (∀ b ∈ (gkF g keep pre).1, b < 256) ∧ Boxed wr Bg 22 gv ∧ Boxed wr Bk 3 (.int .i64 ((gkF g keep pre).2 : Nat)) ∧ VG wr b0 gv (gkF g keep pre).1 ∧ J pre wr
section
variable (W3 : World) (Bg Bk F : Nat) (gv1 gv2 ov : Value) (u N K1 K2 : Nat) (DD : Int) (wg : Bool)
structure GMm (L : Nat → Bool) (w : World) : Prop where
  g : w.heap[Bg]? = some (.cells #[if L 9 then gv2 else gv1] 22 (0, 0))
  k : w.heap[Bk]? = some (.cells #[if L 10 then .int .i64 K2 else .int .i64 K1] 3 (0, 0))
  f : FB w F ov N u wg
  t : Touch (fun i => i = Bg ∨ i = Bk) W3 w
def gF : List (Nat × Nat × Value) := [(0, 28, gv1), (1, 29, .pointer (some ⟨F, 2, none⟩)), (2, 30, .int .i64 u), (3, 31, gv2), (4, 32, .int .i64 K1), (5, 33, .pointer (some ⟨F, 1, none⟩)), (6, 34, .int .i64 N), (7, 35, .int .i64 DD), (8, 36, .int .i64 K2)]
def GMM (L : Nat → Bool) (V : Nat → Value) (w : World) : Prop := GMm W3 Bg Bk F gv1 gv2 ov u N K1 K2 wg L w ∧ (V 1 = .pointer (some ⟨Bg, 0, none⟩) ∧ V 2 = .pointer (some ⟨Bk, 0, none⟩) ∧ V 4 = .pointer (some ⟨F, 0, none⟩)) ∧ SV (gF F gv1 gv2 u N K1 K2 DD) L V
end
set_option maxRecDepth 100000 in
set_option maxHeartbeats 4000000 in
theorem members_in (m : Nat) (hm : 1 ≤ m) (l n0 b0 A Bg Bk : Nat) (g : List Nat) (keep : Nat) (hgl : g.length ≤ 2 ^ 17) (hgb : ∀ b ∈ g, b < 256) (hkp : keep ≤ 2 ^ 62) (hd : Bg ≠ Bk ∧ b0 ≠ Bg ∧ b0 ≠ Bk ∧ A ≠ Bg ∧ A ≠ Bk) (J Jx : List GX → World → Prop)
    (hJ : ∀ s W W' row, J s W → W.grownBy W' row → (∀ r, row = some r → r = Bg ∨ r = Bk) → J s W')
    (hY : ∀ pre (x : GX) W, J pre W → pre.length < g.length + 1 → NxG n0 g keep pre x W → YieldAt Fence.wide (m - 1) Tryz.prog l (encG x) W fun e W' =>
      (e = .returned (.bool true) ∧ J (pre ++ [x]) W' ∧ KpM b0 A W W') ∨ (e = .returned (.bool false) ∧ Jx (pre ++ [x]) W'))
    (W : World) (hn0 : n0 ≤ W.heap.size ∧ A < W.heap.size) (gv : Value) (hbg : Boxed W Bg 22 gv) (hbk : Boxed W Bk 3 (.int .i64 keep)) (hv : VG W b0 gv g) (h0 : J [] W) :
    CallsIn Fence.wide m Tryz.prog 22 #[.func (.yield l) #[] #[], .pointer (some ⟨Bg, 0, none⟩), .pointer (some ⟨Bk, 0, none⟩)] W fun e W' => (∃ v, e = .returned v) ∧
      ((∃ ys, EndG g keep ys ∧ J ys W') ∨ (∃ pre, True ∧ Jx pre W')) := by
  have HJ := Lib.hid hJ
  have HY := Lib.hid hY
  have HN := Lib.hid (show g.length ≤ 2 ^ 17 ∧ keep ≤ 2 ^ 62 ∧ n0 ≤ W.heap.size ∧ A < W.heap.size from ⟨hgl, hkp, hn0.1, hn0.2⟩)
  have HD := Lib.hid hd
  have HS := Lib.hid (show GiI b0 Bg Bk g keep J g.length W from ⟨[], gv, rfl, by simp [gkF], (fun h => absurd rfl h), Nat.le_refl _, hgb, hbg, hbk, hv, h0⟩)
  clear hJ hY hgl hkp hn0 hd hgb hbg hbk hv h0
  refine callsIn_of_wp Tryz.func22 rfl trivial ?_ rfl
  simp only [Tryz.ntmps22, List.size_toArray, List.length_cons, List.length_nil, Nat.reduceAdd, Nat.reduceSub, Array.replicate_succ, Array.replicate_zero, List.push_toArray, List.append_toArray, List.nil_append, List.cons_append]
  gi_wp2
  gi_loopg [] g.length (fun k wr => GiI b0 Bg Bk g keep J k wr ∧ W.heap.size ≤ wr.heap.size)
  case atStart => exact ⟨HS.out, Nat.le_refl _⟩
  case round =>
    obtain ⟨⟨pre, gv, hgk, hpl, hne, hkk, h256, hbg, hbk, hvg, hj⟩, hws⟩ := hrel
    obtain ⟨G1, hG1⟩ : ∃ G1, G1 = (gkF g keep pre).1 := ⟨_, rfl⟩
    obtain ⟨K1, hK1⟩ : ∃ K1, K1 = (gkF g keep pre).2 := ⟨_, rfl⟩
    rw [← hG1] at hgk hpl hne h256 hvg
    rw [← hK1] at hkk hbk
    have HI := Lib.hid (show gk = G1.length ∧ pre.length + G1.length ≤ g.length ∧ (pre ≠ [] → G1 ≠ []) ∧ K1 ≤ keep ∧ (∀ b ∈ G1, b < 256) ∧ Boxed wr Bg 22 gv ∧ Boxed wr Bk 3 (.int .i64 K1) ∧ VG wr b0 gv G1 ∧ J pre wr ∧ W.heap.size ≤ wr.heap.size ∧ G1 = (gkF g keep pre).1 ∧ K1 = (gkF g keep pre).2 from ⟨hgk, hpl, hne, hkk, h256, hbg, hbk, hvg, hj, hws, hG1, hK1⟩)
    have cg := hbg.cell
    have ck := hbk.cell
    have HMB := Lib.hid (gun_member gv G1 K1 wr hvg.1 (by have := HN.out; omega) h256 (by have := HN.out; omega))
    clear hgk hpl hne hkk h256 hbg hbk hvg hj hws hG1 hK1
    gi_wp2_with fail
    refine ⟨trivial, (callsIn_wide.2 HMB.out).mono ?_⟩
    rintro e w1 (⟨full, u, wg, ov, oo, hmf, rfl, how, hnew, hx⟩ | ⟨hmf, rfl, hx⟩)
    · obtain ⟨oa, oc, rfl⟩ := how.shape
      obtain ⟨N, hN⟩ : ∃ N, N = full.length := ⟨_, rfl⟩
      obtain ⟨M, hM⟩ : ∃ M, M = (full.take K1).length := ⟨_, rfl⟩
      rw [← hM] at how ⊢
      rw [← hN]
      have hmfit := memF_fit hmf
      obtain ⟨F, hF⟩ : ∃ F, F = w1.heap.size := ⟨_, rfl⟩
      obtain ⟨w2, hw2⟩ : ∃ w2, w2 = w1.alloc (.cells #[.slice oa M oc, .int .i64 N, .int .i64 u, .bool wg] 24) := ⟨_, rfl⟩
      have hx2 : Ext w1 w2 := by rw [hw2]; exact (Ext.refl _).alloc _
      have hfF : FB w2 F (.slice oa M oc) N u wg := by rw [hw2, hF]; exact FB.new _ _ _ _ _
      have hxx := hx.trans hx2
      obtain ⟨fn, tmps, assign, body, hy, hRd⟩ := HY.out pre ⟨.slice oa M oc, full, u, wg, 0⟩ w2 (HJ.out _ _ _ none HI.out.2.2.2.2.2.2.2.2.1 (Touch.grownBy0 hxx) (fun _ e => by cases e)) (by have := HI.out; omega)
        ⟨Or.inl ⟨rfl, by rw [← HI.out.2.2.2.2.2.2.2.2.2.2.1, ← HI.out.2.2.2.2.2.2.2.2.2.2.2]; exact hmf⟩, by rw [← HI.out.2.2.2.2.2.2.2.2.2.2.1]; exact HI.out.2.2.1, oo, by rw [← HI.out.2.2.2.2.2.2.2.2.2.2.2, ← hM]; exact how.ext' hx2, fun k e => by have := hnew k e; have := HI.out; have := HN.out; omega⟩
      simp only [encG] at hy
      rw [← hN, show ((0 : Nat) : Int) = 0 from rfl] at hy
      have hbg2 : Boxed w2 Bg 22 gv := boxed_ext HI.out.2.2.2.2.2.1 hxx
      have hbk2 : Boxed w2 Bk 3 (.int .i64 K1) := boxed_ext HI.out.2.2.2.2.2.2.1 hxx
      have H2 := Lib.hid (show memF G1 K1 = some (full, u, wg) ∧ FB w2 F (.slice oa M oc) N u wg ∧ Boxed w2 Bg 22 gv ∧ Boxed w2 Bk 3 (.int .i64 K1) ∧ VG w2 b0 gv G1 ∧ N = full.length ∧ wr.heap.size ≤ F ∧ 0 < u ∧ u ≤ G1.length ∧ wr.heap.size ≤ w2.heap.size from ⟨hmf, hfF, hbg2, hbk2, HI.out.2.2.2.2.2.2.2.1.ext hxx, hN, by rw [hF]; exact hx.size, hmfit.1, hmfit.2, hxx.size⟩)
      rw [hw2] at hy
      have HHR := Lib.hid hRd
      have HW2 := Lib.hid (show w1.alloc (.cells #[.slice oa M oc, .int .i64 N, .int .i64 u, .bool wg] 24) = w2 ∧ F = w1.heap.size from ⟨hw2.symm, hF⟩)
      clear hmf how hnew hx hN hM hmfit hx2 hfF hxx hRd hbg2 hbk2 hw2 hF cg ck
      gi_wp2_with fail
      rw [HW2.out.1, ← HW2.out.2]
      clear hy
      refine HHR.out.mono ?_
      rintro e w3 (⟨rfl, hJ3, hk3⟩ | ⟨rfl, hJx3⟩)
      · have h2 := H2.out
        have hFA : F ≠ A := by have := HI.out.2.2.2.2.2.2.2.2.2.1; have := HN.out; omega
        have hfF3 : FB w3 F (.slice oa M oc) N u wg := hk3.1 _ _ _ _ h2.2.1 (by decide) hFA
        have hbg3 : Boxed w3 Bg 22 gv := hk3.1 _ _ _ _ h2.2.2.1 (by decide) (fun e => HD.out.2.2.2.1 e.symm)
        have hbk3 : Boxed w3 Bk 3 (.int .i64 K1) := hk3.1 _ _ _ _ h2.2.2.2.1 (by decide) (fun e => HD.out.2.2.2.2 e.symm)
        have hvg3 : VG w3 b0 gv G1 := h2.2.2.2.2.1.kp hk3.2
        have hws3 : W.heap.size ≤ w3.heap.size := by have h3 := block_lt hfF3; have := HI.out.2.2.2.2.2.2.2.2.2.1; omega
        obtain ⟨ga, gc, rfl⟩ := hvg3.1.shape
        rw [length_u8s] at hbg3 hvg3
        obtain ⟨GL, hGL⟩ : ∃ GL, GL = G1.length := ⟨_, rfl⟩
        rw [← hGL] at hbg3 hvg3
        have H3 := Lib.hid (show FB w3 F (.slice oa M oc) N u wg ∧ Boxed w3 Bg 22 (.slice ga GL gc) ∧ Boxed w3 Bk 3 (.int .i64 K1) ∧ VG w3 b0 (.slice ga GL gc) G1 ∧ J (pre ++ [⟨.slice oa M oc, full, u, wg, 0⟩]) w3 ∧ GL = G1.length ∧ W.heap.size ≤ w3.heap.size from ⟨hfF3, hbg3, hbk3, hvg3, hJ3, hGL, hws3⟩)
        obtain ⟨⟨a0, a1, a2, a3⟩, _⟩ := hfF3.cells
        have cg := hbg3.cell
        have ck := hbk3.cell
        have fg := hbg3.frozen
        have fk := hbk3.frozen
        have HGK := Lib.hid (show gkF g keep (pre ++ [⟨.slice oa M oc, full, u, wg, 0⟩]) = (G1.drop u, K1 - N) from by rw [gk_snoc, ← HI.out.2.2.2.2.2.2.2.2.2.2.1, ← HI.out.2.2.2.2.2.2.2.2.2.2.2, h2.2.2.2.2.2.1])
        by_cases hu : u = GL
        · have huz : ((u : Int) == (GL : Int)) = true := by rw [beq_iff_eq]; omega
          have HE := Lib.hid (show EndG g keep (pre ++ [⟨.slice oa M oc, full, u, wg, 0⟩]) from ⟨pre, _, rfl, Or.inr (by rw [HGK.out]; exact List.drop_of_length_le (by omega))⟩)
          clear hJ3 hk3 h2 hFA hfF3 hbg3 hbk3 hvg3 hws3 hGL hu
          gi_wp2_with fail
          refine bodyPost_ret (results_none rfl _ _ _) rfl ?_
          exact ⟨⟨_, rfl⟩, .inl ⟨_, HE.out, H3.out.2.2.2.2.1⟩⟩
        · have huz : ((u : Int) == (GL : Int)) = false := by rw [beq_eq_false_iff_ne]; omega
          have huG : u < GL := by have := H2.out; omega
          have HU := Lib.hid huG
          have hu1 : (u : Int) ≤ (GL : Int) := by omega
          have hgl2 : GL ≤ gc := viewL_cap H3.out.2.2.2.1.1
          have hu2 : (GL : Int) ≤ (gc : Int) := by omega
          have hu3 : ¬ gc = u := by omega
          clear hJ3 hk3 h2 hFA hfF3 hbg3 hbk3 hvg3 hws3 hGL hu huG hgl2
          gi_wp2_with fail
          obtain ⟨K2, hK2⟩ : ∃ K2, K2 = K1 - N := ⟨_, rfl⟩
          have hNb : N ≤ 2 ^ 40 := by have h1 := memF_len H2.out.1; have h2 := H2.out.2.2.2.2.2.1; have h3 := HI.out.2.1; have h4 := HN.out.1; omega
          have hKb : K1 ≤ 2 ^ 62 := by have := HI.out; have := HN.out; omega
          obtain ⟨DD, hDD⟩ : ∃ DD : Int, DD = (K1 : Int) - (N : Int) := ⟨_, rfl⟩
          have HDD := Lib.hid (show IntKind.i64.wrap ((K1 : Int) - (N : Int)) = DD ∧ ((¬ (0 : Int) ≤ DD ∧ (K2 : Int) = 0) ∨ ((0 : Int) ≤ DD ∧ (K2 : Int) = DD)) from ⟨by rw [hDD]; exact IntWalk.i64_in _ (by omega), by omega⟩)
          have hBk : Bg ≠ Bk := HD.out.1
          have hBk2 : Bk ≠ Bg := fun e => HD.out.1 e.symm
          have HFN := Lib.hid (show F ≠ Bg ∧ F ≠ Bk from by
            have h1 := HI.out.2.2.2.2.2.1.lt
            have h2 := HI.out.2.2.2.2.2.2.1.lt
            have h3 := H2.out.2.2.2.2.2.2.1
            exact ⟨by omega, by omega⟩)
          have HK2 := Lib.hid hK2
          obtain ⟨gv1, hgv1⟩ : ∃ gv1, gv1 = Value.slice ga GL gc := ⟨_, rfl⟩
          obtain ⟨gv2, hgv2⟩ : ∃ gv2, gv2 = Value.slice (ga.map fun x => x.add u) (GL - u) (gc - u) := ⟨_, rfl⟩
          obtain ⟨b9, o9, hga, _⟩ := rep_cells H3.out.2.2.2.1.1 (by rw [length_u8s]; have := HU.out; have := H3.out.2.2.2.2.2.1; omega)
          have hgv3 : gv2 = Value.slice (some ⟨b9, o9 + u, none⟩) (GL - u) (gc - u) := by
            rw [hgv2, hga]
            simp only [Option.map_some]
            rw [show (⟨b9, o9, none⟩ : Addr).add u = ⟨b9, o9 + u, none⟩ by unfold Addr.add; split <;> simp_all]
          subst hga
          have HSL := Lib.hid (show gv1 = Value.slice (some ⟨b9, o9, none⟩) GL gc ∧ gv2 = Value.slice (some ⟨b9, o9 + u, none⟩) (GL - u) (gc - u) from ⟨hgv1, hgv3⟩)
          have hm0 : GMm w3 Bg Bk F gv1 gv2 (.slice oa M oc) u N K1 K2 wg (fun _ => false) { w3 with drawn := w3.drawn + 1 } := by
            have h3 := H3.out
            refine ⟨?_, ?_, h3.1, (Touch.refl _ w3).drew⟩
            · rw [hgv1]; exact h3.2.1
            · exact h3.2.2.1
          clear hK2 hNb hKb hDD hgv1 hgv2 hgv3 cg ck fg fk a0 a1 a2 a3
          refine wpIn_wide.2 ?_
          refine wp_region_any (by kernel_rfl) (any_region_inv 37 (GMM w3 Bg Bk F gv1 gv2 (.slice oa M oc) u N K1 K2 DD wg) (by kernel_rfl) rfl ?h0 ⟨?_, ?_, ?_, ?_, ?_, ?_, ?_, ?_, ?_, ?_, ?_, trivial⟩ ?fin)
          case h0 => exact ⟨hm0, ⟨rfl, rfl, rfl⟩, (fun p _ h => by cases h)⟩
          · refine StepI.of 0 rfl (fun L V wx ev hE hV hi ha hcl hM => ?_)
            obtain ⟨hc, hf, hg⟩ := hE
            obtain ⟨hm, hb, hs⟩ := hM
            have n3 : L 3 = false := by
              cases h : L 3 with
              | false => rfl
              | true => exact absurd (hcl 3 0 (by kernel_rfl) h) (by rw [hi]; decide)
            have n9 : L 9 = false := by
              cases h : L 9 with
              | false => rfl
              | true => exact absurd (hcl 9 3 (by kernel_rfl) h) (by rw [n3]; decide)
            have h0 : ev (.tmp 1) = .pointer (some ⟨Bg, 0, none⟩) := (hV 1).trans hb.1
            have hc1 := hm.g
            rw [n9] at hc1
            simp only [Bool.false_eq_true, if_false] at hc1
            have hc2 : wx.cell? ⟨Bg, 0, none⟩ = some gv1 := by simp [World.cell?, hc1]
            clear hc1
            clear hV
            exact ⟨rfl, runsTo_val (gv1) (by go_simp) ⟨⟨hm.g, hm.k, hm.f, hm.t⟩, hb, hs.put (by intro p hp; simp only [gF, List.mem_cons, List.not_mem_nil, or_false] at hp; rcases hp with rfl | rfl | rfl | rfl | rfl | rfl | rfl | rfl | rfl <;> simp)⟩⟩
          · refine StepI.of 1 rfl (fun L V wx ev hE hV hi ha hcl hM => ?_)
            obtain ⟨hc, hf, hg⟩ := hE
            obtain ⟨hm, hb, hs⟩ := hM
            have h0 : ev (.tmp 4) = .pointer (some ⟨F, 0, none⟩) := (hV 4).trans hb.2.2
            clear hV
            exact ⟨rfl, runsTo_val (.pointer (some ⟨F, 2, none⟩)) (by go_simp) ⟨⟨hm.g, hm.k, hm.f, hm.t⟩, hb, hs.put (by intro p hp; simp only [gF, List.mem_cons, List.not_mem_nil, or_false] at hp; rcases hp with rfl | rfl | rfl | rfl | rfl | rfl | rfl | rfl | rfl <;> simp)⟩⟩
          · refine StepI.of 2 rfl (fun L V wx ev hE hV hi ha hcl hM => ?_)
            obtain ⟨hc, hf, hg⟩ := hE
            obtain ⟨hm, hb, hs⟩ := hM
            have p1 : L 1 = true := ha 1 (by kernel_rfl)
            have h0 : ev (.tmp 29) = .pointer (some ⟨F, 2, none⟩) := (hV 29).trans (hs (1, 29, _) (by simp [gF]) p1)
            have hc2 := hm.f.cells.1.2.2.1
            clear hV
            exact ⟨rfl, runsTo_val (.int .i64 u) (by go_simp) ⟨⟨hm.g, hm.k, hm.f, hm.t⟩, hb, hs.put (by intro p hp; simp only [gF, List.mem_cons, List.not_mem_nil, or_false] at hp; rcases hp with rfl | rfl | rfl | rfl | rfl | rfl | rfl | rfl | rfl <;> simp)⟩⟩
          · refine StepI.of 3 rfl (fun L V wx ev hE hV hi ha hcl hM => ?_)
            obtain ⟨hc, hf, hg⟩ := hE
            obtain ⟨hm, hb, hs⟩ := hM
            have p0 : L 0 = true := ha 0 (by kernel_rfl)
            have p2 : L 2 = true := ha 2 (by kernel_rfl)
            have h0 : ev (.tmp 28) = gv1 := (hV 28).trans (hs (0, 28, _) (by simp [gF]) p0)
            have h1 : ev (.tmp 30) = .int .i64 u := (hV 30).trans (hs (2, 30, _) (by simp [gF]) p2)
            clear hV
            exact ⟨rfl, runsTo_val gv2 (by rw [HSL.out.1] at h0; rw [HSL.out.2]; have q1 := hu1; have q2 := hu2; have q3 := hu3; go_simp) ⟨⟨hm.g, hm.k, hm.f, hm.t⟩, hb, hs.put (by intro p hp; simp only [gF, List.mem_cons, List.not_mem_nil, or_false] at hp; rcases hp with rfl | rfl | rfl | rfl | rfl | rfl | rfl | rfl | rfl <;> simp)⟩⟩
          · refine StepI.of 4 rfl (fun L V wx ev hE hV hi ha hcl hM => ?_)
            obtain ⟨hc, hf, hg⟩ := hE
            obtain ⟨hm, hb, hs⟩ := hM
            have n10 : L 10 = false := by
              cases h : L 10 with
              | false => rfl
              | true => exact absurd (hcl 10 4 (by kernel_rfl) h) (by rw [hi]; decide)
            have h0 : ev (.tmp 2) = .pointer (some ⟨Bk, 0, none⟩) := (hV 2).trans hb.2.1
            have hc1 := hm.k
            rw [n10] at hc1
            simp only [Bool.false_eq_true, if_false] at hc1
            have hc2 : wx.cell? ⟨Bk, 0, none⟩ = some (.int .i64 K1) := by simp [World.cell?, hc1]
            clear hc1
            clear hV
            exact ⟨rfl, runsTo_val (.int .i64 K1) (by go_simp) ⟨⟨hm.g, hm.k, hm.f, hm.t⟩, hb, hs.put (by intro p hp; simp only [gF, List.mem_cons, List.not_mem_nil, or_false] at hp; rcases hp with rfl | rfl | rfl | rfl | rfl | rfl | rfl | rfl | rfl <;> simp)⟩⟩
          · refine StepI.of 5 rfl (fun L V wx ev hE hV hi ha hcl hM => ?_)
            obtain ⟨hc, hf, hg⟩ := hE
            obtain ⟨hm, hb, hs⟩ := hM
            have h0 : ev (.tmp 4) = .pointer (some ⟨F, 0, none⟩) := (hV 4).trans hb.2.2
            clear hV
            exact ⟨rfl, runsTo_val (.pointer (some ⟨F, 1, none⟩)) (by go_simp) ⟨⟨hm.g, hm.k, hm.f, hm.t⟩, hb, hs.put (by intro p hp; simp only [gF, List.mem_cons, List.not_mem_nil, or_false] at hp; rcases hp with rfl | rfl | rfl | rfl | rfl | rfl | rfl | rfl | rfl <;> simp)⟩⟩
          · refine StepI.of 6 rfl (fun L V wx ev hE hV hi ha hcl hM => ?_)
            obtain ⟨hc, hf, hg⟩ := hE
            obtain ⟨hm, hb, hs⟩ := hM
            have p5 : L 5 = true := ha 5 (by kernel_rfl)
            have h0 : ev (.tmp 33) = .pointer (some ⟨F, 1, none⟩) := (hV 33).trans (hs (5, 33, _) (by simp [gF]) p5)
            have hc2 := hm.f.cells.1.2.1
            clear hV
            exact ⟨rfl, runsTo_val (.int .i64 N) (by go_simp) ⟨⟨hm.g, hm.k, hm.f, hm.t⟩, hb, hs.put (by intro p hp; simp only [gF, List.mem_cons, List.not_mem_nil, or_false] at hp; rcases hp with rfl | rfl | rfl | rfl | rfl | rfl | rfl | rfl | rfl <;> simp)⟩⟩
          · refine StepI.of 7 rfl (fun L V wx ev hE hV hi ha hcl hM => ?_)
            obtain ⟨hc, hf, hg⟩ := hE
            obtain ⟨hm, hb, hs⟩ := hM
            have p4 : L 4 = true := ha 4 (by kernel_rfl)
            have p6 : L 6 = true := ha 6 (by kernel_rfl)
            have h0 : ev (.tmp 32) = .int .i64 K1 := (hV 32).trans (hs (4, 32, _) (by simp [gF]) p4)
            have h1 : ev (.tmp 34) = .int .i64 N := (hV 34).trans (hs (6, 34, _) (by simp [gF]) p6)
            have hw := HDD.out.1
            clear hV
            exact ⟨rfl, runsTo_val (.int .i64 DD) (by go_simp) ⟨⟨hm.g, hm.k, hm.f, hm.t⟩, hb, hs.put (by intro p hp; simp only [gF, List.mem_cons, List.not_mem_nil, or_false] at hp; rcases hp with rfl | rfl | rfl | rfl | rfl | rfl | rfl | rfl | rfl <;> simp)⟩⟩
          · refine StepI.of 8 rfl (fun L V wx ev hE hV hi ha hcl hM => ?_)
            obtain ⟨hc, hf, hg⟩ := hE
            obtain ⟨hm, hb, hs⟩ := hM
            have p7 : L 7 = true := ha 7 (by kernel_rfl)
            have h0 : ev (.tmp 35) = .int .i64 DD := (hV 35).trans (hs (7, 35, _) (by simp [gF]) p7)
            clear hV
            refine ⟨rfl, runsTo_val (.int .i64 K2) ?_ ⟨⟨hm.g, hm.k, hm.f, hm.t⟩, hb, hs.put (by intro p hp; simp only [gF, List.mem_cons, List.not_mem_nil, or_false] at hp; rcases hp with rfl | rfl | rfl | rfl | rfl | rfl | rfl | rfl | rfl <;> simp)⟩⟩
            have hw := HDD.out.2
            rcases hw with ⟨h5, h6⟩ | ⟨h5, h6⟩
            · rw [h6]; go_simp; intro h; omega
            · rw [h6]; go_simp; intro h; omega
          · refine StepI.of 9 rfl (fun L V wx ev hE hV hi ha hcl hM => ?_)
            obtain ⟨hc, hf, hg⟩ := hE
            obtain ⟨hm, hb, hs⟩ := hM
            have p3 : L 3 = true := ha 3 (by kernel_rfl)
            have h0 : ev (.tmp 1) = .pointer (some ⟨Bg, 0, none⟩) := (hV 1).trans hb.1
            have h1 : ev (.tmp 31) = gv2 := (hV 31).trans (hs (3, 31, _) (by simp [gF]) p3)
            have hx := hm.g
            rw [hi] at hx
            simp only [Bool.false_eq_true, if_false] at hx
            have hc2 : ∃ v0, wx.cell? ⟨Bg, 0, none⟩ = some v0 := ⟨_, by simp [World.cell?, hx]; rfl⟩
            obtain ⟨v0, hc2⟩ := hc2
            have hz : wx.frozen? ⟨Bg, 0, none⟩ = false := by simp [World.frozen?, hx]
            have hst := heap_setCell_at (a := ⟨Bg, 0, none⟩) (u := gv2) hx rfl
            have ht : Touch (fun k => k = Bg) wx (wx.setCell ⟨Bg, 0, none⟩ (gv2)) := (Touch.refl (fun k => k = Bg) wx).setCell (Or.inl rfl) _
            clear hV
            have hgk : ∀ (e : onL L 9 10 = L 10), True := fun _ => trivial
            refine ⟨rfl, runsTo_skip (w' := wx.setCell ⟨Bg, 0, none⟩ (gv2)) (by rw [HSL.out.2] at h1 ⊢; go_simp) ⟨⟨hst, ht.keep hm.k hBk2, hm.f.keep ht HFN.out.1, hm.t.setCell (Or.inl (Or.inl rfl)) _⟩, hb, hs.on (by intro p hp; simp only [gF, List.mem_cons, List.not_mem_nil, or_false] at hp; rcases hp with rfl | rfl | rfl | rfl | rfl | rfl | rfl | rfl | rfl <;> simp)⟩⟩
          · refine StepI.of 10 rfl (fun L V wx ev hE hV hi ha hcl hM => ?_)
            obtain ⟨hc, hf, hg⟩ := hE
            obtain ⟨hm, hb, hs⟩ := hM
            have p8 : L 8 = true := ha 8 (by kernel_rfl)
            have p9 : L 9 = true := ha 9 (by kernel_rfl)
            have h0 : ev (.tmp 2) = .pointer (some ⟨Bk, 0, none⟩) := (hV 2).trans hb.2.1
            have h1 : ev (.tmp 36) = .int .i64 K2 := (hV 36).trans (hs (8, 36, _) (by simp [gF]) p8)
            have hx := hm.k
            rw [hi] at hx
            simp only [Bool.false_eq_true, if_false] at hx
            have hc2 : ∃ v0, wx.cell? ⟨Bk, 0, none⟩ = some v0 := ⟨_, by simp [World.cell?, hx]; rfl⟩
            obtain ⟨v0, hc2⟩ := hc2
            have hz : wx.frozen? ⟨Bk, 0, none⟩ = false := by simp [World.frozen?, hx]
            have hst := heap_setCell_at (a := ⟨Bk, 0, none⟩) (u := .int .i64 K2) hx rfl
            have ht : Touch (fun k => k = Bk) wx (wx.setCell ⟨Bk, 0, none⟩ (.int .i64 K2)) := (Touch.refl (fun k => k = Bk) wx).setCell (Or.inl rfl) _
            clear hV
            refine ⟨rfl, runsTo_skip (w' := wx.setCell ⟨Bk, 0, none⟩ (.int .i64 K2)) (by go_simp) ⟨⟨ht.keep hm.g hBk, hst, hm.f.keep ht HFN.out.2, hm.t.setCell (Or.inl (Or.inr rfl)) _⟩, hb, hs.on (by intro p hp; simp only [gF, List.mem_cons, List.not_mem_nil, or_false] at hp; rcases hp with rfl | rfl | rfl | rfl | rfl | rfl | rfl | rfl | rfl <;> simp)⟩⟩
          case fin =>
            rintro V w5 L hL ⟨hm, _, _⟩
            have p9 : L 9 = true := hL 9 (by decide)
            have p10 : L 10 = true := hL 10 (by decide)
            have hg := hm.g
            have hk := hm.k
            rw [p9] at hg
            rw [p10] at hk
            simp only [if_true] at hg hk
            have hvg : VG w3 b0 gv2 (G1.drop u) := by
              rw [HSL.out.2]
              have h := H3.out.2.2.2.1
              have hl := H3.out.2.2.2.2.2.1
              refine ⟨viewL_slice h.1 hl u (GL - u) (gc - u) (by have := HU.out; omega) (by have := viewL_cap h.1; omega) _ (by rw [List.take_of_length_le]; rw [List.length_drop]; omega), fun b o n c e hz => ?_⟩
              cases e
              exact h.2 _ _ _ _ rfl (by have := HU.out; omega)
            have hx3 : Touch (fun k => k = Bg ∨ k = Bk) w3 w5 := hm.t
            have hb0 : ∀ (o : Nat) (x : Value), w3.cell? ⟨b0, o, none⟩ = some x → w5.cell? ⟨b0, o, none⟩ = some x := fun o x h => cell_touch hx3 h (fun hh => by have := HD.out; rcases hh with hh | hh <;> simp at hh <;> omega)
            have hNEXT := Lib.hid (show GiI b0 Bg Bk g keep J (GL - u) w5 ∧ W.heap.size ≤ w5.heap.size from by
              have hgk := HGK.out
              have hi := HI.out
              have h3 := H3.out
              have h2 := H2.out
              have hu := HU.out
              refine ⟨⟨pre ++ [⟨.slice oa M oc, full, u, wg, 0⟩], gv2, ?_, ?_, fun _ => ?_, ?_, ?_, hg, ?_, ?_, ?_⟩, Nat.le_trans h3.2.2.2.2.2.2 hx3.size⟩
              · rw [hgk, List.length_drop]; omega
              · rw [hgk, List.length_append, List.length_singleton, List.length_drop]; omega
              · rw [hgk]; intro h
                have := List.drop_eq_nil_iff.1 h
                omega
              · rw [hgk]; show K1 - N ≤ keep; omega
              · rw [hgk]; exact fun b hb => hi.2.2.2.2.1 b (List.mem_of_mem_drop hb)
              · rw [hgk]; show Boxed w5 Bk _ (.int .i64 ((K1 - N : Nat) : Int)); rw [← HK2.out]; exact hk
              · rw [hgk]; exact hvg.kp hb0
              · refine HJ.out _ _ _ (some Bk) (HJ.out _ w3 (w3.setCell ⟨Bg, 0, none⟩ gv2) (some Bg) h3.2.2.2.2.1 ?_ (fun r e => by cases e; exact Or.inl rfl)) ?_ (fun r e => by cases e; exact Or.inr rfl)
                · exact (Touch.setCell (Touch.refl (fun q => q = Bg) w3) (Or.inl rfl) gv2).grownBy1
                · have t1 : Touch (fun k => k = Bg) w3 (w3.setCell ⟨Bg, 0, none⟩ gv2) := Touch.setCell (Touch.refl (fun q => q = Bg) w3) (Or.inl rfl) gv2
                  refine ⟨hx3.os.trans t1.os.symm, hx3.tape.trans t1.tape.symm, hx3.output.trans t1.output.symm, by simp only [World.setCell, Array.size_modify]; exact hx3.size, fun k hk hne => ?_⟩
                  have hk3 : k < w3.heap.size := by simpa [World.setCell] using hk
                  by_cases e : k = Bg
                  · have hb := boxed_set (u := gv2) h3.2.1
                    rw [e]; exact hg.trans (show (w3.setCell ⟨Bg, 0, none⟩ gv2).heap[Bg]? = _ from hb).symm
                  · exact (hx3.block k hk3 (fun h => by rcases h with h | h; exact e h; exact hne (by rw [h]))).trans (t1.block k hk3 e).symm)
            have HME := Lib.hid (show GL - u < gk from by have := HI.out.1; have := H3.out.2.2.2.2.2.1; have := HU.out; have := H2.out.2.2.2.2.2.2.2.1; omega)
            simp only [dsts, List.filterMap_cons, List.filterMap_nil, List.foldl_cons, List.foldl_nil, Act.put, List.setIfInBounds_toArray, List.set_cons_succ, List.set_cons_zero]
            clear hL hm p9 p10 hg hk hvg hx3 hb0 hm0
            gi_wp2_with fail
            go_roundg (GL - u)
            case measure => exact HME.out
            case rel => exact hNEXT.out
      · have HJX := Lib.hid hJx3
        clear hJx3
        gi_wp2_with fail
        refine bodyPost_ret (results_none rfl _ _ _) rfl ?_
        exact ⟨⟨_, rfl⟩, .inr ⟨_, trivial, HJX.out⟩⟩
    · obtain ⟨F, hF⟩ : ∃ F, F = w1.heap.size := ⟨_, rfl⟩
      obtain ⟨w2, hw2⟩ : ∃ w2, w2 = w1.alloc (.cells #[.slice none 0 0, .int .i64 0, .int .i64 0, .bool false] 24) := ⟨_, rfl⟩
      have hx2 : Ext w1 w2 := by rw [hw2]; exact (Ext.refl _).alloc _
      have hxx := hx.trans hx2
      obtain ⟨fn, tmps, assign, body, hy, hRd⟩ := HY.out pre ⟨.slice none 0 0, [], 0, false, 2⟩ w2 (HJ.out _ _ _ none HI.out.2.2.2.2.2.2.2.2.1 (Touch.grownBy0 hxx) (fun _ e => by cases e)) (by have := HI.out; omega)
        ⟨Or.inr ⟨rfl, by rw [← HI.out.2.2.2.2.2.2.2.2.2.2.1, ← HI.out.2.2.2.2.2.2.2.2.2.2.2]; exact hmf, rfl, rfl, rfl⟩, by rw [← HI.out.2.2.2.2.2.2.2.2.2.2.1]; exact HI.out.2.2.1, none, by simpa [u8s] using Owns.nil w2 5 1, fun k e => by cases e⟩
      simp only [encG] at hy
      rw [show ((([] : List Nat).length : Nat) : Int) = 0 from rfl, show ((0 : Nat) : Int) = 0 from rfl, show ((2 : Nat) : Int) = 2 from rfl] at hy
      have HE := Lib.hid (show EndG g keep (pre ++ [⟨.slice none 0 0, [], 0, false, 2⟩]) from ⟨pre, _, rfl, Or.inl (by decide)⟩)
      rw [hw2] at hy
      have HHR := Lib.hid hRd
      have HW2 := Lib.hid (show w1.alloc (.cells #[.slice none 0 0, .int .i64 0, .int .i64 0, .bool false] 24) = w2 ∧ F = w1.heap.size from ⟨hw2.symm, hF⟩)
      clear hmf hx hx2 hxx hRd hw2 hF cg ck
      gi_wp2_with fail
      rw [HW2.out.1, ← HW2.out.2]
      clear hy
      refine HHR.out.mono ?_
      rintro e w3 (⟨rfl, hJ3, hk3⟩ | ⟨rfl, hJx3⟩)
      · have HJ3 := Lib.hid hJ3
        clear hJ3 hk3
        gi_wp2_with fail
        refine bodyPost_ret (results_none rfl _ _ _) rfl ?_
        exact ⟨⟨_, rfl⟩, .inl ⟨_, HE.out, HJ3.out⟩⟩
      · have HJX := Lib.hid hJx3
        clear hJx3
        gi_wp2_with fail
        refine bodyPost_ret (results_none rfl _ _ _) rfl ?_
        exact ⟨⟨_, rfl⟩, .inr ⟨_, trivial, HJX.out⟩⟩
/-- the iterator, as the law of a range over a function asks. -/
theorem members_seq (m : Nat) (hm : 1 ≤ m) (b0 A Bg Bk : Nat) (g : List Nat) (keep : Nat) (hgl : g.length ≤ 2 ^ 17) (hgb : ∀ b ∈ g, b < 256) (hkp : keep ≤ 2 ^ 62) (hd : Bg ≠ Bk ∧ b0 ≠ Bg ∧ b0 ≠ Bk ∧ A ≠ Bg ∧ A ≠ Bk) (w : World) (n0 : Nat) (hn0 : n0 ≤ w.heap.size ∧ A < w.heap.size) (gv : Value) (hbg : Boxed w Bg 22 gv) (hbk : Boxed w Bk 3 (.int .i64 keep)) (hv : VG w b0 gv g) (hvb : ∀ b o n c, gv = .slice (some ⟨b, o, none⟩) n c → 0 < g.length → b < w.heap.size) :
    SeqW (fun k => k = Bg ∨ k = Bk) Fence.wide m Tryz.prog 22 #[.pointer (some ⟨Bg, 0, none⟩), .pointer (some ⟨Bk, 0, none⟩)] encG (KpM b0 A) (NxG n0 g keep) (EndG g keep) (fun _ => True) (g.length + 1) w := fun l J Jx W hW hJ hJx hY h0 =>
  members_in m hm l n0 b0 A Bg Bk g keep hgl hgb hkp hd J Jx (fun s W W' row hs hg hr => hJ s W _ row hs hg (fun r e => Or.inl (hr r e))) (fun pre x W hp hl hx => hY pre x W hp hl hx) W ⟨Nat.le_trans hn0.1 hW.size, Nat.lt_of_lt_of_le hn0.2 hW.size⟩ gv ((hW.block Bg hbg.lt).trans hbg) ((hW.block Bk hbk.lt).trans hbk)
    (by
      obtain ⟨⟨ao, cap, rfl, h1, h2, h3⟩, h4⟩ := hv
      refine ⟨⟨ao, cap, rfl, h1, h2, fun h0 => ?_⟩, h4⟩
      obtain ⟨b, o, rfl, hc⟩ := h3 h0
      exact ⟨b, o, rfl, fun j u hu => (hW.cell (p := ⟨b, o + j, none⟩) (hvb b o _ _ rfl (by rwa [length_u8s] at h0))).trans (hc j u hu)⟩) h0
set_option maxRecDepth 100000 in
theorem gun_members (ga : Option Addr) (n c : Nat) (keep : Nat) (w : World) : Calls Tryz.prog 13 #[.slice ga n c, .int .i64 keep] w fun e w' => e = .returned (.func (.func 22) #[] #[.pointer (some ⟨w.heap.size, 0, none⟩), .pointer (some ⟨w.heap.size + 1, 0, none⟩)]) ∧ w' = (w.alloc (.cells #[.slice ga n c] 22)).alloc (.cells #[.int .i64 keep] 3) := by
  go_enter Tryz.func13, Tryz.ntmps13
  go_wp2_with fail
  go_ret
  exact ⟨rfl, rfl⟩
end Go.Proofs.YtbbcphloafmldaaGreat
