/- gunzip.Gunzip, as the laws use it. pressworkref10.Same at flows that are the same. Gunzip, plain: the chapter's examples. No program is named here. gunzip's laws: a known file, and what is told of it. What Gunzip answers, in one form. -/
import Derived.Test.YtbbcphloafmldaaGreatGunzipZ
import Derived.Test.YtbbcphloafmldaaGreatBnd23
import Derived.ArgAppend
import Derived.Lib.SlBytesConst
import Derived.Test.YtbbcphloafmldaaGreatBnd3
/-! gunzip.Gunzip, as the laws use it. -/
namespace Go.Proofs.YtbbcphloafmldaaGreat
open Go.RowKit
set_option linter.unusedVariables false

/-- a file that is read. -/
def GotY (w : World) (F : List Nat) (G keep : Nat) (wr : Bool) (e : Ending) (w' : World) : Prop :=
  ∃ ao ac, e = .returned (.tuple #[.agg #[.slice ao (F.take keep).length ac, .int .i64 F.length, .int .i64 G, .bool wr], .int .i64 0]) ∧ ViewL w' (.slice ao (F.take keep).length ac) (u8s (F.take keep)) ∧ (∀ b o, ao = some ⟨b, o, none⟩ → w.heap.size ≤ b) ∧ Ext w w'
/-- no file, or no argument. -/
def GotN (w : World) (x : Nat) (e : Ending) (w' : World) : Prop :=
  e = .returned (.tuple #[.agg #[.slice none 0 0, .int .i64 0, .int .i64 0, .bool false], .int .i64 x]) ∧ Ext w w'
theorem gun_yes {v : Value} {g : List Nat} {keep : Nat} {F : List Nat} {wr : Bool} {w : World} (h : gunF g keep = some (F, wr)) (hv : ViewL w v (u8s g)) (hl : g.length ≤ 2 ^ 16) (hb : ∀ b ∈ g, b < 256) (hk : keep ≤ 2 ^ 62) :
    Calls Tryz.prog 6 #[v, .int .i64 keep] w (GotY w F g.length keep wr) := by
  refine (gunzip v g keep w hv hl hb hk).mono ?_
  rintro e w' hq
  unfold GunR at hq
  rw [h] at hq
  rcases hq with ⟨F2, w2, ov, oo, h1, rfl, h2, h3, h4⟩ | ⟨h1, _⟩
  · cases h1
    obtain ⟨ao, ac, rfl⟩ := h2.shape
    refine ⟨ao, ac, rfl, h2.viewL, fun b o e => ?_, h4⟩
    rcases h2.form with ⟨_, k, _⟩ | ⟨q, cap, cur, k1, k, _⟩
    · rw [e] at k; cases k
    · rw [e] at k; cases k; exact h3 _ k1
  · cases h1
/-- the same, with numbers. -/
theorem gun_known {v : Value} {g : List Nat} {keep : Nat} {F L : List Nat} {wr : Bool} {w : World} {M N G : Nat} (h : gunF g keep = some (F, wr)) (hL : F.take keep = L) (hM : L.length = M) (hN : F.length = N) (hG : g.length = G) (hv : ViewL w v (u8s g)) (hl : g.length ≤ 2 ^ 16) (hb : ∀ b ∈ g, b < 256) (hk : keep ≤ 2 ^ 62) :
    Calls Tryz.prog 6 #[v, .int .i64 keep] w fun e w' => ∃ ao ac, e = .returned (.tuple #[.agg #[.slice ao M ac, .int .i64 N, .int .i64 G, .bool wr], .int .i64 0]) ∧ ViewL w' (.slice ao M ac) (u8s L) ∧ Ext w w' := by
  refine (gun_yes h hv hl hb hk).mono ?_
  rintro e w' ⟨ao, ac, rfl, h1, _, h2⟩
  rw [hL] at h1
  rw [hL, hM, hN, hG]
  rw [hM] at h1
  exact ⟨ao, ac, rfl, h1, h2⟩
theorem gun_no {v : Value} {g : List Nat} {keep : Nat} {w : World} (h : gunF g keep = none) (hv : ViewL w v (u8s g)) (hl : g.length ≤ 2 ^ 16) (hb : ∀ b ∈ g, b < 256) (hk : keep ≤ 2 ^ 62) :
    Calls Tryz.prog 6 #[v, .int .i64 keep] w (GotN w 2) := by
  refine (gunzip v g keep w hv hl hb hk).mono ?_
  rintro e w' hq
  unfold GunR at hq
  rw [h] at hq
  rcases hq with ⟨F2, w2, ov, oo, h1, _⟩ | ⟨_, rfl, h4⟩
  · cases h1
  · exact ⟨rfl, h4⟩
set_option maxRecDepth 100000 in
theorem gun_neg (ga : Option Addr) (n c : Nat) (keep : Int) (w : World) (hk : keep < 0) :
    Calls Tryz.prog 6 #[.slice ga n c, .int .i64 keep] w (GotN w 5) := by
  go_enter Tryz.func6, Tryz.ntmps6
  go_wp2_with fail
  have hx1 : Ext w (w.alloc (.cells #[.slice none 0 0, .int .i64 0, .int .i64 0, .bool false] 24)) := (Ext.refl w).alloc _
  have hf1 : FB (w.alloc (.cells #[.slice none 0 0, .int .i64 0, .int .i64 0, .bool false] 24)) w.heap.size (.slice none 0 0) 0 0 false := FB.new _ _ _ _ _
  have hz1 : (w.alloc (.cells #[.slice none 0 0, .int .i64 0, .int .i64 0, .bool false] 24)).heap.size = w.heap.size + 1 := by simp
  generalize w.alloc (.cells #[.slice none 0 0, .int .i64 0, .int .i64 0, .bool false] 24) = w1 at *
  have hx2 : Ext w1 (w1.alloc (.cells #[.int .i64 5] 25)) := (Ext.refl w1).alloc _
  have he2 : Boxed (w1.alloc (.cells #[.int .i64 5] 25)) w1.heap.size 25 (.int .i64 5) := heap_alloc_new w1 _
  have hf2 := hf1.keep hx2 (fun f => f)
  generalize w1.alloc (.cells #[.int .i64 5] 25) = w2 at *
  rw [hz1] at he2
  obtain ⟨⟨c0, c1, c2, c3⟩, _⟩ := hf2.cells
  have c4 := he2.cell
  refine bodyPost_ret (v := .tuple #[.agg #[.slice none 0 0, .int .i64 0, .int .i64 0, .bool false], .int .i64 5]) ?_ rfl ⟨rfl, hx1.trans hx2⟩
  simp only [results, show Tryz.f6.results = #[.cell 4 24, .cell 5 25] from by kernel_rfl]
  simp [go_sem, c0, c1, c2, c3, c4]
/-- a flow's box, just made. -/
theorem flow_box {w wx : World} {v : Value} {a b : Int} {c : Bool} (hx : Ext (w.alloc (.cells #[v, .int .i64 a, .int .i64 b, .bool c] 24)) wx) : FB wx w.heap.size v a b c := (FB.new w v a b c).keep hx (fun f => f)
end Go.Proofs.YtbbcphloafmldaaGreat

/-! pressworkref10.Same at flows that are the same. -/
namespace Go.Proofs.YtbbcphloafmldaaGreat
open Go.RowKit
set_option linter.unusedVariables false

set_option maxRecDepth 100000 in
theorem gun_same (ao bo : Option Addr) (m n ac bc : Nat) (bs : List Nat) (s u : Int) (wr : Bool) (w : World) (h1 : ViewL w (.slice ao m ac) (u8s bs)) (h2 : ViewL w (.slice bo n bc) (u8s bs)) :
    Calls Tryz.prog 8 #[.agg #[.slice ao m ac, .int .i64 s, .int .i64 u, .bool wr], .agg #[.slice bo n bc, .int .i64 s, .int .i64 u, .bool wr]] w fun e w' => e = .returned (.bool true) ∧ Ext w w' := by
  obtain ⟨w1, hw1⟩ : ∃ w1, w1 = w.alloc (.cells #[.slice ao m ac, .int .i64 s, .int .i64 u, .bool wr] 24) := ⟨_, rfl⟩
  obtain ⟨w2, hw2⟩ : ∃ w2, w2 = w1.alloc (.cells #[.slice bo n bc, .int .i64 s, .int .i64 u, .bool wr] 24) := ⟨_, rfl⟩
  have hx1 : Ext w w1 := by rw [hw1]; exact (Ext.refl _).alloc _
  have hx2 : Ext w1 w2 := by rw [hw2]; exact (Ext.refl _).alloc _
  have hs1 := run_string_view (P := Tryz.prog) 22 9 5 (viewL_view8 (h1.ext (hx1.trans hx2))) Tryz.underlying22 Tryz.underlying5 Tryz.underlying9
  have hs2 := run_string_view (P := Tryz.prog) 22 9 5 (viewL_view8 (h2.ext (hx1.trans hx2))) Tryz.underlying22 Tryz.underlying5 Tryz.underlying9
  have HX := Lib.hid (hx1.trans hx2)
  obtain ⟨S, hS⟩ : ∃ S, S = strOf bs := ⟨_, rfl⟩
  rw [← hS] at hs1 hs2
  rw [hw2, hw1] at hs1 hs2 HX
  clear h1 h2 hw1 hw2 hx1 hx2 hS
  go_enter Tryz.func8, Tryz.ntmps8
  go_wp2_with fail
  go_ret
  exact ⟨rfl, HX.out⟩
end Go.Proofs.YtbbcphloafmldaaGreat

/-! Gunzip, plain: the chapter's examples. No program is named here. -/
namespace Go.Proofs.YtbbcphloafmldaaGreat
open Go.RowKit
set_option linter.unusedVariables false

theorem ex_bits : ofBits false [75, 4, 0] = [true, true, false] ++ (rowOf fixedA 97 ++ (rowOf fixedA 256 ++ [false, false, false, false, false, false])) := by decide +kernel
theorem ex_bits2 : ofBits false [75, 4, 0] = ([true, true, false] ++ rowOf fixedA 97) ++ (rowOf fixedA 256 ++ [false, false, false, false, false, false]) := by decide +kernel
theorem ex_row97 : rowOf fixedA 97 ≠ [] ∧ (rowOf fixedA 97).length = 8 := by decide +kernel
theorem ex_row256 : rowOf fixedA 256 ≠ [] ∧ (rowOf fixedA 256).length = 7 := by decide +kernel
theorem ex_dec1 : decS fixedA (ofBits false [75, 4, 0]) 3 = some (97, 11) := by
  have h := dec_put (rows_pf good_fixedA) ex_bits (rowsL_get fixedA 97 (by decide +kernel)) ex_row97.1
  rw [ex_row97.2] at h
  exact decS_ok good_fixedA h
theorem ex_dec2 : decS fixedA (ofBits false [75, 4, 0]) 11 = some (256, 18) := by
  have h := dec_put (rows_pf good_fixedA) ex_bits2 (rowsL_get fixedA 256 (by decide +kernel)) ex_row256.1
  rw [ex_row256.2, List.length_append, ex_row97.2] at h
  exact decS_ok good_fixedA h
theorem ex_infl : inflF (ofBits false [75, 4, 0]) 0 [] = some (18, [97]) := by
  have h1 : symS fixedA fixedB (ofBits false [75, 4, 0]) 3 [] = .go 11 [97] := by
    unfold symS; rw [ex_dec1]; rfl
  have h2 : symS fixedA fixedB (ofBits false [75, 4, 0]) 11 [97] = .stop 18 := by
    unfold symS; rw [ex_dec2]; rfl
  have h3 : kindF 1 (ofBits false [75, 4, 0]) 3 [] = some (18, [97]) := by
    show symF fixedA fixedB _ 3 [] = _
    rw [symF_go h1, symF_stop h2]
  rw [inflF, show rd (ofBits false [75, 4, 0]) 0 1 = some (1, 1) by decide +kernel]
  simp only
  rw [show rd (ofBits false [75, 4, 0]) 1 2 = some (1, 3) by decide +kernel]
  simp only
  rw [h3]
  rfl
theorem ex_memF {g r : List Nat} {hd : Hd} {n : Nat} {wr : Bool} (hg : getH g = some (hd, n, wr)) (hr : g.drop n = [75, 4, 0] ++ r) (keep : Nat) :
    memF g keep = if g.length < n + 11 then none else some ([97], n + 11, wr || (decide (1 ≤ keep) && !decide (r.take 8 = tailL [97]))) := by
  unfold memF
  rw [hg]
  simp only
  rw [hr, ofBits_append, inflF_more _ _ _ (Nat.le_refl _) ex_infl]
  simp only
  rw [show g.drop (n + (18 + 7) / 8) = r by rw [← List.drop_drop, hr]; rfl]
  rfl
theorem ex_tail : tailL [97] = [67, 190, 183, 232, 1, 0, 0, 0] := by decide +kernel
theorem getH_of {g : List Nat} {n : Nat} {wr : Bool} (h : (getH g).map (·.2) = some (n, wr)) : ∃ hd, getH g = some (hd, n, wr) := by
  cases hg : getH g with
  | none => rw [hg] at h; cases h
  | some x =>
    obtain ⟨hd, y⟩ := x
    rw [hg] at h
    injection h with h
    exact ⟨hd, by rw [show y = (n, wr) from h]⟩
def small : List Nat := [31, 139, 8, 0, 0, 0, 0, 0, 0, 255, 75, 4, 0, 67, 190, 183, 232, 1, 0, 0, 0]
def smallBad : List Nat := [31, 139, 8, 0, 0, 0, 0, 0, 0, 255, 75, 4, 0, 67, 190, 183, 232, 1, 0, 0, 1]
def smallSum : List Nat := [31, 139, 8, 2, 0, 0, 0, 0, 0, 255, 0, 0, 75, 4, 0, 67, 190, 183, 232, 1, 0, 0, 0]
theorem ex_small (k : Nat) : gunF small k = some ([97], false) := by
  obtain ⟨hd, hg⟩ := getH_of (g := small) (n := 10) (wr := false) (by decide +kernel)
  have h := ex_memF (r := [67, 190, 183, 232, 1, 0, 0, 0]) hg rfl k
  rw [if_neg (by decide), ex_tail] at h
  simp at h
  exact gunF_last h rfl
theorem ex_bad (k : Nat) : gunF smallBad k = some ([97], decide (1 ≤ k)) := by
  obtain ⟨hd, hg⟩ := getH_of (g := smallBad) (n := 10) (wr := false) (by decide +kernel)
  have h := ex_memF (r := [67, 190, 183, 232, 1, 0, 0, 1]) hg rfl k
  rw [if_neg (by decide), ex_tail] at h
  simp at h
  have h2 := gunF_last h rfl
  exact h2
theorem ex_sum (k : Nat) : gunF smallSum k = some ([97], true) := by
  obtain ⟨hd, hg⟩ := getH_of (g := smallSum) (n := 12) (wr := true) (by decide +kernel)
  have h := ex_memF (r := [67, 190, 183, 232, 1, 0, 0, 0]) hg rfl k
  rw [if_neg (by decide)] at h
  exact gunF_last h rfl
theorem ex_short (k : Nat) : gunF (small.take 20) k = none := by
  obtain ⟨hd, hg⟩ := getH_of (g := small.take 20) (n := 10) (wr := false) (by decide +kernel)
  have h := ex_memF (r := [67, 190, 183, 232, 1, 0, 0]) hg rfl k
  rw [if_pos (by decide)] at h
  exact gunF_none h
theorem ex_nil (k : Nat) : gunF [] k = none := gunF_none (by unfold memF; rw [show getH [] = none from Option.isNone_iff_eq_none.1 (by decide +kernel)])
theorem ex_zero (k : Nat) : gunF [0] k = none := gunF_none (by unfold memF; rw [show getH [0] = none from Option.isNone_iff_eq_none.1 (by decide +kernel)])
theorem small_lt : ∀ x ∈ small, x < 256 := by decide
theorem smallBad_lt : ∀ x ∈ smallBad, x < 256 := by decide
theorem ex_two (k : Nat) : gunF (small ++ small) k = some ([97, 97], false) := by rw [gunF_append _ (Nat.le_refl _) small_lt (by decide) (ex_small k), ex_small]; rfl
theorem ex_more (k : Nat) : gunF (small ++ [0]) k = none := by rw [gunF_append _ (Nat.le_refl _) small_lt (by decide) (ex_small k), ex_zero]; rfl
theorem ex_cut (k : Nat) : gunF (small ++ small.take 20) k = none := by rw [gunF_append _ (Nat.le_refl _) small_lt (by decide) (ex_small k), ex_short]; rfl
theorem ex_then (k : Nat) : gunF (small ++ smallBad) k = some ([97, 97], decide (1 ≤ k - 1)) := by rw [gunF_append _ (Nat.le_refl _) small_lt (by decide) (ex_small k), ex_bad]; rfl
theorem ex_first (k : Nat) : gunF (smallBad ++ small) k = some ([97, 97], decide (1 ≤ k)) := by rw [gunF_append _ (Nat.le_refl _) smallBad_lt (by decide) (ex_bad k), ex_small]; simp
end Go.Proofs.YtbbcphloafmldaaGreat

/-! gunzip's laws: a known file, and what is told of it. -/
namespace Go.Proofs.YtbbcphloafmldaaGreat
open Go.RowKit
set_option linter.unusedVariables false

set_option maxRecDepth 100000 in
theorem gun_small (w : World) : Calls Tryz.prog 17 #[] w fun e w' => e = .returned (.slice (some ⟨w.heap.size, 0, none⟩) 21 21) ∧ w' = w.alloc (.cells (u8s small).toArray 5 (21, 22)) := by
  have kc := Go.Lib.run_convert_bytes_const (P := Tryz.prog) w 22 5 #[.int .u8 31, .int .u8 139, .int .u8 8, .int .u8 0, .int .u8 0, .int .u8 0, .int .u8 0, .int .u8 0, .int .u8 0, .int .u8 255, .int .u8 75, .int .u8 4, .int .u8 0, .int .u8 67, .int .u8 190, .int .u8 183, .int .u8 232, .int .u8 1, .int .u8 0, .int .u8 0, .int .u8 0] 21 21 Tryz.underlying22 Tryz.underlying5
  go_enter Tryz.func17, Tryz.ntmps17
  go_wp2_with fail
  go_ret
  exact ⟨rfl, rfl⟩
theorem small_view (w : World) : ViewL (w.alloc (.cells (u8s small).toArray 5 (21, 22))) (.slice (some ⟨w.heap.size, 0, none⟩) 21 21) (u8s small) := (view_new w small 5 (21, 22)).viewL (fun a n c e => by cases e; exact Nat.le_refl _)
/-- the cells of a view, one by one. -/
theorem view_adds {w : World} {ao : Addr} {n c : Nat} {xs : List Value} (h : ViewL w (.slice (some ao) n c) xs) (h0 : 0 < xs.length) : ∀ j u, xs[j]? = some u → w.cell? (ao.add j) = some u := by
  obtain ⟨ao', cap, e, _, _, hc⟩ := h
  obtain ⟨b, o, rfl, hcx⟩ := hc h0
  cases e
  intro j u hu
  have e2 : (⟨b, o, none⟩ : Addr).add j = ⟨b, o + j, none⟩ := by unfold Addr.add; split <;> simp_all
  rw [e2]; exact hcx j u hu
theorem viewL_nil0 (w : World) : ViewL w (.slice none 0 0) (u8s []) := ⟨none, 0, rfl, Nat.le_refl _, fun _ => rfl, fun h => by simp [u8s] at h⟩
theorem own_viewL {w w' : World} {v : Value} {xs ys : List Value} {m n k : Nat} (h : w'.ownsRow k 5 1 v (m + n) (xs ++ ys)) : ViewL w' v (xs ++ ys) := by
  have hl : (xs ++ ys).length = m + n := by have := h.1; omega
  rw [← hl] at h
  exact (show Owns w' 5 1 v v.ownBlock (xs ++ ys).length (xs ++ ys) from ⟨ownsRow_zero h, rfl⟩).viewL
set_option maxHeartbeats 8000000 in
set_option maxRecDepth 100000 in
theorem gun_opens (w : World) : Calls Tryz.prog 9 #[] w fun e w' => e = .returned (.bool true) ∧ Ext w w' := by
  obtain ⟨i0, hi, hz0, hz1, hz2⟩ := info_parts info_u8
  go_enter Tryz.func9, Tryz.ntmps9
  go_wp2_with fail
  refine (gun_small _).mono ?_
  rintro e w1 ⟨rfl, hw1⟩
  have hv1 := small_view w
  rw [← hw1] at hv1
  have HX1 := Lib.hid (show Ext w w1 by rw [hw1]; exact (Ext.refl _).alloc _)
  have HV1 := Lib.hid hv1
  clear hv1 hw1
  go_wp2_with fail
  refine (gun_known (keep := 9) (L := [97]) (M := 1) (N := 1) (G := 21) (ex_small 9) rfl rfl rfl rfl HV1.out (by decide) small_lt (by decide)).mono ?_
  rintro e w2 ⟨ao, ac, rfl, hv2, hx2⟩
  have HV2 := Lib.hid hv2
  have HX2 := Lib.hid (HX1.out.trans hx2)
  clear hv2 hx2 HV1 HX1
  obtain ⟨w3, hw3⟩ : ∃ w3, w3 = w2.alloc (.cells #[.slice ao 1 ac, .int .i64 1, .int .i64 21, .bool false] 24) := ⟨_, rfl⟩
  go_wp2_with fail
  rw [← hw3]
  have hx3 : Ext w2 w3 := by rw [hw3]; exact (Ext.refl _).alloc _
  obtain ⟨f1, hf1⟩ : ∃ f1, f1 = w2.heap.size := ⟨_, rfl⟩
  rw [← hf1]
  have HF1 := Lib.hid (show FB w3 f1 (.slice ao 1 ac) 1 21 false by rw [hw3, hf1]; exact FB.new _ _ _ _ _)
  have HV1 := Lib.hid (HV2.out.ext hx3)
  have HX3 := Lib.hid (HX2.out.trans hx3)
  clear hw3 hf1 hx3 HV2 HX2
  refine (gun_small _).mono ?_
  rintro e w4 ⟨rfl, hw4⟩
  have hx4 : Ext w3 w4 := by rw [hw4]; exact (Ext.refl _).alloc _
  have HA4 := Lib.hid (show ViewL w4 (.slice (some ⟨w3.heap.size, 0, none⟩) 21 21) (u8s small) from hw4 ▸ small_view w3)
  have HF1 := Lib.hid (HF1.out.keep hx4 (fun f => f))
  have HV1 := Lib.hid (HV1.out.ext hx4)
  have HX4 := Lib.hid (HX3.out.trans hx4)
  clear hw4 hx4 HX3
  generalize w3.heap.size = q4 at *
  go_wp2_with fail
  refine (gun_small _).mono ?_
  rintro e w5 ⟨rfl, hw5⟩
  have hx5 : Ext w4 w5 := by rw [hw5]; exact (Ext.refl _).alloc _
  have HA5 := Lib.hid (show ViewL w5 (.slice (some ⟨w4.heap.size, 0, none⟩) 21 21) (u8s small) from hw5 ▸ small_view w4)
  have HA4 := Lib.hid (HA4.out.ext hx5)
  have HF1 := Lib.hid (HF1.out.keep hx5 (fun f => f))
  have HV1 := Lib.hid (HV1.out.ext hx5)
  have HX5 := Lib.hid (HX4.out.trans hx5)
  clear hw5 hx5 HX4
  generalize w4.heap.size = q5 at *
  go_wp2_with (at_builtin; go_must (refine wpList_append_grows _ rfl (.tmp 13) (.tmp 14) 22 rfl 5 i0 (.int .u8 0) 1 1 Tryz.underlying22 hi hz0 hz1 hz2 rfl (by decide) (some ⟨q4, 0, none⟩) 21 21 (u8s small) rfl (fun e => by cases e) rfl (fun b e => by cases e; exact view_adds HA4.out (by decide)) ⟨q5, 0, none⟩ 21 21 (u8s small) rfl rfl (view_adds HA5.out (by decide)) (u8s_one _) (by decide) (by unfold maxLen; decide) (by decide) ?_))
  intro v6 w6 hown6 hgrow6
  have hx6 : Ext w5 w6 := Touch.grown (Ext.refl w5) hgrow6 (fun k e => by cases e)
  have HV6 := Lib.hid (show ViewL w6 v6 (u8s (small ++ small)) from by rw [u8s_append]; exact own_viewL (w := w5) (m := 21) (n := 21) hown6)
  have HF1 := Lib.hid (HF1.out.keep hx6 (fun f => f))
  have HV1 := Lib.hid (HV1.out.ext hx6)
  have HX6 := Lib.hid (HX5.out.trans hx6)
  clear hown6 hgrow6 hx6 HX5 HA4 HA5
  go_wp2_with fail
  refine (gun_known (keep := 1) (L := [97]) (M := 1) (N := 2) (G := 42) (ex_two 1) rfl rfl rfl rfl HV6.out (by decide) (fun x hx => by rcases List.mem_append.1 hx with h | h <;> exact small_lt x h) (by decide)).mono ?_
  rintro e w7 ⟨bo, bc, rfl, hv7, hx7⟩
  have HV7 := Lib.hid hv7
  have HF1 := Lib.hid (HF1.out.keep hx7 (fun f => f))
  have HV1 := Lib.hid (HV1.out.ext hx7)
  have HX7 := Lib.hid (HX6.out.trans hx7)
  clear hv7 hx7 HV6 HX6
  obtain ⟨w8, hw8⟩ : ∃ w8, w8 = w7.alloc (.cells #[.slice bo 1 bc, .int .i64 2, .int .i64 42, .bool false] 24) := ⟨_, rfl⟩
  have hx8 : Ext w7 w8 := by rw [hw8]; exact (Ext.refl _).alloc _
  have hng := gun_no (w := w8) (keep := 9) (ex_nil 9) (viewL_nil0 w8) (by decide) (fun b hb => by cases hb) (by decide)
  go_wp2_with fail
  rw [← hw8]
  refine hng.mono ?_
  rintro e w9 ⟨rfl, hx9⟩
  obtain ⟨f2, hf2⟩ : ∃ f2, f2 = w7.heap.size := ⟨_, rfl⟩
  rw [← hf2]
  have hx89 := hx8.trans hx9
  have hF2 : FB w8 f2 (.slice bo 1 bc) 2 42 false := by rw [hw8, hf2]; exact FB.new _ _ _ _ _
  have HF2 := Lib.hid (hF2.keep hx9 (fun f => f))
  have HV2 := Lib.hid (HV7.out.ext hx89)
  have HF1 := Lib.hid (HF1.out.keep hx89 (fun f => f))
  have HV1 := Lib.hid (HV1.out.ext hx89)
  have HX9 := Lib.hid (HX7.out.trans hx89)
  clear hng hw8 hf2 hx8 hx89 hx9 hF2 HV7 HX7
  obtain ⟨wx, hwx⟩ : ∃ wx, wx = w9.alloc (.cells #[.slice none 0 0, .int .i64 0, .int .i64 0, .bool false] 24) := ⟨_, rfl⟩
  have hx10 : Ext w9 wx := by rw [hwx]; exact (Ext.refl _).alloc _
  obtain ⟨⟨c0, c1, c2, c3⟩, _⟩ := (HF1.out.keep hx10 (fun f => f)).cells
  obtain ⟨⟨d0, d1, d2, d3⟩, _⟩ := (HF2.out.keep hx10 (fun f => f)).cells
  have hs1 := run_string_view (P := Tryz.prog) 22 9 5 (viewL_view8 (HV1.out.ext hx10)) Tryz.underlying22 Tryz.underlying5 Tryz.underlying9
  have hs2 := run_string_view (P := Tryz.prog) 22 9 5 (viewL_view8 (HV2.out.ext hx10)) Tryz.underlying22 Tryz.underlying5 Tryz.underlying9
  have HX10 := Lib.hid (HX9.out.trans hx10)
  rw [hwx] at c0 c1 c2 c3 d0 d1 d2 d3 hs1 hs2
  have hq : ((strOf [97]).toList == [97]) = true := by rw [strOf_toList]; decide
  rw [hwx] at HX10
  clear hwx hx10 HX9 HV1 HV2 HF1 HF2
  go_wp2_with fail
  go_ret
  exact ⟨rfl, HX10.out⟩
end Go.Proofs.YtbbcphloafmldaaGreat

/-! What Gunzip answers, in one form. -/
namespace Go.Proofs.YtbbcphloafmldaaGreat
open Go.RowKit
set_option linter.unusedVariables false

/-- an answer in one form: the bytes kept, how many there are, how many were read, whether a sum is wrong, the error. -/
structure ResG where
  b : List Nat
  s : Nat
  u : Nat
  w : Bool
  e : Nat
noncomputable def resG (g : List Nat) (keep : Nat) : ResG := match gunF g keep with | some (F, wr) => ⟨F.take keep, F.length, g.length, wr, 0⟩ | none => ⟨[], 0, 0, false, 2⟩
theorem resG_some {g : List Nat} {keep : Nat} {F : List Nat} {wr : Bool} (h : gunF g keep = some (F, wr)) : resG g keep = ⟨F.take keep, F.length, g.length, wr, 0⟩ := by unfold resG; rw [h]
theorem resG_none {g : List Nat} {keep : Nat} (h : gunF g keep = none) : resG g keep = ⟨[], 0, 0, false, 2⟩ := by unfold resG; rw [h]
def GRes (w : World) (R : ResG) (e : Ending) (w' : World) : Prop :=
  ∃ ao ac, e = .returned (.tuple #[.agg #[.slice ao R.b.length ac, .int .i64 R.s, .int .i64 R.u, .bool R.w], .int .i64 R.e]) ∧ ViewL w' (.slice ao R.b.length ac) (u8s R.b) ∧ Ext w w' ∧ (R.e ≠ 0 → ao = none ∧ ac = 0)
theorem gun_res {v : Value} {g : List Nat} {keep : Nat} {w : World} {R : ResG} (hR : R = resG g keep) (hv : ViewL w v (u8s g)) (hl : g.length ≤ 2 ^ 16) (hb : ∀ b ∈ g, b < 256) (hk : keep ≤ 2 ^ 62) :
    Calls Tryz.prog 6 #[v, .int .i64 keep] w (GRes w R) := by
  subst hR
  cases h : gunF g keep with
  | some r =>
    obtain ⟨F, wr⟩ := r
    rw [resG_some h]
    refine (gun_yes h hv hl hb hk).mono ?_
    rintro e w' ⟨ao, ac, rfl, h1, _, h2⟩
    exact ⟨ao, ac, rfl, h1, h2, fun h => absurd rfl h⟩
  | none =>
    rw [resG_none h]
    refine (gun_no h hv hl hb hk).mono ?_
    rintro e w' ⟨rfl, h2⟩
    exact ⟨none, 0, rfl, viewL_nil0 w', h2, fun _ => ⟨rfl, rfl⟩⟩
theorem gun_res_at {v : Value} {g : List Nat} {keep : Nat} {k : Int} {w : World} {R : ResG} (hkk : k = (keep : Int)) (hR : R = resG g keep) (hv : ViewL w v (u8s g)) (hl : g.length ≤ 2 ^ 16) (hb : ∀ b ∈ g, b < 256) (hk : keep ≤ 2 ^ 62) :
    Calls Tryz.prog 6 #[v, .int .i64 k] w (GRes w R) := by rw [hkk]; exact gun_res hR hv hl hb hk
theorem gunF_len : ∀ (n : Nat) {g : List Nat} {k : Nat} {F : List Nat} {w : Bool}, g.length ≤ n → gunF g k = some (F, w) → F.length ≤ 2064 * n * n := by
  intro n
  induction n with
  | zero =>
    intro g k F w hn h
    obtain ⟨full, u, wr, hm, _⟩ := gunF_some h
    have := memF_fit hm
    omega
  | succ n ih =>
    intro g k F w hn h
    obtain ⟨full, u, wr, hm, h2⟩ := gunF_some h
    have hf := memF_fit hm
    have hl := memF_len hm
    have e : 2064 * (n + 1) * (n + 1) = 2064 * n * n + 2064 * n + 2064 * (n + 1) := by
      rw [Nat.mul_assoc, Nat.mul_assoc, Nat.add_mul, Nat.mul_add, Nat.mul_add]; omega
    rcases h2 with ⟨hu, rfl, rfl⟩ | ⟨hu, F2, w2, h3, rfl, rfl⟩
    · rw [e]; omega
    · have := ih (by rw [List.length_drop]; omega) h3
      rw [List.length_append, e]; omega
theorem gunF_ne {g : List Nat} {k : Nat} {r : List Nat × Bool} (h : gunF g k = some r) : g ≠ [] := by
  obtain ⟨full, u, wr, hm, _⟩ := gunF_some (F := r.1) (w := r.2) h
  have := memF_fit hm
  intro e
  rw [e] at this
  simp at this
  omega
/-- two files, one behind the other, all being kept. -/
theorem gunF_two {a b : List Nat} {k : Nat} {F G : List Nat} {wa wb : Bool} (ha : ∀ x ∈ a, x < 256) (h1 : gunF a k = some (F, wa)) (h2 : gunF b k = some (G, wb)) (hs : F.length + G.length ≤ k) : gunF (a ++ b) k = some (F ++ G, wa || wb) := by
  rw [gunF_append _ (Nat.le_refl _) ha (gunF_ne h2) h1]
  obtain ⟨w2, h3, h4⟩ := gunF_any _ (Nat.le_refl _) h2 (k - F.length)
  rw [h3, h4 (by omega) (by omega)]
  rfl
end Go.Proofs.YtbbcphloafmldaaGreat
