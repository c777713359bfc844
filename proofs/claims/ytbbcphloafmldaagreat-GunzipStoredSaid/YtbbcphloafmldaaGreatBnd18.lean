/- math/bits.Mul at small numbers; slices.Repeat of one byte. slices.ContainsFunc of signs, repeat.Unpack's test. -/
import Derived.Test.YtbbcphloafmldaaGreatBnd17
import Derived.Test.YtbbcphloafmldaaGreatGrowReZ
import Derived.Laws.CopyOwn
import Derived.BigQuiet
/-! math/bits.Mul at small numbers; slices.Repeat of one byte. -/
namespace Go.Proofs.YtbbcphloafmldaaGreat
open Go.RowKit
set_option linter.unusedVariables false

set_option maxHeartbeats 800000 in
theorem rep_mul64 (y : Nat) (w : World) (hy : y < 2 ^ 16) : Calls Tryz.prog 125 #[.int .u64 1, .int .u64 y] w fun e w' => e = .returned (.tuple #[.int .u64 0, .int .u64 y]) ∧ w = w' := by
  have k1 : bits .and .u64 1 4294967295 = 1 := by decide
  have k5 : bits .and .u64 0 4294967295 = 0 := by decide
  have k2 : bits .and .u64 (y : Int) 4294967295 = y := by
    have h := bits_mask .u64 63 (by decide) (fun n h0 h1 => IntWalk.u64_in n (by omega)) 32 (by decide) (y : Int) (by omega) (by omega)
    have e : ((2 : Int) ^ 32 - 1) = 4294967295 := by decide
    have e2 : ((2 : Int) ^ 32) = 4294967296 := by decide
    rw [e, e2] at h
    rw [h]; omega
  have k3 : IntKind.u64.wrap (y : Int) = y := IntWalk.u64_in _ (by omega)
  have k4 : (y : Int) / 4294967296 = 0 := by omega
  go_enter Tryz.func125, Tryz.ntmps125
  go_wp2_with fail
  go_ret2
  exact ⟨rfl, rfl⟩
theorem rep_mul (y : Nat) (w : World) (hy : y < 2 ^ 16) : Calls Tryz.prog 101 #[.int .u64 1, .int .u64 y] w fun e w' => e = .returned (.tuple #[.int .u64 0, .int .u64 y]) ∧ w = w' := by
  go_enter Tryz.func101, Tryz.ntmps101
  go_wp2_with fail
  refine (rep_mul64 y _ hy).mono ?_
  rintro e w' ⟨rfl, rfl⟩
  go_wp2_with fail
  go_ret2
  exact ⟨rfl, rfl⟩
/-- a row of t bytes at N, of which f are k. -/
def RepRow (w : World) (N k t f : Nat) (w' : World) : Prop := w'.heap[N]? = some (.cells (u8s (List.replicate f k ++ List.replicate (t - f) 0)).toArray 5 (0, 0)) ∧ Ext w w'
theorem RepRow.ext {w w' w'' : World} {N k t f : Nat} (h : RepRow w N k t f w') (hx : Ext w' w'') : RepRow w N k t f w'' := ⟨hx.keep h.1 (fun f => f), h.2.trans hx⟩
theorem u8s_rep (k n : Nat) : u8s (List.replicate n k) = List.replicate n (.int .u8 k) := by simp [u8s]
theorem rep_row_eq (k t f c : Nat) (hc : f + c ≤ t) : ((u8s (List.replicate f k ++ List.replicate (t - f) 0)).take f ++ (u8s (List.replicate c k) ++ (u8s (List.replicate f k ++ List.replicate (t - f) 0)).drop (f + c))) = u8s (List.replicate (f + c) k ++ List.replicate (t - (f + c)) 0) := by
  simp only [u8s_append, u8s_rep]
  rw [List.take_left' (by simp), List.drop_append, List.drop_of_length_le (by simp), List.nil_append, List.length_replicate, List.drop_replicate, ← List.replicate_append_replicate, List.append_assoc]
  congr 3; omega
theorem rep_set {w w' : World} {N k t f c : Nat} (h : RepRow w N k t f w') (hn : w.heap.size ≤ N) (hc : f + c ≤ t) :
    RepRow w N k t (f + c) (w'.setRow N ((u8s (List.replicate f k ++ List.replicate (t - f) 0)).take f ++ (u8s (List.replicate c k) ++ (u8s (List.replicate f k ++ List.replicate (t - f) 0)).drop (f + c))).toArray) := by
  rw [rep_row_eq k t f c hc]
  refine ⟨setRow_heap _ _ _ _ _ _ h.1, ?_⟩
  exact ⟨h.2.os, h.2.tape, h.2.output, by simp; exact h.2.size, fun i hi hs => by rw [setRow_other _ _ _ _ (by omega)]; exact h.2.block i hi hs⟩
theorem rep_copy {w w1 : World} {k t f c : Nat} (h : RepRow w w.heap.size k t f w1) (hf : f ≤ t) (hc : c = Nat.min f (t - f)) (hc2 : f + c ≤ t) :
    ∃ w2, (Builtin.copy_ #[22, 22] 3 #[.slice (some ⟨w.heap.size, f, none⟩) (t - f) (t - f), .slice (some ⟨w.heap.size, 0, none⟩) f t]).run Tryz.prog w1 = .ok (goInt c) w2 ∧ RepRow w w.heap.size k t (f + c) w2 := by
  have hr := run_copy_row (P := Tryz.prog) w1 22 22 3 5 w.heap.size f (t - f) (t - f) ⟨w.heap.size, 0, none⟩ f t _ 5 (u8s (List.replicate c k)) Tryz.underlying22 (by kernel_rfl) h.1
    (by rw [length_u8s, List.length_replicate]; exact hc) (fun j v hj => ?_) (by simp [length_u8s]; omega) (u8s_one _)
  · rw [length_u8s, List.length_replicate, List.append_assoc] at hr
    exact ⟨_, hr, rep_set h (Nat.le_refl _) hc2⟩
  · have hjc : j < c := by
      have := (List.getElem?_eq_some_iff.1 hj).1
      rwa [length_u8s, List.length_replicate] at this
    have hcf : c ≤ f := by rw [hc]; exact Nat.min_le_left _ _
    rw [add_lit, World.cell?, h.1]
    rw [u8s_rep, List.getElem?_replicate, if_pos hjc] at hj
    simp only [u8s_append, u8s_rep]
    simp [List.getElem?_append, show j < f by omega]
    simpa using hj
theorem rep_own {w w' : World} {N k t : Nat} (h : RepRow w N k t t w') (ht : t ≤ 1000) : Owns w' 5 1 (.slice (some ⟨N, 0, none⟩) t t) (some N) t (u8s (List.replicate t k)) := by
  refine ⟨⟨by simp [length_u8s], Or.inr ⟨N, t, _, rfl, Nat.zero_le _, h.1, Nat.le_refl _, by unfold maxLen; omega, by simp [length_u8s], ?_⟩⟩, rfl⟩
  simp [u8s]
set_option maxHeartbeats 2000000 in
set_option maxRecDepth 100000 in
theorem rep_repeat (g k t : Nat) (w : World) (hg : w.heap[g]? = some (.cells #[.int .u8 k] 5 (0, 0))) (ht : 0 < t) (ht2 : t ≤ 1000) :
    Calls Tryz.prog 83 #[.slice (some ⟨g, 0, none⟩) 1 1, .int .i64 t] w fun e w' => ∃ v og, e = .returned v ∧ Owns w' 5 1 v og t (u8s (List.replicate t k)) ∧ (∀ g, og = some g → w.heap.size ≤ g) ∧ Ext w w' := by
  obtain ⟨i0, hi, hz0, hz1, hz2⟩ := info_parts info_u8
  have h1 : ¬ (t : Int) < 0 := by omega
  have h2 : (t : Int) ≤ 9223372036854775807 := by omega
  have k3 : IntKind.u64.wrap (t : Int) = t := IntWalk.u64_in _ (by omega)
  have k4 : IntKind.i64.wrap (t : Int) = t := IntWalk.i64_in _ (by omega)
  go_enter Tryz.func83, Tryz.ntmps83
  go_wp2_with fail
  refine (rep_mul t _ (by omega)).mono ?_
  rintro e w' ⟨rfl, rfl⟩
  go_wp2_with (at_make; go_must (refine wpList_make_full _ rfl (.tmp 29) (.tmp 29) 22 rfl 0 5 i0 (.int .u8 0) 1 Tryz.underlying22 hi hz0 hz1 .i64 .i64 t t t rfl rfl rfl rfl (by rw [hz2]; omega) (by unfold maxLen; omega) (Nat.zero_le _) ?_))
  intro w1 hown hgrow
  have hrr : RepRow w w.heap.size k t 0 w1 := by
    refine ⟨?_, (Touch.refl _ w).grown hgrow (fun k e => by cases e)⟩
    obtain ⟨_, h3⟩ := hown
    rcases h3 with ⟨h3, _⟩ | ⟨g', cap, cur, h3, _, h4, _, _, h5, h6⟩
    · cases h3
    · injection h3 with a1 a2 a3
      injection a1 with a1
      injection a1 with a1 _
      subst a1
      subst a3
      rw [h4]
      rw [made_one, Nat.mul_one, List.take_of_length_le (by simp [h5])] at h6
      simp only [List.replicate_zero, List.nil_append, Nat.sub_zero, u8s_rep]
      congr 2
      apply Array.toList_inj.1
      rw [h6]; rfl
  have hgk : w1.cell? ⟨g, 0, none⟩ = some (.int .u8 k) := by
    have := hrr.2.keep hg (fun f => f)
    simp [World.cell?, this]
  have HRR := Lib.hid hrr
  clear hown hgrow hrr h1 h2 k3
  have hsrc : ∀ j v, (u8s [k])[j]? = some v → w1.cell? ((⟨g, 0, none⟩ : Addr).add j) = some v := by
    intro j v hj
    rcases j with _ | j
    · simp [u8s] at hj; subst hj
      rw [add_lit]; exact hgk
    · simp [u8s] at hj
  obtain ⟨w2, hcp, hr2⟩ : ∃ w2, (Builtin.copy_ #[22, 22] 3 #[.slice (some ⟨w.heap.size, 0, none⟩) t t, .slice (some ⟨g, 0, none⟩) 1 1]).run Tryz.prog w1 = .ok (.int .i64 1) w2 ∧ RepRow w w.heap.size k t (0 + 1) w2 := by
    have hr := run_copy_row (P := Tryz.prog) w1 22 22 3 5 w.heap.size 0 t t ⟨g, 0, none⟩ 1 1 _ 5 (u8s [k]) Tryz.underlying22 (by kernel_rfl) HRR.out.1 (by simp only [u8s, List.map_cons, List.map_nil, List.length_cons, List.length_nil]; exact (Nat.min_eq_left (by omega)).symm) hsrc (by simp [length_u8s]; omega) (u8s_one _)
    have h3 := rep_set (c := 1) HRR.out (Nat.le_refl _) (by omega)
    rw [List.append_assoc] at hr
    exact ⟨_, hr, h3⟩
  clear hsrc hgk
  have HR2 := Lib.hid hr2
  clear hr2
  go_wp2_with fail
  go_loopw [8] (fun nv wr => ∃ f : Nat, nv = .int .i64 f ∧ 1 ≤ f ∧ f ≤ t ∧ RepRow w w.heap.size k t f wr) (fun nv _ => t - (intOf nv).toNat)
  case atStart => exact ⟨1, rfl, Nat.le_refl _, by omega, HR2.out⟩
  case round =>
    obtain ⟨f, rfl, hf1, hft, hrf⟩ := hrel
    have HRR := Lib.hid hrf
    clear hrf
    by_cases hlt : f < t
    · have hlti : (f : Int) < (t : Int) := by omega
      obtain ⟨c, hcf⟩ : ∃ c, c = Nat.min f (t - f) := ⟨_, rfl⟩
      have hc1 : f + c ≤ t := by
        have : Nat.min f (t - f) ≤ t - f := Nat.min_le_right f (t - f)
        rw [hcf]; omega
      have hc2 : 0 < c := by
        rw [hcf]
        exact Nat.lt_min.2 ⟨by omega, by omega⟩
      have HCF := Lib.hid hcf
      clear hcf
      have k5 : (f : Int).toNat = f := Int.toNat_natCast f
      have k6 : (0 : Int) ≤ (f : Int) := by omega
      have k7 : IntKind.i64.wrap ((f : Int) + (c : Int)) = (f : Int) + (c : Int) := IntWalk.i64_in _ (by omega)
      have k8 : ¬ t = f := by omega
      go_wp2_with fail
-- REG
      have hst : Stab (Phi [(38, .int .i64 f), (39, .slice (some ⟨w.heap.size, 0, none⟩) t t), (40, .int .i64 f), (41, .slice (some ⟨w.heap.size, f, none⟩) (t - f) (t - f)), (42, .slice (some ⟨w.heap.size, 0, none⟩) t t), (43, .int .i64 f), (44, .slice (some ⟨w.heap.size, 0, none⟩) f t), (45, .int .i64 c), (46, .int .i64 (f + c : Nat)), (8, .int .i64 (f + c : Nat))] []) := Phi.stable (fun x hx => by cases hx)
      refine wp_region_re 48 [8, 7] [38, 39, 40, 41, 42, 43, 44, 45, 46, 8] 7 [2, 0, 0, 0, 0, 0, 0, 2, 1, 1] (fun w' => RepRow w w.heap.size k t f w') (fun w' => RepRow w w.heap.size k t (f + c) w') (by kernel_rfl) _ (Phi [(8, .int .i64 f), (7, .slice (some ⟨w.heap.size, 0, none⟩) t t)] []) hst (fun _ _ h k => h.ext k) (fun _ _ h k => h.ext k) (by kernel_rfl) rfl rfl (fun _ => ⟨rfl, rfl, trivial⟩) (HRR.out) ⟨?_, ?_, ?_, ?_, ?_, ?_, ?_, ?_, ?_, ?_, trivial⟩ ?fin
      · refine OblR.val (.int .i64 f) (fun ev w1 hI hc hev => ?_)
        obtain ⟨hc, hf, hg⟩ := hc
        have h0 : ev (.tmp 8) = .int .i64 f := at_base hev.1 (by kernel_rfl)
        exact ⟨rfl, by (clear hev; go_simp), fun d hd => by cases hd; rfl⟩
      · refine OblR.val (.slice (some ⟨w.heap.size, 0, none⟩) t t) (fun ev w1 hI hc hev => ?_)
        obtain ⟨hc, hf, hg⟩ := hc
        have h0 : ev (.tmp 7) = .slice (some ⟨w.heap.size, 0, none⟩) t t := at_base hev.1 (by kernel_rfl)
        exact ⟨rfl, by (clear hev; go_simp), fun d hd => by cases hd; rfl⟩
      · refine OblR.val (.int .i64 f) (fun ev w1 hI hc hev => ?_)
        obtain ⟨hc, hf, hg⟩ := hc
        have h0 : ev (.tmp 8) = .int .i64 f := at_base hev.1 (by kernel_rfl)
        exact ⟨rfl, by (clear hev; go_simp), fun d hd => by cases hd; rfl⟩
      · refine OblR.val (.slice (some ⟨w.heap.size, f, none⟩) (t - f) (t - f)) (fun ev w1 hI hc hev => ?_)
        obtain ⟨hc, hf, hg⟩ := hc
        have h0 : ev (.tmp 39) = .slice (some ⟨w.heap.size, 0, none⟩) t t := at_new hev.1 (by kernel_rfl); have h1 : ev (.tmp 40) = .int .i64 f := at_new hev.2.1 (by kernel_rfl)
        exact ⟨rfl, by (clear hev; go_simp), fun d hd => by cases hd; rfl⟩
      · refine OblR.val (.slice (some ⟨w.heap.size, 0, none⟩) t t) (fun ev w1 hI hc hev => ?_)
        obtain ⟨hc, hf, hg⟩ := hc
        have h0 : ev (.tmp 7) = .slice (some ⟨w.heap.size, 0, none⟩) t t := at_base hev.1 (by kernel_rfl)
        exact ⟨rfl, by (clear hev; go_simp), fun d hd => by cases hd; rfl⟩
      · refine OblR.val (.int .i64 f) (fun ev w1 hI hc hev => ?_)
        obtain ⟨hc, hf, hg⟩ := hc
        have h0 : ev (.tmp 8) = .int .i64 f := at_base hev.1 (by kernel_rfl)
        exact ⟨rfl, by (clear hev; go_simp), fun d hd => by cases hd; rfl⟩
      · refine OblR.val (.slice (some ⟨w.heap.size, 0, none⟩) f t) (fun ev w1 hI hc hev => ?_)
        obtain ⟨hc, hf, hg⟩ := hc
        have h0 : ev (.tmp 42) = .slice (some ⟨w.heap.size, 0, none⟩) t t := at_new hev.1 (by kernel_rfl); have h1 : ev (.tmp 43) = .int .i64 f := at_new hev.2.1 (by kernel_rfl)
        exact ⟨rfl, by (clear hev; go_simp), fun d hd => by cases hd; rfl⟩
      · refine OblRC.val (.int .i64 c) (fun ev w1 hI hc hev => ?_)
        obtain ⟨hc, hf, hg⟩ := hc
        have h0 : ev (.tmp 41) = .slice (some ⟨w.heap.size, f, none⟩) (t - f) (t - f) := at_new hev.1 (by kernel_rfl); have h1 : ev (.tmp 44) = .slice (some ⟨w.heap.size, 0, none⟩) f t := at_new hev.2.1 (by kernel_rfl)
        have hI : RepRow w w.heap.size k t f w1 := hI
        obtain ⟨w2, h2, h3⟩ := rep_copy hI (by omega) HCF.out (by omega)
        exact ⟨rfl, w2, by (clear hev; go_simp), h3, fun _ _ _ h => h, fun d hd => by cases hd; rfl⟩
      · refine OblR.val (.int .i64 (f + c : Nat)) (fun ev w1 hI hc hev => ?_)
        obtain ⟨hc, hf, hg⟩ := hc
        have h0 : ev (.tmp 38) = .int .i64 f := at_new hev.1 (by kernel_rfl); have h1 : ev (.tmp 45) = .int .i64 c := at_new hev.2.1 (by kernel_rfl)
        exact ⟨rfl, by (clear hev; go_simp), fun d hd => by cases hd; rfl⟩
      · refine OblR.val (.int .i64 (f + c : Nat)) (fun ev w1 hI hc hev => ?_)
        obtain ⟨hc, hf, hg⟩ := hc
        have h0 : ev (.tmp 46) = .int .i64 (f + c : Nat) := at_new hev.1 (by kernel_rfl)
        exact ⟨rfl, by (clear hev; go_simp), fun d hd => by cases hd; rfl⟩
      case fin =>
        intro vs w5 he5 hf
        have e38 : vs 38 = .int .i64 f := hf 38 (by decide)
        have e39 : vs 39 = .slice (some ⟨w.heap.size, 0, none⟩) t t := hf 39 (by decide)
        have e40 : vs 40 = .int .i64 f := hf 40 (by decide)
        have e41 : vs 41 = .slice (some ⟨w.heap.size, f, none⟩) (t - f) (t - f) := hf 41 (by decide)
        have e42 : vs 42 = .slice (some ⟨w.heap.size, 0, none⟩) t t := hf 42 (by decide)
        have e43 : vs 43 = .int .i64 f := hf 43 (by decide)
        have e44 : vs 44 = .slice (some ⟨w.heap.size, 0, none⟩) f t := hf 44 (by decide)
        have e45 : vs 45 = .int .i64 c := hf 45 (by decide)
        have e46 : vs 46 = .int .i64 (f + c : Nat) := hf 46 (by decide)
        have e8 : vs 8 = .int .i64 (f + c : Nat) := hf 8 (by decide)
        simp only [List.foldl_cons, List.foldl_nil]
        rw [e38, e39, e40, e41, e42, e43, e44, e45, e46, e8]
        simp only [Act.put, List.setIfInBounds_toArray, List.set_cons_succ, List.set_cons_zero]
        clear hf e38 e39 e40 e41 e42 e43 e44 e45 e46 e8
        have HI5 := Lib.hid he5
        clear he5
        go_wp2_with fail
        go_roundw
        case rel => exact ⟨f + c, by go_num, by omega, by omega, HI5.out⟩
        case measure => simp [intOf]; omega
-- REGEND
    · obtain rfl : f = t := by omega
      have ho := rep_own HRR.out ht2
      have HO := Lib.hid ho
      clear ho
      go_wp2_with fail
      go_ret
      exact ⟨_, _, rfl, HO.out, fun g e => by cases e; exact Nat.le_refl _, HRR.out.2⟩
end Go.Proofs.YtbbcphloafmldaaGreat

/-! slices.ContainsFunc of signs, repeat.Unpack's test. -/
namespace Go.Proofs.YtbbcphloafmldaaGreat
open Go.RowKit
set_option linter.unusedVariables false

/-- a value that reads as signs, wherever it lies. -/
def ViewS (w : World) (v : Value) (l : List (Nat × Nat)) : Prop :=
  ∃ ao cap, v = .slice ao l.length cap ∧ (0 < l.length → ∃ b o, ao = some ⟨b, o, none⟩ ∧ ∀ i s, l[i]? = some s → w.cell? ⟨b, o + i * 2, none⟩ = some (.int .u8 (s : Nat × Nat).1) ∧ w.cell? ⟨b, o + i * 2 + 1, none⟩ = some (.int .u8 s.2))
theorem ViewS.ext {w w' : World} {v : Value} {l : List (Nat × Nat)} (h : ViewS w v l) (hx : Ext w w') : ViewS w' v l := by
  obtain ⟨ao, cap, rfl, hc⟩ := h
  refine ⟨ao, cap, rfl, fun h0 => ?_⟩
  obtain ⟨b, o, rfl, h1⟩ := hc h0
  exact ⟨b, o, rfl, fun i s hi => ⟨cell_touch hx (h1 i s hi).1 (fun f => f), cell_touch hx (h1 i s hi).2 (fun f => f)⟩⟩
theorem ViewS.shape {w : World} {v : Value} {l : List (Nat × Nat)} (h : ViewS w v l) : ∃ ao cap, v = .slice ao l.length cap := by
  obtain ⟨ao, cap, rfl, _⟩ := h; exact ⟨ao, cap, rfl⟩
theorem ViewS.cells {w : World} {ao : Option Addr} {n cap : Nat} {l : List (Nat × Nat)} (h : ViewS w (.slice ao n cap) l) (h0 : 0 < l.length) : ∃ b o, ao = some ⟨b, o, none⟩ ∧ ∀ i s, l[i]? = some s → w.cell? ⟨b, o + i * 2, none⟩ = some (.int .u8 (s : Nat × Nat).1) ∧ w.cell? ⟨b, o + i * 2 + 1, none⟩ = some (.int .u8 s.2) := by
  obtain ⟨ao', cap', e, hc⟩ := h
  injection e with e1 _ _
  subst e1
  exact hc h0
theorem scells_get : ∀ (l : List (Nat × Nat)) (i : Nat) (s : Nat × Nat), l[i]? = some s → (scells l)[i * 2]? = some (.int .u8 s.1) ∧ (scells l)[i * 2 + 1]? = some (.int .u8 s.2)
  | [], i, s, h => by simp at h
  | x :: l, 0, s, h => by simp at h; subst h; exact ⟨rfl, rfl⟩
  | x :: l, i + 1, s, h => by
    have := scells_get l i s (by simpa using h)
    rw [show (i + 1) * 2 = i * 2 + 1 + 1 by omega]
    exact this
theorem Owns.viewS {w : World} {e : TypeId} {v : Value} {og : Option Nat} {l : List (Nat × Nat)} (h : Owns w e 2 v og l.length (scells l)) : ViewS w v l := by
  rcases h.form with ⟨_, rfl, h0, _⟩ | ⟨g, cap, cur, hg, rfl, _⟩
  · exact ⟨none, 0, by rw [h0], fun h => by omega⟩
  · refine ⟨_, cap, rfl, fun _ => ⟨g, 0, rfl, fun i s hi => ?_⟩⟩
    have hc := h.1.cells (g := g) rfl
    have h2 := scells_get l i s hi
    have h3 := hc _ _ h2.1
    have h4 := hc _ _ h2.2
    rw [add_lit] at h3 h4
    exact ⟨by rw [Nat.zero_add]; exact h3, by rw [Nat.zero_add]; exact h4⟩
theorem rep_bits_q (c b : Nat) (hc : c < 256) (hb : bitsOfCode c = b) (w : World) : Calls Tryz.prog 114 #[.int .u8 c] w fun e w' => e = .returned (.int .i64 b) ∧ w' = w := by
  subst hb
  exact (rep_bits c w hc).mono (fun e w' h => ⟨h.1, h.2.symm⟩)
theorem rep_bad_big (c x : Nat) (w : World) (hc : c < 256) (hx : x < 256) (h18 : 18 < c) : Calls Tryz.prog 133 #[.agg #[.int .u8 c, .int .u8 x]] w fun e w' => e = .returned (.bool true) ∧ Ext w w' := by
  have h1 : (18 : Int) < (c : Int) := by omega
  have h2 : decide ((18 : Int) < (c : Int)) = true := decide_eq_true h1
  go_enter Tryz.func133, Tryz.ntmps133
  go_wp2_with fail
  go_quiet (fail)
  go_wp2_with fail
  go_ret
  exact ⟨rfl, ((Ext.refl w).alloc _).drewN _⟩
set_option maxHeartbeats 800000 in
theorem rep_bad_in (c x b : Nat) (w : World) (hc : c < 256) (hx : x < 256) (h18 : c ≤ 18) (hb : bitsOfCode c = b) (hb7 : b ≤ 7) : Calls Tryz.prog 133 #[.agg #[.int .u8 c, .int .u8 x]] w fun e w' => e = .returned (.bool (decide (2 ^ b ≤ x))) ∧ Ext w w' := by
  have h1 : ¬ (18 : Int) < (c : Int) := by omega
  have h2 : decide ((18 : Int) < (c : Int)) = false := decide_eq_false h1
  have hd : decide (2 ^ b ≤ x) = decide (wrap64 ((2 : Int) ^ b) ≤ (x : Int)) := by
    have ew : ∀ x : Int, wrap64 x = IntKind.i64.wrap x := fun x => by rw [IntKind.wrap_i64, wrap64]
    have hw : wrap64 ((2 : Int) ^ b) = ((2 ^ b : Nat) : Int) := by
      match b, hb7 with
      | 0, _ => exact (ew _).trans ((IntWalk.i64_in _ (by omega)).trans (by decide))
      | 1, _ => exact (ew _).trans ((IntWalk.i64_in _ (by omega)).trans (by decide))
      | 2, _ => exact (ew _).trans ((IntWalk.i64_in _ (by omega)).trans (by decide))
      | 3, _ => exact (ew _).trans ((IntWalk.i64_in _ (by omega)).trans (by decide))
      | 4, _ => exact (ew _).trans ((IntWalk.i64_in _ (by omega)).trans (by decide))
      | 5, _ => exact (ew _).trans ((IntWalk.i64_in _ (by omega)).trans (by decide))
      | 6, _ => exact (ew _).trans ((IntWalk.i64_in _ (by omega)).trans (by decide))
      | 7, _ => exact (ew _).trans ((IntWalk.i64_in _ (by omega)).trans (by decide))
    rw [hw]
    exact decide_eq_decide.2 (by omega)
  rw [hd]
  clear hd
  have h3 : ((b : Int)).toNat = b := Int.toNat_natCast b
  have h4 : (0 : Int) ≤ (b : Int) := by omega
  go_enter Tryz.func133, Tryz.ntmps133
  go_wp2_with fail
  go_quiet (first | (go_at_call 114; exact Calls.quiet_of_same (rep_bits_q c b hc hb _)))
  go_wp2_with fail
  go_ret
  exact ⟨rfl, ((Ext.refl w).alloc _).drewN _⟩
theorem rep_bad (s : Nat × Nat) (w : World) (hc : s.1 < 256) (hx : s.2 < 256) : Calls Tryz.prog 133 #[.agg #[.int .u8 s.1, .int .u8 s.2]] w fun e w' => e = .returned (.bool (!okSign s)) ∧ Ext w w' := by
  obtain ⟨c, x⟩ := s
  by_cases h : 18 < c
  · rw [show (!okSign (c, x)) = true by simp [okSign]; omega]
    exact rep_bad_big c x w hc hx h
  · have hb7 : bitsOfCode c ≤ 7 := by
      unfold bitsOfCode
      split
      · omega
      · split
        · omega
        · split <;> omega
    have e : (!okSign (c, x)) = decide (2 ^ bitsOfCode c ≤ x) := by
      by_cases h2 : 2 ^ bitsOfCode c ≤ x
      · rw [show decide (2 ^ bitsOfCode c ≤ x) = true by simpa using h2]
        simp [okSign]; omega
      · rw [show decide (2 ^ bitsOfCode c ≤ x) = false by simpa using h2]
        simp [okSign]; omega
    rw [e]
    exact rep_bad_in c x _ w hc hx (by omega) rfl hb7

set_option maxHeartbeats 800000 in
theorem rep_indexS (sv : Value) (l : List (Nat × Nat)) (w : World) (hv : ViewS w sv l) (h256 : ∀ s ∈ l, s.1 < 256 ∧ s.2 < 256) (hlen : l.length ≤ 2 ^ 40) :
    Calls Tryz.prog 141 #[sv, .func (.func 133) #[] #[]] w fun e w' => ∃ i : Int, e = .returned (.int .i64 i) ∧ (0 ≤ i ↔ l.all okSign = false) ∧ -1 ≤ i ∧ Ext w w' := by
  obtain ⟨ao, cap, rfl⟩ := hv.shape
  have HV := Lib.hid hv
  have H256 := Lib.hid h256
  clear hv h256
  go_enter Tryz.func141, Tryz.ntmps141
  go_wp2_with fail
  go_loopw [8] (fun i wr => ∃ k : Nat, i = .int .i64 k ∧ k ≤ l.length ∧ (∀ j s, j < k → l[j]? = some s → okSign s = true) ∧ Ext w wr) (fun i _ => l.length - (intOf i).toNat)
  case atStart => exact ⟨0, rfl, Nat.zero_le _, fun j x hj => absurd hj (Nat.not_lt_zero _), Ext.refl _⟩
  case round =>
    obtain ⟨k, rfl, hk, hall, hx⟩ := hrel
    have HALL := Lib.hid hall
    have HX := Lib.hid hx
    clear hall hx
    by_cases hlt : k < l.length
    · have hlti : (k : Int) < (l.length : Int) := by omega
      obtain ⟨b, o, rfl, hc⟩ := HV.out.cells (by omega)
      obtain ⟨s, hsk⟩ : ∃ s, l[k]? = some s := ⟨_, List.getElem?_eq_getElem hlt⟩
      have hc0 := cell_touch HX.out (hc k s hsk).1 (fun f => f)
      have hc1 := cell_touch HX.out (hc k s hsk).2 (fun f => f)
      have hs256 := H256.out s (List.mem_of_getElem? hsk)
      obtain ⟨c, x⟩ := s
      simp only at hc0 hc1 hs256
      have HSK := Lib.hid hsk
      clear hc hsk
      go_wp2_with fail
      refine (rep_bad (c, x) _ hs256.1 hs256.2).mono ?_
      rintro e w1 ⟨rfl, hx1⟩
      have HX1 := Lib.hid (HX.out.trans hx1)
      clear hx1
      cases hok : okSign (c, x) with
      | false =>
        have HOK := Lib.hid hok
        clear hok hc0 hc1
        go_wp2_with fail
        go_ret
        refine ⟨k, rfl, ⟨fun _ => ?_, fun _ => by omega⟩, by omega, HX1.out⟩
        cases ho : l.all okSign with
        | false => rfl
        | true =>
          have := List.all_eq_true.1 ho _ (List.mem_of_getElem? HSK.out)
          rw [HOK.out] at this; cases this
      | true =>
        have hf : ∀ j y, j < k + 1 → l[j]? = some y → okSign y = true := fun j y hj hy => by
          by_cases h : j < k
          · exact HALL.out j y h hy
          · rw [show j = k by omega, HSK.out] at hy
            cases hy; exact hok
        have HF := Lib.hid hf
        clear hf hok hc0 hc1
        go_wp2_with fail
        go_roundw
        case rel => exact ⟨k + 1, by go_num, by omega, HF.out, HX1.out⟩
        case measure => simp [intOf]; omega
    · obtain rfl : k = l.length := by omega
      go_wp2_with fail
      go_ret
      refine ⟨-1, rfl, ⟨fun h => by omega, fun h => ?_⟩, by omega, HX.out⟩
      exfalso
      have : l.all okSign = true := by
        rw [List.all_eq_true]
        intro x hx
        obtain ⟨j, hj, rfl⟩ := List.getElem_of_mem hx
        exact HALL.out j _ hj (List.getElem?_eq_getElem hj)
      rw [this] at h; cases h
theorem rep_containsS (sv : Value) (l : List (Nat × Nat)) (w : World) (hv : ViewS w sv l) (h256 : ∀ s ∈ l, s.1 < 256 ∧ s.2 < 256) (hlen : l.length ≤ 2 ^ 40) :
    Calls Tryz.prog 132 #[sv, .func (.func 133) #[] #[]] w fun e w' => e = .returned (.bool (!l.all okSign)) ∧ Ext w w' := by
  go_enter Tryz.func132, Tryz.ntmps132
  go_wp2_with fail
  refine (rep_indexS sv l _ hv h256 hlen).mono ?_
  rintro e w' ⟨i, rfl, h1, h2, hx⟩
  have HX := Lib.hid hx
  clear hx
  cases ho : l.all okSign with
  | true =>
    rw [ho] at h1
    have h3 : ¬ 0 ≤ i := fun h => by have := h1.1 h; cases this
    have HO := Lib.hid ho
    clear h1 ho
    go_wp2_with fail
    go_ret
    exact ⟨by rw [HO.out]; simp [h3], HX.out⟩
  | false =>
    rw [ho] at h1
    have h3 : 0 ≤ i := h1.2 rfl
    have HO := Lib.hid ho
    clear h1 ho
    go_wp2_with fail
    go_ret
    exact ⟨by rw [HO.out]; rfl, HX.out⟩
end Go.Proofs.YtbbcphloafmldaaGreat
