/- refine: what a round counts and chooses: plain. No program is named here. math/bits.Mul at small numbers; slices.Repeat of one byte. slices.Repeat of one int. refine.refined: the rows of counts in memory. refine.refined: the rows of counts as they are made. -/
import Derived.Test.YtaabmlnbadpfgaaRefBestZ
import Derived.Test.YtaabmlnbadpfgaaBnd2
import Derived.Test.YtaabmlnbadpfgaaRefGroups
import Derived.Test.YtaabmlnbadpfgaaView
import Derived.Test.YtaabmlnbadpfgaaMem
import Derived.OwnWalkIn
import Derived.Test.YtaabmlnbadpfgaaBnd3
import Derived.Laws.CopyOwn
import Derived.BigQuiet
import Derived.Test.YtaabmlnbadpfgaaBnd1
/-! refine: what a round counts and chooses: plain. No program is named here. -/
namespace Go.Proofs.Ytaabmlnbadpfgaa
open Go.RowKit
set_option linter.unusedVariables false

/-- how often symbol s stands in groups of code c, of the first t. -/
def cntF (ch sy : List Nat) (c s t : Nat) : Nat := ((List.range t).filter fun i => decide (ch.getD (i / 50) 0 = c ∧ sy.getD i 0 = s)).length
theorem cntF_succ (ch sy : List Nat) (c s t : Nat) : cntF ch sy c s (t + 1) = cntF ch sy c s t + if ch.getD (t / 50) 0 = c ∧ sy.getD t 0 = s then 1 else 0 := by
  rw [cntF, List.range_succ, List.filter_append, List.length_append, cntF]
  congr 1
  by_cases h : ch.getD (t / 50) 0 = c ∧ sy.getD t 0 = s
  · rw [if_pos h, List.filter_cons_of_pos (by simpa using h)]; rfl
  · rw [if_neg h, List.filter_cons_of_neg (by simpa using h)]; rfl
theorem cntF_le (ch sy : List Nat) (c s t : Nat) : cntF ch sy c s t ≤ t := by
  have := List.length_filter_le (fun i => decide (ch.getD (i / 50) 0 = c ∧ sy.getD i 0 = s)) (List.range t)
  rw [List.length_range] at this
  exact this
/-- the row of code c when t symbols are counted. -/
def frqF (ch sy : List Nat) (n c t : Nat) : List Nat := (List.range n).map fun s => 1 + 16 * cntF ch sy c s t
theorem length_frqF (ch sy : List Nat) (n c t : Nat) : (frqF ch sy n c t).length = n := by simp [frqF]
theorem frqF_zero (ch sy : List Nat) (n c : Nat) : frqF ch sy n c 0 = List.replicate n 1 := by
  refine List.ext_getElem (by simp [frqF]) fun i h1 h2 => ?_
  simp [frqF, cntF]
theorem frqF_getD (ch sy : List Nat) (n c t s : Nat) (h : s < n) : (frqF ch sy n c t).getD s 0 = 1 + 16 * cntF ch sy c s t := by simp [frqF, List.getD, h]
theorem frqF_at (ch sy : List Nat) (n t s : Nat) (hs : s = sy.getD t 0) (h : s < n) : frqF ch sy n (ch.getD (t / 50) 0) (t + 1) = (frqF ch sy n (ch.getD (t / 50) 0) t).set s ((frqF ch sy n (ch.getD (t / 50) 0) t).getD s 0 + 16) := by
  rw [frqF_getD _ _ _ _ _ _ h]
  refine List.ext_getElem (by simp [frqF]) fun i h1 h2 => ?_
  rw [List.getElem_set]
  simp only [frqF, List.getElem_map, List.getElem_range, cntF_succ]
  by_cases e : s = i
  · have e2 : sy.getD t 0 = i := by rw [← hs, e]
    rw [if_pos ⟨True.intro, e2⟩, if_pos e, e]; omega
  · have e2 : ¬ (True ∧ sy.getD t 0 = i) := fun hh => e (by rw [hs]; exact hh.2)
    rw [if_neg e2, if_neg e]; omega
theorem frqF_other (ch sy : List Nat) (n c t : Nat) (h : ch.getD (t / 50) 0 ≠ c) : frqF ch sy n c (t + 1) = frqF ch sy n c t := by
  refine List.ext_getElem (by simp [frqF]) fun i h1 h2 => ?_
  simp only [frqF, List.getElem_map, List.getElem_range, cntF_succ]
  rw [if_neg (fun hh => h hh.1)]; omega
theorem frqF_pos (ch sy : List Nat) (n c t : Nat) : ∀ x ∈ frqF ch sy n c t, 1 ≤ x ∧ x ≤ 1 + 16 * t := by
  intro x hx
  obtain ⟨s, _, rfl⟩ := List.mem_map.1 hx
  have := cntF_le ch sy c s t
  omega
/-- the order of symbols. -/
noncomputable def ordC (F : List Nat) : List Nat := (ord_exists F).choose
theorem ordC_ord (F : List Nat) : IsOrd F (ordC F) := (ord_exists F).choose_spec
/-- a code for counts. -/
noncomputable def lensC (F : List Nat) : List Nat := lensP F (ordC F) 16
/-- the codes of a round, and the groups' choice. -/
noncomputable def rndL (sy : List Nat) (n K : Nat) (ch : List Nat) : List (List Nat) := (List.range K).map fun c => lensC (frqF ch sy n c sy.length)
noncomputable def rndC (sy : List Nat) (n K : Nat) (ch : List Nat) : List Nat := (List.range (manyG sy.length)).map fun i => bestN (rndL sy n K ch) (grpS sy i)
def ch0 (N K : Nat) : List Nat := (List.range (manyG N)).map fun i => i * K / (manyG N)
noncomputable def chN (sy : List Nat) (n K : Nat) : Nat → List Nat
  | 0 => ch0 sy.length K
  | k + 1 => rndC sy n K (chN sy n K k)
theorem ordC_len {F : List Nat} (h : ∀ x ∈ F, 1 ≤ x) : (ordC F).length = F.length := by
  rw [ord_len (ordC_ord F), List.filter_eq_self.2 (fun x hx => by have := h x hx; simp; omega)]
/-- a code of a round may be. -/
theorem lensC_good {F : List Nat} {n : Nat} (hn : F.length = n) (h3 : 3 ≤ n) (h258 : n ≤ 258) (h : ∀ x ∈ F, 1 ≤ x) : GoodC (lensC F) n := by
  have ho := ordC_ord F
  have hl := ordC_len h
  have hr : (ordC F).length ≤ 2 ^ (16 + 1) := Nat.le_trans (show (ordC F).length ≤ 512 by omega) (by decide)
  have hg := lensP_good ho (i := 16) (by omega) hr (by omega)
  have hf : Full (16 + 1) ((ordC F).map (lenOf F (ordC F) 16)) := out_full ho 16 hr (by omega)
  have hlen : (lensC F).length = F.length := lensP_len F (ordC F) 16
  refine ⟨by rw [hlen, hn], fun x hx => ?_, hg.2⟩
  obtain ⟨s, hs, e⟩ := List.getElem_of_mem hx
  rw [hlen] at hs
  have h0 : 0 < F.getD s 0 := by
    rw [List.getD, List.getElem?_eq_getElem hs]; exact h _ (List.getElem_mem hs)
  have hm : lenOf F (ordC F) 16 s ∈ (ordC F).map (lenOf F (ordC F) 16) := List.mem_map.2 ⟨s, (ho.mem s).2 ⟨hs, h0⟩, rfl⟩
  have hx1 : (lensP F (ordC F) 16).getD s 0 = x := by
    rw [← e, List.getD, List.getElem?_eq_getElem (show s < (lensP F (ordC F) 16).length by rw [lensP_len]; exact hs)]; rfl
  have h1 := (hg.1 s hs).2 h0
  have h2 := hf.1 _ hm
  rw [hx1] at h1
  rw [lensP_get hs, lenP_two (by omega)] at hx1
  rw [hx1] at h2
  omega
end Go.Proofs.Ytaabmlnbadpfgaa

/-! math/bits.Mul at small numbers; slices.Repeat of one byte. -/
namespace Go.Proofs.Ytaabmlnbadpfgaa
open Go.RowKit
set_option linter.unusedVariables false

set_option maxHeartbeats 800000 in
theorem rep_mul64 (y : Nat) (w : World) (hy : y < 2 ^ 16) : Calls Try.prog 63 #[.int .u64 1, .int .u64 y] w fun e w' => e = .returned (.tuple #[.int .u64 0, .int .u64 y]) ∧ w = w' := by
  have k1 : bits .and .u64 1 4294967295 = 1 := by decide
  have k5 : bits .and .u64 0 4294967295 = 0 := by decide
  have k2 : bits .and .u64 (y : Int) 4294967295 = y := by
    have h := bits_mask .u64 63 (by decide) (fun n h0 h1 => IntWalk.u64_in n (by omega)) 32 (by decide) (y : Int) (by omega) (by omega)
    have e : ((2 : Int) ^ 32 - 1) = 4294967295 := by decide
    have e2 : ((2 : Int) ^ 32) = 4294967296 := by decide
    rw [e, e2] at h
    rw [h]; omega
  have k3 : IntKind.u64.wrap (y : Int) = y := IntWalk.u64_in _ (by omega)
  have k4 : (y : Int) / 4294967296 = 0 := by omega
  go_enter Try.func63, Try.ntmps63
  go_wp2_with fail
  go_ret2
  exact ⟨rfl, rfl⟩
theorem rep_mul (y : Nat) (w : World) (hy : y < 2 ^ 16) : Calls Try.prog 57 #[.int .u64 1, .int .u64 y] w fun e w' => e = .returned (.tuple #[.int .u64 0, .int .u64 y]) ∧ w = w' := by
  go_enter Try.func57, Try.ntmps57
  go_wp2_with fail
  refine (rep_mul64 y _ hy).mono ?_
  rintro e w' ⟨rfl, rfl⟩
  go_wp2_with fail
  go_ret2
  exact ⟨rfl, rfl⟩
/-- a row of t bytes at N, of which f are k. -/
def RepRow (w : World) (N k t f : Nat) (w' : World) : Prop := w'.heap[N]? = some (.cells (u8s (List.replicate f k ++ List.replicate (t - f) 0)).toArray 5 (0, 0)) ∧ Ext w w'
theorem RepRow.ext {w w' w'' : World} {N k t f : Nat} (h : RepRow w N k t f w') (hx : Ext w' w'') : RepRow w N k t f w'' := ⟨hx.keep h.1 (fun f => f), h.2.trans hx⟩
theorem u8s_rep (k n : Nat) : u8s (List.replicate n k) = List.replicate n (.int .u8 k) := by simp [u8s]
theorem rep_row_eq (k t f c : Nat) (hc : f + c ≤ t) : ((u8s (List.replicate f k ++ List.replicate (t - f) 0)).take f ++ (u8s (List.replicate c k) ++ (u8s (List.replicate f k ++ List.replicate (t - f) 0)).drop (f + c))) = u8s (List.replicate (f + c) k ++ List.replicate (t - (f + c)) 0) := by
  simp only [u8s_append, u8s_rep]
  rw [List.take_left' (by simp), List.drop_append, List.drop_of_length_le (by simp), List.nil_append, List.length_replicate, List.drop_replicate, ← List.replicate_append_replicate, List.append_assoc]
  congr 3; omega
theorem rep_set {w w' : World} {N k t f c : Nat} (h : RepRow w N k t f w') (hn : w.heap.size ≤ N) (hc : f + c ≤ t) :
    RepRow w N k t (f + c) (w'.setRow N ((u8s (List.replicate f k ++ List.replicate (t - f) 0)).take f ++ (u8s (List.replicate c k) ++ (u8s (List.replicate f k ++ List.replicate (t - f) 0)).drop (f + c))).toArray) := by
  rw [rep_row_eq k t f c hc]
  refine ⟨setRow_heap _ _ _ _ _ _ h.1, ?_⟩
  exact ⟨h.2.os, h.2.tape, h.2.output, by simp; exact h.2.size, fun i hi hs => by rw [setRow_other _ _ _ _ (by omega)]; exact h.2.block i hi hs⟩
theorem rep_copy {w w1 : World} {k t f c : Nat} (h : RepRow w w.heap.size k t f w1) (hf : f ≤ t) (hc : c = Nat.min f (t - f)) (hc2 : f + c ≤ t) :
    ∃ w2, (Builtin.copy_ #[24, 24] 3 #[.slice (some ⟨w.heap.size, f, none⟩) (t - f) (t - f), .slice (some ⟨w.heap.size, 0, none⟩) f t]).run Try.prog w1 = .ok (goInt c) w2 ∧ RepRow w w.heap.size k t (f + c) w2 := by
  have hr := run_copy_row (P := Try.prog) w1 24 24 3 5 w.heap.size f (t - f) (t - f) ⟨w.heap.size, 0, none⟩ f t _ 5 (u8s (List.replicate c k)) Try.underlying24 (by kernel_rfl) h.1
    (by rw [length_u8s, List.length_replicate]; exact hc) (fun j v hj => ?_) (by simp [length_u8s]; omega) (u8s_one _)
  · rw [length_u8s, List.length_replicate, List.append_assoc] at hr
    exact ⟨_, hr, rep_set h (Nat.le_refl _) hc2⟩
  · have hjc : j < c := by
      have := (List.getElem?_eq_some_iff.1 hj).1
      rwa [length_u8s, List.length_replicate] at this
    have hcf : c ≤ f := by rw [hc]; exact Nat.min_le_left _ _
    rw [add_lit, World.cell?, h.1]
    rw [u8s_rep, List.getElem?_replicate, if_pos hjc] at hj
    simp only [u8s_append, u8s_rep]
    simp [List.getElem?_append, show j < f by omega]
    simpa using hj
theorem rep_own {w w' : World} {N k t : Nat} (h : RepRow w N k t t w') (ht : t ≤ 1000) : Owns w' 5 1 (.slice (some ⟨N, 0, none⟩) t t) (some N) t (u8s (List.replicate t k)) := by
  refine ⟨⟨by simp [length_u8s], Or.inr ⟨N, t, _, rfl, Nat.zero_le _, h.1, Nat.le_refl _, by unfold maxLen; omega, by simp [length_u8s], ?_⟩⟩, rfl⟩
  simp [u8s]
set_option maxHeartbeats 2000000 in
set_option maxRecDepth 100000 in
theorem rep_repeat (g k t : Nat) (w : World) (hg : w.heap[g]? = some (.cells #[.int .u8 k] 5 (0, 0))) (ht : 0 < t) (ht2 : t ≤ 1000) :
    Calls Try.prog 50 #[.slice (some ⟨g, 0, none⟩) 1 1, .int .i64 t] w fun e w' => ∃ v og, e = .returned v ∧ Owns w' 5 1 v og t (u8s (List.replicate t k)) ∧ (∀ g, og = some g → w.heap.size ≤ g) ∧ Ext w w' := by
  obtain ⟨i0, hi, hz0, hz1, hz2⟩ := info_parts info_u8
  have h1 : ¬ (t : Int) < 0 := by omega
  have h2 : (t : Int) ≤ 9223372036854775807 := by omega
  have k3 : IntKind.u64.wrap (t : Int) = t := IntWalk.u64_in _ (by omega)
  have k4 : IntKind.i64.wrap (t : Int) = t := IntWalk.i64_in _ (by omega)
  go_enter Try.func50, Try.ntmps50
  go_wp2_with fail
  refine (rep_mul t _ (by omega)).mono ?_
  rintro e w' ⟨rfl, rfl⟩
  go_wp2_with (at_make; go_must (refine wpList_make_full _ rfl (.tmp 29) (.tmp 29) 24 rfl 0 5 i0 (.int .u8 0) 1 Try.underlying24 hi hz0 hz1 .i64 .i64 t t t rfl rfl rfl rfl (by rw [hz2]; omega) (by unfold maxLen; omega) (Nat.zero_le _) ?_))
  intro w1 hown hgrow
  have hrr : RepRow w w.heap.size k t 0 w1 := by
    refine ⟨?_, (Touch.refl _ w).grown hgrow (fun k e => by cases e)⟩
    obtain ⟨_, h3⟩ := hown
    rcases h3 with ⟨h3, _⟩ | ⟨g', cap, cur, h3, _, h4, _, _, h5, h6⟩
    · cases h3
    · injection h3 with a1 a2 a3
      injection a1 with a1
      injection a1 with a1 _
      subst a1
      subst a3
      rw [h4]
      rw [made_one, Nat.mul_one, List.take_of_length_le (by simp [h5])] at h6
      simp only [List.replicate_zero, List.nil_append, Nat.sub_zero, u8s_rep]
      congr 2
      apply Array.toList_inj.1
      rw [h6]; rfl
  have hgk : w1.cell? ⟨g, 0, none⟩ = some (.int .u8 k) := by
    have := hrr.2.keep hg (fun f => f)
    simp [World.cell?, this]
  have HRR := Lib.hid hrr
  clear hown hgrow hrr h1 h2 k3
  have hsrc : ∀ j v, (u8s [k])[j]? = some v → w1.cell? ((⟨g, 0, none⟩ : Addr).add j) = some v := by
    intro j v hj
    rcases j with _ | j
    · simp [u8s] at hj; subst hj
      rw [add_lit]; exact hgk
    · simp [u8s] at hj
  obtain ⟨w2, hcp, hr2⟩ : ∃ w2, (Builtin.copy_ #[24, 24] 3 #[.slice (some ⟨w.heap.size, 0, none⟩) t t, .slice (some ⟨g, 0, none⟩) 1 1]).run Try.prog w1 = .ok (.int .i64 1) w2 ∧ RepRow w w.heap.size k t (0 + 1) w2 := by
    have hr := run_copy_row (P := Try.prog) w1 24 24 3 5 w.heap.size 0 t t ⟨g, 0, none⟩ 1 1 _ 5 (u8s [k]) Try.underlying24 (by kernel_rfl) HRR.out.1 (by simp only [u8s, List.map_cons, List.map_nil, List.length_cons, List.length_nil]; exact (Nat.min_eq_left (by omega)).symm) hsrc (by simp [length_u8s]; omega) (u8s_one _)
    have h3 := rep_set (c := 1) HRR.out (Nat.le_refl _) (by omega)
    rw [List.append_assoc] at hr
    exact ⟨_, hr, h3⟩
  clear hsrc hgk
  have HR2 := Lib.hid hr2
  clear hr2
  go_wp2_with fail
  go_loopw [8] (fun nv wr => ∃ f : Nat, nv = .int .i64 f ∧ 1 ≤ f ∧ f ≤ t ∧ RepRow w w.heap.size k t f wr) (fun nv _ => t - (intOf nv).toNat)
  case atStart => exact ⟨1, rfl, Nat.le_refl _, by omega, HR2.out⟩
  case round =>
    obtain ⟨f, rfl, hf1, hft, hrf⟩ := hrel
    have HRR := Lib.hid hrf
    clear hrf
    by_cases hlt : f < t
    · have hlti : (f : Int) < (t : Int) := by omega
      obtain ⟨c, hcf⟩ : ∃ c, c = Nat.min f (t - f) := ⟨_, rfl⟩
      have hc1 : f + c ≤ t := by
        have : Nat.min f (t - f) ≤ t - f := Nat.min_le_right f (t - f)
        rw [hcf]; omega
      have hc2 : 0 < c := by
        rw [hcf]
        exact Nat.lt_min.2 ⟨by omega, by omega⟩
      have HCF := Lib.hid hcf
      clear hcf
      have k5 : (f : Int).toNat = f := Int.toNat_natCast f
      have k6 : (0 : Int) ≤ (f : Int) := by omega
      have k7 : IntKind.i64.wrap ((f : Int) + (c : Int)) = (f : Int) + (c : Int) := IntWalk.i64_in _ (by omega)
      have k8 : ¬ t = f := by omega
      go_wp2_with fail
-- REG
      have hst : Stab (Phi [(38, .int .i64 f), (39, .slice (some ⟨w.heap.size, 0, none⟩) t t), (40, .int .i64 f), (41, .slice (some ⟨w.heap.size, f, none⟩) (t - f) (t - f)), (42, .slice (some ⟨w.heap.size, 0, none⟩) t t), (43, .int .i64 f), (44, .slice (some ⟨w.heap.size, 0, none⟩) f t), (45, .int .i64 c), (46, .int .i64 (f + c : Nat)), (8, .int .i64 (f + c : Nat))] []) := Phi.stable (fun x hx => by cases hx)
      refine wp_region_re 48 [8, 7] [38, 39, 40, 41, 42, 43, 44, 45, 46, 8] 7 [2, 0, 0, 0, 0, 0, 0, 2, 1, 1] (fun w' => RepRow w w.heap.size k t f w') (fun w' => RepRow w w.heap.size k t (f + c) w') (by kernel_rfl) _ (Phi [(8, .int .i64 f), (7, .slice (some ⟨w.heap.size, 0, none⟩) t t)] []) hst (fun _ _ h k => h.ext k) (fun _ _ h k => h.ext k) (by kernel_rfl) rfl rfl (fun _ => ⟨rfl, rfl, trivial⟩) (HRR.out) ⟨?_, ?_, ?_, ?_, ?_, ?_, ?_, ?_, ?_, ?_, trivial⟩ ?fin
      · refine OblR.val (.int .i64 f) (fun ev w1 hI hc hev => ?_)
        obtain ⟨hc, hf, hg⟩ := hc
        have h0 : ev (.tmp 8) = .int .i64 f := at_base hev.1 (by kernel_rfl)
        exact ⟨rfl, by (clear hev; go_simp), fun d hd => by cases hd; rfl⟩
      · refine OblR.val (.slice (some ⟨w.heap.size, 0, none⟩) t t) (fun ev w1 hI hc hev => ?_)
        obtain ⟨hc, hf, hg⟩ := hc
        have h0 : ev (.tmp 7) = .slice (some ⟨w.heap.size, 0, none⟩) t t := at_base hev.1 (by kernel_rfl)
        exact ⟨rfl, by (clear hev; go_simp), fun d hd => by cases hd; rfl⟩
      · refine OblR.val (.int .i64 f) (fun ev w1 hI hc hev => ?_)
        obtain ⟨hc, hf, hg⟩ := hc
        have h0 : ev (.tmp 8) = .int .i64 f := at_base hev.1 (by kernel_rfl)
        exact ⟨rfl, by (clear hev; go_simp), fun d hd => by cases hd; rfl⟩
      · refine OblR.val (.slice (some ⟨w.heap.size, f, none⟩) (t - f) (t - f)) (fun ev w1 hI hc hev => ?_)
        obtain ⟨hc, hf, hg⟩ := hc
        have h0 : ev (.tmp 39) = .slice (some ⟨w.heap.size, 0, none⟩) t t := at_new hev.1 (by kernel_rfl); have h1 : ev (.tmp 40) = .int .i64 f := at_new hev.2.1 (by kernel_rfl)
        exact ⟨rfl, by (clear hev; go_simp), fun d hd => by cases hd; rfl⟩
      · refine OblR.val (.slice (some ⟨w.heap.size, 0, none⟩) t t) (fun ev w1 hI hc hev => ?_)
        obtain ⟨hc, hf, hg⟩ := hc
        have h0 : ev (.tmp 7) = .slice (some ⟨w.heap.size, 0, none⟩) t t := at_base hev.1 (by kernel_rfl)
        exact ⟨rfl, by (clear hev; go_simp), fun d hd => by cases hd; rfl⟩
      · refine OblR.val (.int .i64 f) (fun ev w1 hI hc hev => ?_)
        obtain ⟨hc, hf, hg⟩ := hc
        have h0 : ev (.tmp 8) = .int .i64 f := at_base hev.1 (by kernel_rfl)
        exact ⟨rfl, by (clear hev; go_simp), fun d hd => by cases hd; rfl⟩
      · refine OblR.val (.slice (some ⟨w.heap.size, 0, none⟩) f t) (fun ev w1 hI hc hev => ?_)
        obtain ⟨hc, hf, hg⟩ := hc
        have h0 : ev (.tmp 42) = .slice (some ⟨w.heap.size, 0, none⟩) t t := at_new hev.1 (by kernel_rfl); have h1 : ev (.tmp 43) = .int .i64 f := at_new hev.2.1 (by kernel_rfl)
        exact ⟨rfl, by (clear hev; go_simp), fun d hd => by cases hd; rfl⟩
      · refine OblRC.val (.int .i64 c) (fun ev w1 hI hc hev => ?_)
        obtain ⟨hc, hf, hg⟩ := hc
        have h0 : ev (.tmp 41) = .slice (some ⟨w.heap.size, f, none⟩) (t - f) (t - f) := at_new hev.1 (by kernel_rfl); have h1 : ev (.tmp 44) = .slice (some ⟨w.heap.size, 0, none⟩) f t := at_new hev.2.1 (by kernel_rfl)
        have hI : RepRow w w.heap.size k t f w1 := hI
        obtain ⟨w2, h2, h3⟩ := rep_copy hI (by omega) HCF.out (by omega)
        exact ⟨rfl, w2, by (clear hev; go_simp), h3, fun _ _ _ h => h, fun d hd => by cases hd; rfl⟩
      · refine OblR.val (.int .i64 (f + c : Nat)) (fun ev w1 hI hc hev => ?_)
        obtain ⟨hc, hf, hg⟩ := hc
        have h0 : ev (.tmp 38) = .int .i64 f := at_new hev.1 (by kernel_rfl); have h1 : ev (.tmp 45) = .int .i64 c := at_new hev.2.1 (by kernel_rfl)
        exact ⟨rfl, by (clear hev; go_simp), fun d hd => by cases hd; rfl⟩
      · refine OblR.val (.int .i64 (f + c : Nat)) (fun ev w1 hI hc hev => ?_)
        obtain ⟨hc, hf, hg⟩ := hc
        have h0 : ev (.tmp 46) = .int .i64 (f + c : Nat) := at_new hev.1 (by kernel_rfl)
        exact ⟨rfl, by (clear hev; go_simp), fun d hd => by cases hd; rfl⟩
      case fin =>
        intro vs w5 he5 hf
        have e38 : vs 38 = .int .i64 f := hf 38 (by decide)
        have e39 : vs 39 = .slice (some ⟨w.heap.size, 0, none⟩) t t := hf 39 (by decide)
        have e40 : vs 40 = .int .i64 f := hf 40 (by decide)
        have e41 : vs 41 = .slice (some ⟨w.heap.size, f, none⟩) (t - f) (t - f) := hf 41 (by decide)
        have e42 : vs 42 = .slice (some ⟨w.heap.size, 0, none⟩) t t := hf 42 (by decide)
        have e43 : vs 43 = .int .i64 f := hf 43 (by decide)
        have e44 : vs 44 = .slice (some ⟨w.heap.size, 0, none⟩) f t := hf 44 (by decide)
        have e45 : vs 45 = .int .i64 c := hf 45 (by decide)
        have e46 : vs 46 = .int .i64 (f + c : Nat) := hf 46 (by decide)
        have e8 : vs 8 = .int .i64 (f + c : Nat) := hf 8 (by decide)
        simp only [List.foldl_cons, List.foldl_nil]
        rw [e38, e39, e40, e41, e42, e43, e44, e45, e46, e8]
        simp only [Act.put, List.setIfInBounds_toArray, List.set_cons_succ, List.set_cons_zero]
        clear hf e38 e39 e40 e41 e42 e43 e44 e45 e46 e8
        have HI5 := Lib.hid he5
        clear he5
        go_wp2_with fail
        go_roundw
        case rel => exact ⟨f + c, by go_num, by omega, by omega, HI5.out⟩
        case measure => simp [intOf]; omega
-- REGEND
    · obtain rfl : f = t := by omega
      have ho := rep_own HRR.out ht2
      have HO := Lib.hid ho
      clear ho
      go_wp2_with fail
      go_ret
      exact ⟨_, _, rfl, HO.out, fun g e => by cases e; exact Nat.le_refl _, HRR.out.2⟩
end Go.Proofs.Ytaabmlnbadpfgaa

/-! slices.Repeat of one int. -/
namespace Go.Proofs.Ytaabmlnbadpfgaa
open Go.RowKit
set_option linter.unusedVariables false

theorem intsL_one (bs : List Nat) : ∀ u ∈ intsL bs, u.oneCell' = true := by
  intro u hu
  obtain ⟨b, _, rfl⟩ := List.mem_map.1 hu
  rfl
/-- a row of t bytes at N, of which f are k. -/
def RepRowI (w : World) (N k t f : Nat) (w' : World) : Prop := w'.heap[N]? = some (.cells (intsL (List.replicate f k ++ List.replicate (t - f) 0)).toArray 3 (0, 0)) ∧ Ext w w'
theorem RepRowI.ext {w w' w'' : World} {N k t f : Nat} (h : RepRowI w N k t f w') (hx : Ext w' w'') : RepRowI w N k t f w'' := ⟨hx.keep h.1 (fun f => f), h.2.trans hx⟩
theorem intsL_rep (k n : Nat) : intsL (List.replicate n k) = List.replicate n (.int .i64 k) := by simp [intsL]
theorem repi_row_eq (k t f c : Nat) (hc : f + c ≤ t) : ((intsL (List.replicate f k ++ List.replicate (t - f) 0)).take f ++ (intsL (List.replicate c k) ++ (intsL (List.replicate f k ++ List.replicate (t - f) 0)).drop (f + c))) = intsL (List.replicate (f + c) k ++ List.replicate (t - (f + c)) 0) := by
  simp only [intsL_append, intsL_rep]
  rw [List.take_left' (by simp), List.drop_append, List.drop_of_length_le (by simp), List.nil_append, List.length_replicate, List.drop_replicate, ← List.replicate_append_replicate, List.append_assoc]
  congr 3; omega
theorem repi_set {w w' : World} {N k t f c : Nat} (h : RepRowI w N k t f w') (hn : w.heap.size ≤ N) (hc : f + c ≤ t) :
    RepRowI w N k t (f + c) (w'.setRow N ((intsL (List.replicate f k ++ List.replicate (t - f) 0)).take f ++ (intsL (List.replicate c k) ++ (intsL (List.replicate f k ++ List.replicate (t - f) 0)).drop (f + c))).toArray) := by
  rw [repi_row_eq k t f c hc]
  refine ⟨setRow_heap _ _ _ _ _ _ h.1, ?_⟩
  exact ⟨h.2.os, h.2.tape, h.2.output, by simp; exact h.2.size, fun i hi hs => by rw [setRow_other _ _ _ _ (by omega)]; exact h.2.block i hi hs⟩
theorem repi_copy {w w1 : World} {k t f c : Nat} (h : RepRowI w w.heap.size k t f w1) (hf : f ≤ t) (hc : c = Nat.min f (t - f)) (hc2 : f + c ≤ t) :
    ∃ w2, (Builtin.copy_ #[23, 23] 3 #[.slice (some ⟨w.heap.size, f, none⟩) (t - f) (t - f), .slice (some ⟨w.heap.size, 0, none⟩) f t]).run Try.prog w1 = .ok (goInt c) w2 ∧ RepRowI w w.heap.size k t (f + c) w2 := by
  have hr := run_copy_row (P := Try.prog) w1 23 23 3 3 w.heap.size f (t - f) (t - f) ⟨w.heap.size, 0, none⟩ f t _ 3 (intsL (List.replicate c k)) Try.underlying23 (by kernel_rfl) h.1
    (by rw [length_intsL, List.length_replicate]; exact hc) (fun j v hj => ?_) (by simp [length_intsL]; omega) (intsL_one _)
  · rw [length_intsL, List.length_replicate, List.append_assoc] at hr
    exact ⟨_, hr, repi_set h (Nat.le_refl _) hc2⟩
  · have hjc : j < c := by
      have := (List.getElem?_eq_some_iff.1 hj).1
      rwa [length_intsL, List.length_replicate] at this
    have hcf : c ≤ f := by rw [hc]; exact Nat.min_le_left _ _
    rw [add_lit, World.cell?, h.1]
    rw [intsL_rep, List.getElem?_replicate, if_pos hjc] at hj
    simp only [intsL_append, intsL_rep]
    simp [List.getElem?_append, show j < f by omega]
    simpa using hj
theorem repi_own {w w' : World} {N k t : Nat} (h : RepRowI w N k t t w') (ht : t ≤ 1000) : Owns w' 3 1 (.slice (some ⟨N, 0, none⟩) t t) (some N) t (intsL (List.replicate t k)) := by
  refine ⟨⟨by simp [length_intsL], Or.inr ⟨N, t, _, rfl, Nat.zero_le _, h.1, Nat.le_refl _, by unfold maxLen; omega, by simp [length_intsL], ?_⟩⟩, rfl⟩
  simp [intsL]
set_option maxHeartbeats 2000000 in
set_option maxRecDepth 100000 in
theorem repi_repeat (g k t : Nat) (w : World) (hg : w.heap[g]? = some (.cells #[.int .i64 k] 3 (0, 0))) (ht : 0 < t) (ht2 : t ≤ 1000) :
    Calls Try.prog 52 #[.slice (some ⟨g, 0, none⟩) 1 1, .int .i64 t] w fun e w' => ∃ v og, e = .returned v ∧ Owns w' 3 1 v og t (intsL (List.replicate t k)) ∧ (∀ g, og = some g → w.heap.size ≤ g) ∧ Ext w w' := by
  obtain ⟨i0, hi, hz0, hz1, hz2⟩ := info_parts info_int
  have h1 : ¬ (t : Int) < 0 := by omega
  have h2 : (t : Int) ≤ 9223372036854775807 := by omega
  have k3 : IntKind.u64.wrap (t : Int) = t := IntWalk.u64_in _ (by omega)
  have k4 : IntKind.i64.wrap (t : Int) = t := IntWalk.i64_in _ (by omega)
  go_enter Try.func52, Try.ntmps52
  go_wp2_with fail
  refine (rep_mul t _ (by omega)).mono ?_
  rintro e w' ⟨rfl, rfl⟩
  go_wp2_with (at_make; go_must (refine wpList_make_full _ rfl (.tmp 29) (.tmp 29) 23 rfl 0 3 i0 (.int .i64 0) 1 Try.underlying23 hi hz0 hz1 .i64 .i64 t t t rfl rfl rfl rfl (by rw [hz2]; omega) (by unfold maxLen; omega) (Nat.zero_le _) ?_))
  intro w1 hown hgrow
  have hrr : RepRowI w w.heap.size k t 0 w1 := by
    refine ⟨?_, (Touch.refl _ w).grown hgrow (fun k e => by cases e)⟩
    obtain ⟨_, h3⟩ := hown
    rcases h3 with ⟨h3, _⟩ | ⟨g', cap, cur, h3, _, h4, _, _, h5, h6⟩
    · cases h3
    · injection h3 with a1 a2 a3
      injection a1 with a1
      injection a1 with a1 _
      subst a1
      subst a3
      rw [h4]
      rw [made_one, Nat.mul_one, List.take_of_length_le (by simp [h5])] at h6
      simp only [List.replicate_zero, List.nil_append, Nat.sub_zero, intsL_rep]
      congr 2
      apply Array.toList_inj.1
      rw [h6]; rfl
  have hgk : w1.cell? ⟨g, 0, none⟩ = some (.int .i64 k) := by
    have := hrr.2.keep hg (fun f => f)
    simp [World.cell?, this]
  have HRR := Lib.hid hrr
  clear hown hgrow hrr h1 h2 k3
  have hsrc : ∀ j v, (intsL [k])[j]? = some v → w1.cell? ((⟨g, 0, none⟩ : Addr).add j) = some v := by
    intro j v hj
    rcases j with _ | j
    · simp [intsL] at hj; subst hj
      rw [add_lit]; exact hgk
    · simp [intsL] at hj
  obtain ⟨w2, hcp, hr2⟩ : ∃ w2, (Builtin.copy_ #[23, 23] 3 #[.slice (some ⟨w.heap.size, 0, none⟩) t t, .slice (some ⟨g, 0, none⟩) 1 1]).run Try.prog w1 = .ok (.int .i64 1) w2 ∧ RepRowI w w.heap.size k t (0 + 1) w2 := by
    have hr := run_copy_row (P := Try.prog) w1 23 23 3 3 w.heap.size 0 t t ⟨g, 0, none⟩ 1 1 _ 3 (intsL [k]) Try.underlying23 (by kernel_rfl) HRR.out.1 (by simp only [intsL, List.map_cons, List.map_nil, List.length_cons, List.length_nil]; exact (Nat.min_eq_left (by omega)).symm) hsrc (by simp [length_intsL]; omega) (intsL_one _)
    have h3 := repi_set (c := 1) HRR.out (Nat.le_refl _) (by omega)
    rw [List.append_assoc] at hr
    exact ⟨_, hr, h3⟩
  clear hsrc hgk
  have HR2 := Lib.hid hr2
  clear hr2
  go_wp2_with fail
  go_loopw [8] (fun nv wr => ∃ f : Nat, nv = .int .i64 f ∧ 1 ≤ f ∧ f ≤ t ∧ RepRowI w w.heap.size k t f wr) (fun nv _ => t - (intOf nv).toNat)
  case atStart => exact ⟨1, rfl, Nat.le_refl _, by omega, HR2.out⟩
  case round =>
    obtain ⟨f, rfl, hf1, hft, hrf⟩ := hrel
    have HRR := Lib.hid hrf
    clear hrf
    by_cases hlt : f < t
    · have hlti : (f : Int) < (t : Int) := by omega
      obtain ⟨c, hcf⟩ : ∃ c, c = Nat.min f (t - f) := ⟨_, rfl⟩
      have hc1 : f + c ≤ t := by
        have : Nat.min f (t - f) ≤ t - f := Nat.min_le_right f (t - f)
        rw [hcf]; omega
      have hc2 : 0 < c := by
        rw [hcf]
        exact Nat.lt_min.2 ⟨by omega, by omega⟩
      have HCF := Lib.hid hcf
      clear hcf
      have k5 : (f : Int).toNat = f := Int.toNat_natCast f
      have k6 : (0 : Int) ≤ (f : Int) := by omega
      have k7 : IntKind.i64.wrap ((f : Int) + (c : Int)) = (f : Int) + (c : Int) := IntWalk.i64_in _ (by omega)
      have k8 : ¬ t = f := by omega
      go_wp2_with fail
-- REG
      have hst : Stab (Phi [(38, .int .i64 f), (39, .slice (some ⟨w.heap.size, 0, none⟩) t t), (40, .int .i64 f), (41, .slice (some ⟨w.heap.size, f, none⟩) (t - f) (t - f)), (42, .slice (some ⟨w.heap.size, 0, none⟩) t t), (43, .int .i64 f), (44, .slice (some ⟨w.heap.size, 0, none⟩) f t), (45, .int .i64 c), (46, .int .i64 (f + c : Nat)), (8, .int .i64 (f + c : Nat))] []) := Phi.stable (fun x hx => by cases hx)
      refine wp_region_re 48 [8, 7] [38, 39, 40, 41, 42, 43, 44, 45, 46, 8] 7 [2, 0, 0, 0, 0, 0, 0, 2, 1, 1] (fun w' => RepRowI w w.heap.size k t f w') (fun w' => RepRowI w w.heap.size k t (f + c) w') (by kernel_rfl) _ (Phi [(8, .int .i64 f), (7, .slice (some ⟨w.heap.size, 0, none⟩) t t)] []) hst (fun _ _ h k => h.ext k) (fun _ _ h k => h.ext k) (by kernel_rfl) rfl rfl (fun _ => ⟨rfl, rfl, trivial⟩) (HRR.out) ⟨?_, ?_, ?_, ?_, ?_, ?_, ?_, ?_, ?_, ?_, trivial⟩ ?fin
      · refine OblR.val (.int .i64 f) (fun ev w1 hI hc hev => ?_)
        obtain ⟨hc, hf, hg⟩ := hc
        have h0 : ev (.tmp 8) = .int .i64 f := at_base hev.1 (by kernel_rfl)
        exact ⟨rfl, by (clear hev; go_simp), fun d hd => by cases hd; rfl⟩
      · refine OblR.val (.slice (some ⟨w.heap.size, 0, none⟩) t t) (fun ev w1 hI hc hev => ?_)
        obtain ⟨hc, hf, hg⟩ := hc
        have h0 : ev (.tmp 7) = .slice (some ⟨w.heap.size, 0, none⟩) t t := at_base hev.1 (by kernel_rfl)
        exact ⟨rfl, by (clear hev; go_simp), fun d hd => by cases hd; rfl⟩
      · refine OblR.val (.int .i64 f) (fun ev w1 hI hc hev => ?_)
        obtain ⟨hc, hf, hg⟩ := hc
        have h0 : ev (.tmp 8) = .int .i64 f := at_base hev.1 (by kernel_rfl)
        exact ⟨rfl, by (clear hev; go_simp), fun d hd => by cases hd; rfl⟩
      · refine OblR.val (.slice (some ⟨w.heap.size, f, none⟩) (t - f) (t - f)) (fun ev w1 hI hc hev => ?_)
        obtain ⟨hc, hf, hg⟩ := hc
        have h0 : ev (.tmp 39) = .slice (some ⟨w.heap.size, 0, none⟩) t t := at_new hev.1 (by kernel_rfl); have h1 : ev (.tmp 40) = .int .i64 f := at_new hev.2.1 (by kernel_rfl)
        exact ⟨rfl, by (clear hev; go_simp), fun d hd => by cases hd; rfl⟩
      · refine OblR.val (.slice (some ⟨w.heap.size, 0, none⟩) t t) (fun ev w1 hI hc hev => ?_)
        obtain ⟨hc, hf, hg⟩ := hc
        have h0 : ev (.tmp 7) = .slice (some ⟨w.heap.size, 0, none⟩) t t := at_base hev.1 (by kernel_rfl)
        exact ⟨rfl, by (clear hev; go_simp), fun d hd => by cases hd; rfl⟩
      · refine OblR.val (.int .i64 f) (fun ev w1 hI hc hev => ?_)
        obtain ⟨hc, hf, hg⟩ := hc
        have h0 : ev (.tmp 8) = .int .i64 f := at_base hev.1 (by kernel_rfl)
        exact ⟨rfl, by (clear hev; go_simp), fun d hd => by cases hd; rfl⟩
      · refine OblR.val (.slice (some ⟨w.heap.size, 0, none⟩) f t) (fun ev w1 hI hc hev => ?_)
        obtain ⟨hc, hf, hg⟩ := hc
        have h0 : ev (.tmp 42) = .slice (some ⟨w.heap.size, 0, none⟩) t t := at_new hev.1 (by kernel_rfl); have h1 : ev (.tmp 43) = .int .i64 f := at_new hev.2.1 (by kernel_rfl)
        exact ⟨rfl, by (clear hev; go_simp), fun d hd => by cases hd; rfl⟩
      · refine OblRC.val (.int .i64 c) (fun ev w1 hI hc hev => ?_)
        obtain ⟨hc, hf, hg⟩ := hc
        have h0 : ev (.tmp 41) = .slice (some ⟨w.heap.size, f, none⟩) (t - f) (t - f) := at_new hev.1 (by kernel_rfl); have h1 : ev (.tmp 44) = .slice (some ⟨w.heap.size, 0, none⟩) f t := at_new hev.2.1 (by kernel_rfl)
        have hI : RepRowI w w.heap.size k t f w1 := hI
        obtain ⟨w2, h2, h3⟩ := repi_copy hI (by omega) HCF.out (by omega)
        exact ⟨rfl, w2, by (clear hev; go_simp), h3, fun _ _ _ h => h, fun d hd => by cases hd; rfl⟩
      · refine OblR.val (.int .i64 (f + c : Nat)) (fun ev w1 hI hc hev => ?_)
        obtain ⟨hc, hf, hg⟩ := hc
        have h0 : ev (.tmp 38) = .int .i64 f := at_new hev.1 (by kernel_rfl); have h1 : ev (.tmp 45) = .int .i64 c := at_new hev.2.1 (by kernel_rfl)
        exact ⟨rfl, by (clear hev; go_simp), fun d hd => by cases hd; rfl⟩
      · refine OblR.val (.int .i64 (f + c : Nat)) (fun ev w1 hI hc hev => ?_)
        obtain ⟨hc, hf, hg⟩ := hc
        have h0 : ev (.tmp 46) = .int .i64 (f + c : Nat) := at_new hev.1 (by kernel_rfl)
        exact ⟨rfl, by (clear hev; go_simp), fun d hd => by cases hd; rfl⟩
      case fin =>
        intro vs w5 he5 hf
        have e38 : vs 38 = .int .i64 f := hf 38 (by decide)
        have e39 : vs 39 = .slice (some ⟨w.heap.size, 0, none⟩) t t := hf 39 (by decide)
        have e40 : vs 40 = .int .i64 f := hf 40 (by decide)
        have e41 : vs 41 = .slice (some ⟨w.heap.size, f, none⟩) (t - f) (t - f) := hf 41 (by decide)
        have e42 : vs 42 = .slice (some ⟨w.heap.size, 0, none⟩) t t := hf 42 (by decide)
        have e43 : vs 43 = .int .i64 f := hf 43 (by decide)
        have e44 : vs 44 = .slice (some ⟨w.heap.size, 0, none⟩) f t := hf 44 (by decide)
        have e45 : vs 45 = .int .i64 c := hf 45 (by decide)
        have e46 : vs 46 = .int .i64 (f + c : Nat) := hf 46 (by decide)
        have e8 : vs 8 = .int .i64 (f + c : Nat) := hf 8 (by decide)
        simp only [List.foldl_cons, List.foldl_nil]
        rw [e38, e39, e40, e41, e42, e43, e44, e45, e46, e8]
        simp only [Act.put, List.setIfInBounds_toArray, List.set_cons_succ, List.set_cons_zero]
        clear hf e38 e39 e40 e41 e42 e43 e44 e45 e46 e8
        have HI5 := Lib.hid he5
        clear he5
        go_wp2_with fail
        go_roundw
        case rel => exact ⟨f + c, by go_num, by omega, by omega, HI5.out⟩
        case measure => simp [intOf]; omega
-- REGEND
    · obtain rfl : f = t := by omega
      have ho := repi_own HRR.out ht2
      have HO := Lib.hid ho
      clear ho
      go_wp2_with fail
      go_ret
      exact ⟨_, _, rfl, HO.out, fun g e => by cases e; exact Nat.le_refl _, HRR.out.2⟩
end Go.Proofs.Ytaabmlnbadpfgaa

/-! refine.refined: the rows of counts in memory. -/
namespace Go.Proofs.Ytaabmlnbadpfgaa
open Go.RowKit
set_option linter.unusedVariables false

/-- K rows of n counts: the outer row at fb, row i at rb i. Whatever lies ahead of w's end is untouched by writing here. -/
structure Frq (w wr : World) (fb : Nat) (rb cp : Nat → Nat) (K n : Nat) (Fs : Nat → List Nat) : Prop where
  outer : ∀ i, i < K → wr.cell? ⟨fb, i, none⟩ = some (.slice (some ⟨rb i, 0, none⟩) n (cp i))
  rows : ∀ i, i < K → Owns wr 3 1 (.slice (some ⟨rb i, 0, none⟩) n (cp i)) (some (rb i)) n (intsL (Fs i))
  len : ∀ i, i < K → (Fs i).length = n
  apart : ∀ i j, i < K → j < K → i ≠ j → rb i ≠ rb j
  off : ∀ i, i < K → rb i ≠ fb
  new : ∀ i, i < K → w.heap.size ≤ rb i
  newO : w.heap.size ≤ fb
theorem Frq.cell {w wr : World} {fb : Nat} {rb cp : Nat → Nat} {K n : Nat} {Fs : Nat → List Nat} (h : Frq w wr fb rb cp K n Fs) {i s : Nat} (hi : i < K) (hs : s < n) : wr.cell? ⟨rb i, s, none⟩ = some (.int .i64 ((Fs i).getD s 0 : Nat)) ∧ wr.frozen? ⟨rb i, s, none⟩ = false := by
  have hl := h.len i hi
  refine ⟨(h.rows i hi).cell s _ ?_, (h.rows i hi).free s⟩
  have hs2 : s < (Fs i).length := by omega
  simp [intsL, List.getD, hs2]
theorem intsL_set (l : List Nat) (i : Nat) (b : Nat) : intsL (l.set i b) = (intsL l).set i (.int .i64 b) := by simp [intsL, List.map_set]
/-- one count is written. -/
theorem Frq.set {w wr : World} {fb : Nat} {rb cp : Nat → Nat} {K n : Nat} {Fs Gs : Nat → List Nat} (h : Frq w wr fb rb cp K n Fs) {c s x : Nat} (hc : c < K) (hs : s < n) (hg : Gs c = (Fs c).set s x) (ho : ∀ i, i < K → i ≠ c → Gs i = Fs i) : Frq w (wr.setCell ⟨rb c, s, none⟩ (.int .i64 x)) fb rb cp K n Gs := by
  have ht : Touch (fun k => k = rb c) wr (wr.setCell ⟨rb c, s, none⟩ (.int .i64 x)) := (Touch.refl (fun k => k = rb c) wr).setCell (Or.inl rfl) _
  refine ⟨fun i hi => cell_touch ht (h.outer i hi) (fun e => h.off c hc e.symm), fun i hi => ?_, fun i hi => ?_, h.apart, h.off, h.new, h.newO⟩
  · by_cases e : i = c
    · subst e
      have h1 := (h.rows i hi).set s (.int .i64 x) hs
      rw [hg, intsL_set]; exact h1
    · rw [ho i hi e]
      exact (h.rows i hi).keep ht (fun g hgg => by cases hgg; exact h.apart i c hi hc e)
  · by_cases e : i = c
    · subst e; rw [hg, List.length_set]; exact h.len i hi
    · rw [ho i hi e]; exact h.len i hi
/-- what is turned elsewhere. -/
theorem Frq.keep {w wr wx : World} {fb : Nat} {rb cp : Nat → Nat} {K n : Nat} {Fs : Nat → List Nat} {S : Nat → Prop} (h : Frq w wr fb rb cp K n Fs) (ht : Touch S wr wx) (hS : ∀ i, i < K → ¬ S (rb i)) (hF : ¬ S fb) : Frq w wx fb rb cp K n Fs :=
  ⟨fun i hi => cell_touch ht (h.outer i hi) hF, fun i hi => (h.rows i hi).keep ht (fun g e => by cases e; exact hS i hi), h.len, h.apart, h.off, h.new, h.newO⟩
theorem Frq.congr {w wr : World} {fb : Nat} {rb cp : Nat → Nat} {K n : Nat} {Fs Gs : Nat → List Nat} (h : Frq w wr fb rb cp K n Fs) (e : ∀ i, i < K → Gs i = Fs i) : Frq w wr fb rb cp K n Gs :=
  ⟨h.outer, fun i hi => by rw [e i hi]; exact h.rows i hi, fun i hi => by rw [e i hi]; exact h.len i hi, h.apart, h.off, h.new, h.newO⟩
/-- one symbol is counted. -/
theorem Frq.count {w wr : World} {fb : Nat} {rb cp : Nat → Nat} {K n t : Nat} {ch sy : List Nat} (h : Frq w wr fb rb cp K n (fun c => frqF ch sy n c t)) {c s : Nat} (hc : c = ch.getD (t / 50) 0) (hs : s = sy.getD t 0) (hcK : c < K) (hsn : s < n) :
    Frq w (wr.setCell ⟨rb c, s, none⟩ (.int .i64 ((frqF ch sy n c t).getD s 0 + 16 : Nat))) fb rb cp K n (fun c => frqF ch sy n c (t + 1)) :=
  h.set hcK hsn (by rw [hc]; exact frqF_at ch sy n t s hs hsn) (fun i hi e => frqF_other ch sy n i t (by rw [← hc]; exact fun h => e h.symm))
end Go.Proofs.Ytaabmlnbadpfgaa

/-! refine.refined: the rows of counts as they are made. -/
namespace Go.Proofs.Ytaabmlnbadpfgaa
open Go.RowKit
set_option linter.unusedVariables false

def rowV (rb cp : Nat → Nat) (n j : Nat) : Value := .slice (some ⟨rb j, 0, none⟩) n (cp j)
/-- i of K rows are made. -/
structure FrB (w wr : World) (fb : Nat) (rb cp : Nat → Nat) (K n i : Nat) : Prop where
  outer : Owns wr 23 1 (.slice (some ⟨fb, 0, none⟩) K K) (some fb) K ((List.range i).map (rowV rb cp n) ++ List.replicate (K - i) (.slice none 0 0))
  rows : ∀ j, j < i → Owns wr 3 1 (rowV rb cp n j) (some (rb j)) n (intsL (List.replicate n 1))
  apart : ∀ j l, j < i → l < i → j ≠ l → rb j ≠ rb l
  off : ∀ j, j < i → rb j ≠ fb
  new : ∀ j, j < i → w.heap.size ≤ rb j
  newO : w.heap.size ≤ fb
/-- all are made: they are the counts of no symbol. -/
theorem FrB.done {w wr : World} {fb : Nat} {rb cp : Nat → Nat} {K n : Nat} (h : FrB w wr fb rb cp K n K) (ch sy : List Nat) : Frq w wr fb rb cp K n (fun c => frqF ch sy n c 0) := by
  refine ⟨fun i hi => h.outer.cell i _ ?_, fun i hi => by rw [frqF_zero]; exact h.rows i hi, fun i hi => length_frqF .., h.apart, h.off, h.new, h.newO⟩
  rw [List.getElem?_append_left (by simpa using hi)]
  simp [hi, rowV]
theorem FrB.keep {w wr wx : World} {fb : Nat} {rb cp : Nat → Nat} {K n i : Nat} {S : Nat → Prop} (h : FrB w wr fb rb cp K n i) (ht : Touch S wr wx) (hS : ∀ j, j < i → ¬ S (rb j)) (hF : ¬ S fb) : FrB w wx fb rb cp K n i :=
  ⟨h.outer.keep ht (fun g e => by cases e; exact hF), fun j hj => (h.rows j hj).keep ht (fun g e => by cases e; exact hS j hj), h.apart, h.off, h.new, h.newO⟩
/-- one value more. -/
def upd (f : Nat → Nat) (i x : Nat) : Nat → Nat := fun j => if j = i then x else f j
theorem upd_at (f : Nat → Nat) (i x : Nat) : upd f i x i = x := by simp [upd]
theorem upd_ne (f : Nat → Nat) {i j : Nat} (x : Nat) (h : j ≠ i) : upd f i x j = f j := by simp [upd, h]
/-- one row more is made. -/
theorem FrB.more {w w0 : World} {fb : Nat} {rb cp : Nat → Nat} {K n i r c : Nat} (h : FrB w w0 fb rb cp K n i) (hi : i < K) (hr : Owns w0 3 1 (.slice (some ⟨r, 0, none⟩) n c) (some r) n (intsL (List.replicate n 1))) (hrf : r ≠ fb) (hra : ∀ j, j < i → r ≠ rb j) (hrw : w.heap.size ≤ r) :
    FrB w (w0.setCell ⟨fb, i, none⟩ (.slice (some ⟨r, 0, none⟩) n c)) fb (upd rb i r) (upd cp i c) K n (i + 1) := by
  have ht : Touch (fun k => k = fb) w0 (w0.setCell ⟨fb, i, none⟩ (.slice (some ⟨r, 0, none⟩) n c)) := (Touch.refl (fun k => k = fb) w0).setCell (Or.inl rfl) _
  have hold : ∀ j, j < i → rowV (upd rb i r) (upd cp i c) n j = rowV rb cp n j := fun j hj => by rw [rowV, rowV, upd_ne _ _ (by omega), upd_ne _ _ (by omega)]
  have hnew : rowV (upd rb i r) (upd cp i c) n i = .slice (some ⟨r, 0, none⟩) n c := by rw [rowV, upd_at, upd_at]
  refine ⟨?_, fun j hj => ?_, fun j l hj hl hne => ?_, fun j hj => ?_, fun j hj => ?_, h.newO⟩
  · have h1 := h.outer.set i (.slice (some ⟨r, 0, none⟩) n c) hi
    have e : ((List.range i).map (rowV rb cp n) ++ List.replicate (K - i) (Value.slice none 0 0)).set i (Value.slice (some ⟨r, 0, none⟩) n c) = (List.range (i + 1)).map (rowV (upd rb i r) (upd cp i c) n) ++ List.replicate (K - (i + 1)) (Value.slice none 0 0) := by
      rw [List.set_append_right _ _ (by simp), List.length_map, List.length_range, Nat.sub_self, show K - i = (K - (i + 1)) + 1 by omega, List.replicate_succ, List.set_cons_zero, List.range_succ, List.map_append, List.append_assoc, List.map_cons, List.map_nil, hnew]
      rw [List.map_congr_left (g := rowV (upd rb i r) (upd cp i c) n) (fun j hj => (hold j (List.mem_range.1 hj)).symm)]
      rfl
    rw [e] at h1
    exact h1
  · by_cases e : j = i
    · subst e
      rw [hnew, upd_at]
      exact hr.keep ht (fun g e => by cases e; exact hrf)
    · rw [hold j (by omega), upd_ne _ _ e]
      exact (h.rows j (by omega)).keep ht (fun g e2 => by cases e2; exact h.off j (by omega))
  · by_cases e : j = i
    · subst e
      rw [upd_at, upd_ne _ _ (fun e => hne e.symm)]
      exact hra l (by omega)
    · rw [upd_ne _ _ e]
      by_cases e2 : l = i
      · subst e2; rw [upd_at]; exact fun e3 => hra j (by omega) e3.symm
      · rw [upd_ne _ _ e2]; exact h.apart j l (by omega) (by omega) hne
  · by_cases e : j = i
    · subst e; rw [upd_at]; exact hrf
    · rw [upd_ne _ _ e]; exact h.off j (by omega)
  · by_cases e : j = i
    · subst e; rw [upd_at]; exact hrw
    · rw [upd_ne _ _ e]; exact h.new j (by omega)
theorem FrB.begin {w wr : World} {fb K n : Nat} (rb cp : Nat → Nat) (h : Owns wr 23 1 (.slice (some ⟨fb, 0, none⟩) K K) (some fb) K (List.replicate K (.slice none 0 0))) (hf : w.heap.size ≤ fb) : FrB w wr fb rb cp K n 0 :=
  ⟨by simpa using h, fun j hj => by omega, fun j l hj => by omega, fun j hj => by omega, fun j hj => by omega, hf⟩
end Go.Proofs.Ytaabmlnbadpfgaa
