/- FrameKnown: the law's walk. -/
import Derived.Test.YtmhkjcoidjpocaaFrmLawBack
import Derived.Laws.OwnMore
import Derived.Lib.SlBytesConst
import Derived.Lib.ConvBytes
import Derived.Test.YtmhkjcoidjpocaaGrowOn
namespace Go.Proofs.Ytmhkjcoidjpocaa
open Go.RowKit
set_option linter.unusedVariables false
set_option linter.unusedSimpArgs false

theorem make_b (w : World) (n : Nat) (L : Int) (hL : L = (n : Int)) (hn : n ≤ 2 ^ 20) :
    ∃ w', (Instr.makeSlice 23 (.int .i64 L) (.int .i64 L)).run Try.prog w = .ok (.slice (some ⟨w.heap.size, 0, none⟩) n n) w' ∧ ViewL w' (.slice (some ⟨w.heap.size, 0, none⟩) n n) (u8s (List.replicate n 0)) ∧ Ext w w' := by
  subst hL
  obtain ⟨i0, hi, hz0, hz1, hz2⟩ := info_parts info_u8
  obtain ⟨w', hrun, r1, r2⟩ := run_make_full (P := Try.prog) w 0 23 5 i0 (.int .u8 0) 1 Try.underlying23 hi hz0 hz1 .i64 .i64 n (by rw [hz2]; omega) (by unfold maxLen; omega) (Nat.zero_le _)
  refine ⟨w', hrun, ?_, (Touch.refl _ w).grown r2 (fun k e => by cases e)⟩
  rw [show (Value.int .u8 0).cells = #[.int .u8 0] from rfl, Nat.mul_one, made_one] at r1
  have e : u8s (List.replicate n 0) = List.replicate n (.int .u8 0) := by simp [u8s]
  have ho : Owns w' 5 1 (.slice (some ⟨w.heap.size, 0, none⟩) n n) (some w.heap.size) n (u8s (List.replicate n 0)) := ⟨by rw [e]; exact r1, rfl⟩
  exact ho.viewL
theorem strOf_append2 (a b : List Nat) : strOf (a ++ b) = strOf a ++ strOf b := by
  simp [strOf, ByteArray.ext_iff]
def bad0 : Hd := { text := false, time := 0, xfl := 0, os := 0, extra := [], name := ⟨#[]⟩, comment := ⟨#[]⟩, has := 8, sum := false }
theorem bad0_ok : HOk bad0 := ⟨by decide, by decide, by decide, by decide, by simp [bad0]⟩
theorem bad0_not : ¬ MayH bad0 := by decide +kernel
theorem bad0_small : bad0.extra.length ≤ 2 ^ 40 ∧ bad0.name.size ≤ 2 ^ 40 ∧ bad0.comment.size ≤ 2 ^ 40 := by decide
def bad1 : Hd := { text := false, time := 0, xfl := 0, os := 0, extra := [120], name := ⟨#[]⟩, comment := ⟨#[]⟩, has := 0, sum := false }
theorem bad1_ok : HOk bad1 := ⟨by decide, by decide, by decide, by decide, by simp [bad1]⟩
theorem bad1_not : ¬ MayH bad1 := by decide +kernel
theorem bad1_small : bad1.extra.length ≤ 2 ^ 40 ∧ bad1.name.size ≤ 2 ^ 40 ∧ bad1.comment.size ≤ 2 ^ 40 := by decide
def bad2 : Hd := { text := false, time := 0, xfl := 0, os := 0, extra := [], name := ⟨#[120]⟩, comment := ⟨#[]⟩, has := 0, sum := false }
theorem bad2_ok : HOk bad2 := ⟨by decide, by decide, by decide, by decide, by simp [bad2]⟩
theorem bad2_not : ¬ MayH bad2 := by decide +kernel
theorem bad2_small : bad2.extra.length ≤ 2 ^ 40 ∧ bad2.name.size ≤ 2 ^ 40 ∧ bad2.comment.size ≤ 2 ^ 40 := by decide
def bad3 : Hd := { text := false, time := 0, xfl := 0, os := 0, extra := [], name := ⟨#[]⟩, comment := ⟨#[120]⟩, has := 0, sum := false }
theorem bad3_ok : HOk bad3 := ⟨by decide, by decide, by decide, by decide, by simp [bad3]⟩
theorem bad3_not : ¬ MayH bad3 := by decide +kernel
theorem bad3_small : bad3.extra.length ≤ 2 ^ 40 ∧ bad3.name.size ≤ 2 ^ 40 ∧ bad3.comment.size ≤ 2 ^ 40 := by decide
def bad4 : Hd := { text := false, time := 0, xfl := 0, os := 0, extra := [], name := ⟨#[97, 0]⟩, comment := ⟨#[]⟩, has := 2, sum := false }
theorem bad4_ok : HOk bad4 := ⟨by decide, by decide, by decide, by decide, by simp [bad4]⟩
theorem bad4_not : ¬ MayH bad4 := by decide +kernel
theorem bad4_small : bad4.extra.length ≤ 2 ^ 40 ∧ bad4.name.size ≤ 2 ^ 40 ∧ bad4.comment.size ≤ 2 ^ 40 := by decide
def bad5 : Hd := { text := false, time := 0, xfl := 0, os := 0, extra := [], name := ⟨#[]⟩, comment := ⟨#[0]⟩, has := 4, sum := false }
theorem bad5_ok : HOk bad5 := ⟨by decide, by decide, by decide, by decide, by simp [bad5]⟩
theorem bad5_not : ¬ MayH bad5 := by decide +kernel
theorem bad5_small : bad5.extra.length ≤ 2 ^ 40 ∧ bad5.name.size ≤ 2 ^ 40 ∧ bad5.comment.size ≤ 2 ^ 40 := by decide
def bad6 : Hd := { text := false, time := 0, xfl := 0, os := 0, extra := (List.replicate 65536 0), name := ⟨#[]⟩, comment := ⟨#[]⟩, has := 1, sum := false }
theorem bad6_len : bad6.extra.length = 65536 := by rw [bad6, List.length_replicate]
theorem bad6_ok : HOk bad6 := ⟨by decide, by decide, by decide, by decide, fun b hb => by rw [(List.mem_replicate.1 hb).2]; decide⟩
theorem bad6_not : ¬ MayH bad6 := fun h => by have := h.2.1; rw [bad6_len] at this; omega
theorem bad6_small : bad6.extra.length ≤ 2 ^ 40 ∧ bad6.name.size ≤ 2 ^ 40 ∧ bad6.comment.size ≤ 2 ^ 40 := ⟨by rw [bad6_len]; decide, by decide, by decide⟩
def hdM : Hd := { text := false, time := 0, xfl := 0, os := 0, extra := (List.replicate 65535 0), name := ⟨#[]⟩, comment := ⟨#[]⟩, has := 1, sum := false }
theorem hdM_len : hdM.extra.length = 65535 := by rw [hdM, List.length_replicate]
theorem hdM_ok : HOk hdM := ⟨by decide, by decide, by decide, by decide, fun b hb => by rw [(List.mem_replicate.1 hb).2]; decide⟩
theorem hdM_may : MayH hdM := ⟨by decide, by rw [hdM_len]; exact Nat.le_refl _, Or.inl (by decide), Or.inr (by decide), Or.inr (by decide), by decide, by decide⟩
theorem hdM_small : hdM.extra.length ≤ 2 ^ 40 ∧ hdM.name.size ≤ 2 ^ 40 ∧ hdM.comment.size ≤ 2 ^ 40 := ⟨by rw [hdM_len]; decide, by decide, by decide⟩
theorem hdM_put_len : (putH hdM).length = 65547 := by
  have e1 : hdM.has % 2 = 1 := by decide
  have e2 : ¬ hdM.has / 2 % 2 = 1 := by decide
  have e3 : ¬ hdM.has / 4 % 2 = 1 := by decide
  have e4 : hdM.sum = false := rfl
  rw [putH, e4, if_neg (by decide), pc, if_neg e3, pn, if_neg e2, px, if_pos e1, List.length_append, List.length_append, hdM_len, len_fx8, length_leN]
theorem no0_get : getH [] = none := Option.isNone_iff_eq_none.1 (by decide +kernel)
theorem no1_get : getH [31, 139, 8, 32, 0, 0, 0, 0, 0, 0] = none := Option.isNone_iff_eq_none.1 (by decide +kernel)
theorem no2_get : getH [31, 139, 7, 0, 0, 0, 0, 0, 0, 0] = none := Option.isNone_iff_eq_none.1 (by decide +kernel)
theorem no3_get : getH [30, 139, 8, 0, 0, 0, 0, 0, 0, 0] = none := Option.isNone_iff_eq_none.1 (by decide +kernel)
theorem no4_get : getH [31, 139, 8, 0, 0, 0, 0, 0, 0] = none := Option.isNone_iff_eq_none.1 (by decide +kernel)
theorem no5_get : getH [31, 139, 8, 4, 0, 0, 0, 0, 0, 0, 1] = none := Option.isNone_iff_eq_none.1 (by decide +kernel)
theorem no6_get : getH [31, 139, 8, 4, 0, 0, 0, 0, 0, 0, 1, 0] = none := Option.isNone_iff_eq_none.1 (by decide +kernel)
theorem no7_get : getH [31, 139, 8, 8, 0, 0, 0, 0, 0, 0, 97] = none := Option.isNone_iff_eq_none.1 (by decide +kernel)
theorem no8_get : getH [31, 139, 8, 2, 0, 0, 0, 0, 0, 0, 97] = none := Option.isNone_iff_eq_none.1 (by decide +kernel)
theorem no9_get : getH [31, 139, 8, 128, 0, 0, 0, 0, 0, 0] = none := Option.isNone_iff_eq_none.1 (by decide +kernel)
theorem tail_nil_ne : decide (([] : List Nat) = tailL []) = false := by decide +kernel
theorem tail_nil_eq : decide (List.replicate 8 0 = tailL []) = true := by decide +kernel
theorem conv_bytes (w : World) (s : ByteArray) (l : List Nat) (n : Nat) (hl : sb s = l) (hn : s.size = n) : ∃ w' c, (convert 9 23 (.string s)).run Try.prog w = .ok (.slice (some ⟨w.heap.size, 0, none⟩) n c) w' ∧ ViewL w' (.slice (some ⟨w.heap.size, 0, none⟩) n c) (u8s l) ∧ Ext w w' := by
  subst hn
  subst hl
  refine ⟨Lib.bytesWorld w 5 s, grownCap w s.size 0 5, Lib.run_convert_string_bytes w _ _ 5 s Try.underlying9 Try.underlying23 Try.underlying5, ?_, ?_⟩
  · have hs : (u8s (sb s)).length = s.size := by rw [length_u8s, length_sb]
    refine ⟨some ⟨w.heap.size, 0, none⟩, grownCap w s.size 0 5, by rw [hs], by rw [hs]; exact grownCap_ge _ _ _ _, (fun e => by cases e), fun _ => ⟨_, _, rfl, fun j u hj => ?_⟩⟩
    have hjl := (List.getElem?_eq_some_iff.1 hj).1
    rw [hs] at hjl
    rw [Nat.zero_add, Lib.bytesWorld_cell w 5 s j hjl, ← hj]
    simp [u8s, sb, List.getD, hjl]
  · exact ⟨rfl, rfl, rfl, by rw [Lib.bytesWorld_size]; omega, fun k hk _ => Lib.bytesWorld_at_old w _ s k hk⟩
def hdB : Hd := { text := false, time := 0, xfl := 0, os := 255, extra := [], name := ⟨#[]⟩, comment := ⟨#[]⟩, has := 0, sum := false }
def hdC : Hd := { text := true, time := 16909060, xfl := 5, os := 6, extra := [120, 121], name := ⟨#[110]⟩, comment := ⟨#[99, 99]⟩, has := 7, sum := true }
def hdD : Hd := { text := false, time := 0, xfl := 0, os := 1, extra := [], name := ⟨#[]⟩, comment := ⟨#[]⟩, has := 7, sum := false }
theorem hdB_ok : HOk hdB := ⟨by decide, by decide, by decide, by decide, by simp [hdB]⟩
theorem hdC_ok : HOk hdC := ⟨by decide, by decide, by decide, by decide, by simp [hdC]⟩
theorem hdD_ok : HOk hdD := ⟨by decide, by decide, by decide, by decide, by simp [hdD]⟩
theorem hdB_may : MayH hdB := by decide +kernel
theorem hdC_may : MayH hdC := by decide +kernel
theorem hdD_may : MayH hdD := by decide +kernel
theorem hdB_put : putH hdB = [31, 139, 8, 0, 0, 0, 0, 0, 0, 255] := by decide +kernel
theorem hdD_put : putH hdD = [31, 139, 8, 28, 0, 0, 0, 0, 0, 1, 0, 0, 0, 0] := by decide +kernel
theorem hdC_put : ∃ x y, putH hdC = [31, 139, 8, 31, 4, 3, 2, 1, 5, 6, 2, 0, 120, 121, 110, 0, 99, 99, 0, x, y] := by
  refine ⟨(putH hdC).getD 19 0, (putH hdC).getD 20 0, ?_⟩
  decide +kernel
set_option maxHeartbeats 8000000 in
set_option maxRecDepth 100000 in
theorem frm_law_known (w : World) : Calls Try.prog 9 #[] w fun e w' => e = .returned (.bool true) ∧ Ext w w' := by
  have HPB := Lib.hid (show ∀ wx, Calls Try.prog 11 #[.agg #[.bool false, .int .u32 0, .int .u8 0, .int .u8 255, .slice none 0 0, .string ⟨#[]⟩, .string ⟨#[]⟩, .int .u8 0, .bool false]] wx fun e w' => ∃ v, e = .returned (.tuple #[v, .int .i64 0]) ∧ CloneOf wx [31, 139, 8, 0, 0, 0, 0, 0, 0, 255] (.returned v) w' from fun wx => by
    have h := frm_put hdB none 0 wx hdB_ok (viewL_nil8 wx) (by decide)
    simp only [if_pos hdB_may, hdB_put] at h
    exact h)
  have HPD := Lib.hid (show ∀ wx, Calls Try.prog 11 #[.agg #[.bool false, .int .u32 0, .int .u8 0, .int .u8 1, .slice none 0 0, .string ⟨#[]⟩, .string ⟨#[]⟩, .int .u8 7, .bool false]] wx fun e w' => ∃ v, e = .returned (.tuple #[v, .int .i64 0]) ∧ CloneOf wx [31, 139, 8, 28, 0, 0, 0, 0, 0, 1, 0, 0, 0, 0] (.returned v) w' from fun wx => by
    have h := frm_put hdD none 0 wx hdD_ok (viewL_nil8 wx) (by decide)
    simp only [if_pos hdD_may, hdD_put] at h
    exact h)
  obtain ⟨x, y, hC⟩ := hdC_put
  have HPC := Lib.hid (show ∀ g wx, ViewL wx (.slice (some ⟨g, 0, none⟩) 2 2) (u8s [120, 121]) → Calls Try.prog 11 #[.agg #[.bool true, .int .u32 16909060, .int .u8 5, .int .u8 6, .slice (some ⟨g, 0, none⟩) 2 2, .string ⟨#[110]⟩, .string ⟨#[99, 99]⟩, .int .u8 7, .bool true]] wx fun e w' => ∃ v, e = .returned (.tuple #[v, .int .i64 0]) ∧ CloneOf wx [31, 139, 8, 31, 4, 3, 2, 1, 5, 6, 2, 0, 120, 121, 110, 0, 99, 99, 0, x, y] (.returned v) w' from fun g wx hvx => by
    have h := frm_put hdC (some ⟨g, 0, none⟩) 2 wx hdC_ok hvx (by decide)
    simp only [if_pos hdC_may, hC] at h
    exact h)
  clear hC
  go_enter Try.func9, Try.ntmps9
  go_wp2_with fail
  refine (HPB.out _).mono ?_
  rintro e w1 ⟨v1, rfl, hc1⟩
  have HX1 := Lib.hid (ext_of hc1)
  have HV1 := Lib.hid (CloneOf.viewL hc1)
  clear hc1 HPB
  have kc := Go.Lib.run_convert_bytes_const (P := Try.prog) w1 23 5 #[.int .u8 120, .int .u8 121] 2 2 Try.underlying23 Try.underlying5
  go_wp2_with fail
  have hvx := (view_new w1 [120, 121] 5 (2, 3)).viewL (fun a n c e => by cases e; exact Nat.le_refl _)
  refine (HPC.out _ _ (hvx.ext ((Ext.refl _).alloc _))).mono ?_
  rintro e w2 ⟨v2, rfl, hc2⟩
  have hx12 : Ext w1 w2 := (((Ext.refl w1).alloc _).alloc _).trans (ext_of hc2)
  have HX2 := Lib.hid (HX1.out.trans hx12)
  have HV2 := Lib.hid (CloneOf.viewL hc2)
  have HV1 := Lib.hid (HV1.out.ext hx12)
  clear hc2 kc hvx hx12 HPC
  go_wp2_with fail
  refine (HPD.out _).mono ?_
  rintro e w3 ⟨v3, rfl, hc3⟩
  have HX3 := Lib.hid (HX2.out.trans (ext_of hc3))
  have HV3 := Lib.hid (CloneOf.viewL hc3)
  have HV2 := Lib.hid (HV2.out.ext (ext_of hc3))
  have HV1 := Lib.hid (HV1.out.ext (ext_of hc3))
  clear hc3 HPD
  obtain ⟨ao, ac, e1⟩ := HV1.out.shape
  obtain ⟨bo, bc, e2⟩ := HV2.out.shape
  obtain ⟨co, cc, e3⟩ := HV3.out.shape
  simp only [length_u8s, List.length_cons, List.length_nil, Nat.reduceAdd] at e1 e2 e3
  subst e1; subst e2; subst e3
  obtain ⟨gb, go, rfl, hbc, _⟩ := viewL_cells HV2.out (by simp [u8s])
  simp only [length_u8s, List.length_cons, List.length_nil, Nat.reduceAdd] at hbc
  have HBM := Lib.hid (show ViewL w3 (.slice (some ⟨gb, go, none⟩) 20 bc) (u8s [31, 139, 8, 31, 4, 3, 2, 1, 5, 6, 2, 0, 120, 121, 110, 0, 99, 99, 0, x]) from HV2.out.front 20 (by decide))
  have HBX := Lib.hid (show ViewL w3 (.slice (some ⟨gb, go + 19, none⟩) 1 (bc - 19)) (u8s [x]) from (show ViewL w3 (.slice (some ⟨gb, go, none⟩) (u8s [31, 139, 8, 31, 4, 3, 2, 1, 5, 6, 2, 0, 120, 121, 110, 0, 99, 99, 0, x, y]).length bc) (u8s [31, 139, 8, 31, 4, 3, 2, 1, 5, 6, 2, 0, 120, 121, 110, 0, 99, 99, 0, x, y]) from HV2.out).piece 19 1 (by simp [u8s]) (by omega))
  have HST := Lib.hid (show (⟨#[31, 139, 8, 31, 4, 3, 2, 1, 5, 6, 2, 0, 120, 121, 110, 0, 99, 99, 0]⟩ : ByteArray) ++ strOf [x] = strOf [31, 139, 8, 31, 4, 3, 2, 1, 5, 6, 2, 0, 120, 121, 110, 0, 99, 99, 0, x] from (strOf_append2 [31, 139, 8, 31, 4, 3, 2, 1, 5, 6, 2, 0, 120, 121, 110, 0, 99, 99, 0] [x]).symm)
  have b1 : (20 : Int) ≤ (bc : Int) := by omega
  have b2 : (19 : Int) ≤ (bc : Int) := by omega
  have b3 : ¬ bc = 19 := by omega
  go_wp2_with fail
  have hst : Stab (Phi [(2, .int .i64 0), (1, .slice ao 10 ac), (5, .int .i64 0), (4, .slice (some ⟨gb, go, none⟩) 21 bc), (7, .int .i64 0), (6, .slice co 14 cc), (38, .int .i64 0), (39, .bool false), (40, .bool false), (41, .slice ao 10 ac), (42, .string (strOf [31, 139, 8, 0, 0, 0, 0, 0, 0, 255])), (43, .bool false), (44, .bool false), (45, .bool false), (46, .int .i64 0), (47, .bool false), (48, .bool false), (49, .bool false), (50, .slice (some ⟨gb, go, none⟩) 21 bc), (51, .slice (some ⟨gb, go, none⟩) 20 bc), (52, .string (strOf [31, 139, 8, 31, 4, 3, 2, 1, 5, 6, 2, 0, 120, 121, 110, 0, 99, 99, 0, x])), (53, .slice (some ⟨gb, go, none⟩) 21 bc), (54, .slice (some ⟨gb, go + 19, none⟩) 1 (bc - 19)), (55, .string (strOf [x])), (56, .string (strOf [31, 139, 8, 31, 4, 3, 2, 1, 5, 6, 2, 0, 120, 121, 110, 0, 99, 99, 0, x])), (57, .bool false), (58, .bool false), (59, .bool false), (60, .slice (some ⟨gb, go, none⟩) 21 bc), (61, .int .i64 21), (62, .bool false), (63, .bool false), (64, .bool false), (65, .int .i64 0), (66, .bool false), (67, .bool false), (68, .bool false), (69, .slice co 14 cc), (70, .string (strOf [31, 139, 8, 28, 0, 0, 0, 0, 0, 1, 0, 0, 0, 0])), (71, .bool false), (72, .bool false)] []) := Phi.stable (fun x hx => by cases hx)
  refine wp_region_grow_on 156 [2, 1, 5, 4, 7, 6] [38, 39, 40, 41, 42, 43, 44, 45, 46, 47, 48, 49, 50, 51, 52, 53, 54, 55, 56, 57, 58, 59, 60, 61, 62, 63, 64, 65, 66, 67, 68, 69, 70, 71, 72] (by kernel_rfl) _ hst (by kernel_rfl) rfl rfl (fun _ => ⟨rfl, rfl, rfl, rfl, rfl, rfl, trivial⟩) ⟨?_, ?_, ?_, ?_, ?_, ?_, ?_, ?_, ?_, ?_, ?_, ?_, ?_, ?_, ?_, ?_, ?_, ?_, ?_, ?_, ?_, ?_, ?_, ?_, ?_, ?_, ?_, ?_, ?_, ?_, ?_, ?_, ?_, ?_, ?_, trivial⟩ ?fin
  · refine Obl.val (.int .i64 0) (fun ev w1 hc hf hg hev => ?_) (fun d hd w1 => by cases hd; rfl)
    have h0 : ev (.tmp 2) = .int .i64 0 := hev.1
    exact ⟨rfl, by (clear hev; go_simp)⟩
  · refine Obl.val (.bool false) (fun ev w1 hc hf hg hev => ?_) (fun d hd w1 => by cases hd; rfl)
    have h0 : ev (.tmp 38) = .int .i64 0 := hev.1
    exact ⟨rfl, by (clear hev; go_simp)⟩
  · refine Obl.val (.bool false) (fun ev w1 hc hf hg hev => ?_) (fun d hd w1 => by cases hd; rfl)
    have h0 : ev (.tmp 39) = .bool false := hev.1
    exact ⟨rfl, by (clear hev; go_simp)⟩
  · refine Obl.val (.slice ao 10 ac) (fun ev w1 hc hf hg hev => ?_) (fun d hd w1 => by cases hd; rfl)
    have h0 : ev (.tmp 40) = .bool false := hev.1; have h1 : ev (.tmp 1) = .slice ao 10 ac := hev.2.1
    exact ⟨wanted_of rfl rfl h0, by (clear hev; go_simp)⟩
  · refine Obl.some (fun ev w1 hI hc hf hg hev => ?_)
    have h0 : ev (.tmp 40) = .bool false := hev.1; have h1 : ev (.tmp 41) = .slice ao 10 ac := hev.2.1
    clear hev
    have hs := run_string_view (P := Try.prog) 23 9 5 (viewL_view8 (HV1.out.ext hI)) Try.underlying23 Try.underlying5 Try.underlying9
    exact ⟨wanted_of rfl rfl h0, .string (strOf [31, 139, 8, 0, 0, 0, 0, 0, 0, 255]), by go_simp, fun d hd => by cases hd; rfl⟩
  · refine Obl.val (.bool false) (fun ev w1 hc hf hg hev => ?_) (fun d hd w1 => by cases hd; rfl)
    have h0 : ev (.tmp 40) = .bool false := hev.1; have h1 : ev (.tmp 42) = .string (strOf [31, 139, 8, 0, 0, 0, 0, 0, 0, 255]) := hev.2.1
    clear hev
    have hq : ((strOf [31, 139, 8, 0, 0, 0, 0, 0, 0, 255]).toList == [31, 139, 8, 0, 0, 0, 0, 0, 0, 255]) = true := by rw [strOf_toList]; decide
    exact ⟨wanted_of rfl rfl h0, by go_simp⟩
  · refine Obl.val (.bool false) (fun ev w1 hc hf hg hev => ?_) (fun d hd w1 => by cases hd; rfl)
    have h0 : ev (.tmp 40) = .bool false := hev.1; have h1 : ev (.tmp 43) = .bool false := hev.2.1
    exact ⟨rfl, by (clear hev; go_simp)⟩
  · refine Obl.val (.bool false) (fun ev w1 hc hf hg hev => ?_) (fun d hd w1 => by cases hd; rfl)
    have h0 : ev (.tmp 44) = .bool false := hev.1
    exact ⟨rfl, by (clear hev; go_simp)⟩
  · refine Obl.val (.int .i64 0) (fun ev w1 hc hf hg hev => ?_) (fun d hd w1 => by cases hd; rfl)
    have h0 : ev (.tmp 45) = .bool false := hev.1; have h1 : ev (.tmp 5) = .int .i64 0 := hev.2.1
    exact ⟨wanted_of rfl rfl h0, by (clear hev; go_simp)⟩
  · refine Obl.val (.bool false) (fun ev w1 hc hf hg hev => ?_) (fun d hd w1 => by cases hd; rfl)
    have h0 : ev (.tmp 45) = .bool false := hev.1; have h1 : ev (.tmp 46) = .int .i64 0 := hev.2.1
    exact ⟨wanted_of rfl rfl h0, by (clear hev; go_simp)⟩
  · refine Obl.val (.bool false) (fun ev w1 hc hf hg hev => ?_) (fun d hd w1 => by cases hd; rfl)
    have h0 : ev (.tmp 45) = .bool false := hev.1; have h1 : ev (.tmp 47) = .bool false := hev.2.1
    exact ⟨rfl, by (clear hev; go_simp)⟩
  · refine Obl.val (.bool false) (fun ev w1 hc hf hg hev => ?_) (fun d hd w1 => by cases hd; rfl)
    have h0 : ev (.tmp 48) = .bool false := hev.1
    exact ⟨rfl, by (clear hev; go_simp)⟩
  · refine Obl.val (.slice (some ⟨gb, go, none⟩) 21 bc) (fun ev w1 hc hf hg hev => ?_) (fun d hd w1 => by cases hd; rfl)
    have h0 : ev (.tmp 49) = .bool false := hev.1; have h1 : ev (.tmp 4) = .slice (some ⟨gb, go, none⟩) 21 bc := hev.2.1
    exact ⟨wanted_of rfl rfl h0, by (clear hev; go_simp)⟩
  · refine Obl.val (.slice (some ⟨gb, go, none⟩) 20 bc) (fun ev w1 hc hf hg hev => ?_) (fun d hd w1 => by cases hd; rfl)
    have h0 : ev (.tmp 49) = .bool false := hev.1; have h1 : ev (.tmp 50) = .slice (some ⟨gb, go, none⟩) 21 bc := hev.2.1
    exact ⟨wanted_of rfl rfl h0, by (clear hev; go_simp)⟩
  · refine Obl.some (fun ev w1 hI hc hf hg hev => ?_)
    have h0 : ev (.tmp 49) = .bool false := hev.1; have h1 : ev (.tmp 51) = .slice (some ⟨gb, go, none⟩) 20 bc := hev.2.1
    clear hev
    have hs := run_string_view (P := Try.prog) 23 9 5 (viewL_view8 (HBM.out.ext hI)) Try.underlying23 Try.underlying5 Try.underlying9
    exact ⟨wanted_of rfl rfl h0, .string (strOf [31, 139, 8, 31, 4, 3, 2, 1, 5, 6, 2, 0, 120, 121, 110, 0, 99, 99, 0, x]), by go_simp, fun d hd => by cases hd; rfl⟩
  · refine Obl.val (.slice (some ⟨gb, go, none⟩) 21 bc) (fun ev w1 hc hf hg hev => ?_) (fun d hd w1 => by cases hd; rfl)
    have h0 : ev (.tmp 49) = .bool false := hev.1; have h1 : ev (.tmp 4) = .slice (some ⟨gb, go, none⟩) 21 bc := hev.2.1
    exact ⟨wanted_of rfl rfl h0, by (clear hev; go_simp)⟩
  · refine Obl.val (.slice (some ⟨gb, go + 19, none⟩) 1 (bc - 19)) (fun ev w1 hc hf hg hev => ?_) (fun d hd w1 => by cases hd; rfl)
    have h0 : ev (.tmp 49) = .bool false := hev.1; have h1 : ev (.tmp 53) = .slice (some ⟨gb, go, none⟩) 21 bc := hev.2.1
    exact ⟨wanted_of rfl rfl h0, by (clear hev; go_simp)⟩
  · refine Obl.some (fun ev w1 hI hc hf hg hev => ?_)
    have h0 : ev (.tmp 49) = .bool false := hev.1; have h1 : ev (.tmp 54) = .slice (some ⟨gb, go + 19, none⟩) 1 (bc - 19) := hev.2.1
    clear hev
    have hs := run_string_view (P := Try.prog) 23 9 5 (viewL_view8 (HBX.out.ext hI)) Try.underlying23 Try.underlying5 Try.underlying9
    exact ⟨wanted_of rfl rfl h0, .string (strOf [x]), by go_simp, fun d hd => by cases hd; rfl⟩
  · refine Obl.some (fun ev w1 hI hc hf hg hev => ?_)
    have h0 : ev (.tmp 49) = .bool false := hev.1; have h1 : ev (.tmp 55) = .string (strOf [x]) := hev.2.1
    clear hev
    have hsz : (strOf [x]).size = 1 := by simp [strOf, ByteArray.size]
    exact ⟨wanted_of rfl rfl h0, .string ((⟨#[31, 139, 8, 31, 4, 3, 2, 1, 5, 6, 2, 0, 120, 121, 110, 0, 99, 99, 0]⟩ : ByteArray) ++ strOf [x]), by go_simp, fun d hd => by cases hd; exact congrArg Value.string HST.out⟩
  · refine Obl.val (.bool false) (fun ev w1 hc hf hg hev => ?_) (fun d hd w1 => by cases hd; rfl)
    have h0 : ev (.tmp 49) = .bool false := hev.1; have h1 : ev (.tmp 52) = .string (strOf [31, 139, 8, 31, 4, 3, 2, 1, 5, 6, 2, 0, 120, 121, 110, 0, 99, 99, 0, x]) := hev.2.1; have h2 : ev (.tmp 56) = .string (strOf [31, 139, 8, 31, 4, 3, 2, 1, 5, 6, 2, 0, 120, 121, 110, 0, 99, 99, 0, x]) := hev.2.2.1
    clear hev
    have hq : ((strOf [31, 139, 8, 31, 4, 3, 2, 1, 5, 6, 2, 0, 120, 121, 110, 0, 99, 99, 0, x]).toList == (strOf [31, 139, 8, 31, 4, 3, 2, 1, 5, 6, 2, 0, 120, 121, 110, 0, 99, 99, 0, x]).toList) = true := by simp
    exact ⟨wanted_of rfl rfl h0, by go_simp⟩
  · refine Obl.val (.bool false) (fun ev w1 hc hf hg hev => ?_) (fun d hd w1 => by cases hd; rfl)
    have h0 : ev (.tmp 49) = .bool false := hev.1; have h1 : ev (.tmp 57) = .bool false := hev.2.1
    exact ⟨rfl, by (clear hev; go_simp)⟩
  · refine Obl.val (.bool false) (fun ev w1 hc hf hg hev => ?_) (fun d hd w1 => by cases hd; rfl)
    have h0 : ev (.tmp 58) = .bool false := hev.1
    exact ⟨rfl, by (clear hev; go_simp)⟩
  · refine Obl.val (.slice (some ⟨gb, go, none⟩) 21 bc) (fun ev w1 hc hf hg hev => ?_) (fun d hd w1 => by cases hd; rfl)
    have h0 : ev (.tmp 59) = .bool false := hev.1; have h1 : ev (.tmp 4) = .slice (some ⟨gb, go, none⟩) 21 bc := hev.2.1
    exact ⟨wanted_of rfl rfl h0, by (clear hev; go_simp)⟩
  · refine Obl.val (.int .i64 21) (fun ev w1 hc hf hg hev => ?_) (fun d hd w1 => by cases hd; rfl)
    have h0 : ev (.tmp 59) = .bool false := hev.1; have h1 : ev (.tmp 60) = .slice (some ⟨gb, go, none⟩) 21 bc := hev.2.1
    exact ⟨wanted_of rfl rfl h0, by (clear hev; go_simp)⟩
  · refine Obl.val (.bool false) (fun ev w1 hc hf hg hev => ?_) (fun d hd w1 => by cases hd; rfl)
    have h0 : ev (.tmp 59) = .bool false := hev.1; have h1 : ev (.tmp 61) = .int .i64 21 := hev.2.1
    exact ⟨wanted_of rfl rfl h0, by (clear hev; go_simp)⟩
  · refine Obl.val (.bool false) (fun ev w1 hc hf hg hev => ?_) (fun d hd w1 => by cases hd; rfl)
    have h0 : ev (.tmp 59) = .bool false := hev.1; have h1 : ev (.tmp 62) = .bool false := hev.2.1
    exact ⟨rfl, by (clear hev; go_simp)⟩
  · refine Obl.val (.bool false) (fun ev w1 hc hf hg hev => ?_) (fun d hd w1 => by cases hd; rfl)
    have h0 : ev (.tmp 63) = .bool false := hev.1
    exact ⟨rfl, by (clear hev; go_simp)⟩
  · refine Obl.val (.int .i64 0) (fun ev w1 hc hf hg hev => ?_) (fun d hd w1 => by cases hd; rfl)
    have h0 : ev (.tmp 64) = .bool false := hev.1; have h1 : ev (.tmp 7) = .int .i64 0 := hev.2.1
    exact ⟨wanted_of rfl rfl h0, by (clear hev; go_simp)⟩
  · refine Obl.val (.bool false) (fun ev w1 hc hf hg hev => ?_) (fun d hd w1 => by cases hd; rfl)
    have h0 : ev (.tmp 64) = .bool false := hev.1; have h1 : ev (.tmp 65) = .int .i64 0 := hev.2.1
    exact ⟨wanted_of rfl rfl h0, by (clear hev; go_simp)⟩
  · refine Obl.val (.bool false) (fun ev w1 hc hf hg hev => ?_) (fun d hd w1 => by cases hd; rfl)
    have h0 : ev (.tmp 64) = .bool false := hev.1; have h1 : ev (.tmp 66) = .bool false := hev.2.1
    exact ⟨rfl, by (clear hev; go_simp)⟩
  · refine Obl.val (.bool false) (fun ev w1 hc hf hg hev => ?_) (fun d hd w1 => by cases hd; rfl)
    have h0 : ev (.tmp 67) = .bool false := hev.1
    exact ⟨rfl, by (clear hev; go_simp)⟩
  · refine Obl.val (.slice co 14 cc) (fun ev w1 hc hf hg hev => ?_) (fun d hd w1 => by cases hd; rfl)
    have h0 : ev (.tmp 68) = .bool false := hev.1; have h1 : ev (.tmp 6) = .slice co 14 cc := hev.2.1
    exact ⟨wanted_of rfl rfl h0, by (clear hev; go_simp)⟩
  · refine Obl.some (fun ev w1 hI hc hf hg hev => ?_)
    have h0 : ev (.tmp 68) = .bool false := hev.1; have h1 : ev (.tmp 69) = .slice co 14 cc := hev.2.1
    clear hev
    have hs := run_string_view (P := Try.prog) 23 9 5 (viewL_view8 (HV3.out.ext hI)) Try.underlying23 Try.underlying5 Try.underlying9
    exact ⟨wanted_of rfl rfl h0, .string (strOf [31, 139, 8, 28, 0, 0, 0, 0, 0, 1, 0, 0, 0, 0]), by go_simp, fun d hd => by cases hd; rfl⟩
  · refine Obl.val (.bool false) (fun ev w1 hc hf hg hev => ?_) (fun d hd w1 => by cases hd; rfl)
    have h0 : ev (.tmp 68) = .bool false := hev.1; have h1 : ev (.tmp 70) = .string (strOf [31, 139, 8, 28, 0, 0, 0, 0, 0, 1, 0, 0, 0, 0]) := hev.2.1
    clear hev
    have hq : ((strOf [31, 139, 8, 28, 0, 0, 0, 0, 0, 1, 0, 0, 0, 0]).toList == [31, 139, 8, 28, 0, 0, 0, 0, 0, 1, 0, 0, 0, 0]) = true := by rw [strOf_toList]; decide
    exact ⟨wanted_of rfl rfl h0, by go_simp⟩
  · refine Obl.val (.bool false) (fun ev w1 hc hf hg hev => ?_) (fun d hd w1 => by cases hd; rfl)
    have h0 : ev (.tmp 68) = .bool false := hev.1; have h1 : ev (.tmp 71) = .bool false := hev.2.1
    exact ⟨rfl, by (clear hev; go_simp)⟩
  case fin =>
    intro vs w5 he5 hf
    have e38 : vs 38 = .int .i64 0 := hf 38 (by decide)
    have e39 : vs 39 = .bool false := hf 39 (by decide)
    have e40 : vs 40 = .bool false := hf 40 (by decide)
    have e41 : vs 41 = .slice ao 10 ac := hf 41 (by decide)
    have e42 : vs 42 = .string (strOf [31, 139, 8, 0, 0, 0, 0, 0, 0, 255]) := hf 42 (by decide)
    have e43 : vs 43 = .bool false := hf 43 (by decide)
    have e44 : vs 44 = .bool false := hf 44 (by decide)
    have e45 : vs 45 = .bool false := hf 45 (by decide)
    have e46 : vs 46 = .int .i64 0 := hf 46 (by decide)
    have e47 : vs 47 = .bool false := hf 47 (by decide)
    have e48 : vs 48 = .bool false := hf 48 (by decide)
    have e49 : vs 49 = .bool false := hf 49 (by decide)
    have e50 : vs 50 = .slice (some ⟨gb, go, none⟩) 21 bc := hf 50 (by decide)
    have e51 : vs 51 = .slice (some ⟨gb, go, none⟩) 20 bc := hf 51 (by decide)
    have e52 : vs 52 = .string (strOf [31, 139, 8, 31, 4, 3, 2, 1, 5, 6, 2, 0, 120, 121, 110, 0, 99, 99, 0, x]) := hf 52 (by decide)
    have e53 : vs 53 = .slice (some ⟨gb, go, none⟩) 21 bc := hf 53 (by decide)
    have e54 : vs 54 = .slice (some ⟨gb, go + 19, none⟩) 1 (bc - 19) := hf 54 (by decide)
    have e55 : vs 55 = .string (strOf [x]) := hf 55 (by decide)
    have e56 : vs 56 = .string (strOf [31, 139, 8, 31, 4, 3, 2, 1, 5, 6, 2, 0, 120, 121, 110, 0, 99, 99, 0, x]) := hf 56 (by decide)
    have e57 : vs 57 = .bool false := hf 57 (by decide)
    have e58 : vs 58 = .bool false := hf 58 (by decide)
    have e59 : vs 59 = .bool false := hf 59 (by decide)
    have e60 : vs 60 = .slice (some ⟨gb, go, none⟩) 21 bc := hf 60 (by decide)
    have e61 : vs 61 = .int .i64 21 := hf 61 (by decide)
    have e62 : vs 62 = .bool false := hf 62 (by decide)
    have e63 : vs 63 = .bool false := hf 63 (by decide)
    have e64 : vs 64 = .bool false := hf 64 (by decide)
    have e65 : vs 65 = .int .i64 0 := hf 65 (by decide)
    have e66 : vs 66 = .bool false := hf 66 (by decide)
    have e67 : vs 67 = .bool false := hf 67 (by decide)
    have e68 : vs 68 = .bool false := hf 68 (by decide)
    have e69 : vs 69 = .slice co 14 cc := hf 69 (by decide)
    have e70 : vs 70 = .string (strOf [31, 139, 8, 28, 0, 0, 0, 0, 0, 1, 0, 0, 0, 0]) := hf 70 (by decide)
    have e71 : vs 71 = .bool false := hf 71 (by decide)
    have e72 : vs 72 = .bool false := hf 72 (by decide)
    simp only [List.foldl_cons, List.foldl_nil]
    rw [e38, e39, e40, e41, e42, e43, e44, e45, e46, e47, e48, e49, e50, e51, e52, e53, e54, e55, e56, e57, e58, e59, e60, e61, e62, e63, e64, e65, e66, e67, e68, e69, e70, e71, e72]
    simp only [Act.put, List.setIfInBounds_toArray, List.set_cons_succ, List.set_cons_zero]
    clear hf e38 e39 e40 e41 e42 e43 e44 e45 e46 e47 e48 e49 e50 e51 e52 e53 e54 e55 e56 e57 e58 e59 e60 e61 e62 e63 e64 e65 e66 e67 e68 e69 e70 e71 e72
    have HX := Lib.hid (HX3.out.trans he5)
    clear HX1 HX2 HX3 HV1 HV2 HV3 HBM HBX HST he5 b1 b2 b3
    have kc := Go.Lib.run_convert_bytes_const (P := Try.prog) w5 23 5 #[.int .u8 120] 1 1 Try.underlying23 Try.underlying5
    obtain ⟨w6, hmk, hvm, hx6⟩ := make_b (w5.alloc (.cells #[.int .u8 120] 5 (1, 2))) 65536 65536 rfl (by decide)
    rw [World.size_alloc] at hmk hvm
    have HVM := Lib.hid hvm
    have HX56 := Lib.hid (((Ext.refl w5).alloc _).trans hx6)
    have HVX := Lib.hid (((view_new w5 [120] 5 (1, 2)).viewL (fun a n c e => by cases e; exact Nat.le_refl _)).ext hx6)
    clear hvm hx6
    go_wp2_with fail
    obtain ⟨w7, hw7⟩ : ∃ w7, w7 = w6.alloc (.cells #[.bool false, .int .u32 0, .int .u8 0, .int .u8 0, .slice none 0 0, .string ⟨#[]⟩, .string ⟨#[]⟩, .int .u8 8, .bool false, .bool false, .int .u32 0, .int .u8 0, .int .u8 0, .slice (some ⟨w5.heap.size, 0, none⟩) 1 1, .string ⟨#[]⟩, .string ⟨#[]⟩, .int .u8 0, .bool false, .bool false, .int .u32 0, .int .u8 0, .int .u8 0, .slice none 0 0, .string ⟨#[120]⟩, .string ⟨#[]⟩, .int .u8 0, .bool false, .bool false, .int .u32 0, .int .u8 0, .int .u8 0, .slice none 0 0, .string ⟨#[]⟩, .string ⟨#[120]⟩, .int .u8 0, .bool false, .bool false, .int .u32 0, .int .u8 0, .int .u8 0, .slice none 0 0, .string ⟨#[97, 0]⟩, .string ⟨#[]⟩, .int .u8 2, .bool false, .bool false, .int .u32 0, .int .u8 0, .int .u8 0, .slice none 0 0, .string ⟨#[]⟩, .string ⟨#[0]⟩, .int .u8 4, .bool false, .bool false, .int .u32 0, .int .u8 0, .int .u8 0, .slice (some ⟨w5.heap.size + 1, 0, none⟩) 65536 65536, .string ⟨#[]⟩, .string ⟨#[]⟩, .int .u8 1, .bool false] 25) := ⟨_, rfl⟩
    rw [← hw7]
    have hsb := heap_alloc_new w6 (.cells #[.bool false, .int .u32 0, .int .u8 0, .int .u8 0, .slice none 0 0, .string ⟨#[]⟩, .string ⟨#[]⟩, .int .u8 8, .bool false, .bool false, .int .u32 0, .int .u8 0, .int .u8 0, .slice (some ⟨w5.heap.size, 0, none⟩) 1 1, .string ⟨#[]⟩, .string ⟨#[]⟩, .int .u8 0, .bool false, .bool false, .int .u32 0, .int .u8 0, .int .u8 0, .slice none 0 0, .string ⟨#[120]⟩, .string ⟨#[]⟩, .int .u8 0, .bool false, .bool false, .int .u32 0, .int .u8 0, .int .u8 0, .slice none 0 0, .string ⟨#[]⟩, .string ⟨#[120]⟩, .int .u8 0, .bool false, .bool false, .int .u32 0, .int .u8 0, .int .u8 0, .slice none 0 0, .string ⟨#[97, 0]⟩, .string ⟨#[]⟩, .int .u8 2, .bool false, .bool false, .int .u32 0, .int .u8 0, .int .u8 0, .slice none 0 0, .string ⟨#[]⟩, .string ⟨#[0]⟩, .int .u8 4, .bool false, .bool false, .int .u32 0, .int .u8 0, .int .u8 0, .slice (some ⟨w5.heap.size + 1, 0, none⟩) 65536 65536, .string ⟨#[]⟩, .string ⟨#[]⟩, .int .u8 1, .bool false] 25)
    rw [← hw7] at hsb
    have hx7 : Ext w6 w7 := by rw [hw7]; exact (Ext.refl _).alloc _
    generalize w6.heap.size = SB at *
    have HSB := Lib.hid hsb
    have HX7 := Lib.hid (HX.out.trans (HX56.out.trans hx7))
    have HVM := Lib.hid (HVM.out.ext hx7)
    have HVX := Lib.hid (HVX.out.ext hx7)
    clear hw7 hsb hx7 kc hmk HX56
    go_loopw [9] (fun kv wr => ∃ k : Nat, kv = .int .i64 k ∧ k ≤ 7 ∧ Ext w7 wr) (fun kv _ => 7 - (intOf kv).toNat)
    case atStart => exact ⟨0, rfl, by decide, Ext.refl _⟩
    case round =>
      obtain ⟨k, rfl, hk, hxr⟩ := hrel
      have hsb := Touch.keep hxr HSB.out (fun f => f)
      have HXR := Lib.hid hxr
      clear hxr
      by_cases k0 : k = 0
      · subst k0
        have c0 : wr.cell? ⟨SB, 0, none⟩ = some (.bool false) := cell_of_row wr SB 0 _ _ _ hsb
        have c1 : wr.cell? ⟨SB, 1, none⟩ = some (.int .u32 0) := cell_of_row wr SB 1 _ _ _ hsb
        have c2 : wr.cell? ⟨SB, 2, none⟩ = some (.int .u8 0) := cell_of_row wr SB 2 _ _ _ hsb
        have c3 : wr.cell? ⟨SB, 3, none⟩ = some (.int .u8 0) := cell_of_row wr SB 3 _ _ _ hsb
        have c4 : wr.cell? ⟨SB, 4, none⟩ = some (.slice none 0 0) := cell_of_row wr SB 4 _ _ _ hsb
        have c5 : wr.cell? ⟨SB, 5, none⟩ = some (.string ⟨#[]⟩) := cell_of_row wr SB 5 _ _ _ hsb
        have c6 : wr.cell? ⟨SB, 6, none⟩ = some (.string ⟨#[]⟩) := cell_of_row wr SB 6 _ _ _ hsb
        have c7 : wr.cell? ⟨SB, 7, none⟩ = some (.int .u8 8) := cell_of_row wr SB 7 _ _ _ hsb
        have c8 : wr.cell? ⟨SB, 8, none⟩ = some (.bool false) := cell_of_row wr SB 8 _ _ _ hsb
        have HPUT := Lib.hid (frm_put bad0 none 0 wr bad0_ok (viewL_nil8 wr) bad0_small)
        simp only [if_neg bad0_not] at HPUT
        have HPUT := Lib.hid (show Calls Try.prog 11 #[.agg #[.bool false, .int .u32 0, .int .u8 0, .int .u8 0, .slice none 0 0, .string ⟨#[]⟩, .string ⟨#[]⟩, .int .u8 8, .bool false]] wr _ from HPUT.out)
        clear hsb
        go_wp2_with fail
        refine HPUT.out.mono ?_
        rintro e wz ⟨rfl, hxz⟩
        have HXZ := Lib.hid (HXR.out.trans hxz)
        clear hxz c0 c1 c2 c3 c4 c5 c6 c7 c8
        go_wp2_with fail
        go_roundw
        case rel => exact ⟨1, by go_num, by decide, HXZ.out⟩
        case measure => simp [intOf]
      by_cases k1 : k = 1
      · subst k1
        have c0 : wr.cell? ⟨SB, 9, none⟩ = some (.bool false) := cell_of_row wr SB 9 _ _ _ hsb
        have c1 : wr.cell? ⟨SB, 10, none⟩ = some (.int .u32 0) := cell_of_row wr SB 10 _ _ _ hsb
        have c2 : wr.cell? ⟨SB, 11, none⟩ = some (.int .u8 0) := cell_of_row wr SB 11 _ _ _ hsb
        have c3 : wr.cell? ⟨SB, 12, none⟩ = some (.int .u8 0) := cell_of_row wr SB 12 _ _ _ hsb
        have c4 : wr.cell? ⟨SB, 13, none⟩ = some (.slice (some ⟨w5.heap.size, 0, none⟩) 1 1) := cell_of_row wr SB 13 _ _ _ hsb
        have c5 : wr.cell? ⟨SB, 14, none⟩ = some (.string ⟨#[]⟩) := cell_of_row wr SB 14 _ _ _ hsb
        have c6 : wr.cell? ⟨SB, 15, none⟩ = some (.string ⟨#[]⟩) := cell_of_row wr SB 15 _ _ _ hsb
        have c7 : wr.cell? ⟨SB, 16, none⟩ = some (.int .u8 0) := cell_of_row wr SB 16 _ _ _ hsb
        have c8 : wr.cell? ⟨SB, 17, none⟩ = some (.bool false) := cell_of_row wr SB 17 _ _ _ hsb
        have HPUT := Lib.hid (frm_put bad1 (some ⟨w5.heap.size, 0, none⟩) 1 wr bad1_ok (HVX.out.ext HXR.out) bad1_small)
        simp only [if_neg bad1_not] at HPUT
        have HPUT := Lib.hid (show Calls Try.prog 11 #[.agg #[.bool false, .int .u32 0, .int .u8 0, .int .u8 0, .slice (some ⟨w5.heap.size, 0, none⟩) 1 1, .string ⟨#[]⟩, .string ⟨#[]⟩, .int .u8 0, .bool false]] wr _ from HPUT.out)
        clear hsb
        go_wp2_with fail
        refine HPUT.out.mono ?_
        rintro e wz ⟨rfl, hxz⟩
        have HXZ := Lib.hid (HXR.out.trans hxz)
        clear hxz c0 c1 c2 c3 c4 c5 c6 c7 c8
        go_wp2_with fail
        go_roundw
        case rel => exact ⟨2, by go_num, by decide, HXZ.out⟩
        case measure => simp [intOf]
      by_cases k2 : k = 2
      · subst k2
        have c0 : wr.cell? ⟨SB, 18, none⟩ = some (.bool false) := cell_of_row wr SB 18 _ _ _ hsb
        have c1 : wr.cell? ⟨SB, 19, none⟩ = some (.int .u32 0) := cell_of_row wr SB 19 _ _ _ hsb
        have c2 : wr.cell? ⟨SB, 20, none⟩ = some (.int .u8 0) := cell_of_row wr SB 20 _ _ _ hsb
        have c3 : wr.cell? ⟨SB, 21, none⟩ = some (.int .u8 0) := cell_of_row wr SB 21 _ _ _ hsb
        have c4 : wr.cell? ⟨SB, 22, none⟩ = some (.slice none 0 0) := cell_of_row wr SB 22 _ _ _ hsb
        have c5 : wr.cell? ⟨SB, 23, none⟩ = some (.string ⟨#[120]⟩) := cell_of_row wr SB 23 _ _ _ hsb
        have c6 : wr.cell? ⟨SB, 24, none⟩ = some (.string ⟨#[]⟩) := cell_of_row wr SB 24 _ _ _ hsb
        have c7 : wr.cell? ⟨SB, 25, none⟩ = some (.int .u8 0) := cell_of_row wr SB 25 _ _ _ hsb
        have c8 : wr.cell? ⟨SB, 26, none⟩ = some (.bool false) := cell_of_row wr SB 26 _ _ _ hsb
        have HPUT := Lib.hid (frm_put bad2 none 0 wr bad2_ok (viewL_nil8 wr) bad2_small)
        simp only [if_neg bad2_not] at HPUT
        have HPUT := Lib.hid (show Calls Try.prog 11 #[.agg #[.bool false, .int .u32 0, .int .u8 0, .int .u8 0, .slice none 0 0, .string ⟨#[120]⟩, .string ⟨#[]⟩, .int .u8 0, .bool false]] wr _ from HPUT.out)
        clear hsb
        go_wp2_with fail
        refine HPUT.out.mono ?_
        rintro e wz ⟨rfl, hxz⟩
        have HXZ := Lib.hid (HXR.out.trans hxz)
        clear hxz c0 c1 c2 c3 c4 c5 c6 c7 c8
        go_wp2_with fail
        go_roundw
        case rel => exact ⟨3, by go_num, by decide, HXZ.out⟩
        case measure => simp [intOf]
      by_cases k3 : k = 3
      · subst k3
        have c0 : wr.cell? ⟨SB, 27, none⟩ = some (.bool false) := cell_of_row wr SB 27 _ _ _ hsb
        have c1 : wr.cell? ⟨SB, 28, none⟩ = some (.int .u32 0) := cell_of_row wr SB 28 _ _ _ hsb
        have c2 : wr.cell? ⟨SB, 29, none⟩ = some (.int .u8 0) := cell_of_row wr SB 29 _ _ _ hsb
        have c3 : wr.cell? ⟨SB, 30, none⟩ = some (.int .u8 0) := cell_of_row wr SB 30 _ _ _ hsb
        have c4 : wr.cell? ⟨SB, 31, none⟩ = some (.slice none 0 0) := cell_of_row wr SB 31 _ _ _ hsb
        have c5 : wr.cell? ⟨SB, 32, none⟩ = some (.string ⟨#[]⟩) := cell_of_row wr SB 32 _ _ _ hsb
        have c6 : wr.cell? ⟨SB, 33, none⟩ = some (.string ⟨#[120]⟩) := cell_of_row wr SB 33 _ _ _ hsb
        have c7 : wr.cell? ⟨SB, 34, none⟩ = some (.int .u8 0) := cell_of_row wr SB 34 _ _ _ hsb
        have c8 : wr.cell? ⟨SB, 35, none⟩ = some (.bool false) := cell_of_row wr SB 35 _ _ _ hsb
        have HPUT := Lib.hid (frm_put bad3 none 0 wr bad3_ok (viewL_nil8 wr) bad3_small)
        simp only [if_neg bad3_not] at HPUT
        have HPUT := Lib.hid (show Calls Try.prog 11 #[.agg #[.bool false, .int .u32 0, .int .u8 0, .int .u8 0, .slice none 0 0, .string ⟨#[]⟩, .string ⟨#[120]⟩, .int .u8 0, .bool false]] wr _ from HPUT.out)
        clear hsb
        go_wp2_with fail
        refine HPUT.out.mono ?_
        rintro e wz ⟨rfl, hxz⟩
        have HXZ := Lib.hid (HXR.out.trans hxz)
        clear hxz c0 c1 c2 c3 c4 c5 c6 c7 c8
        go_wp2_with fail
        go_roundw
        case rel => exact ⟨4, by go_num, by decide, HXZ.out⟩
        case measure => simp [intOf]
      by_cases k4 : k = 4
      · subst k4
        have c0 : wr.cell? ⟨SB, 36, none⟩ = some (.bool false) := cell_of_row wr SB 36 _ _ _ hsb
        have c1 : wr.cell? ⟨SB, 37, none⟩ = some (.int .u32 0) := cell_of_row wr SB 37 _ _ _ hsb
        have c2 : wr.cell? ⟨SB, 38, none⟩ = some (.int .u8 0) := cell_of_row wr SB 38 _ _ _ hsb
        have c3 : wr.cell? ⟨SB, 39, none⟩ = some (.int .u8 0) := cell_of_row wr SB 39 _ _ _ hsb
        have c4 : wr.cell? ⟨SB, 40, none⟩ = some (.slice none 0 0) := cell_of_row wr SB 40 _ _ _ hsb
        have c5 : wr.cell? ⟨SB, 41, none⟩ = some (.string ⟨#[97, 0]⟩) := cell_of_row wr SB 41 _ _ _ hsb
        have c6 : wr.cell? ⟨SB, 42, none⟩ = some (.string ⟨#[]⟩) := cell_of_row wr SB 42 _ _ _ hsb
        have c7 : wr.cell? ⟨SB, 43, none⟩ = some (.int .u8 2) := cell_of_row wr SB 43 _ _ _ hsb
        have c8 : wr.cell? ⟨SB, 44, none⟩ = some (.bool false) := cell_of_row wr SB 44 _ _ _ hsb
        have HPUT := Lib.hid (frm_put bad4 none 0 wr bad4_ok (viewL_nil8 wr) bad4_small)
        simp only [if_neg bad4_not] at HPUT
        have HPUT := Lib.hid (show Calls Try.prog 11 #[.agg #[.bool false, .int .u32 0, .int .u8 0, .int .u8 0, .slice none 0 0, .string ⟨#[97, 0]⟩, .string ⟨#[]⟩, .int .u8 2, .bool false]] wr _ from HPUT.out)
        clear hsb
        go_wp2_with fail
        refine HPUT.out.mono ?_
        rintro e wz ⟨rfl, hxz⟩
        have HXZ := Lib.hid (HXR.out.trans hxz)
        clear hxz c0 c1 c2 c3 c4 c5 c6 c7 c8
        go_wp2_with fail
        go_roundw
        case rel => exact ⟨5, by go_num, by decide, HXZ.out⟩
        case measure => simp [intOf]
      by_cases k5 : k = 5
      · subst k5
        have c0 : wr.cell? ⟨SB, 45, none⟩ = some (.bool false) := cell_of_row wr SB 45 _ _ _ hsb
        have c1 : wr.cell? ⟨SB, 46, none⟩ = some (.int .u32 0) := cell_of_row wr SB 46 _ _ _ hsb
        have c2 : wr.cell? ⟨SB, 47, none⟩ = some (.int .u8 0) := cell_of_row wr SB 47 _ _ _ hsb
        have c3 : wr.cell? ⟨SB, 48, none⟩ = some (.int .u8 0) := cell_of_row wr SB 48 _ _ _ hsb
        have c4 : wr.cell? ⟨SB, 49, none⟩ = some (.slice none 0 0) := cell_of_row wr SB 49 _ _ _ hsb
        have c5 : wr.cell? ⟨SB, 50, none⟩ = some (.string ⟨#[]⟩) := cell_of_row wr SB 50 _ _ _ hsb
        have c6 : wr.cell? ⟨SB, 51, none⟩ = some (.string ⟨#[0]⟩) := cell_of_row wr SB 51 _ _ _ hsb
        have c7 : wr.cell? ⟨SB, 52, none⟩ = some (.int .u8 4) := cell_of_row wr SB 52 _ _ _ hsb
        have c8 : wr.cell? ⟨SB, 53, none⟩ = some (.bool false) := cell_of_row wr SB 53 _ _ _ hsb
        have HPUT := Lib.hid (frm_put bad5 none 0 wr bad5_ok (viewL_nil8 wr) bad5_small)
        simp only [if_neg bad5_not] at HPUT
        have HPUT := Lib.hid (show Calls Try.prog 11 #[.agg #[.bool false, .int .u32 0, .int .u8 0, .int .u8 0, .slice none 0 0, .string ⟨#[]⟩, .string ⟨#[0]⟩, .int .u8 4, .bool false]] wr _ from HPUT.out)
        clear hsb
        go_wp2_with fail
        refine HPUT.out.mono ?_
        rintro e wz ⟨rfl, hxz⟩
        have HXZ := Lib.hid (HXR.out.trans hxz)
        clear hxz c0 c1 c2 c3 c4 c5 c6 c7 c8
        go_wp2_with fail
        go_roundw
        case rel => exact ⟨6, by go_num, by decide, HXZ.out⟩
        case measure => simp [intOf]
      by_cases k6 : k = 6
      · subst k6
        have c0 : wr.cell? ⟨SB, 54, none⟩ = some (.bool false) := cell_of_row wr SB 54 _ _ _ hsb
        have c1 : wr.cell? ⟨SB, 55, none⟩ = some (.int .u32 0) := cell_of_row wr SB 55 _ _ _ hsb
        have c2 : wr.cell? ⟨SB, 56, none⟩ = some (.int .u8 0) := cell_of_row wr SB 56 _ _ _ hsb
        have c3 : wr.cell? ⟨SB, 57, none⟩ = some (.int .u8 0) := cell_of_row wr SB 57 _ _ _ hsb
        have c4 : wr.cell? ⟨SB, 58, none⟩ = some (.slice (some ⟨w5.heap.size + 1, 0, none⟩) 65536 65536) := cell_of_row wr SB 58 _ _ _ hsb
        have c5 : wr.cell? ⟨SB, 59, none⟩ = some (.string ⟨#[]⟩) := cell_of_row wr SB 59 _ _ _ hsb
        have c6 : wr.cell? ⟨SB, 60, none⟩ = some (.string ⟨#[]⟩) := cell_of_row wr SB 60 _ _ _ hsb
        have c7 : wr.cell? ⟨SB, 61, none⟩ = some (.int .u8 1) := cell_of_row wr SB 61 _ _ _ hsb
        have c8 : wr.cell? ⟨SB, 62, none⟩ = some (.bool false) := cell_of_row wr SB 62 _ _ _ hsb
        have HVM2 := Lib.hid (show ViewL wr (.slice (some ⟨w5.heap.size + 1, 0, none⟩) bad6.extra.length 65536) (u8s bad6.extra) by rw [bad6_len]; exact HVM.out.ext HXR.out)
        have HPUT := Lib.hid (frm_put bad6 (some ⟨w5.heap.size + 1, 0, none⟩) 65536 wr bad6_ok HVM2.out bad6_small)
        simp only [if_neg bad6_not] at HPUT
        rw [bad6_len] at HPUT
        have HPUT := Lib.hid (show Calls Try.prog 11 #[.agg #[.bool false, .int .u32 0, .int .u8 0, .int .u8 0, .slice (some ⟨w5.heap.size + 1, 0, none⟩) 65536 65536, .string ⟨#[]⟩, .string ⟨#[]⟩, .int .u8 1, .bool false]] wr _ from HPUT.out)
        clear hsb
        go_wp2_with fail
        refine HPUT.out.mono ?_
        rintro e wz ⟨rfl, hxz⟩
        have HXZ := Lib.hid (HXR.out.trans hxz)
        clear hxz c0 c1 c2 c3 c4 c5 c6 c7 c8
        go_wp2_with fail
        go_roundw
        case rel => exact ⟨7, by go_num, by decide, HXZ.out⟩
        case measure => simp [intOf]
      obtain rfl : k = 7 := by omega
      clear hsb
      obtain ⟨wm, hmk, hvm, hxm⟩ := make_b wr 65535 65535 rfl (by decide)
      have HPUT := Lib.hid (frm_put hdM (some ⟨wr.heap.size, 0, none⟩) 65535 wm hdM_ok (show ViewL wm (.slice (some ⟨wr.heap.size, 0, none⟩) hdM.extra.length 65535) (u8s hdM.extra) by rw [hdM_len]; exact hvm) hdM_small)
      simp only [if_pos hdM_may] at HPUT
      rw [hdM_len] at HPUT
      have HPUT := Lib.hid (show Calls Try.prog 11 #[.agg #[.bool false, .int .u32 0, .int .u8 0, .int .u8 0, .slice (some ⟨wr.heap.size, 0, none⟩) 65535 65535, .string ⟨#[]⟩, .string ⟨#[]⟩, .int .u8 1, .bool false]] wm _ from HPUT.out)
      have HXM := Lib.hid (HX7.out.trans (HXR.out.trans hxm))
      clear hvm hxm
      go_wp2_with fail
      clear hmk
      refine HPUT.out.mono ?_
      rintro e wp ⟨pv, rfl, hc⟩
      obtain ⟨po, pq, ep⟩ := (CloneOf.viewL hc).shape
      rw [length_u8s, hdM_put_len] at ep
      subst ep
      have HXP := Lib.hid (HXM.out.trans (ext_of hc))
      clear hc HPUT HXR HXM
      go_wp2_with fail
      obtain ⟨w8, hw8⟩ : ∃ w8, w8 = wp.alloc (.cells #[.string ⟨#[]⟩, .string ⟨#[31, 139, 8, 32, 0, 0, 0, 0, 0, 0]⟩, .string ⟨#[31, 139, 7, 0, 0, 0, 0, 0, 0, 0]⟩, .string ⟨#[30, 139, 8, 0, 0, 0, 0, 0, 0, 0]⟩, .string ⟨#[31, 139, 8, 0, 0, 0, 0, 0, 0]⟩, .string ⟨#[31, 139, 8, 4, 0, 0, 0, 0, 0, 0, 1]⟩, .string ⟨#[31, 139, 8, 4, 0, 0, 0, 0, 0, 0, 1, 0]⟩, .string ⟨#[31, 139, 8, 8, 0, 0, 0, 0, 0, 0, 97]⟩, .string ⟨#[31, 139, 8, 2, 0, 0, 0, 0, 0, 0, 97]⟩, .string ⟨#[31, 139, 8, 128, 0, 0, 0, 0, 0, 0]⟩] 9) := ⟨_, rfl⟩
      rw [← hw8]
      have hsb := heap_alloc_new wp (.cells #[.string ⟨#[]⟩, .string ⟨#[31, 139, 8, 32, 0, 0, 0, 0, 0, 0]⟩, .string ⟨#[31, 139, 7, 0, 0, 0, 0, 0, 0, 0]⟩, .string ⟨#[30, 139, 8, 0, 0, 0, 0, 0, 0, 0]⟩, .string ⟨#[31, 139, 8, 0, 0, 0, 0, 0, 0]⟩, .string ⟨#[31, 139, 8, 4, 0, 0, 0, 0, 0, 0, 1]⟩, .string ⟨#[31, 139, 8, 4, 0, 0, 0, 0, 0, 0, 1, 0]⟩, .string ⟨#[31, 139, 8, 8, 0, 0, 0, 0, 0, 0, 97]⟩, .string ⟨#[31, 139, 8, 2, 0, 0, 0, 0, 0, 0, 97]⟩, .string ⟨#[31, 139, 8, 128, 0, 0, 0, 0, 0, 0]⟩] 9)
      rw [← hw8] at hsb
      have hx8 : Ext wp w8 := by rw [hw8]; exact (Ext.refl _).alloc _
      generalize wp.heap.size = SC at *
      have HSC := Lib.hid hsb
      have HX8 := Lib.hid (HXP.out.trans hx8)
      clear hw8 hsb hx8 HXP
      go_loopw [15] (fun kv wr => ∃ k : Nat, kv = .int .i64 k ∧ k ≤ 10 ∧ Ext w8 wr) (fun kv _ => 10 - (intOf kv).toNat)
      case atStart => exact ⟨0, rfl, by decide, Ext.refl _⟩
      case round =>
        obtain ⟨k, rfl, hk, hxr⟩ := hrel
        have hsb := Touch.keep hxr HSC.out (fun f => f)
        have HXR := Lib.hid hxr
        clear hxr
        by_cases k0 : k = 0
        · subst k0
          have c0 : wr.cell? ⟨SC, 0, none⟩ = some (.string ⟨#[]⟩) := cell_of_row wr SC 0 _ _ _ hsb
          clear hsb
          obtain ⟨wc, cp, hcv, hvw, hxc⟩ := conv_bytes wr ⟨#[]⟩ [] 0 rfl rfl
          have HG := Lib.hid (frm_get (.slice (some ⟨wr.heap.size, 0, none⟩) 0 cp) [] wc hvw (by decide) (by decide))
          unfold GotH at HG
          rw [no0_get] at HG
          simp only [hdZ, hcells] at HG
          have HXC := Lib.hid (HXR.out.trans hxc)
          clear hvw hxc
          go_wp2_with fail
          refine HG.out.mono ?_
          rintro e wg ⟨rfl, hxg⟩
          have HXG := Lib.hid ((HXC.out.trans hxg).alloc (.cells (hcells hdZ (.slice none 0 0)) 25))
          clear hxg hcv c0
          go_wp2_with fail
          go_roundw
          case rel => exact ⟨1, by go_num, by decide, HXG.out⟩
          case measure => simp [intOf]
        by_cases k1 : k = 1
        · subst k1
          have c0 : wr.cell? ⟨SC, 1, none⟩ = some (.string ⟨#[31, 139, 8, 32, 0, 0, 0, 0, 0, 0]⟩) := cell_of_row wr SC 1 _ _ _ hsb
          clear hsb
          obtain ⟨wc, cp, hcv, hvw, hxc⟩ := conv_bytes wr ⟨#[31, 139, 8, 32, 0, 0, 0, 0, 0, 0]⟩ [31, 139, 8, 32, 0, 0, 0, 0, 0, 0] 10 rfl rfl
          have HG := Lib.hid (frm_get (.slice (some ⟨wr.heap.size, 0, none⟩) 10 cp) [31, 139, 8, 32, 0, 0, 0, 0, 0, 0] wc hvw (by decide) (by decide))
          unfold GotH at HG
          rw [no1_get] at HG
          simp only [hdZ, hcells] at HG
          have HXC := Lib.hid (HXR.out.trans hxc)
          clear hvw hxc
          go_wp2_with fail
          refine HG.out.mono ?_
          rintro e wg ⟨rfl, hxg⟩
          have HXG := Lib.hid ((HXC.out.trans hxg).alloc (.cells (hcells hdZ (.slice none 0 0)) 25))
          clear hxg hcv c0
          go_wp2_with fail
          go_roundw
          case rel => exact ⟨2, by go_num, by decide, HXG.out⟩
          case measure => simp [intOf]
        by_cases k2 : k = 2
        · subst k2
          have c0 : wr.cell? ⟨SC, 2, none⟩ = some (.string ⟨#[31, 139, 7, 0, 0, 0, 0, 0, 0, 0]⟩) := cell_of_row wr SC 2 _ _ _ hsb
          clear hsb
          obtain ⟨wc, cp, hcv, hvw, hxc⟩ := conv_bytes wr ⟨#[31, 139, 7, 0, 0, 0, 0, 0, 0, 0]⟩ [31, 139, 7, 0, 0, 0, 0, 0, 0, 0] 10 rfl rfl
          have HG := Lib.hid (frm_get (.slice (some ⟨wr.heap.size, 0, none⟩) 10 cp) [31, 139, 7, 0, 0, 0, 0, 0, 0, 0] wc hvw (by decide) (by decide))
          unfold GotH at HG
          rw [no2_get] at HG
          simp only [hdZ, hcells] at HG
          have HXC := Lib.hid (HXR.out.trans hxc)
          clear hvw hxc
          go_wp2_with fail
          refine HG.out.mono ?_
          rintro e wg ⟨rfl, hxg⟩
          have HXG := Lib.hid ((HXC.out.trans hxg).alloc (.cells (hcells hdZ (.slice none 0 0)) 25))
          clear hxg hcv c0
          go_wp2_with fail
          go_roundw
          case rel => exact ⟨3, by go_num, by decide, HXG.out⟩
          case measure => simp [intOf]
        by_cases k3 : k = 3
        · subst k3
          have c0 : wr.cell? ⟨SC, 3, none⟩ = some (.string ⟨#[30, 139, 8, 0, 0, 0, 0, 0, 0, 0]⟩) := cell_of_row wr SC 3 _ _ _ hsb
          clear hsb
          obtain ⟨wc, cp, hcv, hvw, hxc⟩ := conv_bytes wr ⟨#[30, 139, 8, 0, 0, 0, 0, 0, 0, 0]⟩ [30, 139, 8, 0, 0, 0, 0, 0, 0, 0] 10 rfl rfl
          have HG := Lib.hid (frm_get (.slice (some ⟨wr.heap.size, 0, none⟩) 10 cp) [30, 139, 8, 0, 0, 0, 0, 0, 0, 0] wc hvw (by decide) (by decide))
          unfold GotH at HG
          rw [no3_get] at HG
          simp only [hdZ, hcells] at HG
          have HXC := Lib.hid (HXR.out.trans hxc)
          clear hvw hxc
          go_wp2_with fail
          refine HG.out.mono ?_
          rintro e wg ⟨rfl, hxg⟩
          have HXG := Lib.hid ((HXC.out.trans hxg).alloc (.cells (hcells hdZ (.slice none 0 0)) 25))
          clear hxg hcv c0
          go_wp2_with fail
          go_roundw
          case rel => exact ⟨4, by go_num, by decide, HXG.out⟩
          case measure => simp [intOf]
        by_cases k4 : k = 4
        · subst k4
          have c0 : wr.cell? ⟨SC, 4, none⟩ = some (.string ⟨#[31, 139, 8, 0, 0, 0, 0, 0, 0]⟩) := cell_of_row wr SC 4 _ _ _ hsb
          clear hsb
          obtain ⟨wc, cp, hcv, hvw, hxc⟩ := conv_bytes wr ⟨#[31, 139, 8, 0, 0, 0, 0, 0, 0]⟩ [31, 139, 8, 0, 0, 0, 0, 0, 0] 9 rfl rfl
          have HG := Lib.hid (frm_get (.slice (some ⟨wr.heap.size, 0, none⟩) 9 cp) [31, 139, 8, 0, 0, 0, 0, 0, 0] wc hvw (by decide) (by decide))
          unfold GotH at HG
          rw [no4_get] at HG
          simp only [hdZ, hcells] at HG
          have HXC := Lib.hid (HXR.out.trans hxc)
          clear hvw hxc
          go_wp2_with fail
          refine HG.out.mono ?_
          rintro e wg ⟨rfl, hxg⟩
          have HXG := Lib.hid ((HXC.out.trans hxg).alloc (.cells (hcells hdZ (.slice none 0 0)) 25))
          clear hxg hcv c0
          go_wp2_with fail
          go_roundw
          case rel => exact ⟨5, by go_num, by decide, HXG.out⟩
          case measure => simp [intOf]
        by_cases k5 : k = 5
        · subst k5
          have c0 : wr.cell? ⟨SC, 5, none⟩ = some (.string ⟨#[31, 139, 8, 4, 0, 0, 0, 0, 0, 0, 1]⟩) := cell_of_row wr SC 5 _ _ _ hsb
          clear hsb
          obtain ⟨wc, cp, hcv, hvw, hxc⟩ := conv_bytes wr ⟨#[31, 139, 8, 4, 0, 0, 0, 0, 0, 0, 1]⟩ [31, 139, 8, 4, 0, 0, 0, 0, 0, 0, 1] 11 rfl rfl
          have HG := Lib.hid (frm_get (.slice (some ⟨wr.heap.size, 0, none⟩) 11 cp) [31, 139, 8, 4, 0, 0, 0, 0, 0, 0, 1] wc hvw (by decide) (by decide))
          unfold GotH at HG
          rw [no5_get] at HG
          simp only [hdZ, hcells] at HG
          have HXC := Lib.hid (HXR.out.trans hxc)
          clear hvw hxc
          go_wp2_with fail
          refine HG.out.mono ?_
          rintro e wg ⟨rfl, hxg⟩
          have HXG := Lib.hid ((HXC.out.trans hxg).alloc (.cells (hcells hdZ (.slice none 0 0)) 25))
          clear hxg hcv c0
          go_wp2_with fail
          go_roundw
          case rel => exact ⟨6, by go_num, by decide, HXG.out⟩
          case measure => simp [intOf]
        by_cases k6 : k = 6
        · subst k6
          have c0 : wr.cell? ⟨SC, 6, none⟩ = some (.string ⟨#[31, 139, 8, 4, 0, 0, 0, 0, 0, 0, 1, 0]⟩) := cell_of_row wr SC 6 _ _ _ hsb
          clear hsb
          obtain ⟨wc, cp, hcv, hvw, hxc⟩ := conv_bytes wr ⟨#[31, 139, 8, 4, 0, 0, 0, 0, 0, 0, 1, 0]⟩ [31, 139, 8, 4, 0, 0, 0, 0, 0, 0, 1, 0] 12 rfl rfl
          have HG := Lib.hid (frm_get (.slice (some ⟨wr.heap.size, 0, none⟩) 12 cp) [31, 139, 8, 4, 0, 0, 0, 0, 0, 0, 1, 0] wc hvw (by decide) (by decide))
          unfold GotH at HG
          rw [no6_get] at HG
          simp only [hdZ, hcells] at HG
          have HXC := Lib.hid (HXR.out.trans hxc)
          clear hvw hxc
          go_wp2_with fail
          refine HG.out.mono ?_
          rintro e wg ⟨rfl, hxg⟩
          have HXG := Lib.hid ((HXC.out.trans hxg).alloc (.cells (hcells hdZ (.slice none 0 0)) 25))
          clear hxg hcv c0
          go_wp2_with fail
          go_roundw
          case rel => exact ⟨7, by go_num, by decide, HXG.out⟩
          case measure => simp [intOf]
        by_cases k7 : k = 7
        · subst k7
          have c0 : wr.cell? ⟨SC, 7, none⟩ = some (.string ⟨#[31, 139, 8, 8, 0, 0, 0, 0, 0, 0, 97]⟩) := cell_of_row wr SC 7 _ _ _ hsb
          clear hsb
          obtain ⟨wc, cp, hcv, hvw, hxc⟩ := conv_bytes wr ⟨#[31, 139, 8, 8, 0, 0, 0, 0, 0, 0, 97]⟩ [31, 139, 8, 8, 0, 0, 0, 0, 0, 0, 97] 11 rfl rfl
          have HG := Lib.hid (frm_get (.slice (some ⟨wr.heap.size, 0, none⟩) 11 cp) [31, 139, 8, 8, 0, 0, 0, 0, 0, 0, 97] wc hvw (by decide) (by decide))
          unfold GotH at HG
          rw [no7_get] at HG
          simp only [hdZ, hcells] at HG
          have HXC := Lib.hid (HXR.out.trans hxc)
          clear hvw hxc
          go_wp2_with fail
          refine HG.out.mono ?_
          rintro e wg ⟨rfl, hxg⟩
          have HXG := Lib.hid ((HXC.out.trans hxg).alloc (.cells (hcells hdZ (.slice none 0 0)) 25))
          clear hxg hcv c0
          go_wp2_with fail
          go_roundw
          case rel => exact ⟨8, by go_num, by decide, HXG.out⟩
          case measure => simp [intOf]
        by_cases k8 : k = 8
        · subst k8
          have c0 : wr.cell? ⟨SC, 8, none⟩ = some (.string ⟨#[31, 139, 8, 2, 0, 0, 0, 0, 0, 0, 97]⟩) := cell_of_row wr SC 8 _ _ _ hsb
          clear hsb
          obtain ⟨wc, cp, hcv, hvw, hxc⟩ := conv_bytes wr ⟨#[31, 139, 8, 2, 0, 0, 0, 0, 0, 0, 97]⟩ [31, 139, 8, 2, 0, 0, 0, 0, 0, 0, 97] 11 rfl rfl
          have HG := Lib.hid (frm_get (.slice (some ⟨wr.heap.size, 0, none⟩) 11 cp) [31, 139, 8, 2, 0, 0, 0, 0, 0, 0, 97] wc hvw (by decide) (by decide))
          unfold GotH at HG
          rw [no8_get] at HG
          simp only [hdZ, hcells] at HG
          have HXC := Lib.hid (HXR.out.trans hxc)
          clear hvw hxc
          go_wp2_with fail
          refine HG.out.mono ?_
          rintro e wg ⟨rfl, hxg⟩
          have HXG := Lib.hid ((HXC.out.trans hxg).alloc (.cells (hcells hdZ (.slice none 0 0)) 25))
          clear hxg hcv c0
          go_wp2_with fail
          go_roundw
          case rel => exact ⟨9, by go_num, by decide, HXG.out⟩
          case measure => simp [intOf]
        by_cases k9 : k = 9
        · subst k9
          have c0 : wr.cell? ⟨SC, 9, none⟩ = some (.string ⟨#[31, 139, 8, 128, 0, 0, 0, 0, 0, 0]⟩) := cell_of_row wr SC 9 _ _ _ hsb
          clear hsb
          obtain ⟨wc, cp, hcv, hvw, hxc⟩ := conv_bytes wr ⟨#[31, 139, 8, 128, 0, 0, 0, 0, 0, 0]⟩ [31, 139, 8, 128, 0, 0, 0, 0, 0, 0] 10 rfl rfl
          have HG := Lib.hid (frm_get (.slice (some ⟨wr.heap.size, 0, none⟩) 10 cp) [31, 139, 8, 128, 0, 0, 0, 0, 0, 0] wc hvw (by decide) (by decide))
          unfold GotH at HG
          rw [no9_get] at HG
          simp only [hdZ, hcells] at HG
          have HXC := Lib.hid (HXR.out.trans hxc)
          clear hvw hxc
          go_wp2_with fail
          refine HG.out.mono ?_
          rintro e wg ⟨rfl, hxg⟩
          have HXG := Lib.hid ((HXC.out.trans hxg).alloc (.cells (hcells hdZ (.slice none 0 0)) 25))
          clear hxg hcv c0
          go_wp2_with fail
          go_roundw
          case rel => exact ⟨10, by go_num, by decide, HXG.out⟩
          case measure => simp [intOf]
        obtain rfl : k = 10 := by omega
        clear hsb
        have HXF := Lib.hid (HX8.out.trans HXR.out)
        have HE1 := Lib.hid (frm_ends (.slice none 0 0) (.slice none 0 0) [] [] wr (viewL_nil8 wr) (viewL_nil8 wr) (by simp) (by simp) (by decide))
        rw [tail_nil_ne] at HE1
        go_wp2_with fail
        refine HE1.out.mono ?_
        rintro e wa ⟨rfl, hxa⟩
        have HXA := Lib.hid (HXF.out.trans hxa)
        clear hxa
        obtain ⟨wb, hmk, hvb, hxb⟩ := make_b wa 8 8 rfl (by decide)
        have HE2 := Lib.hid (frm_ends (.slice none 0 0) (.slice (some ⟨wa.heap.size, 0, none⟩) 8 8) [] (List.replicate 8 0) wb (viewL_nil8 wb) hvb (by simp) (fun b hb => by rw [(List.mem_replicate.1 hb).2]; decide) (by decide))
        rw [tail_nil_eq] at HE2
        have HXB := Lib.hid (HXA.out.trans hxb)
        clear hvb hxb
        go_wp2_with fail
        clear hmk
        refine HE2.out.mono ?_
        rintro e wd ⟨rfl, hxd⟩
        have HXD := Lib.hid (HXB.out.trans hxd)
        clear hxd
        go_wp2_with fail
        refine (frm_frames _).mono ?_
        rintro e we ⟨rfl, hxe⟩
        have HXE := Lib.hid (HXD.out.trans hxe)
        clear hxe
        go_wp2_with fail
        go_ret
        exact ⟨rfl, HXE.out⟩

end Go.Proofs.Ytmhkjcoidjpocaa
