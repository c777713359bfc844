/- pressworklaw02.MsbSplit: its walk, and the statement. -/
import Derived.Test.YtnmibfdpaamlgaaMsbLays
import Derived.Test.YtnmibfdpaamlgaaLaw
import Derived.Test.YtnmibfdpaamlgaaGrow
import Derived.Test.YtnmibfdpaamlgaaBitsTwo
namespace Go.Proofs.Ytnmibfdpaamlgaa
open Go.RowKit
set_option linter.unusedVariables false

set_option maxHeartbeats 1000000 in
set_option maxRecDepth 100000 in
theorem msb_split_low (a v n k s p q A V f g : Nat) (w : World) (ha : a < 256) (hv : v < 2 ^ 32) (hn : n < 256) (hk : k < 256) (hs : (n : Int) % 33 = (s : Int)) (hp : (k : Int) % ((s : Int) + 1) = (p : Int)) (hA : (a : Int) % 20 = (A : Int)) (hA20 : A < 20)
    (hV : (v : Int) % 2 ^ s = (V : Int)) (h32 : (s : Int) < 32) (hps : p ≤ s) (hVs : V < 2 ^ 32) (hs32 : s ≤ 32) (hVs2 : V < 2 ^ s)
    (hq : (s : Int) - (p : Int) = (q : Int)) (hf : (V : Int) / 2 ^ q = (f : Int)) (hg : (V : Int) % 2 ^ q = (g : Int)) (hfp : f < 2 ^ p) (hgq : g < 2 ^ q) (hq32 : q ≤ 32) (hp32 : p ≤ 32) (hf32 : f < 2 ^ 32) (hg32 : g < 2 ^ 32)
    (hbits : bitsOf true V s = bitsOf true f p ++ bitsOf true g q)
    (hf4 : (f : Int) % 4294967296 = (f : Int)) (hg4 : (g : Int) % 4294967296 = (g : Int))
    (hw32 : (2 : Int) ^ s % 4294967296 = 2 ^ s) (hw64 : IntKind.u64.wrap (2 ^ q) = 2 ^ q) (hz32 : ((2 : Int) ^ s == 0) = false) (hz64 : ((2 : Int) ^ q == 0) = false) :
    Calls Try.prog 4 #[.int .u8 a, .int .u32 v, .int .u8 n, .int .u8 k] w fun e w' => e = .returned (.bool true) ∧ Ext w w' := by
  obtain ⟨W0, hW0⟩ : ∃ W0, (w.alloc (.cells #[.slice none 0 0, .int .i64 0] 37)).alloc (.cells #[.slice none 0 0, .int .i64 0] 37) = W0 := ⟨_, rfl⟩
  have a0 : IsW 37 true W0 w.heap.size none [] := hW0 ▸ (msb_zero w).ext ((Ext.refl _).alloc _)
  have b0 : IsW 37 true W0 (w.heap.size + 1) none [] := by
    have := msb_zero (w.alloc (.cells #[.slice none 0 0, .int .i64 0] 37))
    rw [hW0] at this; simpa using this
  have x0 : Ext w W0 := hW0 ▸ ((Ext.refl w).alloc _).alloc _
  have na : NewW w.heap.size w.heap.size none := ⟨Nat.le_refl _, fun g e => by cases e⟩
  have nb : NewW w.heap.size (w.heap.size + 1) none := ⟨by omega, fun g e => by cases e⟩
  have d0 : Dis w.heap.size none (w.heap.size + 1) none := ⟨by omega, by simp, by simp, fun g e => by cases e⟩
  have A0 := Lib.hid a0
  have B0 := Lib.hid b0
  have X0 := Lib.hid x0
  have NA := Lib.hid na
  have NB := Lib.hid nb
  have D0 := Lib.hid d0
  have HW0 := Lib.hid hW0
  clear a0 b0 x0 na nb d0 hW0
  go_enter Try.func4, Try.ntmps4
  go_wp2_with fail
  rw [HW0.out]
  refine (msb_put _ 1 _ none [] _ A0.out (by decide) (by decide)).mono ?_
  rintro e w1 ⟨rfl, p1⟩
  obtain ⟨oa1, a1, na1, ea1, x1, t1⟩ := act p1 NA.out X0.out
  have A1 := Lib.hid a1
  have NA1 := Lib.hid na1
  have X1 := Lib.hid x1
  have B1 := Lib.hid (D0.out.keep B0.out t1)
  have D1 := Lib.hid (D0.out.near ea1 B0.out.lt B0.out.glt)
  clear p1 a1 na1 ea1 x1 t1
  go_wp2_with fail
  refine (msb_put _ 1 _ none [] _ B1.out (by decide) (by decide)).mono ?_
  rintro e w2 ⟨rfl, p1⟩
  obtain ⟨ob1, b1, nb1, eb1, x1, t1⟩ := act p1 NB.out X1.out
  have B2 := Lib.hid b1
  have NB2 := Lib.hid nb1
  have X2 := Lib.hid x1
  have A2 := Lib.hid (D1.out.symm.keep A1.out t1)
  have D2 := Lib.hid (D1.out.symm.near eb1 A1.out.lt A1.out.glt).symm
  clear p1 b1 nb1 eb1 x1 t1
  go_wp2_with fail
  refine (msb_put _ V s oa1 _ _ A2.out (by have := putL_len true [] 1 ((A : Int) + 1); simp at this; omega) hVs).mono ?_
  rw [putE_ok hs32 hVs2]
  rintro e w3 ⟨rfl, p1⟩
  obtain ⟨oa2, a1, na1, ea1, x1, t1⟩ := act p1 NA1.out X2.out
  have A3 := Lib.hid a1
  have NA3 := Lib.hid na1
  have X3 := Lib.hid x1
  have B3 := Lib.hid (D2.out.keep B2.out t1)
  have D3 := Lib.hid (D2.out.near ea1 B2.out.lt B2.out.glt)
  clear p1 a1 na1 ea1 x1 t1
  go_wp2_with fail
  go_quiet (fail)
  go_wp2_with fail
  have x4 : Ext w (w3.drewN nq) := X3.out.drewN nq
  have A4 := Lib.hid (A3.out.ext ((Ext.refl w3).drewN nq))
  have B4 := Lib.hid (B3.out.ext ((Ext.refl w3).drewN nq))
  have X4 := Lib.hid x4
  clear x4
  have hread := split_read true A s p q V f g hA20 hs32 (by omega) hVs2 hfp hgq hbits
  have HRD := Lib.hid hread
  have HB := Lib.hid hbits
  clear hread
  clear hbits
  refine (msb_put _ f p ob1 _ _ B4.out (by have := putL_len true [] 1 ((A : Int) + 1); simp at this; omega) hf32).mono ?_
  rw [putE_ok hp32 hfp]
  rintro e w5 ⟨rfl, p1⟩
  obtain ⟨ob2, b1, nb1, eb1, x1, t1⟩ := act p1 NB2.out X4.out
  have B5 := Lib.hid b1
  have NB5 := Lib.hid nb1
  have X5 := Lib.hid x1
  have A5 := Lib.hid (D3.out.symm.keep A4.out t1)
  have D5 := Lib.hid (D3.out.symm.near eb1 A4.out.lt A4.out.glt).symm
  clear p1 b1 nb1 eb1 x1 t1
  go_wp2_with fail
  refine (msb_put _ g q ob2 _ _ B5.out (by have := putL_len true [] 1 ((A : Int) + 1); have h2 := putL_len true (putL true [] 1 ((A : Int) + 1)) f p; simp at this; omega) hg32).mono ?_
  rw [putE_ok hq32 hgq]
  rintro e w6 ⟨rfl, p1⟩
  obtain ⟨ob3, b1, nb1, eb1, x1, t1⟩ := act p1 NB5.out X5.out
  rw [putL_ok _ _ hq32 hgq, putL_ok _ _ hp32 hfp, List.append_assoc, ← HB.out, ← putL_ok true _ hs32 hVs2] at b1
  have B6 := Lib.hid b1
  have X6 := Lib.hid x1
  have A6 := Lib.hid (D5.out.symm.keep A5.out t1)
  clear p1 b1 nb1 eb1 x1 t1
  go_wp2_with fail
  obtain ⟨la, hla⟩ : ∃ la, la = putL true (putL true [] 1 ((A : Int) + 1)) V s := ⟨_, rfl⟩
  have HLA := Lib.hid hla
  have hlen : la.length ≤ 64 := by
    have h1 := putL_len true [] 1 ((A : Int) + 1)
    have h2 := putL_len true (putL true [] 1 ((A : Int) + 1)) V s
    simp at h1; rw [hla]; omega
  have A7 : Hid (IsW 37 true w6 w.heap.size oa2 la) := hla ▸ A6
  have B7 : Hid (IsW 37 true w6 (w.heap.size + 1) ob3 la) := hla ▸ B6
  clear hla A6 B6 A5 B5 A4 B4 A3 B3 A2 B2 A1 B1 A0 B0
  refine (msb_bytes _ oa2 _ _ A7.out (by omega)).mono ?_
  rintro e w7 ⟨u, ou, rfl, c1, c2, c3⟩
  obtain ⟨ao, cap, rfl⟩ := c1.shape
  have X7 := Lib.hid (X6.out.trans c3)
  have A8 := Lib.hid (A7.out.ext c3)
  have B8 := Lib.hid (B7.out.ext c3)
  have V7 := Lib.hid c1.view
  clear c1 c2 c3 A7 B7
  go_wp2_with fail
  refine (msb_new _ _ _ V7.out (by rw [length_packs]; omega)).mono ?_
  rintro e w8 ⟨R, og, rfl, d1, d2, d3, d4⟩
  have X8 := Lib.hid (X7.out.trans d4)
  have A9 := Lib.hid (A8.out.ext d4)
  have B9 := Lib.hid (B8.out.ext d4)
  have R8 := Lib.hid d1
  have HR := Lib.hid (And.intro d2 d3)
  clear d1 d2 d3 d4
  go_wp2_with fail
  have hg1 : getR true (packs true la) 0 ((A : Int) + 1) = (1, A + 1, 0) := by rw [HLA.out]; exact HRD.out.1
  have hlen8 : A + 1 + s ≤ 8 * (packs true la).length := by
    have e := split_len true A s V hA20 hs32 hVs2
    rw [length_packs, HLA.out, e]; omega
  have HG1 := Lib.hid hg1
  clear hg1
  refine (msb_get R og _ 0 _ _ R8.out (by rw [length_packs]; omega) (packs_lt _ _) (Nat.zero_le _)).mono ?_
  rw [HG1.out]
  rintro e w9 ⟨rfl, r1, r2⟩
  have hRn : w.heap.size ≤ R := Nat.le_trans X7.out.size HR.out.1
  have hDA : ¬ (w.heap.size = R ∨ oa2 = some R) := by
    have h1 := HR.out.1; have h2 := A8.out.lt; have h3 := A8.out.glt
    rintro (e | e)
    · omega
    · have := h3 _ e; omega
  have hDB : ¬ (w.heap.size + 1 = R ∨ ob3 = some R) := by
    have h1 := HR.out.1; have h2 := B8.out.lt; have h3 := B8.out.glt
    rintro (e | e)
    · omega
    · have := h3 _ e; omega
  have HDA := Lib.hid hDA
  have HDB := Lib.hid hDB
  have HRN := Lib.hid hRn
  clear hDA hDB hRn
  have X9 := Lib.hid (X8.out.touch r2 (fun i hi e => by have := HRN.out; omega))
  have A10 := Lib.hid (A9.out.keep r2 (fun e => HDA.out (Or.inl e)) (fun g e h => HDA.out (Or.inr (by rw [e]; exact congrArg some h))))
  have B10 := Lib.hid (B9.out.keep r2 (fun e => HDB.out (Or.inl e)) (fun g e h => HDB.out (Or.inr (by rw [e]; exact congrArg some h))))
  have R9 := Lib.hid r1
  clear r1 r2
  go_wp2_with fail
  have hg1 : getR true (packs true la) (A + 1) p = (f, A + 1 + p, 0) := by rw [HLA.out]; exact HRD.out.2.1
  have HG2 := Lib.hid hg1
  clear hg1
  refine (msb_get R og _ (A + 1) _ _ R9.out (by rw [length_packs]; omega) (packs_lt _ _) (by omega)).mono ?_
  rw [HG2.out]
  rintro e w10 ⟨rfl, r1, r2⟩
  have X10 := Lib.hid (X9.out.touch r2 (fun i hi e => by have := HRN.out; omega))
  have A11 := Lib.hid (A10.out.keep r2 (fun e => HDA.out (Or.inl e)) (fun g e h => HDA.out (Or.inr (by rw [e]; exact congrArg some h))))
  have B11 := Lib.hid (B10.out.keep r2 (fun e => HDB.out (Or.inl e)) (fun g e h => HDB.out (Or.inr (by rw [e]; exact congrArg some h))))
  have R10 := Lib.hid r1
  clear r1 r2
  go_wp2_with fail
  have hg1 : getR true (packs true la) (A + 1 + p) q = (g, A + 1 + s, 0) := by rw [HLA.out]; exact HRD.out.2.2
  have HG3 := Lib.hid hg1
  clear hg1
  refine (msb_get R og _ (A + 1 + p) _ _ R10.out (by rw [length_packs]; omega) (packs_lt _ _) (by omega)).mono ?_
  rw [HG3.out]
  rintro e w11 ⟨rfl, r1, r2⟩
  have X11 := Lib.hid (X10.out.touch r2 (fun i hi e => by have := HRN.out; omega))
  have A12 := Lib.hid (A11.out.keep r2 (fun e => HDA.out (Or.inl e)) (fun g e h => HDA.out (Or.inr (by rw [e]; exact congrArg some h))))
  have B12 := Lib.hid (B11.out.keep r2 (fun e => HDB.out (Or.inl e)) (fun g e h => HDB.out (Or.inr (by rw [e]; exact congrArg some h))))
  have R11 := Lib.hid r1
  clear r1 r2
  go_wp2_with fail
  have he : ((strOf (packs true la)).toList == (strOf (packs true la)).toList) = true := by simp
  clear hs hp hA hq hf hg hf4 hg4 hw64 hz64 hVs2 hfp hgq
  -- THE LAST REGION
  have hst : Stab (Phi [(13, .int .i64 0), (16, .int .i64 0), (17, .int .i64 0), (11, .pointer (some ⟨w.heap.size, 0, none⟩)), (12, .pointer (some ⟨w.heap.size + 1, 0, none⟩)), (20, .int .i64 0), (22, .int .i64 0), (19, .int .u32 f), (14, .int .u64 f), (21, .int .u32 g), (15, .int .u64 g), (95, .int .i64 0), (96, .bool true), (97, .bool true), (98, .int .i64 0), (99, .bool true), (100, .bool true), (101, .bool true), (102, .int .i64 0), (103, .bool true), (104, .bool true), (105, .bool true), (107, .string (strOf (packs true la))), (109, .string (strOf (packs true la))), (110, .bool true), (111, .bool true), (112, .bool true), (113, .int .i64 0), (114, .bool true), (115, .bool true), (116, .bool true), (117, .int .i64 0), (118, .bool true), (119, .bool true), (120, .bool true), (121, .int .u32 f), (122, .int .u64 f), (123, .int .u64 f), (124, .bool true), (125, .bool true), (126, .bool true), (127, .int .u32 g), (128, .int .u64 g), (129, .int .u64 g), (130, .bool true), (131, .bool true), (132, .bool true), (133, .bool true), (134, .bool true), (8, .bool true)] [(106, fun v w => View w v (packs true la)), (108, fun v w => View w v (packs true la))]) := Phi.stable (by
      intro x hx v w1 w2 he hp
      simp only [List.mem_cons, List.not_mem_nil, or_false] at hx
      rcases hx with rfl | rfl
      · exact View.ext hp he
      · exact View.ext hp he)
  refine wp_region_grow 135 [13, 16, 17, 11, 12, 20, 22, 19, 14, 21, 15] (by kernel_rfl) _ hst (by kernel_rfl) rfl (fun _ => ⟨rfl, rfl, rfl, rfl, rfl, rfl, rfl, rfl, rfl, rfl, rfl, trivial⟩) ⟨?_, ?_, ?_, ?_, ?_, ?_, ?_, ?_, ?_, ?_, ?_, ?_, ?_, ?_, ?_, ?_, ?_, ?_, ?_, ?_, ?_, ?_, ?_, ?_, ?_, ?_, ?_, ?_, ?_, ?_, ?_, ?_, ?_, ?_, ?_, ?_, ?_, ?_, ?_, ?_, ?_, trivial⟩ ?fin
  · refine Obl.val (.int .i64 0) (fun ev w1 hc hf hg hev => ?_) (fun d hd w1 => by cases hd; rfl)
    have h0 : ev (.tmp 13) = .int .i64 0 := hev.1
    exact ⟨rfl, by (clear hev; go_simp)⟩
  · refine Obl.val (.bool true) (fun ev w1 hc hf hg hev => ?_) (fun d hd w1 => by cases hd; rfl)
    have h0 : ev (.tmp 95) = .int .i64 0 := hev.1
    exact ⟨rfl, by (clear hev; go_simp)⟩
  · refine Obl.val (.bool true) (fun ev w1 hc hf hg hev => ?_) (fun d hd w1 => by cases hd; rfl)
    have h0 : ev (.tmp 96) = .bool true := hev.1
    exact ⟨rfl, by (clear hev; go_simp)⟩
  · refine Obl.val (.int .i64 0) (fun ev w1 hc hf hg hev => ?_) (fun d hd w1 => by cases hd; rfl)
    have h0 : ev (.tmp 97) = .bool true := hev.1; have h1 : ev (.tmp 16) = .int .i64 0 := hev.2.1
    exact ⟨wanted_of rfl rfl h0, by (clear hev; go_simp)⟩
  · refine Obl.val (.bool true) (fun ev w1 hc hf hg hev => ?_) (fun d hd w1 => by cases hd; rfl)
    have h0 : ev (.tmp 97) = .bool true := hev.1; have h1 : ev (.tmp 98) = .int .i64 0 := hev.2.1
    exact ⟨wanted_of rfl rfl h0, by (clear hev; go_simp)⟩
  · refine Obl.val (.bool true) (fun ev w1 hc hf hg hev => ?_) (fun d hd w1 => by cases hd; rfl)
    have h0 : ev (.tmp 97) = .bool true := hev.1; have h1 : ev (.tmp 99) = .bool true := hev.2.1
    exact ⟨rfl, by (clear hev; go_simp)⟩
  · refine Obl.val (.bool true) (fun ev w1 hc hf hg hev => ?_) (fun d hd w1 => by cases hd; rfl)
    have h0 : ev (.tmp 100) = .bool true := hev.1
    exact ⟨rfl, by (clear hev; go_simp)⟩
  · refine Obl.val (.int .i64 0) (fun ev w1 hc hf hg hev => ?_) (fun d hd w1 => by cases hd; rfl)
    have h0 : ev (.tmp 101) = .bool true := hev.1; have h1 : ev (.tmp 17) = .int .i64 0 := hev.2.1
    exact ⟨wanted_of rfl rfl h0, by (clear hev; go_simp)⟩
  · refine Obl.val (.bool true) (fun ev w1 hc hf hg hev => ?_) (fun d hd w1 => by cases hd; rfl)
    have h0 : ev (.tmp 101) = .bool true := hev.1; have h1 : ev (.tmp 102) = .int .i64 0 := hev.2.1
    exact ⟨wanted_of rfl rfl h0, by (clear hev; go_simp)⟩
  · refine Obl.val (.bool true) (fun ev w1 hc hf hg hev => ?_) (fun d hd w1 => by cases hd; rfl)
    have h0 : ev (.tmp 101) = .bool true := hev.1; have h1 : ev (.tmp 103) = .bool true := hev.2.1
    exact ⟨rfl, by (clear hev; go_simp)⟩
  · refine Obl.val (.bool true) (fun ev w1 hc hf hg hev => ?_) (fun d hd w1 => by cases hd; rfl)
    have h0 : ev (.tmp 104) = .bool true := hev.1
    exact ⟨rfl, by (clear hev; go_simp)⟩
  · refine Obl.call 24 #[.pointer (some ⟨w.heap.size, 0, none⟩)] (fun ev w1 hI hc hf hg hev => ?_)
    have h0 : ev (.tmp 105) = .bool true := hev.1; have h1 : ev (.tmp 11) = .pointer (some ⟨w.heap.size, 0, none⟩) := hev.2.1
    refine ⟨wanted_of rfl rfl h0, by (clear hev; go_simp), ?_⟩
    refine (msb_bytes _ oa2 la w1 (A12.out.ext hI) (by omega)).mono ?_
    rintro e w2 ⟨v, og', rfl, c1, _, c3⟩
    exact ⟨v, rfl, c3, fun d hd => by cases hd; exact c1.view⟩
  · refine Obl.val (.string (strOf (packs true la))) (fun ev w1 hc hf hg hev => ?_) (fun d hd w1 => by cases hd; rfl)
    have h0 : ev (.tmp 105) = .bool true := hev.1; have h1 : (fun v w => View w v (packs true la)) (ev (.tmp 106)) w1 := hev.2.1
    clear hev
    have hs := run_string_view (P := Try.prog) 23 9 5 h1 Try.underlying23 Try.underlying5 Try.underlying9
    exact ⟨wanted_of rfl rfl h0, by go_simp⟩
  · refine Obl.call 24 #[.pointer (some ⟨w.heap.size + 1, 0, none⟩)] (fun ev w1 hI hc hf hg hev => ?_)
    have h0 : ev (.tmp 105) = .bool true := hev.1; have h1 : ev (.tmp 12) = .pointer (some ⟨w.heap.size + 1, 0, none⟩) := hev.2.1
    refine ⟨wanted_of rfl rfl h0, by (clear hev; go_simp), ?_⟩
    refine (msb_bytes _ ob3 la w1 (B12.out.ext hI) (by omega)).mono ?_
    rintro e w2 ⟨v, og', rfl, c1, _, c3⟩
    exact ⟨v, rfl, c3, fun d hd => by cases hd; exact c1.view⟩
  · refine Obl.val (.string (strOf (packs true la))) (fun ev w1 hc hf hg hev => ?_) (fun d hd w1 => by cases hd; rfl)
    have h0 : ev (.tmp 105) = .bool true := hev.1; have h1 : (fun v w => View w v (packs true la)) (ev (.tmp 108)) w1 := hev.2.1
    clear hev
    have hs := run_string_view (P := Try.prog) 23 9 5 h1 Try.underlying23 Try.underlying5 Try.underlying9
    exact ⟨wanted_of rfl rfl h0, by go_simp⟩
  · refine Obl.val (.bool true) (fun ev w1 hc hf hg hev => ?_) (fun d hd w1 => by cases hd; rfl)
    have h0 : ev (.tmp 105) = .bool true := hev.1; have h1 : ev (.tmp 107) = .string (strOf (packs true la)) := hev.2.1; have h2 : ev (.tmp 109) = .string (strOf (packs true la)) := hev.2.2.1
    exact ⟨wanted_of rfl rfl h0, by (clear hev; go_simp)⟩
  · refine Obl.val (.bool true) (fun ev w1 hc hf hg hev => ?_) (fun d hd w1 => by cases hd; rfl)
    have h0 : ev (.tmp 105) = .bool true := hev.1; have h1 : ev (.tmp 110) = .bool true := hev.2.1
    exact ⟨rfl, by (clear hev; go_simp)⟩
  · refine Obl.val (.bool true) (fun ev w1 hc hf hg hev => ?_) (fun d hd w1 => by cases hd; rfl)
    have h0 : ev (.tmp 111) = .bool true := hev.1
    exact ⟨rfl, by (clear hev; go_simp)⟩
  · refine Obl.val (.int .i64 0) (fun ev w1 hc hf hg hev => ?_) (fun d hd w1 => by cases hd; rfl)
    have h0 : ev (.tmp 112) = .bool true := hev.1; have h1 : ev (.tmp 20) = .int .i64 0 := hev.2.1
    exact ⟨wanted_of rfl rfl h0, by (clear hev; go_simp)⟩
  · refine Obl.val (.bool true) (fun ev w1 hc hf hg hev => ?_) (fun d hd w1 => by cases hd; rfl)
    have h0 : ev (.tmp 112) = .bool true := hev.1; have h1 : ev (.tmp 113) = .int .i64 0 := hev.2.1
    exact ⟨wanted_of rfl rfl h0, by (clear hev; go_simp)⟩
  · refine Obl.val (.bool true) (fun ev w1 hc hf hg hev => ?_) (fun d hd w1 => by cases hd; rfl)
    have h0 : ev (.tmp 112) = .bool true := hev.1; have h1 : ev (.tmp 114) = .bool true := hev.2.1
    exact ⟨rfl, by (clear hev; go_simp)⟩
  · refine Obl.val (.bool true) (fun ev w1 hc hf hg hev => ?_) (fun d hd w1 => by cases hd; rfl)
    have h0 : ev (.tmp 115) = .bool true := hev.1
    exact ⟨rfl, by (clear hev; go_simp)⟩
  · refine Obl.val (.int .i64 0) (fun ev w1 hc hf hg hev => ?_) (fun d hd w1 => by cases hd; rfl)
    have h0 : ev (.tmp 116) = .bool true := hev.1; have h1 : ev (.tmp 22) = .int .i64 0 := hev.2.1
    exact ⟨wanted_of rfl rfl h0, by (clear hev; go_simp)⟩
  · refine Obl.val (.bool true) (fun ev w1 hc hf hg hev => ?_) (fun d hd w1 => by cases hd; rfl)
    have h0 : ev (.tmp 116) = .bool true := hev.1; have h1 : ev (.tmp 117) = .int .i64 0 := hev.2.1
    exact ⟨wanted_of rfl rfl h0, by (clear hev; go_simp)⟩
  · refine Obl.val (.bool true) (fun ev w1 hc hf hg hev => ?_) (fun d hd w1 => by cases hd; rfl)
    have h0 : ev (.tmp 116) = .bool true := hev.1; have h1 : ev (.tmp 118) = .bool true := hev.2.1
    exact ⟨rfl, by (clear hev; go_simp)⟩
  · refine Obl.val (.bool true) (fun ev w1 hc hf hg hev => ?_) (fun d hd w1 => by cases hd; rfl)
    have h0 : ev (.tmp 119) = .bool true := hev.1
    exact ⟨rfl, by (clear hev; go_simp)⟩
  · refine Obl.val (.int .u32 f) (fun ev w1 hc hf hg hev => ?_) (fun d hd w1 => by cases hd; rfl)
    have h0 : ev (.tmp 120) = .bool true := hev.1; have h1 : ev (.tmp 19) = .int .u32 f := hev.2.1
    exact ⟨wanted_of rfl rfl h0, by (clear hev; go_simp)⟩
  · refine Obl.val (.int .u64 f) (fun ev w1 hc hf hg hev => ?_) (fun d hd w1 => by cases hd; rfl)
    have h0 : ev (.tmp 120) = .bool true := hev.1; have h1 : ev (.tmp 121) = .int .u32 f := hev.2.1
    exact ⟨wanted_of rfl rfl h0, by (clear hev; go_simp; first | exact IntWalk.u64_in _ (by omega) | exact IntWalk.u32_in _ (by omega) | exact IntWalk.i64_in _ (by omega) | exact IntWalk.u8_in _ (by omega))⟩
  · refine Obl.val (.int .u64 f) (fun ev w1 hc hf hg hev => ?_) (fun d hd w1 => by cases hd; rfl)
    have h0 : ev (.tmp 120) = .bool true := hev.1; have h1 : ev (.tmp 14) = .int .u64 f := hev.2.1
    exact ⟨wanted_of rfl rfl h0, by (clear hev; go_simp)⟩
  · refine Obl.val (.bool true) (fun ev w1 hc hf hg hev => ?_) (fun d hd w1 => by cases hd; rfl)
    have h0 : ev (.tmp 120) = .bool true := hev.1; have h1 : ev (.tmp 122) = .int .u64 f := hev.2.1; have h2 : ev (.tmp 123) = .int .u64 f := hev.2.2.1
    exact ⟨wanted_of rfl rfl h0, by (clear hev; go_simp)⟩
  · refine Obl.val (.bool true) (fun ev w1 hc hf hg hev => ?_) (fun d hd w1 => by cases hd; rfl)
    have h0 : ev (.tmp 120) = .bool true := hev.1; have h1 : ev (.tmp 124) = .bool true := hev.2.1
    exact ⟨rfl, by (clear hev; go_simp)⟩
  · refine Obl.val (.bool true) (fun ev w1 hc hf hg hev => ?_) (fun d hd w1 => by cases hd; rfl)
    have h0 : ev (.tmp 125) = .bool true := hev.1
    exact ⟨rfl, by (clear hev; go_simp)⟩
  · refine Obl.val (.int .u32 g) (fun ev w1 hc hf hg hev => ?_) (fun d hd w1 => by cases hd; rfl)
    have h0 : ev (.tmp 126) = .bool true := hev.1; have h1 : ev (.tmp 21) = .int .u32 g := hev.2.1
    exact ⟨wanted_of rfl rfl h0, by (clear hev; go_simp)⟩
  · refine Obl.val (.int .u64 g) (fun ev w1 hc hf hg hev => ?_) (fun d hd w1 => by cases hd; rfl)
    have h0 : ev (.tmp 126) = .bool true := hev.1; have h1 : ev (.tmp 127) = .int .u32 g := hev.2.1
    exact ⟨wanted_of rfl rfl h0, by (clear hev; go_simp; first | exact IntWalk.u64_in _ (by omega) | exact IntWalk.u32_in _ (by omega) | exact IntWalk.i64_in _ (by omega) | exact IntWalk.u8_in _ (by omega))⟩
  · refine Obl.val (.int .u64 g) (fun ev w1 hc hf hg hev => ?_) (fun d hd w1 => by cases hd; rfl)
    have h0 : ev (.tmp 126) = .bool true := hev.1; have h1 : ev (.tmp 15) = .int .u64 g := hev.2.1
    exact ⟨wanted_of rfl rfl h0, by (clear hev; go_simp)⟩
  · refine Obl.val (.bool true) (fun ev w1 hc hf hg hev => ?_) (fun d hd w1 => by cases hd; rfl)
    have h0 : ev (.tmp 126) = .bool true := hev.1; have h1 : ev (.tmp 128) = .int .u64 g := hev.2.1; have h2 : ev (.tmp 129) = .int .u64 g := hev.2.2.1
    exact ⟨wanted_of rfl rfl h0, by (clear hev; go_simp)⟩
  · refine Obl.val (.bool true) (fun ev w1 hc hf hg hev => ?_) (fun d hd w1 => by cases hd; rfl)
    have h0 : ev (.tmp 126) = .bool true := hev.1; have h1 : ev (.tmp 130) = .bool true := hev.2.1
    exact ⟨rfl, by (clear hev; go_simp)⟩
  · refine Obl.val (.bool true) (fun ev w1 hc hf hg hev => ?_) (fun d hd w1 => by cases hd; rfl)
    have h0 : ev (.tmp 131) = .bool true := hev.1
    exact ⟨rfl, by (clear hev; go_simp)⟩
  · refine Obl.call 26 #[] (fun ev w1 hI hc hf hg hev => ?_)
    have h0 : ev (.tmp 132) = .bool true := hev.1
    refine ⟨wanted_of rfl rfl h0, by (clear hev; go_simp), ?_⟩
    refine (msb_lays w1).mono ?_
    rintro e w2 ⟨rfl, c3⟩
    exact ⟨_, rfl, c3, fun d hd => by cases hd; rfl⟩
  · refine Obl.val (.bool true) (fun ev w1 hc hf hg hev => ?_) (fun d hd w1 => by cases hd; rfl)
    have h0 : ev (.tmp 132) = .bool true := hev.1; have h1 : ev (.tmp 133) = .bool true := hev.2.1
    exact ⟨rfl, by (clear hev; go_simp)⟩
  · refine Obl.val (.bool true) (fun ev w1 hc hf hg hev => ?_) (fun d hd w1 => by cases hd; rfl)
    have h0 : ev (.tmp 134) = .bool true := hev.1
    exact ⟨rfl, by (clear hev; go_simp)⟩
  -- BEHIND IT
  case fin =>
    intro a' w' he hd hf
    go_wp2_with fail
    have h8 : a'.tmps.getD 8 undef = .bool true := hf 8 (by decide)
    exact bodyPost_ret (by rw [results_tmp rfl, h8]) hd ⟨rfl, X11.out.trans he⟩

set_option maxHeartbeats 1000000 in
set_option maxRecDepth 100000 in
theorem msb_split_top (a n k s p q A V f g : Nat) (w : World) (ha : a < 256) (hn : n < 256) (hk : k < 256) (hs : (n : Int) % 33 = (s : Int)) (hp : (k : Int) % ((s : Int) + 1) = (p : Int)) (hA : (a : Int) % 20 = (A : Int)) (hA20 : A < 20)
    (h32 : ¬ (s : Int) < 32) (hps : p ≤ s) (hVs : V < 2 ^ 32) (hs32 : s ≤ 32) (hVs2 : V < 2 ^ s)
    (hq : (s : Int) - (p : Int) = (q : Int)) (hf : (V : Int) / 2 ^ q = (f : Int)) (hg : (V : Int) % 2 ^ q = (g : Int)) (hfp : f < 2 ^ p) (hgq : g < 2 ^ q) (hq32 : q ≤ 32) (hp32 : p ≤ 32) (hf32 : f < 2 ^ 32) (hg32 : g < 2 ^ 32)
    (hbits : bitsOf true V s = bitsOf true f p ++ bitsOf true g q)
    (hf4 : (f : Int) % 4294967296 = (f : Int)) (hg4 : (g : Int) % 4294967296 = (g : Int))
    (hw64 : IntKind.u64.wrap (2 ^ q) = 2 ^ q) (hz64 : ((2 : Int) ^ q == 0) = false) :
    Calls Try.prog 4 #[.int .u8 a, .int .u32 V, .int .u8 n, .int .u8 k] w fun e w' => e = .returned (.bool true) ∧ Ext w w' := by
  obtain ⟨W0, hW0⟩ : ∃ W0, (w.alloc (.cells #[.slice none 0 0, .int .i64 0] 37)).alloc (.cells #[.slice none 0 0, .int .i64 0] 37) = W0 := ⟨_, rfl⟩
  have a0 : IsW 37 true W0 w.heap.size none [] := hW0 ▸ (msb_zero w).ext ((Ext.refl _).alloc _)
  have b0 : IsW 37 true W0 (w.heap.size + 1) none [] := by
    have := msb_zero (w.alloc (.cells #[.slice none 0 0, .int .i64 0] 37))
    rw [hW0] at this; simpa using this
  have x0 : Ext w W0 := hW0 ▸ ((Ext.refl w).alloc _).alloc _
  have na : NewW w.heap.size w.heap.size none := ⟨Nat.le_refl _, fun g e => by cases e⟩
  have nb : NewW w.heap.size (w.heap.size + 1) none := ⟨by omega, fun g e => by cases e⟩
  have d0 : Dis w.heap.size none (w.heap.size + 1) none := ⟨by omega, by simp, by simp, fun g e => by cases e⟩
  have A0 := Lib.hid a0
  have B0 := Lib.hid b0
  have X0 := Lib.hid x0
  have NA := Lib.hid na
  have NB := Lib.hid nb
  have D0 := Lib.hid d0
  have HW0 := Lib.hid hW0
  clear a0 b0 x0 na nb d0 hW0
  go_enter Try.func4, Try.ntmps4
  go_wp2_with fail
  rw [HW0.out]
  refine (msb_put _ 1 _ none [] _ A0.out (by decide) (by decide)).mono ?_
  rintro e w1 ⟨rfl, p1⟩
  obtain ⟨oa1, a1, na1, ea1, x1, t1⟩ := act p1 NA.out X0.out
  have A1 := Lib.hid a1
  have NA1 := Lib.hid na1
  have X1 := Lib.hid x1
  have B1 := Lib.hid (D0.out.keep B0.out t1)
  have D1 := Lib.hid (D0.out.near ea1 B0.out.lt B0.out.glt)
  clear p1 a1 na1 ea1 x1 t1
  go_wp2_with fail
  refine (msb_put _ 1 _ none [] _ B1.out (by decide) (by decide)).mono ?_
  rintro e w2 ⟨rfl, p1⟩
  obtain ⟨ob1, b1, nb1, eb1, x1, t1⟩ := act p1 NB.out X1.out
  have B2 := Lib.hid b1
  have NB2 := Lib.hid nb1
  have X2 := Lib.hid x1
  have A2 := Lib.hid (D1.out.symm.keep A1.out t1)
  have D2 := Lib.hid (D1.out.symm.near eb1 A1.out.lt A1.out.glt).symm
  clear p1 b1 nb1 eb1 x1 t1
  go_wp2_with fail
  refine (msb_put _ V s oa1 _ _ A2.out (by have := putL_len true [] 1 ((A : Int) + 1); simp at this; omega) hVs).mono ?_
  rw [putE_ok hs32 hVs2]
  rintro e w3 ⟨rfl, p1⟩
  obtain ⟨oa2, a1, na1, ea1, x1, t1⟩ := act p1 NA1.out X2.out
  have A3 := Lib.hid a1
  have NA3 := Lib.hid na1
  have X3 := Lib.hid x1
  have B3 := Lib.hid (D2.out.keep B2.out t1)
  have D3 := Lib.hid (D2.out.near ea1 B2.out.lt B2.out.glt)
  clear p1 a1 na1 ea1 x1 t1
  go_wp2_with fail
  go_quiet (fail)
  go_wp2_with fail
  have x4 : Ext w (w3.drewN nq) := X3.out.drewN nq
  have A4 := Lib.hid (A3.out.ext ((Ext.refl w3).drewN nq))
  have B4 := Lib.hid (B3.out.ext ((Ext.refl w3).drewN nq))
  have X4 := Lib.hid x4
  clear x4
  have hread := split_read true A s p q V f g hA20 hs32 (by omega) hVs2 hfp hgq hbits
  have HRD := Lib.hid hread
  have HB := Lib.hid hbits
  clear hread
  clear hbits
  refine (msb_put _ f p ob1 _ _ B4.out (by have := putL_len true [] 1 ((A : Int) + 1); simp at this; omega) hf32).mono ?_
  rw [putE_ok hp32 hfp]
  rintro e w5 ⟨rfl, p1⟩
  obtain ⟨ob2, b1, nb1, eb1, x1, t1⟩ := act p1 NB2.out X4.out
  have B5 := Lib.hid b1
  have NB5 := Lib.hid nb1
  have X5 := Lib.hid x1
  have A5 := Lib.hid (D3.out.symm.keep A4.out t1)
  have D5 := Lib.hid (D3.out.symm.near eb1 A4.out.lt A4.out.glt).symm
  clear p1 b1 nb1 eb1 x1 t1
  go_wp2_with fail
  refine (msb_put _ g q ob2 _ _ B5.out (by have := putL_len true [] 1 ((A : Int) + 1); have h2 := putL_len true (putL true [] 1 ((A : Int) + 1)) f p; simp at this; omega) hg32).mono ?_
  rw [putE_ok hq32 hgq]
  rintro e w6 ⟨rfl, p1⟩
  obtain ⟨ob3, b1, nb1, eb1, x1, t1⟩ := act p1 NB5.out X5.out
  rw [putL_ok _ _ hq32 hgq, putL_ok _ _ hp32 hfp, List.append_assoc, ← HB.out, ← putL_ok true _ hs32 hVs2] at b1
  have B6 := Lib.hid b1
  have X6 := Lib.hid x1
  have A6 := Lib.hid (D5.out.symm.keep A5.out t1)
  clear p1 b1 nb1 eb1 x1 t1
  go_wp2_with fail
  obtain ⟨la, hla⟩ : ∃ la, la = putL true (putL true [] 1 ((A : Int) + 1)) V s := ⟨_, rfl⟩
  have HLA := Lib.hid hla
  have hlen : la.length ≤ 64 := by
    have h1 := putL_len true [] 1 ((A : Int) + 1)
    have h2 := putL_len true (putL true [] 1 ((A : Int) + 1)) V s
    simp at h1; rw [hla]; omega
  have A7 : Hid (IsW 37 true w6 w.heap.size oa2 la) := hla ▸ A6
  have B7 : Hid (IsW 37 true w6 (w.heap.size + 1) ob3 la) := hla ▸ B6
  clear hla A6 B6 A5 B5 A4 B4 A3 B3 A2 B2 A1 B1 A0 B0
  refine (msb_bytes _ oa2 _ _ A7.out (by omega)).mono ?_
  rintro e w7 ⟨u, ou, rfl, c1, c2, c3⟩
  obtain ⟨ao, cap, rfl⟩ := c1.shape
  have X7 := Lib.hid (X6.out.trans c3)
  have A8 := Lib.hid (A7.out.ext c3)
  have B8 := Lib.hid (B7.out.ext c3)
  have V7 := Lib.hid c1.view
  clear c1 c2 c3 A7 B7
  go_wp2_with fail
  refine (msb_new _ _ _ V7.out (by rw [length_packs]; omega)).mono ?_
  rintro e w8 ⟨R, og, rfl, d1, d2, d3, d4⟩
  have X8 := Lib.hid (X7.out.trans d4)
  have A9 := Lib.hid (A8.out.ext d4)
  have B9 := Lib.hid (B8.out.ext d4)
  have R8 := Lib.hid d1
  have HR := Lib.hid (And.intro d2 d3)
  clear d1 d2 d3 d4
  go_wp2_with fail
  have hg1 : getR true (packs true la) 0 ((A : Int) + 1) = (1, A + 1, 0) := by rw [HLA.out]; exact HRD.out.1
  have hlen8 : A + 1 + s ≤ 8 * (packs true la).length := by
    have e := split_len true A s V hA20 hs32 hVs2
    rw [length_packs, HLA.out, e]; omega
  have HG1 := Lib.hid hg1
  clear hg1
  refine (msb_get R og _ 0 _ _ R8.out (by rw [length_packs]; omega) (packs_lt _ _) (Nat.zero_le _)).mono ?_
  rw [HG1.out]
  rintro e w9 ⟨rfl, r1, r2⟩
  have hRn : w.heap.size ≤ R := Nat.le_trans X7.out.size HR.out.1
  have hDA : ¬ (w.heap.size = R ∨ oa2 = some R) := by
    have h1 := HR.out.1; have h2 := A8.out.lt; have h3 := A8.out.glt
    rintro (e | e)
    · omega
    · have := h3 _ e; omega
  have hDB : ¬ (w.heap.size + 1 = R ∨ ob3 = some R) := by
    have h1 := HR.out.1; have h2 := B8.out.lt; have h3 := B8.out.glt
    rintro (e | e)
    · omega
    · have := h3 _ e; omega
  have HDA := Lib.hid hDA
  have HDB := Lib.hid hDB
  have HRN := Lib.hid hRn
  clear hDA hDB hRn
  have X9 := Lib.hid (X8.out.touch r2 (fun i hi e => by have := HRN.out; omega))
  have A10 := Lib.hid (A9.out.keep r2 (fun e => HDA.out (Or.inl e)) (fun g e h => HDA.out (Or.inr (by rw [e]; exact congrArg some h))))
  have B10 := Lib.hid (B9.out.keep r2 (fun e => HDB.out (Or.inl e)) (fun g e h => HDB.out (Or.inr (by rw [e]; exact congrArg some h))))
  have R9 := Lib.hid r1
  clear r1 r2
  go_wp2_with fail
  have hg1 : getR true (packs true la) (A + 1) p = (f, A + 1 + p, 0) := by rw [HLA.out]; exact HRD.out.2.1
  have HG2 := Lib.hid hg1
  clear hg1
  refine (msb_get R og _ (A + 1) _ _ R9.out (by rw [length_packs]; omega) (packs_lt _ _) (by omega)).mono ?_
  rw [HG2.out]
  rintro e w10 ⟨rfl, r1, r2⟩
  have X10 := Lib.hid (X9.out.touch r2 (fun i hi e => by have := HRN.out; omega))
  have A11 := Lib.hid (A10.out.keep r2 (fun e => HDA.out (Or.inl e)) (fun g e h => HDA.out (Or.inr (by rw [e]; exact congrArg some h))))
  have B11 := Lib.hid (B10.out.keep r2 (fun e => HDB.out (Or.inl e)) (fun g e h => HDB.out (Or.inr (by rw [e]; exact congrArg some h))))
  have R10 := Lib.hid r1
  clear r1 r2
  go_wp2_with fail
  have hg1 : getR true (packs true la) (A + 1 + p) q = (g, A + 1 + s, 0) := by rw [HLA.out]; exact HRD.out.2.2
  have HG3 := Lib.hid hg1
  clear hg1
  refine (msb_get R og _ (A + 1 + p) _ _ R10.out (by rw [length_packs]; omega) (packs_lt _ _) (by omega)).mono ?_
  rw [HG3.out]
  rintro e w11 ⟨rfl, r1, r2⟩
  have X11 := Lib.hid (X10.out.touch r2 (fun i hi e => by have := HRN.out; omega))
  have A12 := Lib.hid (A11.out.keep r2 (fun e => HDA.out (Or.inl e)) (fun g e h => HDA.out (Or.inr (by rw [e]; exact congrArg some h))))
  have B12 := Lib.hid (B11.out.keep r2 (fun e => HDB.out (Or.inl e)) (fun g e h => HDB.out (Or.inr (by rw [e]; exact congrArg some h))))
  have R11 := Lib.hid r1
  clear r1 r2
  go_wp2_with fail
  have he : ((strOf (packs true la)).toList == (strOf (packs true la)).toList) = true := by simp
  clear hs hp hA hq hf hg hf4 hg4 hw64 hz64 hVs2 hfp hgq
  -- THE LAST REGION
  have hst : Stab (Phi [(13, .int .i64 0), (16, .int .i64 0), (17, .int .i64 0), (11, .pointer (some ⟨w.heap.size, 0, none⟩)), (12, .pointer (some ⟨w.heap.size + 1, 0, none⟩)), (20, .int .i64 0), (22, .int .i64 0), (19, .int .u32 f), (14, .int .u64 f), (21, .int .u32 g), (15, .int .u64 g), (95, .int .i64 0), (96, .bool true), (97, .bool true), (98, .int .i64 0), (99, .bool true), (100, .bool true), (101, .bool true), (102, .int .i64 0), (103, .bool true), (104, .bool true), (105, .bool true), (107, .string (strOf (packs true la))), (109, .string (strOf (packs true la))), (110, .bool true), (111, .bool true), (112, .bool true), (113, .int .i64 0), (114, .bool true), (115, .bool true), (116, .bool true), (117, .int .i64 0), (118, .bool true), (119, .bool true), (120, .bool true), (121, .int .u32 f), (122, .int .u64 f), (123, .int .u64 f), (124, .bool true), (125, .bool true), (126, .bool true), (127, .int .u32 g), (128, .int .u64 g), (129, .int .u64 g), (130, .bool true), (131, .bool true), (132, .bool true), (133, .bool true), (134, .bool true), (8, .bool true)] [(106, fun v w => View w v (packs true la)), (108, fun v w => View w v (packs true la))]) := Phi.stable (by
      intro x hx v w1 w2 he hp
      simp only [List.mem_cons, List.not_mem_nil, or_false] at hx
      rcases hx with rfl | rfl
      · exact View.ext hp he
      · exact View.ext hp he)
  refine wp_region_grow 135 [13, 16, 17, 11, 12, 20, 22, 19, 14, 21, 15] (by kernel_rfl) _ hst (by kernel_rfl) rfl (fun _ => ⟨rfl, rfl, rfl, rfl, rfl, rfl, rfl, rfl, rfl, rfl, rfl, trivial⟩) ⟨?_, ?_, ?_, ?_, ?_, ?_, ?_, ?_, ?_, ?_, ?_, ?_, ?_, ?_, ?_, ?_, ?_, ?_, ?_, ?_, ?_, ?_, ?_, ?_, ?_, ?_, ?_, ?_, ?_, ?_, ?_, ?_, ?_, ?_, ?_, ?_, ?_, ?_, ?_, ?_, ?_, trivial⟩ ?fin
  · refine Obl.val (.int .i64 0) (fun ev w1 hc hf hg hev => ?_) (fun d hd w1 => by cases hd; rfl)
    have h0 : ev (.tmp 13) = .int .i64 0 := hev.1
    exact ⟨rfl, by (clear hev; go_simp)⟩
  · refine Obl.val (.bool true) (fun ev w1 hc hf hg hev => ?_) (fun d hd w1 => by cases hd; rfl)
    have h0 : ev (.tmp 95) = .int .i64 0 := hev.1
    exact ⟨rfl, by (clear hev; go_simp)⟩
  · refine Obl.val (.bool true) (fun ev w1 hc hf hg hev => ?_) (fun d hd w1 => by cases hd; rfl)
    have h0 : ev (.tmp 96) = .bool true := hev.1
    exact ⟨rfl, by (clear hev; go_simp)⟩
  · refine Obl.val (.int .i64 0) (fun ev w1 hc hf hg hev => ?_) (fun d hd w1 => by cases hd; rfl)
    have h0 : ev (.tmp 97) = .bool true := hev.1; have h1 : ev (.tmp 16) = .int .i64 0 := hev.2.1
    exact ⟨wanted_of rfl rfl h0, by (clear hev; go_simp)⟩
  · refine Obl.val (.bool true) (fun ev w1 hc hf hg hev => ?_) (fun d hd w1 => by cases hd; rfl)
    have h0 : ev (.tmp 97) = .bool true := hev.1; have h1 : ev (.tmp 98) = .int .i64 0 := hev.2.1
    exact ⟨wanted_of rfl rfl h0, by (clear hev; go_simp)⟩
  · refine Obl.val (.bool true) (fun ev w1 hc hf hg hev => ?_) (fun d hd w1 => by cases hd; rfl)
    have h0 : ev (.tmp 97) = .bool true := hev.1; have h1 : ev (.tmp 99) = .bool true := hev.2.1
    exact ⟨rfl, by (clear hev; go_simp)⟩
  · refine Obl.val (.bool true) (fun ev w1 hc hf hg hev => ?_) (fun d hd w1 => by cases hd; rfl)
    have h0 : ev (.tmp 100) = .bool true := hev.1
    exact ⟨rfl, by (clear hev; go_simp)⟩
  · refine Obl.val (.int .i64 0) (fun ev w1 hc hf hg hev => ?_) (fun d hd w1 => by cases hd; rfl)
    have h0 : ev (.tmp 101) = .bool true := hev.1; have h1 : ev (.tmp 17) = .int .i64 0 := hev.2.1
    exact ⟨wanted_of rfl rfl h0, by (clear hev; go_simp)⟩
  · refine Obl.val (.bool true) (fun ev w1 hc hf hg hev => ?_) (fun d hd w1 => by cases hd; rfl)
    have h0 : ev (.tmp 101) = .bool true := hev.1; have h1 : ev (.tmp 102) = .int .i64 0 := hev.2.1
    exact ⟨wanted_of rfl rfl h0, by (clear hev; go_simp)⟩
  · refine Obl.val (.bool true) (fun ev w1 hc hf hg hev => ?_) (fun d hd w1 => by cases hd; rfl)
    have h0 : ev (.tmp 101) = .bool true := hev.1; have h1 : ev (.tmp 103) = .bool true := hev.2.1
    exact ⟨rfl, by (clear hev; go_simp)⟩
  · refine Obl.val (.bool true) (fun ev w1 hc hf hg hev => ?_) (fun d hd w1 => by cases hd; rfl)
    have h0 : ev (.tmp 104) = .bool true := hev.1
    exact ⟨rfl, by (clear hev; go_simp)⟩
  · refine Obl.call 24 #[.pointer (some ⟨w.heap.size, 0, none⟩)] (fun ev w1 hI hc hf hg hev => ?_)
    have h0 : ev (.tmp 105) = .bool true := hev.1; have h1 : ev (.tmp 11) = .pointer (some ⟨w.heap.size, 0, none⟩) := hev.2.1
    refine ⟨wanted_of rfl rfl h0, by (clear hev; go_simp), ?_⟩
    refine (msb_bytes _ oa2 la w1 (A12.out.ext hI) (by omega)).mono ?_
    rintro e w2 ⟨v, og', rfl, c1, _, c3⟩
    exact ⟨v, rfl, c3, fun d hd => by cases hd; exact c1.view⟩
  · refine Obl.val (.string (strOf (packs true la))) (fun ev w1 hc hf hg hev => ?_) (fun d hd w1 => by cases hd; rfl)
    have h0 : ev (.tmp 105) = .bool true := hev.1; have h1 : (fun v w => View w v (packs true la)) (ev (.tmp 106)) w1 := hev.2.1
    clear hev
    have hs := run_string_view (P := Try.prog) 23 9 5 h1 Try.underlying23 Try.underlying5 Try.underlying9
    exact ⟨wanted_of rfl rfl h0, by go_simp⟩
  · refine Obl.call 24 #[.pointer (some ⟨w.heap.size + 1, 0, none⟩)] (fun ev w1 hI hc hf hg hev => ?_)
    have h0 : ev (.tmp 105) = .bool true := hev.1; have h1 : ev (.tmp 12) = .pointer (some ⟨w.heap.size + 1, 0, none⟩) := hev.2.1
    refine ⟨wanted_of rfl rfl h0, by (clear hev; go_simp), ?_⟩
    refine (msb_bytes _ ob3 la w1 (B12.out.ext hI) (by omega)).mono ?_
    rintro e w2 ⟨v, og', rfl, c1, _, c3⟩
    exact ⟨v, rfl, c3, fun d hd => by cases hd; exact c1.view⟩
  · refine Obl.val (.string (strOf (packs true la))) (fun ev w1 hc hf hg hev => ?_) (fun d hd w1 => by cases hd; rfl)
    have h0 : ev (.tmp 105) = .bool true := hev.1; have h1 : (fun v w => View w v (packs true la)) (ev (.tmp 108)) w1 := hev.2.1
    clear hev
    have hs := run_string_view (P := Try.prog) 23 9 5 h1 Try.underlying23 Try.underlying5 Try.underlying9
    exact ⟨wanted_of rfl rfl h0, by go_simp⟩
  · refine Obl.val (.bool true) (fun ev w1 hc hf hg hev => ?_) (fun d hd w1 => by cases hd; rfl)
    have h0 : ev (.tmp 105) = .bool true := hev.1; have h1 : ev (.tmp 107) = .string (strOf (packs true la)) := hev.2.1; have h2 : ev (.tmp 109) = .string (strOf (packs true la)) := hev.2.2.1
    exact ⟨wanted_of rfl rfl h0, by (clear hev; go_simp)⟩
  · refine Obl.val (.bool true) (fun ev w1 hc hf hg hev => ?_) (fun d hd w1 => by cases hd; rfl)
    have h0 : ev (.tmp 105) = .bool true := hev.1; have h1 : ev (.tmp 110) = .bool true := hev.2.1
    exact ⟨rfl, by (clear hev; go_simp)⟩
  · refine Obl.val (.bool true) (fun ev w1 hc hf hg hev => ?_) (fun d hd w1 => by cases hd; rfl)
    have h0 : ev (.tmp 111) = .bool true := hev.1
    exact ⟨rfl, by (clear hev; go_simp)⟩
  · refine Obl.val (.int .i64 0) (fun ev w1 hc hf hg hev => ?_) (fun d hd w1 => by cases hd; rfl)
    have h0 : ev (.tmp 112) = .bool true := hev.1; have h1 : ev (.tmp 20) = .int .i64 0 := hev.2.1
    exact ⟨wanted_of rfl rfl h0, by (clear hev; go_simp)⟩
  · refine Obl.val (.bool true) (fun ev w1 hc hf hg hev => ?_) (fun d hd w1 => by cases hd; rfl)
    have h0 : ev (.tmp 112) = .bool true := hev.1; have h1 : ev (.tmp 113) = .int .i64 0 := hev.2.1
    exact ⟨wanted_of rfl rfl h0, by (clear hev; go_simp)⟩
  · refine Obl.val (.bool true) (fun ev w1 hc hf hg hev => ?_) (fun d hd w1 => by cases hd; rfl)
    have h0 : ev (.tmp 112) = .bool true := hev.1; have h1 : ev (.tmp 114) = .bool true := hev.2.1
    exact ⟨rfl, by (clear hev; go_simp)⟩
  · refine Obl.val (.bool true) (fun ev w1 hc hf hg hev => ?_) (fun d hd w1 => by cases hd; rfl)
    have h0 : ev (.tmp 115) = .bool true := hev.1
    exact ⟨rfl, by (clear hev; go_simp)⟩
  · refine Obl.val (.int .i64 0) (fun ev w1 hc hf hg hev => ?_) (fun d hd w1 => by cases hd; rfl)
    have h0 : ev (.tmp 116) = .bool true := hev.1; have h1 : ev (.tmp 22) = .int .i64 0 := hev.2.1
    exact ⟨wanted_of rfl rfl h0, by (clear hev; go_simp)⟩
  · refine Obl.val (.bool true) (fun ev w1 hc hf hg hev => ?_) (fun d hd w1 => by cases hd; rfl)
    have h0 : ev (.tmp 116) = .bool true := hev.1; have h1 : ev (.tmp 117) = .int .i64 0 := hev.2.1
    exact ⟨wanted_of rfl rfl h0, by (clear hev; go_simp)⟩
  · refine Obl.val (.bool true) (fun ev w1 hc hf hg hev => ?_) (fun d hd w1 => by cases hd; rfl)
    have h0 : ev (.tmp 116) = .bool true := hev.1; have h1 : ev (.tmp 118) = .bool true := hev.2.1
    exact ⟨rfl, by (clear hev; go_simp)⟩
  · refine Obl.val (.bool true) (fun ev w1 hc hf hg hev => ?_) (fun d hd w1 => by cases hd; rfl)
    have h0 : ev (.tmp 119) = .bool true := hev.1
    exact ⟨rfl, by (clear hev; go_simp)⟩
  · refine Obl.val (.int .u32 f) (fun ev w1 hc hf hg hev => ?_) (fun d hd w1 => by cases hd; rfl)
    have h0 : ev (.tmp 120) = .bool true := hev.1; have h1 : ev (.tmp 19) = .int .u32 f := hev.2.1
    exact ⟨wanted_of rfl rfl h0, by (clear hev; go_simp)⟩
  · refine Obl.val (.int .u64 f) (fun ev w1 hc hf hg hev => ?_) (fun d hd w1 => by cases hd; rfl)
    have h0 : ev (.tmp 120) = .bool true := hev.1; have h1 : ev (.tmp 121) = .int .u32 f := hev.2.1
    exact ⟨wanted_of rfl rfl h0, by (clear hev; go_simp; first | exact IntWalk.u64_in _ (by omega) | exact IntWalk.u32_in _ (by omega) | exact IntWalk.i64_in _ (by omega) | exact IntWalk.u8_in _ (by omega))⟩
  · refine Obl.val (.int .u64 f) (fun ev w1 hc hf hg hev => ?_) (fun d hd w1 => by cases hd; rfl)
    have h0 : ev (.tmp 120) = .bool true := hev.1; have h1 : ev (.tmp 14) = .int .u64 f := hev.2.1
    exact ⟨wanted_of rfl rfl h0, by (clear hev; go_simp)⟩
  · refine Obl.val (.bool true) (fun ev w1 hc hf hg hev => ?_) (fun d hd w1 => by cases hd; rfl)
    have h0 : ev (.tmp 120) = .bool true := hev.1; have h1 : ev (.tmp 122) = .int .u64 f := hev.2.1; have h2 : ev (.tmp 123) = .int .u64 f := hev.2.2.1
    exact ⟨wanted_of rfl rfl h0, by (clear hev; go_simp)⟩
  · refine Obl.val (.bool true) (fun ev w1 hc hf hg hev => ?_) (fun d hd w1 => by cases hd; rfl)
    have h0 : ev (.tmp 120) = .bool true := hev.1; have h1 : ev (.tmp 124) = .bool true := hev.2.1
    exact ⟨rfl, by (clear hev; go_simp)⟩
  · refine Obl.val (.bool true) (fun ev w1 hc hf hg hev => ?_) (fun d hd w1 => by cases hd; rfl)
    have h0 : ev (.tmp 125) = .bool true := hev.1
    exact ⟨rfl, by (clear hev; go_simp)⟩
  · refine Obl.val (.int .u32 g) (fun ev w1 hc hf hg hev => ?_) (fun d hd w1 => by cases hd; rfl)
    have h0 : ev (.tmp 126) = .bool true := hev.1; have h1 : ev (.tmp 21) = .int .u32 g := hev.2.1
    exact ⟨wanted_of rfl rfl h0, by (clear hev; go_simp)⟩
  · refine Obl.val (.int .u64 g) (fun ev w1 hc hf hg hev => ?_) (fun d hd w1 => by cases hd; rfl)
    have h0 : ev (.tmp 126) = .bool true := hev.1; have h1 : ev (.tmp 127) = .int .u32 g := hev.2.1
    exact ⟨wanted_of rfl rfl h0, by (clear hev; go_simp; first | exact IntWalk.u64_in _ (by omega) | exact IntWalk.u32_in _ (by omega) | exact IntWalk.i64_in _ (by omega) | exact IntWalk.u8_in _ (by omega))⟩
  · refine Obl.val (.int .u64 g) (fun ev w1 hc hf hg hev => ?_) (fun d hd w1 => by cases hd; rfl)
    have h0 : ev (.tmp 126) = .bool true := hev.1; have h1 : ev (.tmp 15) = .int .u64 g := hev.2.1
    exact ⟨wanted_of rfl rfl h0, by (clear hev; go_simp)⟩
  · refine Obl.val (.bool true) (fun ev w1 hc hf hg hev => ?_) (fun d hd w1 => by cases hd; rfl)
    have h0 : ev (.tmp 126) = .bool true := hev.1; have h1 : ev (.tmp 128) = .int .u64 g := hev.2.1; have h2 : ev (.tmp 129) = .int .u64 g := hev.2.2.1
    exact ⟨wanted_of rfl rfl h0, by (clear hev; go_simp)⟩
  · refine Obl.val (.bool true) (fun ev w1 hc hf hg hev => ?_) (fun d hd w1 => by cases hd; rfl)
    have h0 : ev (.tmp 126) = .bool true := hev.1; have h1 : ev (.tmp 130) = .bool true := hev.2.1
    exact ⟨rfl, by (clear hev; go_simp)⟩
  · refine Obl.val (.bool true) (fun ev w1 hc hf hg hev => ?_) (fun d hd w1 => by cases hd; rfl)
    have h0 : ev (.tmp 131) = .bool true := hev.1
    exact ⟨rfl, by (clear hev; go_simp)⟩
  · refine Obl.call 26 #[] (fun ev w1 hI hc hf hg hev => ?_)
    have h0 : ev (.tmp 132) = .bool true := hev.1
    refine ⟨wanted_of rfl rfl h0, by (clear hev; go_simp), ?_⟩
    refine (msb_lays w1).mono ?_
    rintro e w2 ⟨rfl, c3⟩
    exact ⟨_, rfl, c3, fun d hd => by cases hd; rfl⟩
  · refine Obl.val (.bool true) (fun ev w1 hc hf hg hev => ?_) (fun d hd w1 => by cases hd; rfl)
    have h0 : ev (.tmp 132) = .bool true := hev.1; have h1 : ev (.tmp 133) = .bool true := hev.2.1
    exact ⟨rfl, by (clear hev; go_simp)⟩
  · refine Obl.val (.bool true) (fun ev w1 hc hf hg hev => ?_) (fun d hd w1 => by cases hd; rfl)
    have h0 : ev (.tmp 134) = .bool true := hev.1
    exact ⟨rfl, by (clear hev; go_simp)⟩
  -- BEHIND IT
  case fin =>
    intro a' w' he hd hf
    go_wp2_with fail
    have h8 : a'.tmps.getD 8 undef = .bool true := hf 8 (by decide)
    exact bodyPost_ret (by rw [results_tmp rfl, h8]) hd ⟨rfl, X11.out.trans he⟩

theorem msb_split (a v n k : Nat) (w : World) (ha : a < 256) (hv : v < 2 ^ 32) (hn : n < 256) (hk : k < 256) :
    Calls Try.prog 4 #[.int .u8 a, .int .u32 v, .int .u8 n, .int .u8 k] w fun e w' => e = .returned (.bool true) ∧ Ext w w' := by
  obtain ⟨s, hs⟩ : ∃ s, s = n % 33 := ⟨_, rfl⟩
  obtain ⟨p, hp⟩ : ∃ p, p = k % (s + 1) := ⟨_, rfl⟩
  obtain ⟨q, hq⟩ : ∃ q, q = s - p := ⟨_, rfl⟩
  have hps : p ≤ s := by have := Nat.mod_lt k (show 0 < s + 1 by omega); omega
  have hs32 : s ≤ 32 := by omega
  have e1 : (n : Int) % 33 = (s : Int) := by omega
  have e2 : (k : Int) % ((s : Int) + 1) = (p : Int) := by rw [hp]; simp
  have e3 : (a : Int) % 20 = ((a % 20 : Nat) : Int) := by omega
  have e4 : (s : Int) - (p : Int) = (q : Int) := by omega
  have main : ∀ V : Nat, V < 2 ^ 32 → V < 2 ^ s → ∃ f g : Nat, (V : Int) / 2 ^ q = (f : Int) ∧ (V : Int) % 2 ^ q = (g : Int) ∧ f < 2 ^ p ∧ g < 2 ^ q ∧ f < 2 ^ 32 ∧ g < 2 ^ 32 ∧ bitsOf true V s = bitsOf true f p ++ bitsOf true g q := by
    intro V hV32 hV
    have hpq : 2 ^ s = 2 ^ p * 2 ^ q := by rw [← Nat.pow_add]; congr 1; omega
    refine ⟨V / 2 ^ q, V % 2 ^ q, by simp, by simp, ?_, ?_, ?_, ?_, ?_⟩
    · exact Nat.div_lt_of_lt_mul (by rw [Nat.mul_comm, ← hpq]; exact hV)
    · exact Nat.mod_lt _ (Nat.two_pow_pos q)
    · exact Nat.lt_of_le_of_lt (Nat.div_le_self _ _) hV32
    · exact Nat.lt_of_le_of_lt (Nat.mod_le _ _) hV32
    · subst hq
      have h := bitsOf_split_high (V / 2 ^ (s - p)) (V % 2 ^ (s - p)) p s hps (Nat.mod_lt _ (Nat.two_pow_pos _))
      rw [show V / 2 ^ (s - p) * 2 ^ (s - p) + V % 2 ^ (s - p) = V by rw [Nat.mul_comm]; exact Nat.div_add_mod V (2 ^ (s - p))] at h
      exact h
  have hw64 : IntKind.u64.wrap (2 ^ q) = 2 ^ q := by
    have h : (2 : Nat) ^ q ≤ 2 ^ 32 := Nat.pow_le_pow_right (by omega) (by omega)
    have e : (2 : Int) ^ q = ((2 ^ q : Nat) : Int) := by simp
    rw [e]
    generalize (2 : Nat) ^ q = z at h
    exact IntWalk.u64_in _ (by omega)
  have hz : ∀ m : Nat, ((2 : Int) ^ m == 0) = false := by
    intro m
    have e : (2 : Int) ^ m = ((2 ^ m : Nat) : Int) := by simp
    have := Nat.two_pow_pos m
    rw [e, beq_eq_false_iff_ne]
    generalize (2 : Nat) ^ m = z at this
    omega
  by_cases h32 : s < 32
  · have hV : v % 2 ^ s < 2 ^ s := Nat.mod_lt _ (Nat.two_pow_pos s)
    have hV32 : v % 2 ^ s < 2 ^ 32 := Nat.lt_of_le_of_lt (Nat.mod_le _ _) hv
    obtain ⟨f, g, h1, h2, h3, h4, h5, h6, h7⟩ := main (v % 2 ^ s) hV32 hV
    have hw32 : (2 : Int) ^ s % 4294967296 = 2 ^ s := by
      have h : (2 : Nat) ^ s ≤ 2 ^ 31 := Nat.pow_le_pow_right (by omega) (by omega)
      have e : (2 : Int) ^ s = ((2 ^ s : Nat) : Int) := by simp
      rw [e]
      generalize (2 : Nat) ^ s = z at h
      omega
    exact msb_split_low a v n k s p q (a % 20) (v % 2 ^ s) f g w ha hv hn hk e1 e2 e3 (Nat.mod_lt _ (by omega)) (by simp) (by omega) hps hV32 hs32 hV e4 h1 h2 h3 h4 (by omega) (by omega) h5 h6 h7 (by omega) (by omega) hw32 hw64 (hz s) (hz _)
  · obtain rfl : s = 32 := by omega
    obtain ⟨f, g, h1, h2, h3, h4, h5, h6, h7⟩ := main v hv hv
    exact msb_split_top a n k 32 p q (a % 20) v f g w ha hn hk e1 e2 e3 (Nat.mod_lt _ (by omega)) (by omega) hps hv hs32 hv e4 h1 h2 h3 h4 (by omega) (by omega) h5 h6 h7 (by omega) (by omega) hw64 (hz _)
end Go.Proofs.Ytnmibfdpaamlgaa
