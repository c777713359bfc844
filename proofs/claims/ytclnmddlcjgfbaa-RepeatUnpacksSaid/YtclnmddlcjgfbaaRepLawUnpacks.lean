/- pressworklaw07.RepeatUnpacks: its walk. -/
import Derived.Test.YtclnmddlcjgfbaaRepRefUnpack
import Derived.Test.YtclnmddlcjgfbaaRepLawJoins
import Derived.Maps.AppendAt
namespace Go.Proofs.Ytclnmddlcjgfbaa
open Go.RowKit
set_option linter.unusedVariables false

theorem take_snoc (l : List (Nat × Nat)) (k : Nat) (s : Nat × Nat) (h : l[k]? = some s) : l.take (k + 1) = l.take k ++ [s] := by
  obtain ⟨hk, rfl⟩ := List.getElem?_eq_some_iff.1 h
  rw [List.take_succ_eq_append_getElem hk]
set_option maxHeartbeats 4000000 in
set_option maxRecDepth 100000 in
theorem rep_unpacks_some (v : Value) (l : List (Nat × Nat)) (n : Int) (w : World) (hv : ViewS w v l) (h256 : ∀ s ∈ l, s.1 < 256 ∧ s.2 < 256) (hl : l.length ≤ 400) (hn1 : -9223372036854775808 ≤ n) (hn2 : n ≤ 9223372036854775807) :
    Calls Try.prog 4 #[v, .int .i64 n] w fun e w' => e = .returned (.bool true) ∧ Ext w w' := by
  obtain ⟨i0, hi, hz0, hz1, hz2⟩ := info_parts rep_infoR
  obtain ⟨lo, lcap, rfl⟩ := hv.shape
  have h1 : ¬ (400 : Int) < (l.length : Int) := by omega
  have HV := Lib.hid hv
  have H256 := Lib.hid h256
  clear hv h256
  go_enter Try.func4, Try.ntmps4
  go_wp2_with fail
  go_loopw [5, 6] (fun ov iv wr => ∃ k : Nat, iv = .int .i64 k ∧ k ≤ l.length ∧ RO 32 w (l.take k) ov wr) (fun _ iv _ => l.length - (intOf iv).toNat)
  case atStart => exact ⟨0, rfl, Nat.zero_le _, none, Owns.nil _ _ _, fun g e => (by cases e), Ext.refl _⟩
  case round =>
    obtain ⟨k, rfl, hk, hro⟩ := hrel
    by_cases hlt : k < l.length
    · have hlti : (k : Int) < (l.length : Int) := by omega
      obtain ⟨b, o, rfl, hc⟩ := HV.out.cells (by omega)
      obtain ⟨s, hsk⟩ : ∃ s, l[k]? = some s := ⟨_, List.getElem?_eq_getElem hlt⟩
      have hc2 := hc k s hsk
      have hsn := take_snoc l k s hsk
      obtain ⟨c, x⟩ := s
      simp only at hc2
      have HC := Lib.hid hc2
      have HSN := Lib.hid hsn
      have HRO := Lib.hid hro
      have htl : (l.take k).length ≤ 400 := by have := List.length_take_le k l; omega
      have k1 : (k : Int).toNat = k := Int.toNat_natCast k
      have k2 : (0 : Int) ≤ (k : Int) := by omega
      clear hc hsk hc2 hsn hro
      go_wp2_with fail
-- REG
      have hst : Stab (Phi [(20, u5), (21, .slice (some ⟨b, o, none⟩) l.length lcap), (22, .int .i64 k), (23, .pointer (some ⟨b, o + k * 2, none⟩)), (24, .pointer (some ⟨b, o + k * 2, none⟩)), (25, .int .u8 c), (26, .slice (some ⟨b, o, none⟩) l.length lcap), (27, .int .i64 k), (28, .pointer (some ⟨b, o + k * 2, none⟩)), (29, .pointer (some ⟨b, o + k * 2 + 1, none⟩)), (30, .int .u8 x), (31, .agg #[.int .u8 c, .int .u8 x])] [(32, fun (v : Value) (w' : World) => ∃ g, v = .slice (some ⟨g, 0, none⟩) 1 1 ∧ w'.heap[g]? = some (.cells #[.int .u8 c, .int .u8 x] 32 (0, 0)) ∧ u5.ownBlock ≠ some g), (33, fun v w' => RO 32 w (l.take (k + 1)) v w'), (5, fun v w' => RO 32 w (l.take (k + 1)) v w')]) := Phi.stable (by
          intro x hx v w1 w2 he hp
          simp only [List.mem_cons, List.not_mem_nil, or_false] at hx
          rcases hx with rfl | rfl | rfl
          · exact (let ⟨g, e, h1, h2⟩ := hp; ⟨g, e, he.keep h1 (fun f => f), h2⟩)
          · exact (RO.ext hp he)
          · exact (RO.ext hp he))
      refine wp_region_re 59 [5, 0, 6] [20, 21, 22, 23, 24, 25, 26, 27, 28, 29, 30, 31, 32, 33, 5] 13 [0, 0, 0, 0, 0, 0, 0, 0, 0, 0, 0, 0, 0, 2, 1] (fun w' => RO 32 w (l.take k) u5 w') (fun w' => Ext w w') (by kernel_rfl) _ (Phi [(5, u5), (0, .slice (some ⟨b, o, none⟩) l.length lcap), (6, .int .i64 k)] []) hst (fun _ _ h k => h.ext k) (fun _ _ h k => h.trans k) (by kernel_rfl) rfl rfl (fun _ => ⟨rfl, rfl, rfl, trivial⟩) (HRO.out) ⟨?_, ?_, ?_, ?_, ?_, ?_, ?_, ?_, ?_, ?_, ?_, ?_, ?_, ?_, ?_, trivial⟩ ?fin
      · refine OblR.val (u5) (fun ev w1 hI hc hev => ?_)
        obtain ⟨hc, hf, hg⟩ := hc
        have h0 : ev (.tmp 5) = u5 := at_base hev.1 (by kernel_rfl)
        exact ⟨rfl, by (clear hev; go_simp), fun d hd => by cases hd; rfl⟩
      · refine OblR.val (.slice (some ⟨b, o, none⟩) l.length lcap) (fun ev w1 hI hc hev => ?_)
        obtain ⟨hc, hf, hg⟩ := hc
        have h0 : ev (.tmp 0) = .slice (some ⟨b, o, none⟩) l.length lcap := at_base hev.1 (by kernel_rfl)
        exact ⟨rfl, by (clear hev; go_simp), fun d hd => by cases hd; rfl⟩
      · refine OblR.val (.int .i64 k) (fun ev w1 hI hc hev => ?_)
        obtain ⟨hc, hf, hg⟩ := hc
        have h0 : ev (.tmp 6) = .int .i64 k := at_base hev.1 (by kernel_rfl)
        exact ⟨rfl, by (clear hev; go_simp), fun d hd => by cases hd; rfl⟩
      · refine OblR.val (.pointer (some ⟨b, o + k * 2, none⟩)) (fun ev w1 hI hc hev => ?_)
        obtain ⟨hc, hf, hg⟩ := hc
        have h0 : ev (.tmp 21) = .slice (some ⟨b, o, none⟩) l.length lcap := at_new hev.1 (by kernel_rfl); have h1 : ev (.tmp 22) = .int .i64 k := at_new hev.2.1 (by kernel_rfl)
        exact ⟨rfl, by (clear hev; go_simp), fun d hd => by cases hd; rfl⟩
      · refine OblR.val (.pointer (some ⟨b, o + k * 2, none⟩)) (fun ev w1 hI hc hev => ?_)
        obtain ⟨hc, hf, hg⟩ := hc
        have h0 : ev (.tmp 23) = .pointer (some ⟨b, o + k * 2, none⟩) := at_new hev.1 (by kernel_rfl)
        exact ⟨rfl, by (clear hev; go_simp), fun d hd => by cases hd; rfl⟩
      · refine OblR.opt (fun ev w1 hI hc hev => ?_)
        obtain ⟨hc, hf, hg⟩ := hc
        have h0 : ev (.tmp 24) = .pointer (some ⟨b, o + k * 2, none⟩) := at_new hev.1 (by kernel_rfl)
        clear hev
        have hI : RO 32 w (l.take k) u5 w1 := hI
        have hc9 := cell_touch hI.toExt HC.out.1 (fun f => f)
        exact ⟨rfl, .int .u8 c, by go_simp, fun d hd => by cases hd; rfl⟩
      · refine OblR.val (.slice (some ⟨b, o, none⟩) l.length lcap) (fun ev w1 hI hc hev => ?_)
        obtain ⟨hc, hf, hg⟩ := hc
        have h0 : ev (.tmp 0) = .slice (some ⟨b, o, none⟩) l.length lcap := at_base hev.1 (by kernel_rfl)
        exact ⟨rfl, by (clear hev; go_simp), fun d hd => by cases hd; rfl⟩
      · refine OblR.val (.int .i64 k) (fun ev w1 hI hc hev => ?_)
        obtain ⟨hc, hf, hg⟩ := hc
        have h0 : ev (.tmp 6) = .int .i64 k := at_base hev.1 (by kernel_rfl)
        exact ⟨rfl, by (clear hev; go_simp), fun d hd => by cases hd; rfl⟩
      · refine OblR.val (.pointer (some ⟨b, o + k * 2, none⟩)) (fun ev w1 hI hc hev => ?_)
        obtain ⟨hc, hf, hg⟩ := hc
        have h0 : ev (.tmp 26) = .slice (some ⟨b, o, none⟩) l.length lcap := at_new hev.1 (by kernel_rfl); have h1 : ev (.tmp 27) = .int .i64 k := at_new hev.2.1 (by kernel_rfl)
        exact ⟨rfl, by (clear hev; go_simp), fun d hd => by cases hd; rfl⟩
      · refine OblR.val (.pointer (some ⟨b, o + k * 2 + 1, none⟩)) (fun ev w1 hI hc hev => ?_)
        obtain ⟨hc, hf, hg⟩ := hc
        have h0 : ev (.tmp 28) = .pointer (some ⟨b, o + k * 2, none⟩) := at_new hev.1 (by kernel_rfl)
        exact ⟨rfl, by (clear hev; go_simp), fun d hd => by cases hd; rfl⟩
      · refine OblR.opt (fun ev w1 hI hc hev => ?_)
        obtain ⟨hc, hf, hg⟩ := hc
        have h0 : ev (.tmp 29) = .pointer (some ⟨b, o + k * 2 + 1, none⟩) := at_new hev.1 (by kernel_rfl)
        clear hev
        have hI : RO 32 w (l.take k) u5 w1 := hI
        have hc9 := cell_touch hI.toExt HC.out.2 (fun f => f)
        exact ⟨rfl, .int .u8 x, by go_simp, fun d hd => by cases hd; rfl⟩
      · refine OblR.val (.agg #[.int .u8 c, .int .u8 x]) (fun ev w1 hI hc hev => ?_)
        obtain ⟨hc, hf, hg⟩ := hc
        have h0 : ev (.tmp 25) = .int .u8 c := at_new hev.1 (by kernel_rfl); have h1 : ev (.tmp 30) = .int .u8 x := at_new hev.2.1 (by kernel_rfl)
        exact ⟨rfl, by (clear hev; go_simp), fun d hd => by cases hd; rfl⟩
      · refine OblR.mem (fun ev w1 hI hc hev => ?_)
        obtain ⟨hc, hf, hg⟩ := hc
        have h0 : ev (.tmp 31) = .agg #[.int .u8 c, .int .u8 x] := at_new hev.1 (by kernel_rfl)
        clear hev
        have hI : RO 32 w (l.take k) u5 w1 := hI
        have hne : u5.ownBlock ≠ some w1.heap.size := fun e => by
          obtain ⟨og, q1, _, _⟩ := hI
          rw [q1.2] at e
          exact Nat.lt_irrefl _ (q1.lt _ e)
        exact ⟨rfl, .slice (some ⟨w1.heap.size, 0, none⟩) 1 1, w1.alloc (.cells #[.int .u8 c, .int .u8 x] 32), by go_simp, (Ext.refl w1).alloc _, fun d hd => by cases hd; exact ⟨w1.heap.size, rfl, heap_alloc_new w1 _, hne⟩⟩
      · refine OblRC.opt (fun ev w1 hI hc hev => ?_)
        obtain ⟨hc, hf, hg⟩ := hc
        have h0 : ev (.tmp 20) = u5 := at_new hev.1 (by kernel_rfl); have h1 : (fun (v : Value) (w' : World) => ∃ g, v = .slice (some ⟨g, 0, none⟩) 1 1 ∧ w'.heap[g]? = some (.cells #[.int .u8 c, .int .u8 x] 32 (0, 0)) ∧ u5.ownBlock ≠ some g) (ev (.tmp 32)) w1 := at_new hev.2.1 (by kernel_rfl)
        clear hev
        have hI : RO 32 w (l.take k) u5 w1 := hI
        obtain ⟨g, eg, hg, hng⟩ := h1
        obtain ⟨v', w2, hrun, hown', hgrow, _, hat⟩ := run_append_own_at (P := Try.prog) (w := w1) 0 27 27 32 i0 (.agg #[.int .u8 0, .int .u8 0]) 2 2 Try.underlying27 hi hz0 hz1 hz2 rfl (by decide) u5 (l.take k).length (scells (l.take k)) hI.choose_spec.1.1 ⟨g, 0, none⟩ 1 1 (scells [(c, x)]) rfl (fun j u hj => by rw [add_lit, World.cell?, hg]; simpa [scells] using hj) (by simp [scells, Value.oneCell']) (by unfold maxLen; omega) (by omega) (Nat.zero_le _)
        have hr := RO.two (m := [(c, x)]) hI hown' hgrow hat
        rw [← HSN.out] at hr
        refine ⟨rfl, v', w2, by simp [execOp, resolve, invoke, builtin, h0, eg, hrun, Result.andThen], hr.toExt, fun t u ht h => ?_, fun d hd => by cases hd; exact hr⟩
        rw [show openSlots _ _ _ = [20, 21, 22, 23, 24, 25, 26, 27, 28, 29, 30, 31, 32] from by kernel_rfl] at ht
        simp only [List.mem_cons, List.not_mem_nil, or_false] at ht
        rcases ht with rfl | rfl | rfl | rfl | rfl | rfl | rfl | rfl | rfl | rfl | rfl | rfl | rfl
        · exact h
        · exact h
        · exact h
        · exact h
        · exact h
        · exact h
        · exact h
        · exact h
        · exact h
        · exact h
        · exact h
        · exact h
        · obtain ⟨g', e', hg', hn'⟩ : (fun (v : Value) (w' : World) => ∃ g, v = .slice (some ⟨g, 0, none⟩) 1 1 ∧ w'.heap[g]? = some (.cells #[.int .u8 c, .int .u8 x] 32 (0, 0)) ∧ u5.ownBlock ≠ some g) u w1 := h
          exact ⟨g', e', (hgrow.block g' (block_lt hg') (fun e => hn' e.symm)).trans hg', hn'⟩
      · refine OblR.opt (fun ev w1 hI hc hev => ?_)
        obtain ⟨hc, hf, hg⟩ := hc
        have h0 : (fun v w' => RO 32 w (l.take (k + 1)) v w') (ev (.tmp 33)) w1 := at_new hev.1 (by kernel_rfl)
        clear hev
        exact ⟨rfl, ev (.tmp 33), by go_simp, fun d hd => by cases hd; exact h0⟩
      case fin =>
        intro vs w5 he5 hf
        have e20 : vs 20 = u5 := hf 20 (by decide)
        have e21 : vs 21 = .slice (some ⟨b, o, none⟩) l.length lcap := hf 21 (by decide)
        have e22 : vs 22 = .int .i64 k := hf 22 (by decide)
        have e23 : vs 23 = .pointer (some ⟨b, o + k * 2, none⟩) := hf 23 (by decide)
        have e24 : vs 24 = .pointer (some ⟨b, o + k * 2, none⟩) := hf 24 (by decide)
        have e25 : vs 25 = .int .u8 c := hf 25 (by decide)
        have e26 : vs 26 = .slice (some ⟨b, o, none⟩) l.length lcap := hf 26 (by decide)
        have e27 : vs 27 = .int .i64 k := hf 27 (by decide)
        have e28 : vs 28 = .pointer (some ⟨b, o + k * 2, none⟩) := hf 28 (by decide)
        have e29 : vs 29 = .pointer (some ⟨b, o + k * 2 + 1, none⟩) := hf 29 (by decide)
        have e30 : vs 30 = .int .u8 x := hf 30 (by decide)
        have e31 : vs 31 = .agg #[.int .u8 c, .int .u8 x] := hf 31 (by decide)
        simp only [List.foldl_cons, List.foldl_nil]
        rw [e20, e21, e22, e23, e24, e25, e26, e27, e28, e29, e30, e31]
        generalize vs 32 = u32
        generalize vs 33 = u33
        have s5 : (fun v w' => RO 32 w (l.take (k + 1)) v w') (vs 5) w5 := hf 5 (by decide)
        generalize vs 5 = u5 at s5 ⊢
        simp only [Act.put, List.setIfInBounds_toArray, List.set_cons_succ, List.set_cons_zero]
        clear hf e20 e21 e22 e23 e24 e25 e26 e27 e28 e29 e30 e31
        have HF := Lib.hid s5
        clear s5 he5
        go_wp2_with fail
        go_roundw
        case rel => exact ⟨k + 1, by go_num, by omega, HF.out⟩
        case measure => simp [intOf]; omega
-- REGEND
    · obtain rfl : k = l.length := by omega
      rw [List.take_length] at hro
      obtain ⟨ra, rcap, rfl⟩ := hro.viewS.shape
      have HRO := Lib.hid hro
      clear hro
      go_wp2_with fail
      refine (rep_unpack _ l n _ (HV.out.ext HRO.out.toExt) H256.out (by omega) hn1 hn2).mono ?_
      obtain ⟨p, hp⟩ : ∃ p, p = unpR l n := ⟨_, rfl⟩
      obtain ⟨pL, pE⟩ := p
      rw [← hp]
      rintro e w2 ⟨u, rfl, hu⟩
      obtain ⟨ua, ucap, rfl⟩ := hu.view.shape
      have HU := Lib.hid hu
      have HP := Lib.hid hp
      clear hu hp
      simp only at HU ⊢
      go_wp2_with fail
      refine (rep_ref_unpack _ l n _ (HRO.out.viewS.ext HU.out.toExt) H256.out (by omega) hn1 hn2).mono ?_
      rw [← HP.out]
      rintro e w3 ⟨u2, rfl, hu2⟩
      have hs1 := run_string_view (P := Try.prog) 22 9 5 (HU.out.view.ext hu2.toExt) Try.underlying22 Try.underlying5 Try.underlying9
      have hs2 := run_string_view (P := Try.prog) 22 9 5 hu2.view Try.underlying22 Try.underlying5 Try.underlying9
      have he : ((strOf pL).toList == (strOf pL).toList) = true := by simp
      have HX3 := Lib.hid (HRO.out.toExt.trans (HU.out.toExt.trans hu2.toExt))
      obtain ⟨ua2, ucap2, rfl⟩ := hu2.view.shape
      clear hu2
      simp only
      go_wp2_with fail
      refine (rep_packs _).mono ?_
      rintro e w6 ⟨rfl, hx6⟩
      have HX6 := Lib.hid (HX3.out.trans hx6)
      clear hx6 hs1 hs2
      go_wp2_with fail
      go_ret
      exact ⟨rfl, HX6.out⟩
theorem rep_unpacks_long (v : Value) (l : List (Nat × Nat)) (n : Int) (w : World) (hv : ViewS w v l) (hm : l.length ≤ maxLen) (hl : 400 < l.length) :
    Calls Try.prog 4 #[v, .int .i64 n] w fun e w' => e = .returned (.bool true) ∧ Ext w w' := by
  obtain ⟨lo, lcap, rfl⟩ := hv.shape
  clear hv
  unfold maxLen at hm
  have h1 : (400 : Int) < (l.length : Int) := by omega
  go_enter Try.func4, Try.ntmps4
  go_wp2_with fail
  go_ret
  exact ⟨rfl, Ext.refl _⟩
theorem rep_law_unpacks (v : Value) (l : List (Nat × Nat)) (n : Int) (w : World) (hv : ViewS w v l ∧ ∀ s ∈ l, s.1 < 256 ∧ s.2 < 256) (hm : l.length ≤ maxLen) (hn : -9223372036854775808 ≤ n ∧ n ≤ 9223372036854775807) :
    Calls Try.prog 4 #[v, .int .i64 n] w fun e w' => e = .returned (.bool true) ∧ Ext w w' := by
  by_cases h : l.length ≤ 400
  · exact rep_unpacks_some v l n w hv.1 hv.2 h hn.1 hn.2
  · exact rep_unpacks_long v l n w hv.1 hm (by omega)
end Go.Proofs.Ytclnmddlcjgfbaa
