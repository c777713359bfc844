/- pressworklaw01.LsbWrites: its walk. -/
import Derived.Test.YtnmibfdpaamlgaaLsbWritesSt
import Derived.Test.YtnmibfdpaamlgaaActRow
import Derived.Test.YtnmibfdpaamlgaaGrowTwo
import Derived.Test.YtnmibfdpaamlgaaStr
namespace Go.Proofs.Ytnmibfdpaamlgaa
open Go.RowKit
set_option linter.unusedVariables false

set_option maxHeartbeats 4000000 in
set_option maxRecDepth 100000 in
theorem lsb_writes_some (lv : Value) (l : List ActV) (w : World) (hv : ViewA w lv l) (hll : l.length ≤ 40) :
    Calls Try.prog 13 #[lv] w fun e w' => e = .returned (.bool true) ∧ Ext w w' := by
  obtain ⟨i0, hi, hz0, hz1, hz2⟩ := info_parts lsb_infoB
  obtain ⟨lo, lcap, rfl, hlx⟩ := hv
  have h1 : ¬ (40 : Int) < (l.length : Int) := by omega
  have HLX := Lib.hid hlx
  clear hlx
  have HS : Hid (LsbWs w w.heap.size none none [] [] (.slice none 0 0) (w.alloc (.cells #[.slice none 0 0, .int .i64 0] 25))) :=
    Lib.hid ⟨lsb_zero w, Owns.nil _ _ _, ⟨Nat.le_refl _, fun g e => by cases e⟩, fun g e => (by cases e), (Ext.refl w).alloc _⟩
  go_enter Try.func13, Try.ntmps13
  go_wp2_with fail
  go_loopw [4, 5, 6] (fun rv av i wr => ∃ (k a : Nat) (og od : Option Nat) (m : List Bool), k ≤ l.length ∧ i = .int .i64 k ∧ av = .int .i64 a ∧ a ≤ 4 ∧ m.length ≤ 39 * k * 2 ^ a ∧ LsbWs w w.heap.size og od m m rv wr) (fun _ _ i _ => l.length - (intOf i).toNat)
  case atStart => exact ⟨0, 0, none, none, [], Nat.zero_le _, rfl, rfl, by decide, by decide, HS.out⟩
  case round =>
    obtain ⟨k, a, og, od, m, hk, rfl, rfl, ha, hm, hst⟩ := hrel
    by_cases hlt : k < l.length
    · obtain ⟨b, o, rfl, hx⟩ := HLX.out (by omega)
      obtain ⟨x, hxk⟩ : ∃ x, l[k]? = some x := ⟨_, List.getElem?_eq_getElem hlt⟩
      obtain ⟨hact, xv, xn⟩ := hx k x hxk
      have hb32 := ws_bound _ _ _ hm
      have hb2 := ws_bound2 _ _ _ hm
      have hsm := ws_small _ _ _ (by omega) ha hm
      have HB32 := Lib.hid hb32
      have HB2 := Lib.hid hb2
      have HACT := Lib.hid hact
      have HST := Lib.hid hst
      clear hact hst hx hxk hm hb32 hb2
      obtain ⟨xV, xN, xA, xD⟩ := x
      obtain ⟨ra, rcap, rfl⟩ := HST.out.2.1.shape
      cases xA with
      | true =>
        obtain ⟨c0, c1, c2, c3⟩ := HACT.out.ext HST.out.2.2.2.2
        simp only [] at c0 c1 c2 c3
        go_wp2_with fail
        refine (lsb_align _ og _ _ HST.out.1 (by omega)).mono ?_
        rintro e w1 ⟨rfl, p1⟩
        obtain ⟨og2, st1⟩ := lsb_ws_act HST.out p1
        have ST1 := Lib.hid st1
        clear c0 c1 c2 c3 p1 st1
        go_wp2_with fail
        refine (lsb_ref_align _ m _ ST1.out.2.1.viewL (by omega)).mono ?_
        rintro e w2 ⟨v2, od2, rfl, q1, q2, q3⟩
        obtain ⟨ra2, rcap2, rfl⟩ := q1.shape
        have st2 := lsb_ws_row ST1.out q1 q2 q3
        have hML : (alignB m).length ≤ m.length + 32 := by rw [length_alignB]; omega
        obtain ⟨M, hM⟩ : ∃ M, M = alignB m := ⟨_, rfl⟩
        rw [← hM] at st2 hML ⊢
        have hMs : M.length ≤ 24992 := by omega
        have STX := Lib.hid st2
        have HML := Lib.hid hML
        clear q1 q2 q3 st2 hM hML
        go_wp2_with fail
-- TAIL
        have hne : ((strOf (packs false M)).toList != (strOf (packs false M)).toList) = false := by simp
        have hst : Stab (Phi [(3, .pointer (some ⟨w.heap.size, 0, none⟩)), (4, .slice ra2 M.length rcap2), (76, .int .i64 M.length), (77, .slice ra2 M.length rcap2), (78, .int .i64 M.length), (79, .bool false), (80, .bool false), (82, .string (strOf (packs false M))), (83, .slice ra2 M.length rcap2), (85, .string (strOf (packs false M))), (86, .bool false), (87, .bool false)] [(81, fun v w => View w v (packs false M)), (84, fun v w => View w v (packs false M))]) := Phi.stable (by
            intro x hx v w1 w2 he hp
            simp only [List.mem_cons, List.not_mem_nil, or_false] at hx
            rcases hx with rfl | rfl
            · exact View.ext hp he
            · exact View.ext hp he)
        refine wp_region_grow_on 89 [3, 4] [76, 77, 78, 79, 80, 81, 82, 83, 84, 85, 86, 87] (by kernel_rfl) _ hst (by kernel_rfl) rfl rfl (fun _ => ⟨rfl, rfl, trivial⟩) ⟨?_, ?_, ?_, ?_, ?_, ?_, ?_, ?_, ?_, ?_, ?_, ?_, trivial⟩ ?fin
        · refine Obl.call 37 #[.pointer (some ⟨w.heap.size, 0, none⟩)] (fun ev w1 hI hc hf hg hev => ?_)
          have h0 : ev (.tmp 3) = .pointer (some ⟨w.heap.size, 0, none⟩) := hev.1
          refine ⟨rfl, by (clear hev; go_simp), ?_⟩
          refine (lsb_len _ _ M w1 (STX.out.1.ext hI)).mono ?_
          rintro e w2 ⟨rfl, rfl⟩
          exact ⟨_, rfl, Ext.refl _, fun d hd => by cases hd; rfl⟩
        · refine Obl.val (.slice ra2 M.length rcap2) (fun ev w1 hc hf hg hev => ?_) (fun d hd w1 => by cases hd; rfl)
          have h0 : ev (.tmp 4) = .slice ra2 M.length rcap2 := hev.1
          exact ⟨rfl, by (clear hev; go_simp)⟩
        · refine Obl.val (.int .i64 M.length) (fun ev w1 hc hf hg hev => ?_) (fun d hd w1 => by cases hd; rfl)
          have h0 : ev (.tmp 77) = .slice ra2 M.length rcap2 := hev.1
          exact ⟨rfl, by (clear hev; go_simp)⟩
        · refine Obl.val (.bool false) (fun ev w1 hc hf hg hev => ?_) (fun d hd w1 => by cases hd; rfl)
          have h0 : ev (.tmp 76) = .int .i64 M.length := hev.1; have h1 : ev (.tmp 78) = .int .i64 M.length := hev.2.1
          exact ⟨rfl, by (clear hev; go_simp)⟩
        · refine Obl.val (.bool false) (fun ev w1 hc hf hg hev => ?_) (fun d hd w1 => by cases hd; rfl)
          have h0 : ev (.tmp 79) = .bool false := hev.1
          exact ⟨rfl, by (clear hev; go_simp)⟩
        · refine Obl.call 19 #[.pointer (some ⟨w.heap.size, 0, none⟩)] (fun ev w1 hI hc hf hg hev => ?_)
          have h0 : ev (.tmp 80) = .bool false := hev.1; have h1 : ev (.tmp 3) = .pointer (some ⟨w.heap.size, 0, none⟩) := hev.2.1
          refine ⟨wanted_of rfl rfl h0, by (clear hev; go_simp), ?_⟩
          refine (lsb_bytes _ _ M w1 (STX.out.1.ext hI) (by omega)).mono ?_
          rintro e w2 ⟨v, og', rfl, c1, _, c3⟩
          exact ⟨v, rfl, c3, fun d hd => by cases hd; exact c1.view⟩
        · refine Obl.val (.string (strOf (packs false M))) (fun ev w1 hc hf hg hev => ?_) (fun d hd w1 => by cases hd; rfl)
          have h0 : ev (.tmp 80) = .bool false := hev.1; have h1 : (fun v w => View w v (packs false M)) (ev (.tmp 81)) w1 := hev.2.1
          clear hev
          have hs := run_string_view (P := Try.prog) 23 9 5 h1 Try.underlying23 Try.underlying5 Try.underlying9
          exact ⟨wanted_of rfl rfl h0, by go_simp⟩
        · refine Obl.val (.slice ra2 M.length rcap2) (fun ev w1 hc hf hg hev => ?_) (fun d hd w1 => by cases hd; rfl)
          have h0 : ev (.tmp 80) = .bool false := hev.1; have h1 : ev (.tmp 4) = .slice ra2 M.length rcap2 := hev.2.1
          exact ⟨wanted_of rfl rfl h0, by (clear hev; go_simp)⟩
        · refine Obl.call 45 #[.slice ra2 M.length rcap2] (fun ev w1 hI hc hf hg hev => ?_)
          have h0 : ev (.tmp 80) = .bool false := hev.1; have h1 : ev (.tmp 83) = .slice ra2 M.length rcap2 := hev.2.1
          refine ⟨wanted_of rfl rfl h0, by (clear hev; go_simp), ?_⟩
          refine (lsb_ref_bytes _ M w1 ((STX.out.2.1.ext' hI).viewL) (by omega)).mono ?_
          rintro e w2 ⟨v, og', rfl, c1, _, c3⟩
          exact ⟨v, rfl, c3, fun d hd => by cases hd; exact c1.view⟩
        · refine Obl.val (.string (strOf (packs false M))) (fun ev w1 hc hf hg hev => ?_) (fun d hd w1 => by cases hd; rfl)
          have h0 : ev (.tmp 80) = .bool false := hev.1; have h1 : (fun v w => View w v (packs false M)) (ev (.tmp 84)) w1 := hev.2.1
          clear hev
          have hs := run_string_view (P := Try.prog) 23 9 5 h1 Try.underlying23 Try.underlying5 Try.underlying9
          exact ⟨wanted_of rfl rfl h0, by go_simp⟩
        · refine Obl.val (.bool false) (fun ev w1 hc hf hg hev => ?_) (fun d hd w1 => by cases hd; rfl)
          have h0 : ev (.tmp 80) = .bool false := hev.1; have h1 : ev (.tmp 82) = .string (strOf (packs false M)) := hev.2.1; have h2 : ev (.tmp 85) = .string (strOf (packs false M)) := hev.2.2.1
          exact ⟨wanted_of rfl rfl h0, by (clear hev; go_simp)⟩
        · refine Obl.val (.bool false) (fun ev w1 hc hf hg hev => ?_) (fun d hd w1 => by cases hd; rfl)
          have h0 : ev (.tmp 80) = .bool false := hev.1; have h1 : ev (.tmp 86) = .bool false := hev.2.1
          exact ⟨rfl, by (clear hev; go_simp)⟩
        case fin =>
          intro vs w5 he5 hf
          have e76 : vs 76 = .int .i64 M.length := hf 76 (by decide)
          have e77 : vs 77 = .slice ra2 M.length rcap2 := hf 77 (by decide)
          have e78 : vs 78 = .int .i64 M.length := hf 78 (by decide)
          have e79 : vs 79 = .bool false := hf 79 (by decide)
          have e80 : vs 80 = .bool false := hf 80 (by decide)
          have e82 : vs 82 = .string (strOf (packs false M)) := hf 82 (by decide)
          have e83 : vs 83 = .slice ra2 M.length rcap2 := hf 83 (by decide)
          have e85 : vs 85 = .string (strOf (packs false M)) := hf 85 (by decide)
          have e86 : vs 86 = .bool false := hf 86 (by decide)
          have e87 : vs 87 = .bool false := hf 87 (by decide)
          simp only [List.foldl_cons, List.foldl_nil]
          rw [e76, e77, e78, e79, e80, e82, e83, e85, e86, e87]
          generalize vs 81 = u81
          generalize vs 84 = u84
          simp only [Act.put, List.setIfInBounds_toArray, List.set_cons_succ, List.set_cons_zero]
          clear hf e76 e77 e78 e79 e80 e82 e83 e85 e86 e87
          have ST5 := Lib.hid (lsb_ws_ext STX.out he5)
          clear he5 hne
          go_wp2_with fail
          go_roundw
          case measure => simp [intOf]; omega
-- TAIL END
          case rel => exact ⟨k + 1, a, _, _, M, by omega, by go_num, rfl, ha, Nat.le_trans HML.out HB32.out, ST5.out⟩
      | false =>
        cases xD with
        | true =>
          by_cases ha4 : a < 4
          · have ha4i : (a : Int) < 4 := by omega
            obtain ⟨c0, c1, c2, c3⟩ := HACT.out.ext HST.out.2.2.2.2
            simp only [] at c0 c1 c2 c3
            go_wp2_with fail
            refine (lsb_add _ _ og og m m _ HST.out.1 HST.out.1 (by omega)).mono ?_
            rintro e w1 ⟨rfl, p1⟩
            obtain ⟨og2, st1⟩ := lsb_ws_act HST.out p1
            have ST1 := Lib.hid st1
            clear c0 c1 c2 c3 p1 st1
            go_wp2_with (at_builtin; go_must (refine wpList_append_view _ rfl (.tmp 71) (.tmp 72) 42 rfl w1.heap.size 4 i0 (.bool false) 1 Try.underlying42 hi hz0 hz1 hz2 rfl (.slice (some ⟨w1.heap.size, 0, none⟩) 0 0) 0 [] rfl (World.ownsRow_made w1 #[] 0 (Nat.le_refl _) (by decide) rfl) (.slice ra m.length rcap) (bls m) rfl (ST1.out.2.1.viewL.ext ((Ext.refl w1).alloc _)) (bls_one m) (by rw [length_bls]; unfold maxLen; omega) (by rw [length_bls]; omega) (by simp) ?_))
            intro inv w2 hown2 hgrow2 hat2
            have hx2 : Ext w1 w2 := Touch.grown ((Ext.refl w1).alloc _) hgrow2 (fun k e => Or.inr (by cases e; exact Nat.le_refl _))
            rw [length_bls] at hown2
            obtain ⟨ia, icap, rfl⟩ := (show Owns w2 4 1 inv inv.ownBlock m.length (bls m) from ⟨ownsRow_zero hown2, rfl⟩).shape
            have HO2 := Lib.hid hown2
            have HX2 := Lib.hid hx2
            clear hown2 hgrow2 hat2 hx2
            go_wp2_with (at_builtin; go_must (refine wpList_append_view _ rfl (.tmp 73) (.tmp 74) 42 rfl w1.heap.size 4 i0 (.bool false) 1 Try.underlying42 hi hz0 hz1 hz2 rfl (.slice ia m.length icap) m.length (bls m) rfl HO2.out (.slice ra m.length rcap) (bls m) rfl (ST1.out.2.1.viewL.ext HX2.out) (bls_one m) (by rw [length_bls]; unfold maxLen; omega) (by rw [length_bls]; omega) HX2.out.size ?_))
            intro v3 w3 hown3 hgrow3 hat3
            have hx3 : Ext w1 w3 := Touch.grown HX2.out hgrow3 (fun k e => Or.inr (HO2.out.lt k e).1)
            rw [← bls_append, length_bls] at hown3
            have hn3 : ∀ g, v3.ownBlock = some g → w1.heap.size ≤ g := fun g e => (hown3.lt g e).1
            have ho3 : Owns w3 4 1 v3 v3.ownBlock (m ++ m).length (bls (m ++ m)) := ⟨by rw [List.length_append]; exact ownsRow_zero hown3, rfl⟩
            generalize v3.ownBlock = od2 at hn3 ho3
            obtain ⟨ra2, rcap2, rfl⟩ := ho3.shape
            have st2 := lsb_ws_row ST1.out ho3 hn3 hx3
            have hML : (m ++ m).length = m.length + m.length := List.length_append
            obtain ⟨M, hM⟩ : ∃ M, M = m ++ m := ⟨_, rfl⟩
            rw [← hM] at st2 hML ⊢
            have hMs : M.length ≤ 50000 := by omega
            have STX := Lib.hid st2
            have HML := Lib.hid hML
            clear hown3 hgrow3 hat3 hx3 hn3 ho3 st2 hM hML
            go_wp2_with fail
    -- TAIL
            have hne : ((strOf (packs false M)).toList != (strOf (packs false M)).toList) = false := by simp
            have hst : Stab (Phi [(3, .pointer (some ⟨w.heap.size, 0, none⟩)), (4, .slice ra2 M.length rcap2), (76, .int .i64 M.length), (77, .slice ra2 M.length rcap2), (78, .int .i64 M.length), (79, .bool false), (80, .bool false), (82, .string (strOf (packs false M))), (83, .slice ra2 M.length rcap2), (85, .string (strOf (packs false M))), (86, .bool false), (87, .bool false)] [(81, fun v w => View w v (packs false M)), (84, fun v w => View w v (packs false M))]) := Phi.stable (by
                intro x hx v w1 w2 he hp
                simp only [List.mem_cons, List.not_mem_nil, or_false] at hx
                rcases hx with rfl | rfl
                · exact View.ext hp he
                · exact View.ext hp he)
            refine wp_region_grow_on 89 [3, 4] [76, 77, 78, 79, 80, 81, 82, 83, 84, 85, 86, 87] (by kernel_rfl) _ hst (by kernel_rfl) rfl rfl (fun _ => ⟨rfl, rfl, trivial⟩) ⟨?_, ?_, ?_, ?_, ?_, ?_, ?_, ?_, ?_, ?_, ?_, ?_, trivial⟩ ?fin
            · refine Obl.call 37 #[.pointer (some ⟨w.heap.size, 0, none⟩)] (fun ev w1 hI hc hf hg hev => ?_)
              have h0 : ev (.tmp 3) = .pointer (some ⟨w.heap.size, 0, none⟩) := hev.1
              refine ⟨rfl, by (clear hev; go_simp), ?_⟩
              refine (lsb_len _ _ M w1 (STX.out.1.ext hI)).mono ?_
              rintro e w2 ⟨rfl, rfl⟩
              exact ⟨_, rfl, Ext.refl _, fun d hd => by cases hd; rfl⟩
            · refine Obl.val (.slice ra2 M.length rcap2) (fun ev w1 hc hf hg hev => ?_) (fun d hd w1 => by cases hd; rfl)
              have h0 : ev (.tmp 4) = .slice ra2 M.length rcap2 := hev.1
              exact ⟨rfl, by (clear hev; go_simp)⟩
            · refine Obl.val (.int .i64 M.length) (fun ev w1 hc hf hg hev => ?_) (fun d hd w1 => by cases hd; rfl)
              have h0 : ev (.tmp 77) = .slice ra2 M.length rcap2 := hev.1
              exact ⟨rfl, by (clear hev; go_simp)⟩
            · refine Obl.val (.bool false) (fun ev w1 hc hf hg hev => ?_) (fun d hd w1 => by cases hd; rfl)
              have h0 : ev (.tmp 76) = .int .i64 M.length := hev.1; have h1 : ev (.tmp 78) = .int .i64 M.length := hev.2.1
              exact ⟨rfl, by (clear hev; go_simp)⟩
            · refine Obl.val (.bool false) (fun ev w1 hc hf hg hev => ?_) (fun d hd w1 => by cases hd; rfl)
              have h0 : ev (.tmp 79) = .bool false := hev.1
              exact ⟨rfl, by (clear hev; go_simp)⟩
            · refine Obl.call 19 #[.pointer (some ⟨w.heap.size, 0, none⟩)] (fun ev w1 hI hc hf hg hev => ?_)
              have h0 : ev (.tmp 80) = .bool false := hev.1; have h1 : ev (.tmp 3) = .pointer (some ⟨w.heap.size, 0, none⟩) := hev.2.1
              refine ⟨wanted_of rfl rfl h0, by (clear hev; go_simp), ?_⟩
              refine (lsb_bytes _ _ M w1 (STX.out.1.ext hI) (by omega)).mono ?_
              rintro e w2 ⟨v, og', rfl, c1, _, c3⟩
              exact ⟨v, rfl, c3, fun d hd => by cases hd; exact c1.view⟩
            · refine Obl.val (.string (strOf (packs false M))) (fun ev w1 hc hf hg hev => ?_) (fun d hd w1 => by cases hd; rfl)
              have h0 : ev (.tmp 80) = .bool false := hev.1; have h1 : (fun v w => View w v (packs false M)) (ev (.tmp 81)) w1 := hev.2.1
              clear hev
              have hs := run_string_view (P := Try.prog) 23 9 5 h1 Try.underlying23 Try.underlying5 Try.underlying9
              exact ⟨wanted_of rfl rfl h0, by go_simp⟩
            · refine Obl.val (.slice ra2 M.length rcap2) (fun ev w1 hc hf hg hev => ?_) (fun d hd w1 => by cases hd; rfl)
              have h0 : ev (.tmp 80) = .bool false := hev.1; have h1 : ev (.tmp 4) = .slice ra2 M.length rcap2 := hev.2.1
              exact ⟨wanted_of rfl rfl h0, by (clear hev; go_simp)⟩
            · refine Obl.call 45 #[.slice ra2 M.length rcap2] (fun ev w1 hI hc hf hg hev => ?_)
              have h0 : ev (.tmp 80) = .bool false := hev.1; have h1 : ev (.tmp 83) = .slice ra2 M.length rcap2 := hev.2.1
              refine ⟨wanted_of rfl rfl h0, by (clear hev; go_simp), ?_⟩
              refine (lsb_ref_bytes _ M w1 ((STX.out.2.1.ext' hI).viewL) (by omega)).mono ?_
              rintro e w2 ⟨v, og', rfl, c1, _, c3⟩
              exact ⟨v, rfl, c3, fun d hd => by cases hd; exact c1.view⟩
            · refine Obl.val (.string (strOf (packs false M))) (fun ev w1 hc hf hg hev => ?_) (fun d hd w1 => by cases hd; rfl)
              have h0 : ev (.tmp 80) = .bool false := hev.1; have h1 : (fun v w => View w v (packs false M)) (ev (.tmp 84)) w1 := hev.2.1
              clear hev
              have hs := run_string_view (P := Try.prog) 23 9 5 h1 Try.underlying23 Try.underlying5 Try.underlying9
              exact ⟨wanted_of rfl rfl h0, by go_simp⟩
            · refine Obl.val (.bool false) (fun ev w1 hc hf hg hev => ?_) (fun d hd w1 => by cases hd; rfl)
              have h0 : ev (.tmp 80) = .bool false := hev.1; have h1 : ev (.tmp 82) = .string (strOf (packs false M)) := hev.2.1; have h2 : ev (.tmp 85) = .string (strOf (packs false M)) := hev.2.2.1
              exact ⟨wanted_of rfl rfl h0, by (clear hev; go_simp)⟩
            · refine Obl.val (.bool false) (fun ev w1 hc hf hg hev => ?_) (fun d hd w1 => by cases hd; rfl)
              have h0 : ev (.tmp 80) = .bool false := hev.1; have h1 : ev (.tmp 86) = .bool false := hev.2.1
              exact ⟨rfl, by (clear hev; go_simp)⟩
            case fin =>
              intro vs w5 he5 hf
              have e76 : vs 76 = .int .i64 M.length := hf 76 (by decide)
              have e77 : vs 77 = .slice ra2 M.length rcap2 := hf 77 (by decide)
              have e78 : vs 78 = .int .i64 M.length := hf 78 (by decide)
              have e79 : vs 79 = .bool false := hf 79 (by decide)
              have e80 : vs 80 = .bool false := hf 80 (by decide)
              have e82 : vs 82 = .string (strOf (packs false M)) := hf 82 (by decide)
              have e83 : vs 83 = .slice ra2 M.length rcap2 := hf 83 (by decide)
              have e85 : vs 85 = .string (strOf (packs false M)) := hf 85 (by decide)
              have e86 : vs 86 = .bool false := hf 86 (by decide)
              have e87 : vs 87 = .bool false := hf 87 (by decide)
              simp only [List.foldl_cons, List.foldl_nil]
              rw [e76, e77, e78, e79, e80, e82, e83, e85, e86, e87]
              generalize vs 81 = u81
              generalize vs 84 = u84
              simp only [Act.put, List.setIfInBounds_toArray, List.set_cons_succ, List.set_cons_zero]
              clear hf e76 e77 e78 e79 e80 e82 e83 e85 e86 e87
              have ST5 := Lib.hid (lsb_ws_ext STX.out he5)
              clear he5 hne
              go_wp2_with fail
              go_roundw
              case measure => simp [intOf]; omega
    -- TAIL END
              case rel => exact ⟨k + 1, a + 1, _, _, M, by omega, by go_num, by go_num, by omega, HML.out ▸ HB2.out, ST5.out⟩
          · have ha4i : ¬ (a : Int) < 4 := by omega
            obtain ⟨c0, c1, c2, c3⟩ := HACT.out.ext HST.out.2.2.2.2
            simp only [] at c0 c1 c2 c3
            have k1 : (k : Int).toNat = k := Int.toNat_natCast k
            have k2 : (0 : Int) ≤ (k : Int) := by omega
            have k3 : (k : Int) < (l.length : Int) := by omega
            have hML := putL_len false m xV xN
            obtain ⟨M, hM⟩ : ∃ M, M = putL false m xV xN := ⟨_, rfl⟩
            obtain ⟨q, hq⟩ : ∃ q, q = putE xV xN := ⟨_, rfl⟩
            rw [← hM] at hML
            have hMs : M.length ≤ 24992 := by omega
            have HML := Lib.hid hML
            have HM := Lib.hid hM
            have HQ := Lib.hid hq
            clear hML hM hq
            go_wp2_with fail
            clear c0 c1 c2 c3
    -- PUT
            have hst : Stab (Phi [(4, .slice ra m.length rcap), (0, .slice (some ⟨b, o, none⟩) l.length lcap), (6, .int .i64 k), (19, .slice ra m.length rcap), (20, .slice (some ⟨b, o, none⟩) l.length lcap), (21, .int .i64 k), (22, .pointer (some ⟨b, o + k * 4, none⟩)), (23, .pointer (some ⟨b, o + k * 4, none⟩)), (24, .int .u32 xV), (25, .slice (some ⟨b, o, none⟩) l.length lcap), (26, .int .i64 k), (27, .pointer (some ⟨b, o + k * 4, none⟩)), (28, .pointer (some ⟨b, o + k * 4 + 1, none⟩)), (29, .int .i64 xN), (32, .int .i64 q), (8, .int .i64 q)] [(30, fun v w' => ∃ v2 od2, v = .tuple #[v2, .int .i64 q] ∧ Owns w' 4 1 v2 od2 M.length (bls M) ∧ ∀ g, od2 = some g → w.heap.size ≤ g ∧ g ≠ w.heap.size ∧ og ≠ some g), (18, fun v w' => ∃ v2 od2, v = .tuple #[v2, .int .i64 q] ∧ Owns w' 4 1 v2 od2 M.length (bls M) ∧ ∀ g, od2 = some g → w.heap.size ≤ g ∧ g ≠ w.heap.size ∧ og ≠ some g), (31, fun v w' => ∃ od2, Owns w' 4 1 v od2 M.length (bls M) ∧ ∀ g, od2 = some g → w.heap.size ≤ g ∧ g ≠ w.heap.size ∧ og ≠ some g), (7, fun v w' => ∃ od2, Owns w' 4 1 v od2 M.length (bls M) ∧ ∀ g, od2 = some g → w.heap.size ≤ g ∧ g ≠ w.heap.size ∧ og ≠ some g)]) := Phi.stable (by
                intro x hx v w1 w2 he hp
                simp only [List.mem_cons, List.not_mem_nil, or_false] at hx
                rcases hx with rfl | rfl | rfl | rfl
                · exact (let ⟨v2, o2, e, h1, h2⟩ := hp; ⟨v2, o2, e, h1.ext' he, h2⟩)
                · exact (let ⟨v2, o2, e, h1, h2⟩ := hp; ⟨v2, o2, e, h1.ext' he, h2⟩)
                · exact (let ⟨o2, h1, h2⟩ := hp; ⟨o2, h1.ext' he, h2⟩)
                · exact (let ⟨o2, h1, h2⟩ := hp; ⟨o2, h1.ext' he, h2⟩))
            refine wp_region_grow_on 89 [4, 0, 6] [19, 20, 21, 22, 23, 24, 25, 26, 27, 28, 29, 30, 18, 31, 32, 7, 8] (by kernel_rfl) _ hst (by kernel_rfl) rfl rfl (fun _ => ⟨rfl, rfl, rfl, trivial⟩) ⟨?_, ?_, ?_, ?_, ?_, ?_, ?_, ?_, ?_, ?_, ?_, ?_, ?_, ?_, ?_, ?_, ?_, trivial⟩ ?fin
            · refine Obl.val (.slice ra m.length rcap) (fun ev w1 hc hf hg hev => ?_) (fun d hd w1 => by cases hd; rfl)
              have h0 : ev (.tmp 4) = .slice ra m.length rcap := hev.1
              exact ⟨rfl, by (clear hev; go_simp)⟩
            · refine Obl.val (.slice (some ⟨b, o, none⟩) l.length lcap) (fun ev w1 hc hf hg hev => ?_) (fun d hd w1 => by cases hd; rfl)
              have h0 : ev (.tmp 0) = .slice (some ⟨b, o, none⟩) l.length lcap := hev.1
              exact ⟨rfl, by (clear hev; go_simp)⟩
            · refine Obl.val (.int .i64 k) (fun ev w1 hc hf hg hev => ?_) (fun d hd w1 => by cases hd; rfl)
              have h0 : ev (.tmp 6) = .int .i64 k := hev.1
              exact ⟨rfl, by (clear hev; go_simp)⟩
            · refine Obl.val (.pointer (some ⟨b, o + k * 4, none⟩)) (fun ev w1 hc hf hg hev => ?_) (fun d hd w1 => by cases hd; rfl)
              have h0 : ev (.tmp 20) = .slice (some ⟨b, o, none⟩) l.length lcap := hev.1; have h1 : ev (.tmp 21) = .int .i64 k := hev.2.1
              exact ⟨rfl, by (clear hev; go_simp)⟩
            · refine Obl.val (.pointer (some ⟨b, o + k * 4, none⟩)) (fun ev w1 hc hf hg hev => ?_) (fun d hd w1 => by cases hd; rfl)
              have h0 : ev (.tmp 22) = .pointer (some ⟨b, o + k * 4, none⟩) := hev.1
              exact ⟨rfl, by (clear hev; go_simp)⟩
            · refine Obl.some (fun ev w1 hI hc hf hg hev => ?_)
              have h0 : ev (.tmp 23) = .pointer (some ⟨b, o + k * 4, none⟩) := hev.1
              clear hev
              have hc := (HACT.out.ext (HST.out.2.2.2.2.trans hI)).1
              simp only [] at hc
              exact ⟨rfl, .int .u32 xV, by go_simp, fun d hd => by cases hd; rfl⟩
            · refine Obl.val (.slice (some ⟨b, o, none⟩) l.length lcap) (fun ev w1 hc hf hg hev => ?_) (fun d hd w1 => by cases hd; rfl)
              have h0 : ev (.tmp 0) = .slice (some ⟨b, o, none⟩) l.length lcap := hev.1
              exact ⟨rfl, by (clear hev; go_simp)⟩
            · refine Obl.val (.int .i64 k) (fun ev w1 hc hf hg hev => ?_) (fun d hd w1 => by cases hd; rfl)
              have h0 : ev (.tmp 6) = .int .i64 k := hev.1
              exact ⟨rfl, by (clear hev; go_simp)⟩
            · refine Obl.val (.pointer (some ⟨b, o + k * 4, none⟩)) (fun ev w1 hc hf hg hev => ?_) (fun d hd w1 => by cases hd; rfl)
              have h0 : ev (.tmp 25) = .slice (some ⟨b, o, none⟩) l.length lcap := hev.1; have h1 : ev (.tmp 26) = .int .i64 k := hev.2.1
              exact ⟨rfl, by (clear hev; go_simp)⟩
            · refine Obl.val (.pointer (some ⟨b, o + k * 4 + 1, none⟩)) (fun ev w1 hc hf hg hev => ?_) (fun d hd w1 => by cases hd; rfl)
              have h0 : ev (.tmp 27) = .pointer (some ⟨b, o + k * 4, none⟩) := hev.1
              exact ⟨rfl, by (clear hev; go_simp)⟩
            · refine Obl.some (fun ev w1 hI hc hf hg hev => ?_)
              have h0 : ev (.tmp 28) = .pointer (some ⟨b, o + k * 4 + 1, none⟩) := hev.1
              clear hev
              have hc := (HACT.out.ext (HST.out.2.2.2.2.trans hI)).2.1
              simp only [] at hc
              exact ⟨rfl, .int .i64 xN, by go_simp, fun d hd => by cases hd; rfl⟩
            · refine Obl.call 44 #[.slice ra m.length rcap, .int .u32 xV, .int .i64 xN] (fun ev w1 hI hc hf hg hev => ?_)
              have h0 : ev (.tmp 19) = .slice ra m.length rcap := hev.1; have h1 : ev (.tmp 24) = .int .u32 xV := hev.2.1; have h2 : ev (.tmp 29) = .int .i64 xN := hev.2.2.1
              refine ⟨rfl, by (clear hev; go_simp), ?_⟩
              refine (lsb_ref_put_st xV xN HST.out hI (by omega) xv).mono ?_
              rw [← HM.out, ← HQ.out]
              rintro e w2 ⟨v2, od2, rfl, q1, q2, q3⟩
              exact ⟨_, rfl, q3, fun d hd => by cases hd; exact ⟨v2, od2, rfl, q1, q2⟩⟩
            · refine Obl.some (fun ev w1 hI hc hf hg hev => ?_)
              have h0 : (fun v w' => ∃ v2 od2, v = .tuple #[v2, .int .i64 q] ∧ Owns w' 4 1 v2 od2 M.length (bls M) ∧ ∀ g, od2 = some g → w.heap.size ≤ g ∧ g ≠ w.heap.size ∧ og ≠ some g) (ev (.tmp 30)) w1 := hev.1
              clear hev
              exact ⟨rfl, ev (.tmp 30), by go_simp, fun d hd => by cases hd; exact h0⟩
            · refine Obl.some (fun ev w1 hI hc hf hg hev => ?_)
              have h0 : (fun v w' => ∃ v2 od2, v = .tuple #[v2, .int .i64 q] ∧ Owns w' 4 1 v2 od2 M.length (bls M) ∧ ∀ g, od2 = some g → w.heap.size ≤ g ∧ g ≠ w.heap.size ∧ og ≠ some g) (ev (.tmp 18)) w1 := hev.1
              clear hev
              obtain ⟨v2, o2, e, h1, h2⟩ := h0
              exact ⟨rfl, v2, by go_simp, fun d hd => by cases hd; exact ⟨o2, h1, h2⟩⟩
            · refine Obl.some (fun ev w1 hI hc hf hg hev => ?_)
              have h0 : (fun v w' => ∃ v2 od2, v = .tuple #[v2, .int .i64 q] ∧ Owns w' 4 1 v2 od2 M.length (bls M) ∧ ∀ g, od2 = some g → w.heap.size ≤ g ∧ g ≠ w.heap.size ∧ og ≠ some g) (ev (.tmp 18)) w1 := hev.1
              clear hev
              obtain ⟨v2, o2, e, h1, h2⟩ := h0
              exact ⟨rfl, .int .i64 q, by go_simp, fun d hd => by cases hd; rfl⟩
            · refine Obl.some (fun ev w1 hI hc hf hg hev => ?_)
              have h0 : (fun v w' => ∃ od2, Owns w' 4 1 v od2 M.length (bls M) ∧ ∀ g, od2 = some g → w.heap.size ≤ g ∧ g ≠ w.heap.size ∧ og ≠ some g) (ev (.tmp 31)) w1 := hev.1
              clear hev
              exact ⟨rfl, ev (.tmp 31), by go_simp, fun d hd => by cases hd; exact h0⟩
            · refine Obl.val (.int .i64 q) (fun ev w1 hc hf hg hev => ?_) (fun d hd w1 => by cases hd; rfl)
              have h0 : ev (.tmp 32) = .int .i64 q := hev.1
              exact ⟨rfl, by (clear hev; go_simp)⟩
            case fin =>
              intro vs w5 he5 hf
              have e19 : vs 19 = .slice ra m.length rcap := hf 19 (by decide)
              have e20 : vs 20 = .slice (some ⟨b, o, none⟩) l.length lcap := hf 20 (by decide)
              have e21 : vs 21 = .int .i64 k := hf 21 (by decide)
              have e22 : vs 22 = .pointer (some ⟨b, o + k * 4, none⟩) := hf 22 (by decide)
              have e23 : vs 23 = .pointer (some ⟨b, o + k * 4, none⟩) := hf 23 (by decide)
              have e24 : vs 24 = .int .u32 xV := hf 24 (by decide)
              have e25 : vs 25 = .slice (some ⟨b, o, none⟩) l.length lcap := hf 25 (by decide)
              have e26 : vs 26 = .int .i64 k := hf 26 (by decide)
              have e27 : vs 27 = .pointer (some ⟨b, o + k * 4, none⟩) := hf 27 (by decide)
              have e28 : vs 28 = .pointer (some ⟨b, o + k * 4 + 1, none⟩) := hf 28 (by decide)
              have e29 : vs 29 = .int .i64 xN := hf 29 (by decide)
              have e32 : vs 32 = .int .i64 q := hf 32 (by decide)
              have e8 : vs 8 = .int .i64 q := hf 8 (by decide)
              simp only [List.foldl_cons, List.foldl_nil]
              rw [e19, e20, e21, e22, e23, e24, e25, e26, e27, e28, e29, e32, e8]
              generalize vs 30 = u30
              generalize vs 18 = u18
              generalize vs 31 = u31
              have s7 : (fun v w' => ∃ od2, Owns w' 4 1 v od2 M.length (bls M) ∧ ∀ g, od2 = some g → w.heap.size ≤ g ∧ g ≠ w.heap.size ∧ og ≠ some g) (vs 7) w5 := hf 7 (by decide)
              generalize vs 7 = u7 at s7 ⊢
              simp only [Act.put, List.setIfInBounds_toArray, List.set_cons_succ, List.set_cons_zero]
              clear hf e19 e20 e21 e22 e23 e24 e25 e26 e27 e28 e29 e32 e8
              obtain ⟨od2, t1, t2⟩ := s7
              obtain ⟨ra2, rcap2, rfl⟩ := t1.shape
              have ST1 := Lib.hid (show LsbWs w w.heap.size og od2 m M (.slice ra2 M.length rcap2) w5 from ⟨HST.out.1.ext he5, t1, HST.out.2.2.1, t2, HST.out.2.2.2.2.trans he5⟩)
              clear t1 t2 he5
              go_wp2_with fail
      -- PUT2
              have hst : Stab (Phi [(0, .slice (some ⟨b, o, none⟩) l.length lcap), (6, .int .i64 k), (3, .pointer (some ⟨w.heap.size, 0, none⟩)), (8, .int .i64 q), (33, .slice (some ⟨b, o, none⟩) l.length lcap), (34, .int .i64 k), (35, .pointer (some ⟨b, o + k * 4, none⟩)), (36, .pointer (some ⟨b, o + k * 4, none⟩)), (37, .int .u32 xV), (38, .slice (some ⟨b, o, none⟩) l.length lcap), (39, .int .i64 k), (40, .pointer (some ⟨b, o + k * 4, none⟩)), (41, .pointer (some ⟨b, o + k * 4 + 1, none⟩)), (42, .int .i64 xN), (43, .int .i64 q), (44, .int .i64 q), (45, .bool false)] []) := Phi.stable (fun x hx => by cases hx)
              refine wp_region_two 89 [0, 6, 3, 8] [33, 34, 35, 36, 37, 38, 39, 40, 41, 42, 43, 44, 45] 10 [0, 0, 0, 0, 0, 0, 0, 0, 0, 0, 2, 2, 1] (fun w' => LsbWs w w.heap.size og od2 m M (.slice ra2 M.length rcap2) w') (fun w' => ∃ og2, LsbWs w w.heap.size og2 od2 M M (.slice ra2 M.length rcap2) w') (by kernel_rfl) _ hst (fun _ _ h k => lsb_ws_ext h k) (fun _ _ ⟨o, h⟩ k => ⟨o, lsb_ws_ext h k⟩) (by kernel_rfl) rfl rfl (fun _ => ⟨rfl, rfl, rfl, rfl, trivial⟩) (ST1.out) ⟨?_, ?_, ?_, ?_, ?_, ?_, ?_, ?_, ?_, ?_, ?_, ?_, ?_, trivial⟩ ?fin
              · refine Obl.val (.slice (some ⟨b, o, none⟩) l.length lcap) (fun ev w1 hc hf hg hev => ?_) (fun d hd w1 => by cases hd; rfl)
                have h0 : ev (.tmp 0) = .slice (some ⟨b, o, none⟩) l.length lcap := hev.1
                exact ⟨rfl, by (clear hev; go_simp)⟩
              · refine Obl.val (.int .i64 k) (fun ev w1 hc hf hg hev => ?_) (fun d hd w1 => by cases hd; rfl)
                have h0 : ev (.tmp 6) = .int .i64 k := hev.1
                exact ⟨rfl, by (clear hev; go_simp)⟩
              · refine Obl.val (.pointer (some ⟨b, o + k * 4, none⟩)) (fun ev w1 hc hf hg hev => ?_) (fun d hd w1 => by cases hd; rfl)
                have h0 : ev (.tmp 33) = .slice (some ⟨b, o, none⟩) l.length lcap := hev.1; have h1 : ev (.tmp 34) = .int .i64 k := hev.2.1
                exact ⟨rfl, by (clear hev; go_simp)⟩
              · refine Obl.val (.pointer (some ⟨b, o + k * 4, none⟩)) (fun ev w1 hc hf hg hev => ?_) (fun d hd w1 => by cases hd; rfl)
                have h0 : ev (.tmp 35) = .pointer (some ⟨b, o + k * 4, none⟩) := hev.1
                exact ⟨rfl, by (clear hev; go_simp)⟩
              · refine Obl.some (fun ev w1 hI hc hf hg hev => ?_)
                have h0 : ev (.tmp 36) = .pointer (some ⟨b, o + k * 4, none⟩) := hev.1
                clear hev
                have hI : LsbWs w w.heap.size og od2 m M (.slice ra2 M.length rcap2) w1 := hI
                have hc := (HACT.out.ext hI.2.2.2.2).1
                simp only [] at hc
                exact ⟨rfl, .int .u32 xV, by go_simp, fun d hd => by cases hd; rfl⟩
              · refine Obl.val (.slice (some ⟨b, o, none⟩) l.length lcap) (fun ev w1 hc hf hg hev => ?_) (fun d hd w1 => by cases hd; rfl)
                have h0 : ev (.tmp 0) = .slice (some ⟨b, o, none⟩) l.length lcap := hev.1
                exact ⟨rfl, by (clear hev; go_simp)⟩
              · refine Obl.val (.int .i64 k) (fun ev w1 hc hf hg hev => ?_) (fun d hd w1 => by cases hd; rfl)
                have h0 : ev (.tmp 6) = .int .i64 k := hev.1
                exact ⟨rfl, by (clear hev; go_simp)⟩
              · refine Obl.val (.pointer (some ⟨b, o + k * 4, none⟩)) (fun ev w1 hc hf hg hev => ?_) (fun d hd w1 => by cases hd; rfl)
                have h0 : ev (.tmp 38) = .slice (some ⟨b, o, none⟩) l.length lcap := hev.1; have h1 : ev (.tmp 39) = .int .i64 k := hev.2.1
                exact ⟨rfl, by (clear hev; go_simp)⟩
              · refine Obl.val (.pointer (some ⟨b, o + k * 4 + 1, none⟩)) (fun ev w1 hc hf hg hev => ?_) (fun d hd w1 => by cases hd; rfl)
                have h0 : ev (.tmp 40) = .pointer (some ⟨b, o + k * 4, none⟩) := hev.1
                exact ⟨rfl, by (clear hev; go_simp)⟩
              · refine Obl.some (fun ev w1 hI hc hf hg hev => ?_)
                have h0 : ev (.tmp 41) = .pointer (some ⟨b, o + k * 4 + 1, none⟩) := hev.1
                clear hev
                have hI : LsbWs w w.heap.size og od2 m M (.slice ra2 M.length rcap2) w1 := hI
                have hc := (HACT.out.ext hI.2.2.2.2).2.1
                simp only [] at hc
                exact ⟨rfl, .int .i64 xN, by go_simp, fun d hd => by cases hd; rfl⟩
              · refine OblC.call 17 #[.pointer (some ⟨w.heap.size, 0, none⟩), .int .u32 xV, .int .i64 xN] (fun ev w1 hI hc hf hg hev => ?_)
                have h0 : ev (.tmp 3) = .pointer (some ⟨w.heap.size, 0, none⟩) := hev.1; have h1 : ev (.tmp 37) = .int .u32 xV := hev.2.1; have h2 : ev (.tmp 42) = .int .i64 xN := hev.2.2.1
                refine ⟨rfl, by (clear hev; go_simp), ?_⟩
                have hI : LsbWs w w.heap.size og od2 m M (.slice ra2 M.length rcap2) w1 := hI
                refine (lsb_put _ xV xN og _ _ hI.1 (by omega) xv).mono ?_
                rw [← HM.out, ← HQ.out]
                rintro e w4 ⟨rfl, p1⟩
                exact ⟨_, rfl, lsb_ws_act hI p1, fun _ _ h => h, fun d hd => by cases hd; rfl⟩
              · refine Obl.val (.int .i64 q) (fun ev w1 hc hf hg hev => ?_) (fun d hd w1 => by cases hd; rfl)
                have h0 : ev (.tmp 8) = .int .i64 q := hev.1
                exact ⟨rfl, by (clear hev; go_simp)⟩
              · refine Obl.val (.bool false) (fun ev w1 hc hf hg hev => ?_) (fun d hd w1 => by cases hd; rfl)
                have h0 : ev (.tmp 43) = .int .i64 q := hev.1; have h1 : ev (.tmp 44) = .int .i64 q := hev.2.1
                exact ⟨rfl, by (clear hev; go_simp)⟩
              case fin =>
                intro vs w5 he5 hf
                have e33 : vs 33 = .slice (some ⟨b, o, none⟩) l.length lcap := hf 33 (by decide)
                have e34 : vs 34 = .int .i64 k := hf 34 (by decide)
                have e35 : vs 35 = .pointer (some ⟨b, o + k * 4, none⟩) := hf 35 (by decide)
                have e36 : vs 36 = .pointer (some ⟨b, o + k * 4, none⟩) := hf 36 (by decide)
                have e37 : vs 37 = .int .u32 xV := hf 37 (by decide)
                have e38 : vs 38 = .slice (some ⟨b, o, none⟩) l.length lcap := hf 38 (by decide)
                have e39 : vs 39 = .int .i64 k := hf 39 (by decide)
                have e40 : vs 40 = .pointer (some ⟨b, o + k * 4, none⟩) := hf 40 (by decide)
                have e41 : vs 41 = .pointer (some ⟨b, o + k * 4 + 1, none⟩) := hf 41 (by decide)
                have e42 : vs 42 = .int .i64 xN := hf 42 (by decide)
                have e43 : vs 43 = .int .i64 q := hf 43 (by decide)
                have e44 : vs 44 = .int .i64 q := hf 44 (by decide)
                have e45 : vs 45 = .bool false := hf 45 (by decide)
                simp only [List.foldl_cons, List.foldl_nil]
                rw [e33, e34, e35, e36, e37, e38, e39, e40, e41, e42, e43, e44, e45]
                simp only [Act.put, List.setIfInBounds_toArray, List.set_cons_succ, List.set_cons_zero]
                clear hf e33 e34 e35 e36 e37 e38 e39 e40 e41 e42 e43 e44 e45
                obtain ⟨og2, st2⟩ := he5
                have STX := Lib.hid st2
                clear st2 k1 k2 k3
                go_wp2_with fail
        -- TAIL
                have hne : ((strOf (packs false M)).toList != (strOf (packs false M)).toList) = false := by simp
                have hst : Stab (Phi [(3, .pointer (some ⟨w.heap.size, 0, none⟩)), (4, .slice ra2 M.length rcap2), (76, .int .i64 M.length), (77, .slice ra2 M.length rcap2), (78, .int .i64 M.length), (79, .bool false), (80, .bool false), (82, .string (strOf (packs false M))), (83, .slice ra2 M.length rcap2), (85, .string (strOf (packs false M))), (86, .bool false), (87, .bool false)] [(81, fun v w => View w v (packs false M)), (84, fun v w => View w v (packs false M))]) := Phi.stable (by
                    intro x hx v w1 w2 he hp
                    simp only [List.mem_cons, List.not_mem_nil, or_false] at hx
                    rcases hx with rfl | rfl
                    · exact View.ext hp he
                    · exact View.ext hp he)
                refine wp_region_grow_on 89 [3, 4] [76, 77, 78, 79, 80, 81, 82, 83, 84, 85, 86, 87] (by kernel_rfl) _ hst (by kernel_rfl) rfl rfl (fun _ => ⟨rfl, rfl, trivial⟩) ⟨?_, ?_, ?_, ?_, ?_, ?_, ?_, ?_, ?_, ?_, ?_, ?_, trivial⟩ ?fin
                · refine Obl.call 37 #[.pointer (some ⟨w.heap.size, 0, none⟩)] (fun ev w1 hI hc hf hg hev => ?_)
                  have h0 : ev (.tmp 3) = .pointer (some ⟨w.heap.size, 0, none⟩) := hev.1
                  refine ⟨rfl, by (clear hev; go_simp), ?_⟩
                  refine (lsb_len _ _ M w1 (STX.out.1.ext hI)).mono ?_
                  rintro e w2 ⟨rfl, rfl⟩
                  exact ⟨_, rfl, Ext.refl _, fun d hd => by cases hd; rfl⟩
                · refine Obl.val (.slice ra2 M.length rcap2) (fun ev w1 hc hf hg hev => ?_) (fun d hd w1 => by cases hd; rfl)
                  have h0 : ev (.tmp 4) = .slice ra2 M.length rcap2 := hev.1
                  exact ⟨rfl, by (clear hev; go_simp)⟩
                · refine Obl.val (.int .i64 M.length) (fun ev w1 hc hf hg hev => ?_) (fun d hd w1 => by cases hd; rfl)
                  have h0 : ev (.tmp 77) = .slice ra2 M.length rcap2 := hev.1
                  exact ⟨rfl, by (clear hev; go_simp)⟩
                · refine Obl.val (.bool false) (fun ev w1 hc hf hg hev => ?_) (fun d hd w1 => by cases hd; rfl)
                  have h0 : ev (.tmp 76) = .int .i64 M.length := hev.1; have h1 : ev (.tmp 78) = .int .i64 M.length := hev.2.1
                  exact ⟨rfl, by (clear hev; go_simp)⟩
                · refine Obl.val (.bool false) (fun ev w1 hc hf hg hev => ?_) (fun d hd w1 => by cases hd; rfl)
                  have h0 : ev (.tmp 79) = .bool false := hev.1
                  exact ⟨rfl, by (clear hev; go_simp)⟩
                · refine Obl.call 19 #[.pointer (some ⟨w.heap.size, 0, none⟩)] (fun ev w1 hI hc hf hg hev => ?_)
                  have h0 : ev (.tmp 80) = .bool false := hev.1; have h1 : ev (.tmp 3) = .pointer (some ⟨w.heap.size, 0, none⟩) := hev.2.1
                  refine ⟨wanted_of rfl rfl h0, by (clear hev; go_simp), ?_⟩
                  refine (lsb_bytes _ _ M w1 (STX.out.1.ext hI) (by omega)).mono ?_
                  rintro e w2 ⟨v, og', rfl, c1, _, c3⟩
                  exact ⟨v, rfl, c3, fun d hd => by cases hd; exact c1.view⟩
                · refine Obl.val (.string (strOf (packs false M))) (fun ev w1 hc hf hg hev => ?_) (fun d hd w1 => by cases hd; rfl)
                  have h0 : ev (.tmp 80) = .bool false := hev.1; have h1 : (fun v w => View w v (packs false M)) (ev (.tmp 81)) w1 := hev.2.1
                  clear hev
                  have hs := run_string_view (P := Try.prog) 23 9 5 h1 Try.underlying23 Try.underlying5 Try.underlying9
                  exact ⟨wanted_of rfl rfl h0, by go_simp⟩
                · refine Obl.val (.slice ra2 M.length rcap2) (fun ev w1 hc hf hg hev => ?_) (fun d hd w1 => by cases hd; rfl)
                  have h0 : ev (.tmp 80) = .bool false := hev.1; have h1 : ev (.tmp 4) = .slice ra2 M.length rcap2 := hev.2.1
                  exact ⟨wanted_of rfl rfl h0, by (clear hev; go_simp)⟩
                · refine Obl.call 45 #[.slice ra2 M.length rcap2] (fun ev w1 hI hc hf hg hev => ?_)
                  have h0 : ev (.tmp 80) = .bool false := hev.1; have h1 : ev (.tmp 83) = .slice ra2 M.length rcap2 := hev.2.1
                  refine ⟨wanted_of rfl rfl h0, by (clear hev; go_simp), ?_⟩
                  refine (lsb_ref_bytes _ M w1 ((STX.out.2.1.ext' hI).viewL) (by omega)).mono ?_
                  rintro e w2 ⟨v, og', rfl, c1, _, c3⟩
                  exact ⟨v, rfl, c3, fun d hd => by cases hd; exact c1.view⟩
                · refine Obl.val (.string (strOf (packs false M))) (fun ev w1 hc hf hg hev => ?_) (fun d hd w1 => by cases hd; rfl)
                  have h0 : ev (.tmp 80) = .bool false := hev.1; have h1 : (fun v w => View w v (packs false M)) (ev (.tmp 84)) w1 := hev.2.1
                  clear hev
                  have hs := run_string_view (P := Try.prog) 23 9 5 h1 Try.underlying23 Try.underlying5 Try.underlying9
                  exact ⟨wanted_of rfl rfl h0, by go_simp⟩
                · refine Obl.val (.bool false) (fun ev w1 hc hf hg hev => ?_) (fun d hd w1 => by cases hd; rfl)
                  have h0 : ev (.tmp 80) = .bool false := hev.1; have h1 : ev (.tmp 82) = .string (strOf (packs false M)) := hev.2.1; have h2 : ev (.tmp 85) = .string (strOf (packs false M)) := hev.2.2.1
                  exact ⟨wanted_of rfl rfl h0, by (clear hev; go_simp)⟩
                · refine Obl.val (.bool false) (fun ev w1 hc hf hg hev => ?_) (fun d hd w1 => by cases hd; rfl)
                  have h0 : ev (.tmp 80) = .bool false := hev.1; have h1 : ev (.tmp 86) = .bool false := hev.2.1
                  exact ⟨rfl, by (clear hev; go_simp)⟩
                case fin =>
                  intro vs w5 he5 hf
                  have e76 : vs 76 = .int .i64 M.length := hf 76 (by decide)
                  have e77 : vs 77 = .slice ra2 M.length rcap2 := hf 77 (by decide)
                  have e78 : vs 78 = .int .i64 M.length := hf 78 (by decide)
                  have e79 : vs 79 = .bool false := hf 79 (by decide)
                  have e80 : vs 80 = .bool false := hf 80 (by decide)
                  have e82 : vs 82 = .string (strOf (packs false M)) := hf 82 (by decide)
                  have e83 : vs 83 = .slice ra2 M.length rcap2 := hf 83 (by decide)
                  have e85 : vs 85 = .string (strOf (packs false M)) := hf 85 (by decide)
                  have e86 : vs 86 = .bool false := hf 86 (by decide)
                  have e87 : vs 87 = .bool false := hf 87 (by decide)
                  simp only [List.foldl_cons, List.foldl_nil]
                  rw [e76, e77, e78, e79, e80, e82, e83, e85, e86, e87]
                  generalize vs 81 = u81
                  generalize vs 84 = u84
                  simp only [Act.put, List.setIfInBounds_toArray, List.set_cons_succ, List.set_cons_zero]
                  clear hf e76 e77 e78 e79 e80 e82 e83 e85 e86 e87
                  have ST5 := Lib.hid (lsb_ws_ext STX.out he5)
                  clear he5 hne
                  go_wp2_with fail
                  go_roundw
                  case measure => simp [intOf]; omega
        -- TAIL END
                  case rel => exact ⟨k + 1, a, _, _, M, by omega, by go_num, rfl, ha, Nat.le_trans HML.out HB32.out, ST5.out⟩
      -- PUT2 END
    -- PUT END
        | false =>
          obtain ⟨c0, c1, c2, c3⟩ := HACT.out.ext HST.out.2.2.2.2
          simp only [] at c0 c1 c2 c3
          have k1 : (k : Int).toNat = k := Int.toNat_natCast k
          have k2 : (0 : Int) ≤ (k : Int) := by omega
          have k3 : (k : Int) < (l.length : Int) := by omega
          have hML := putL_len false m xV xN
          obtain ⟨M, hM⟩ : ∃ M, M = putL false m xV xN := ⟨_, rfl⟩
          obtain ⟨q, hq⟩ : ∃ q, q = putE xV xN := ⟨_, rfl⟩
          rw [← hM] at hML
          have hMs : M.length ≤ 24992 := by omega
          have HML := Lib.hid hML
          have HM := Lib.hid hM
          have HQ := Lib.hid hq
          clear hML hM hq
          go_wp2_with fail
          clear c0 c1 c2 c3
  -- PUT
          have hst : Stab (Phi [(4, .slice ra m.length rcap), (0, .slice (some ⟨b, o, none⟩) l.length lcap), (6, .int .i64 k), (19, .slice ra m.length rcap), (20, .slice (some ⟨b, o, none⟩) l.length lcap), (21, .int .i64 k), (22, .pointer (some ⟨b, o + k * 4, none⟩)), (23, .pointer (some ⟨b, o + k * 4, none⟩)), (24, .int .u32 xV), (25, .slice (some ⟨b, o, none⟩) l.length lcap), (26, .int .i64 k), (27, .pointer (some ⟨b, o + k * 4, none⟩)), (28, .pointer (some ⟨b, o + k * 4 + 1, none⟩)), (29, .int .i64 xN), (32, .int .i64 q), (8, .int .i64 q)] [(30, fun v w' => ∃ v2 od2, v = .tuple #[v2, .int .i64 q] ∧ Owns w' 4 1 v2 od2 M.length (bls M) ∧ ∀ g, od2 = some g → w.heap.size ≤ g ∧ g ≠ w.heap.size ∧ og ≠ some g), (18, fun v w' => ∃ v2 od2, v = .tuple #[v2, .int .i64 q] ∧ Owns w' 4 1 v2 od2 M.length (bls M) ∧ ∀ g, od2 = some g → w.heap.size ≤ g ∧ g ≠ w.heap.size ∧ og ≠ some g), (31, fun v w' => ∃ od2, Owns w' 4 1 v od2 M.length (bls M) ∧ ∀ g, od2 = some g → w.heap.size ≤ g ∧ g ≠ w.heap.size ∧ og ≠ some g), (7, fun v w' => ∃ od2, Owns w' 4 1 v od2 M.length (bls M) ∧ ∀ g, od2 = some g → w.heap.size ≤ g ∧ g ≠ w.heap.size ∧ og ≠ some g)]) := Phi.stable (by
              intro x hx v w1 w2 he hp
              simp only [List.mem_cons, List.not_mem_nil, or_false] at hx
              rcases hx with rfl | rfl | rfl | rfl
              · exact (let ⟨v2, o2, e, h1, h2⟩ := hp; ⟨v2, o2, e, h1.ext' he, h2⟩)
              · exact (let ⟨v2, o2, e, h1, h2⟩ := hp; ⟨v2, o2, e, h1.ext' he, h2⟩)
              · exact (let ⟨o2, h1, h2⟩ := hp; ⟨o2, h1.ext' he, h2⟩)
              · exact (let ⟨o2, h1, h2⟩ := hp; ⟨o2, h1.ext' he, h2⟩))
          refine wp_region_grow_on 89 [4, 0, 6] [19, 20, 21, 22, 23, 24, 25, 26, 27, 28, 29, 30, 18, 31, 32, 7, 8] (by kernel_rfl) _ hst (by kernel_rfl) rfl rfl (fun _ => ⟨rfl, rfl, rfl, trivial⟩) ⟨?_, ?_, ?_, ?_, ?_, ?_, ?_, ?_, ?_, ?_, ?_, ?_, ?_, ?_, ?_, ?_, ?_, trivial⟩ ?fin
          · refine Obl.val (.slice ra m.length rcap) (fun ev w1 hc hf hg hev => ?_) (fun d hd w1 => by cases hd; rfl)
            have h0 : ev (.tmp 4) = .slice ra m.length rcap := hev.1
            exact ⟨rfl, by (clear hev; go_simp)⟩
          · refine Obl.val (.slice (some ⟨b, o, none⟩) l.length lcap) (fun ev w1 hc hf hg hev => ?_) (fun d hd w1 => by cases hd; rfl)
            have h0 : ev (.tmp 0) = .slice (some ⟨b, o, none⟩) l.length lcap := hev.1
            exact ⟨rfl, by (clear hev; go_simp)⟩
          · refine Obl.val (.int .i64 k) (fun ev w1 hc hf hg hev => ?_) (fun d hd w1 => by cases hd; rfl)
            have h0 : ev (.tmp 6) = .int .i64 k := hev.1
            exact ⟨rfl, by (clear hev; go_simp)⟩
          · refine Obl.val (.pointer (some ⟨b, o + k * 4, none⟩)) (fun ev w1 hc hf hg hev => ?_) (fun d hd w1 => by cases hd; rfl)
            have h0 : ev (.tmp 20) = .slice (some ⟨b, o, none⟩) l.length lcap := hev.1; have h1 : ev (.tmp 21) = .int .i64 k := hev.2.1
            exact ⟨rfl, by (clear hev; go_simp)⟩
          · refine Obl.val (.pointer (some ⟨b, o + k * 4, none⟩)) (fun ev w1 hc hf hg hev => ?_) (fun d hd w1 => by cases hd; rfl)
            have h0 : ev (.tmp 22) = .pointer (some ⟨b, o + k * 4, none⟩) := hev.1
            exact ⟨rfl, by (clear hev; go_simp)⟩
          · refine Obl.some (fun ev w1 hI hc hf hg hev => ?_)
            have h0 : ev (.tmp 23) = .pointer (some ⟨b, o + k * 4, none⟩) := hev.1
            clear hev
            have hc := (HACT.out.ext (HST.out.2.2.2.2.trans hI)).1
            simp only [] at hc
            exact ⟨rfl, .int .u32 xV, by go_simp, fun d hd => by cases hd; rfl⟩
          · refine Obl.val (.slice (some ⟨b, o, none⟩) l.length lcap) (fun ev w1 hc hf hg hev => ?_) (fun d hd w1 => by cases hd; rfl)
            have h0 : ev (.tmp 0) = .slice (some ⟨b, o, none⟩) l.length lcap := hev.1
            exact ⟨rfl, by (clear hev; go_simp)⟩
          · refine Obl.val (.int .i64 k) (fun ev w1 hc hf hg hev => ?_) (fun d hd w1 => by cases hd; rfl)
            have h0 : ev (.tmp 6) = .int .i64 k := hev.1
            exact ⟨rfl, by (clear hev; go_simp)⟩
          · refine Obl.val (.pointer (some ⟨b, o + k * 4, none⟩)) (fun ev w1 hc hf hg hev => ?_) (fun d hd w1 => by cases hd; rfl)
            have h0 : ev (.tmp 25) = .slice (some ⟨b, o, none⟩) l.length lcap := hev.1; have h1 : ev (.tmp 26) = .int .i64 k := hev.2.1
            exact ⟨rfl, by (clear hev; go_simp)⟩
          · refine Obl.val (.pointer (some ⟨b, o + k * 4 + 1, none⟩)) (fun ev w1 hc hf hg hev => ?_) (fun d hd w1 => by cases hd; rfl)
            have h0 : ev (.tmp 27) = .pointer (some ⟨b, o + k * 4, none⟩) := hev.1
            exact ⟨rfl, by (clear hev; go_simp)⟩
          · refine Obl.some (fun ev w1 hI hc hf hg hev => ?_)
            have h0 : ev (.tmp 28) = .pointer (some ⟨b, o + k * 4 + 1, none⟩) := hev.1
            clear hev
            have hc := (HACT.out.ext (HST.out.2.2.2.2.trans hI)).2.1
            simp only [] at hc
            exact ⟨rfl, .int .i64 xN, by go_simp, fun d hd => by cases hd; rfl⟩
          · refine Obl.call 44 #[.slice ra m.length rcap, .int .u32 xV, .int .i64 xN] (fun ev w1 hI hc hf hg hev => ?_)
            have h0 : ev (.tmp 19) = .slice ra m.length rcap := hev.1; have h1 : ev (.tmp 24) = .int .u32 xV := hev.2.1; have h2 : ev (.tmp 29) = .int .i64 xN := hev.2.2.1
            refine ⟨rfl, by (clear hev; go_simp), ?_⟩
            refine (lsb_ref_put_st xV xN HST.out hI (by omega) xv).mono ?_
            rw [← HM.out, ← HQ.out]
            rintro e w2 ⟨v2, od2, rfl, q1, q2, q3⟩
            exact ⟨_, rfl, q3, fun d hd => by cases hd; exact ⟨v2, od2, rfl, q1, q2⟩⟩
          · refine Obl.some (fun ev w1 hI hc hf hg hev => ?_)
            have h0 : (fun v w' => ∃ v2 od2, v = .tuple #[v2, .int .i64 q] ∧ Owns w' 4 1 v2 od2 M.length (bls M) ∧ ∀ g, od2 = some g → w.heap.size ≤ g ∧ g ≠ w.heap.size ∧ og ≠ some g) (ev (.tmp 30)) w1 := hev.1
            clear hev
            exact ⟨rfl, ev (.tmp 30), by go_simp, fun d hd => by cases hd; exact h0⟩
          · refine Obl.some (fun ev w1 hI hc hf hg hev => ?_)
            have h0 : (fun v w' => ∃ v2 od2, v = .tuple #[v2, .int .i64 q] ∧ Owns w' 4 1 v2 od2 M.length (bls M) ∧ ∀ g, od2 = some g → w.heap.size ≤ g ∧ g ≠ w.heap.size ∧ og ≠ some g) (ev (.tmp 18)) w1 := hev.1
            clear hev
            obtain ⟨v2, o2, e, h1, h2⟩ := h0
            exact ⟨rfl, v2, by go_simp, fun d hd => by cases hd; exact ⟨o2, h1, h2⟩⟩
          · refine Obl.some (fun ev w1 hI hc hf hg hev => ?_)
            have h0 : (fun v w' => ∃ v2 od2, v = .tuple #[v2, .int .i64 q] ∧ Owns w' 4 1 v2 od2 M.length (bls M) ∧ ∀ g, od2 = some g → w.heap.size ≤ g ∧ g ≠ w.heap.size ∧ og ≠ some g) (ev (.tmp 18)) w1 := hev.1
            clear hev
            obtain ⟨v2, o2, e, h1, h2⟩ := h0
            exact ⟨rfl, .int .i64 q, by go_simp, fun d hd => by cases hd; rfl⟩
          · refine Obl.some (fun ev w1 hI hc hf hg hev => ?_)
            have h0 : (fun v w' => ∃ od2, Owns w' 4 1 v od2 M.length (bls M) ∧ ∀ g, od2 = some g → w.heap.size ≤ g ∧ g ≠ w.heap.size ∧ og ≠ some g) (ev (.tmp 31)) w1 := hev.1
            clear hev
            exact ⟨rfl, ev (.tmp 31), by go_simp, fun d hd => by cases hd; exact h0⟩
          · refine Obl.val (.int .i64 q) (fun ev w1 hc hf hg hev => ?_) (fun d hd w1 => by cases hd; rfl)
            have h0 : ev (.tmp 32) = .int .i64 q := hev.1
            exact ⟨rfl, by (clear hev; go_simp)⟩
          case fin =>
            intro vs w5 he5 hf
            have e19 : vs 19 = .slice ra m.length rcap := hf 19 (by decide)
            have e20 : vs 20 = .slice (some ⟨b, o, none⟩) l.length lcap := hf 20 (by decide)
            have e21 : vs 21 = .int .i64 k := hf 21 (by decide)
            have e22 : vs 22 = .pointer (some ⟨b, o + k * 4, none⟩) := hf 22 (by decide)
            have e23 : vs 23 = .pointer (some ⟨b, o + k * 4, none⟩) := hf 23 (by decide)
            have e24 : vs 24 = .int .u32 xV := hf 24 (by decide)
            have e25 : vs 25 = .slice (some ⟨b, o, none⟩) l.length lcap := hf 25 (by decide)
            have e26 : vs 26 = .int .i64 k := hf 26 (by decide)
            have e27 : vs 27 = .pointer (some ⟨b, o + k * 4, none⟩) := hf 27 (by decide)
            have e28 : vs 28 = .pointer (some ⟨b, o + k * 4 + 1, none⟩) := hf 28 (by decide)
            have e29 : vs 29 = .int .i64 xN := hf 29 (by decide)
            have e32 : vs 32 = .int .i64 q := hf 32 (by decide)
            have e8 : vs 8 = .int .i64 q := hf 8 (by decide)
            simp only [List.foldl_cons, List.foldl_nil]
            rw [e19, e20, e21, e22, e23, e24, e25, e26, e27, e28, e29, e32, e8]
            generalize vs 30 = u30
            generalize vs 18 = u18
            generalize vs 31 = u31
            have s7 : (fun v w' => ∃ od2, Owns w' 4 1 v od2 M.length (bls M) ∧ ∀ g, od2 = some g → w.heap.size ≤ g ∧ g ≠ w.heap.size ∧ og ≠ some g) (vs 7) w5 := hf 7 (by decide)
            generalize vs 7 = u7 at s7 ⊢
            simp only [Act.put, List.setIfInBounds_toArray, List.set_cons_succ, List.set_cons_zero]
            clear hf e19 e20 e21 e22 e23 e24 e25 e26 e27 e28 e29 e32 e8
            obtain ⟨od2, t1, t2⟩ := s7
            obtain ⟨ra2, rcap2, rfl⟩ := t1.shape
            have ST1 := Lib.hid (show LsbWs w w.heap.size og od2 m M (.slice ra2 M.length rcap2) w5 from ⟨HST.out.1.ext he5, t1, HST.out.2.2.1, t2, HST.out.2.2.2.2.trans he5⟩)
            clear t1 t2 he5
            go_wp2_with fail
    -- PUT2
            have hst : Stab (Phi [(0, .slice (some ⟨b, o, none⟩) l.length lcap), (6, .int .i64 k), (3, .pointer (some ⟨w.heap.size, 0, none⟩)), (8, .int .i64 q), (33, .slice (some ⟨b, o, none⟩) l.length lcap), (34, .int .i64 k), (35, .pointer (some ⟨b, o + k * 4, none⟩)), (36, .pointer (some ⟨b, o + k * 4, none⟩)), (37, .int .u32 xV), (38, .slice (some ⟨b, o, none⟩) l.length lcap), (39, .int .i64 k), (40, .pointer (some ⟨b, o + k * 4, none⟩)), (41, .pointer (some ⟨b, o + k * 4 + 1, none⟩)), (42, .int .i64 xN), (43, .int .i64 q), (44, .int .i64 q), (45, .bool false)] []) := Phi.stable (fun x hx => by cases hx)
            refine wp_region_two 89 [0, 6, 3, 8] [33, 34, 35, 36, 37, 38, 39, 40, 41, 42, 43, 44, 45] 10 [0, 0, 0, 0, 0, 0, 0, 0, 0, 0, 2, 2, 1] (fun w' => LsbWs w w.heap.size og od2 m M (.slice ra2 M.length rcap2) w') (fun w' => ∃ og2, LsbWs w w.heap.size og2 od2 M M (.slice ra2 M.length rcap2) w') (by kernel_rfl) _ hst (fun _ _ h k => lsb_ws_ext h k) (fun _ _ ⟨o, h⟩ k => ⟨o, lsb_ws_ext h k⟩) (by kernel_rfl) rfl rfl (fun _ => ⟨rfl, rfl, rfl, rfl, trivial⟩) (ST1.out) ⟨?_, ?_, ?_, ?_, ?_, ?_, ?_, ?_, ?_, ?_, ?_, ?_, ?_, trivial⟩ ?fin
            · refine Obl.val (.slice (some ⟨b, o, none⟩) l.length lcap) (fun ev w1 hc hf hg hev => ?_) (fun d hd w1 => by cases hd; rfl)
              have h0 : ev (.tmp 0) = .slice (some ⟨b, o, none⟩) l.length lcap := hev.1
              exact ⟨rfl, by (clear hev; go_simp)⟩
            · refine Obl.val (.int .i64 k) (fun ev w1 hc hf hg hev => ?_) (fun d hd w1 => by cases hd; rfl)
              have h0 : ev (.tmp 6) = .int .i64 k := hev.1
              exact ⟨rfl, by (clear hev; go_simp)⟩
            · refine Obl.val (.pointer (some ⟨b, o + k * 4, none⟩)) (fun ev w1 hc hf hg hev => ?_) (fun d hd w1 => by cases hd; rfl)
              have h0 : ev (.tmp 33) = .slice (some ⟨b, o, none⟩) l.length lcap := hev.1; have h1 : ev (.tmp 34) = .int .i64 k := hev.2.1
              exact ⟨rfl, by (clear hev; go_simp)⟩
            · refine Obl.val (.pointer (some ⟨b, o + k * 4, none⟩)) (fun ev w1 hc hf hg hev => ?_) (fun d hd w1 => by cases hd; rfl)
              have h0 : ev (.tmp 35) = .pointer (some ⟨b, o + k * 4, none⟩) := hev.1
              exact ⟨rfl, by (clear hev; go_simp)⟩
            · refine Obl.some (fun ev w1 hI hc hf hg hev => ?_)
              have h0 : ev (.tmp 36) = .pointer (some ⟨b, o + k * 4, none⟩) := hev.1
              clear hev
              have hI : LsbWs w w.heap.size og od2 m M (.slice ra2 M.length rcap2) w1 := hI
              have hc := (HACT.out.ext hI.2.2.2.2).1
              simp only [] at hc
              exact ⟨rfl, .int .u32 xV, by go_simp, fun d hd => by cases hd; rfl⟩
            · refine Obl.val (.slice (some ⟨b, o, none⟩) l.length lcap) (fun ev w1 hc hf hg hev => ?_) (fun d hd w1 => by cases hd; rfl)
              have h0 : ev (.tmp 0) = .slice (some ⟨b, o, none⟩) l.length lcap := hev.1
              exact ⟨rfl, by (clear hev; go_simp)⟩
            · refine Obl.val (.int .i64 k) (fun ev w1 hc hf hg hev => ?_) (fun d hd w1 => by cases hd; rfl)
              have h0 : ev (.tmp 6) = .int .i64 k := hev.1
              exact ⟨rfl, by (clear hev; go_simp)⟩
            · refine Obl.val (.pointer (some ⟨b, o + k * 4, none⟩)) (fun ev w1 hc hf hg hev => ?_) (fun d hd w1 => by cases hd; rfl)
              have h0 : ev (.tmp 38) = .slice (some ⟨b, o, none⟩) l.length lcap := hev.1; have h1 : ev (.tmp 39) = .int .i64 k := hev.2.1
              exact ⟨rfl, by (clear hev; go_simp)⟩
            · refine Obl.val (.pointer (some ⟨b, o + k * 4 + 1, none⟩)) (fun ev w1 hc hf hg hev => ?_) (fun d hd w1 => by cases hd; rfl)
              have h0 : ev (.tmp 40) = .pointer (some ⟨b, o + k * 4, none⟩) := hev.1
              exact ⟨rfl, by (clear hev; go_simp)⟩
            · refine Obl.some (fun ev w1 hI hc hf hg hev => ?_)
              have h0 : ev (.tmp 41) = .pointer (some ⟨b, o + k * 4 + 1, none⟩) := hev.1
              clear hev
              have hI : LsbWs w w.heap.size og od2 m M (.slice ra2 M.length rcap2) w1 := hI
              have hc := (HACT.out.ext hI.2.2.2.2).2.1
              simp only [] at hc
              exact ⟨rfl, .int .i64 xN, by go_simp, fun d hd => by cases hd; rfl⟩
            · refine OblC.call 17 #[.pointer (some ⟨w.heap.size, 0, none⟩), .int .u32 xV, .int .i64 xN] (fun ev w1 hI hc hf hg hev => ?_)
              have h0 : ev (.tmp 3) = .pointer (some ⟨w.heap.size, 0, none⟩) := hev.1; have h1 : ev (.tmp 37) = .int .u32 xV := hev.2.1; have h2 : ev (.tmp 42) = .int .i64 xN := hev.2.2.1
              refine ⟨rfl, by (clear hev; go_simp), ?_⟩
              have hI : LsbWs w w.heap.size og od2 m M (.slice ra2 M.length rcap2) w1 := hI
              refine (lsb_put _ xV xN og _ _ hI.1 (by omega) xv).mono ?_
              rw [← HM.out, ← HQ.out]
              rintro e w4 ⟨rfl, p1⟩
              exact ⟨_, rfl, lsb_ws_act hI p1, fun _ _ h => h, fun d hd => by cases hd; rfl⟩
            · refine Obl.val (.int .i64 q) (fun ev w1 hc hf hg hev => ?_) (fun d hd w1 => by cases hd; rfl)
              have h0 : ev (.tmp 8) = .int .i64 q := hev.1
              exact ⟨rfl, by (clear hev; go_simp)⟩
            · refine Obl.val (.bool false) (fun ev w1 hc hf hg hev => ?_) (fun d hd w1 => by cases hd; rfl)
              have h0 : ev (.tmp 43) = .int .i64 q := hev.1; have h1 : ev (.tmp 44) = .int .i64 q := hev.2.1
              exact ⟨rfl, by (clear hev; go_simp)⟩
            case fin =>
              intro vs w5 he5 hf
              have e33 : vs 33 = .slice (some ⟨b, o, none⟩) l.length lcap := hf 33 (by decide)
              have e34 : vs 34 = .int .i64 k := hf 34 (by decide)
              have e35 : vs 35 = .pointer (some ⟨b, o + k * 4, none⟩) := hf 35 (by decide)
              have e36 : vs 36 = .pointer (some ⟨b, o + k * 4, none⟩) := hf 36 (by decide)
              have e37 : vs 37 = .int .u32 xV := hf 37 (by decide)
              have e38 : vs 38 = .slice (some ⟨b, o, none⟩) l.length lcap := hf 38 (by decide)
              have e39 : vs 39 = .int .i64 k := hf 39 (by decide)
              have e40 : vs 40 = .pointer (some ⟨b, o + k * 4, none⟩) := hf 40 (by decide)
              have e41 : vs 41 = .pointer (some ⟨b, o + k * 4 + 1, none⟩) := hf 41 (by decide)
              have e42 : vs 42 = .int .i64 xN := hf 42 (by decide)
              have e43 : vs 43 = .int .i64 q := hf 43 (by decide)
              have e44 : vs 44 = .int .i64 q := hf 44 (by decide)
              have e45 : vs 45 = .bool false := hf 45 (by decide)
              simp only [List.foldl_cons, List.foldl_nil]
              rw [e33, e34, e35, e36, e37, e38, e39, e40, e41, e42, e43, e44, e45]
              simp only [Act.put, List.setIfInBounds_toArray, List.set_cons_succ, List.set_cons_zero]
              clear hf e33 e34 e35 e36 e37 e38 e39 e40 e41 e42 e43 e44 e45
              obtain ⟨og2, st2⟩ := he5
              have STX := Lib.hid st2
              clear st2 k1 k2 k3
              go_wp2_with fail
      -- TAIL
              have hne : ((strOf (packs false M)).toList != (strOf (packs false M)).toList) = false := by simp
              have hst : Stab (Phi [(3, .pointer (some ⟨w.heap.size, 0, none⟩)), (4, .slice ra2 M.length rcap2), (76, .int .i64 M.length), (77, .slice ra2 M.length rcap2), (78, .int .i64 M.length), (79, .bool false), (80, .bool false), (82, .string (strOf (packs false M))), (83, .slice ra2 M.length rcap2), (85, .string (strOf (packs false M))), (86, .bool false), (87, .bool false)] [(81, fun v w => View w v (packs false M)), (84, fun v w => View w v (packs false M))]) := Phi.stable (by
                  intro x hx v w1 w2 he hp
                  simp only [List.mem_cons, List.not_mem_nil, or_false] at hx
                  rcases hx with rfl | rfl
                  · exact View.ext hp he
                  · exact View.ext hp he)
              refine wp_region_grow_on 89 [3, 4] [76, 77, 78, 79, 80, 81, 82, 83, 84, 85, 86, 87] (by kernel_rfl) _ hst (by kernel_rfl) rfl rfl (fun _ => ⟨rfl, rfl, trivial⟩) ⟨?_, ?_, ?_, ?_, ?_, ?_, ?_, ?_, ?_, ?_, ?_, ?_, trivial⟩ ?fin
              · refine Obl.call 37 #[.pointer (some ⟨w.heap.size, 0, none⟩)] (fun ev w1 hI hc hf hg hev => ?_)
                have h0 : ev (.tmp 3) = .pointer (some ⟨w.heap.size, 0, none⟩) := hev.1
                refine ⟨rfl, by (clear hev; go_simp), ?_⟩
                refine (lsb_len _ _ M w1 (STX.out.1.ext hI)).mono ?_
                rintro e w2 ⟨rfl, rfl⟩
                exact ⟨_, rfl, Ext.refl _, fun d hd => by cases hd; rfl⟩
              · refine Obl.val (.slice ra2 M.length rcap2) (fun ev w1 hc hf hg hev => ?_) (fun d hd w1 => by cases hd; rfl)
                have h0 : ev (.tmp 4) = .slice ra2 M.length rcap2 := hev.1
                exact ⟨rfl, by (clear hev; go_simp)⟩
              · refine Obl.val (.int .i64 M.length) (fun ev w1 hc hf hg hev => ?_) (fun d hd w1 => by cases hd; rfl)
                have h0 : ev (.tmp 77) = .slice ra2 M.length rcap2 := hev.1
                exact ⟨rfl, by (clear hev; go_simp)⟩
              · refine Obl.val (.bool false) (fun ev w1 hc hf hg hev => ?_) (fun d hd w1 => by cases hd; rfl)
                have h0 : ev (.tmp 76) = .int .i64 M.length := hev.1; have h1 : ev (.tmp 78) = .int .i64 M.length := hev.2.1
                exact ⟨rfl, by (clear hev; go_simp)⟩
              · refine Obl.val (.bool false) (fun ev w1 hc hf hg hev => ?_) (fun d hd w1 => by cases hd; rfl)
                have h0 : ev (.tmp 79) = .bool false := hev.1
                exact ⟨rfl, by (clear hev; go_simp)⟩
              · refine Obl.call 19 #[.pointer (some ⟨w.heap.size, 0, none⟩)] (fun ev w1 hI hc hf hg hev => ?_)
                have h0 : ev (.tmp 80) = .bool false := hev.1; have h1 : ev (.tmp 3) = .pointer (some ⟨w.heap.size, 0, none⟩) := hev.2.1
                refine ⟨wanted_of rfl rfl h0, by (clear hev; go_simp), ?_⟩
                refine (lsb_bytes _ _ M w1 (STX.out.1.ext hI) (by omega)).mono ?_
                rintro e w2 ⟨v, og', rfl, c1, _, c3⟩
                exact ⟨v, rfl, c3, fun d hd => by cases hd; exact c1.view⟩
              · refine Obl.val (.string (strOf (packs false M))) (fun ev w1 hc hf hg hev => ?_) (fun d hd w1 => by cases hd; rfl)
                have h0 : ev (.tmp 80) = .bool false := hev.1; have h1 : (fun v w => View w v (packs false M)) (ev (.tmp 81)) w1 := hev.2.1
                clear hev
                have hs := run_string_view (P := Try.prog) 23 9 5 h1 Try.underlying23 Try.underlying5 Try.underlying9
                exact ⟨wanted_of rfl rfl h0, by go_simp⟩
              · refine Obl.val (.slice ra2 M.length rcap2) (fun ev w1 hc hf hg hev => ?_) (fun d hd w1 => by cases hd; rfl)
                have h0 : ev (.tmp 80) = .bool false := hev.1; have h1 : ev (.tmp 4) = .slice ra2 M.length rcap2 := hev.2.1
                exact ⟨wanted_of rfl rfl h0, by (clear hev; go_simp)⟩
              · refine Obl.call 45 #[.slice ra2 M.length rcap2] (fun ev w1 hI hc hf hg hev => ?_)
                have h0 : ev (.tmp 80) = .bool false := hev.1; have h1 : ev (.tmp 83) = .slice ra2 M.length rcap2 := hev.2.1
                refine ⟨wanted_of rfl rfl h0, by (clear hev; go_simp), ?_⟩
                refine (lsb_ref_bytes _ M w1 ((STX.out.2.1.ext' hI).viewL) (by omega)).mono ?_
                rintro e w2 ⟨v, og', rfl, c1, _, c3⟩
                exact ⟨v, rfl, c3, fun d hd => by cases hd; exact c1.view⟩
              · refine Obl.val (.string (strOf (packs false M))) (fun ev w1 hc hf hg hev => ?_) (fun d hd w1 => by cases hd; rfl)
                have h0 : ev (.tmp 80) = .bool false := hev.1; have h1 : (fun v w => View w v (packs false M)) (ev (.tmp 84)) w1 := hev.2.1
                clear hev
                have hs := run_string_view (P := Try.prog) 23 9 5 h1 Try.underlying23 Try.underlying5 Try.underlying9
                exact ⟨wanted_of rfl rfl h0, by go_simp⟩
              · refine Obl.val (.bool false) (fun ev w1 hc hf hg hev => ?_) (fun d hd w1 => by cases hd; rfl)
                have h0 : ev (.tmp 80) = .bool false := hev.1; have h1 : ev (.tmp 82) = .string (strOf (packs false M)) := hev.2.1; have h2 : ev (.tmp 85) = .string (strOf (packs false M)) := hev.2.2.1
                exact ⟨wanted_of rfl rfl h0, by (clear hev; go_simp)⟩
              · refine Obl.val (.bool false) (fun ev w1 hc hf hg hev => ?_) (fun d hd w1 => by cases hd; rfl)
                have h0 : ev (.tmp 80) = .bool false := hev.1; have h1 : ev (.tmp 86) = .bool false := hev.2.1
                exact ⟨rfl, by (clear hev; go_simp)⟩
              case fin =>
                intro vs w5 he5 hf
                have e76 : vs 76 = .int .i64 M.length := hf 76 (by decide)
                have e77 : vs 77 = .slice ra2 M.length rcap2 := hf 77 (by decide)
                have e78 : vs 78 = .int .i64 M.length := hf 78 (by decide)
                have e79 : vs 79 = .bool false := hf 79 (by decide)
                have e80 : vs 80 = .bool false := hf 80 (by decide)
                have e82 : vs 82 = .string (strOf (packs false M)) := hf 82 (by decide)
                have e83 : vs 83 = .slice ra2 M.length rcap2 := hf 83 (by decide)
                have e85 : vs 85 = .string (strOf (packs false M)) := hf 85 (by decide)
                have e86 : vs 86 = .bool false := hf 86 (by decide)
                have e87 : vs 87 = .bool false := hf 87 (by decide)
                simp only [List.foldl_cons, List.foldl_nil]
                rw [e76, e77, e78, e79, e80, e82, e83, e85, e86, e87]
                generalize vs 81 = u81
                generalize vs 84 = u84
                simp only [Act.put, List.setIfInBounds_toArray, List.set_cons_succ, List.set_cons_zero]
                clear hf e76 e77 e78 e79 e80 e82 e83 e85 e86 e87
                have ST5 := Lib.hid (lsb_ws_ext STX.out he5)
                clear he5 hne
                go_wp2_with fail
                go_roundw
                case measure => simp [intOf]; omega
      -- TAIL END
                case rel => exact ⟨k + 1, a, _, _, M, by omega, by go_num, rfl, ha, Nat.le_trans HML.out HB32.out, ST5.out⟩
    -- PUT2 END
  -- PUT END
    · have HX := Lib.hid hst.2.2.2.2
      clear hst hm
      go_wp2_with fail
      refine (lsb_lays _).mono ?_
      rintro e w6 ⟨rfl, hx⟩
      have HX6 := Lib.hid (HX.out.trans hx)
      clear hx
      go_wp2_with fail
      go_ret
      exact ⟨rfl, HX6.out⟩
theorem lsb_writes_many (v : Value) (l : List ActV) (w : World) (hv : ViewA w v l) (hl : 40 < l.length) (hm : l.length ≤ maxLen) :
    Calls Try.prog 13 #[v] w fun e w' => e = .returned (.bool true) ∧ Ext w w' := by
  obtain ⟨ao, cap, rfl, _⟩ := hv
  unfold maxLen at hm
  have hl2 : (40 : Int) < (l.length : Int) := by omega
  go_enter Try.func13, Try.ntmps13
  go_wp2_with fail
  go_ret
  exact ⟨rfl, Ext.refl _⟩
theorem lsb_writes (v : Value) (l : List ActV) (w : World) (hv : ViewA w v l) (hm : l.length ≤ maxLen) :
    Calls Try.prog 13 #[v] w fun e w' => e = .returned (.bool true) ∧ Ext w w' := by
  by_cases h : 40 < l.length
  · exact lsb_writes_many v l w hv h hm
  · exact lsb_writes_some v l w hv (by omega)
end Go.Proofs.Ytnmibfdpaamlgaa
