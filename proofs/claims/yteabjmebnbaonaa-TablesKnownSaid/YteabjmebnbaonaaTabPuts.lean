/- pressworklaw24.puts: its walk. -/
import Derived.Test.YteabjmebnbaonaaTabSt
namespace Go.Proofs.Yteabjmebnbaonaa
open Go.RowKit
set_option linter.unusedVariables false

theorem puts_len : packs true (lenBits [2, 2, 1]) = [17, 128] := by decide +kernel
theorem puts_sel : packs true (selBits [0, 1, 1, 0]) = [0, 8, 144] := by decide +kernel
theorem puts_ten : (((lenBits [2, 2, 1]).length : Nat) : Int) = 10 := by decide +kernel
theorem puts_may : MayP [2, 2, 1] := ⟨by decide, by decide, by decide⟩
theorem puts_mayN : MayN [0, 1, 1, 0] 2 := ⟨by decide, by decide, by decide, by decide, by decide⟩
theorem puts_getL : gLens (rbit true [17, 128]) (8 * [17, 128].length) 0 3 = some ([2, 2, 1], 10) := by
  have h := gLens_put (rbit true [17, 128]) 16 0 [2, 2, 1] puts_may (by have := atn_app (lenBits [2, 2, 1]) [] 16; rwa [List.append_nil, puts_len] at this)
  rw [show (lenBits [2, 2, 1]).length = 10 by decide +kernel] at h
  exact h
theorem puts_getS : gSel (rbit true [0, 8, 144]) (8 * [0, 8, 144].length) 0 2 = some ([0, 1, 1, 0], 21) := by
  have h := gSel_put (rbit true [0, 8, 144]) 24 0 2 [0, 1, 1, 0] puts_mayN (by have := atn_app (selBits [0, 1, 1, 0]) [] 24; rwa [List.append_nil, puts_sel] at this)
  rw [show (selBits [0, 1, 1, 0]).length = 21 by decide +kernel] at h
  exact h
theorem st_two (w : World) : St w ((w.alloc (.cells #[.slice none 0 0, .int .i64 0] 30)).alloc (.cells #[.slice none 0 0, .int .i64 0] 30)) [mW w.heap.size [], mW (w.heap.size + 1) []] := by
  have h := (St.of (Ext.refl w)).newW.newW
  rw [World.size_alloc] at h
  exact h
set_option maxHeartbeats 1000000 in
set_option maxRecDepth 100000 in
theorem tab_example (w : World) : Calls Try.prog 35 #[] w fun e w' => e = .returned (.bool true) ∧ Ext w w' := by
  have h0 := (st_two w).lit 5 (u8s [2, 2, 1]) 3 rfl (by decide) (by decide)
  simp only [World.size_alloc] at h0
  have HS0 := Lib.hid h0
  clear h0
  go_enter Try.func35, Try.ntmps35
  go_wp2_with fail
  refine (HS0.out.putL 0 rfl _ [2, 2, 1] (HS0.out.viewL 2 rfl) (fun _ => Or.inl ⟨2, _, _, by decide, rfl⟩) (by decide) (by decide)).mono ?_
  rintro e w1 (⟨rfl, -, s1⟩ | ⟨rfl, hm, -⟩)
  · have h1 := (s1.take 2).lit 3 (ints [0, 1, 1, 0]) 4 rfl (by decide) (by decide)
    have HS1 := Lib.hid h1
    clear HS0 s1 h1
    go_wp2_with fail
    refine (HS1.out.putS 1 rfl _ [0, 1, 1, 0] 2 (HS1.out.viewL 2 rfl) (Or.inl ⟨2, _, _, by decide, rfl⟩) (by decide) (by decide)).mono ?_
    rintro e w2 (⟨rfl, -, s2⟩ | ⟨rfl, hm, -⟩)
    · have h2 := (s2.take 2).lit 5 (u8s [17, 128]) 2 rfl (by decide) (by decide)
      have HS2 := Lib.hid h2
      clear HS1 s2 h2
      go_wp2_with fail
      refine (HS2.out.mnew _ [17, 128] (HS2.out.view 2 rfl rfl) (by decide)).mono ?_
      rintro e w3 ⟨B3, rfl, s3⟩
      have HS3 := Lib.hid s3
      clear HS2 s3
      go_wp2_with fail
      refine (HS3.out.getL 3 rfl 3 (by decide) (by decide) (by decide) (by decide) (by decide)).mono ?_
      rw [puts_getL]
      rintro e w4 (⟨l, q, v4, hg, rfl, s4⟩ | ⟨q, hg, _⟩)
      · cases hg
        have h4 := s4.lit 5 (u8s [0, 8, 144]) 3 rfl (by decide) (by decide)
        have HS4 := Lib.hid h4
        clear HS3 s4 h4
        go_wp2_with fail
        refine (HS4.out.mnew _ [0, 8, 144] (HS4.out.view 5 rfl rfl) (by decide)).mono ?_
        rintro e w5 ⟨B5, rfl, s5⟩
        have HS5 := Lib.hid s5
        clear HS4 s5
        go_wp2_with fail
        refine (HS5.out.getS 6 rfl 2 (by decide) (by decide) (by decide) (by decide) (by decide)).mono ?_
        rw [puts_getS]
        rintro e w6 (⟨l, q, v6, hg, rfl, s6⟩ | ⟨q, hg, _⟩)
        · cases hg
          have HS6 := Lib.hid s6
          clear HS5 s6
          go_wp2_with fail
          refine (HS6.out.mbytes 0 rfl (by decide +kernel)).mono ?_
          rintro e w7 ⟨v7, rfl, s7⟩
          rw [List.nil_append, puts_len] at s7
          have hs7 := run_string_view (P := Try.prog) 22 9 5 (s7.view 8 rfl rfl) Try.underlying22 Try.underlying5 Try.underlying9
          have hq7 : ((strOf [17, 128]).toList == [17, 128]) = true := by rw [strOf_toList]; decide
          have HS7 := Lib.hid s7
          clear s7 HS6
          go_wp2_with fail
          have hln := HS7.out.mlen 0 rfl
          rw [puts_ten] at hln
          refine hln.mono ?_
          rintro e w' ⟨rfl, rfl⟩
          clear hln hs7 hq7
          go_wp2_with fail
          refine (HS7.out.mbytes 1 rfl (by decide +kernel)).mono ?_
          rintro e w8 ⟨v8, rfl, s8⟩
          rw [List.nil_append, show List.map Int.toNat [0, 1, 1, 0] = [0, 1, 1, 0] from rfl, puts_sel] at s8
          have hs8 := run_string_view (P := Try.prog) 22 9 5 (s8.view 9 rfl rfl) Try.underlying22 Try.underlying5 Try.underlying9
          have hs9 := run_string_view (P := Try.prog) 22 9 5 (s8.view 4 rfl rfl) Try.underlying22 Try.underlying5 Try.underlying9
          have hq8 : ((strOf [0, 8, 144]).toList == [0, 8, 144]) = true := by rw [strOf_toList]; decide
          have hq9 : ((strOf [2, 2, 1]).toList == [2, 2, 1]) = true := by rw [strOf_toList]; decide
          have h9 := s8.lit 3 (ints [0, 1, 1, 0]) 4 rfl (by decide) (by decide)
          have HS9 := Lib.hid h9
          clear s8 h9 HS7
          go_wp2_with fail
          refine (ref_same _ _ [0, 1, 1, 0] [0, 1, 1, 0] _ (by have := HS9.out.viewL 7 rfl; rw [i64s_ints] at this; exact this) (HS9.out.viewL 10 rfl) (by decide) (by decide)).mono ?_
          rw [decide_eq_true rfl]
          rintro e w10 ⟨rfl, x10⟩
          have h11 := (HS9.out.step x10).lit 5 (u8s [2, 2, 1]) 3 rfl (by decide) (by decide)
          have HS11 := Lib.hid h11
          clear hs8 hs9 hq8 hq9 HS9 h11 x10
          go_wp2_with fail
          refine (tab_size _ [2, 2, 1] _ (HS11.out.viewL 11 rfl) (by decide)).mono ?_
          rintro e w12 ⟨⟨rfl, -⟩ | ⟨rfl, hm⟩, x12⟩
          · rw [puts_ten]
            have HX := Lib.hid (HS11.out.ext.trans x12)
            clear x12 HS11
            go_wp2_with fail
            go_ret
            exact ⟨rfl, HX.out⟩
          · exact absurd puts_may hm
        · cases hg
      · cases hg
    · exact absurd ⟨by decide, by decide, by decide, by decide, by decide⟩ hm
  · exact absurd puts_may hm
end Go.Proofs.Yteabjmebnbaonaa
