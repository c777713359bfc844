/- RefineCosts: its walk. -/
import Derived.Test.YtaabmlnbadpfgaaBnd9
import Derived.Test.YtaabmlnbadpfgaaRefCostRefZ
namespace Go.Proofs.Ytaabmlnbadpfgaa
open Go.RowKit Go.Shelf
set_option linter.unusedVariables false

/-- a copy of ints that was made by append to an empty row. -/
theorem clone_ints {wk w2 : World} {o : Obj} {v inv : Value} {xs : List Value} {n base : Nat} (hv : v = .slice (some ⟨wk.heap.size, 0, none⟩) 0 0) (hown : w2.ownsRow base 3 1 inv n xs) (hgrow : (wk.alloc o).grownBy w2 v.ownBlock) : ViewL w2 inv xs ∧ Ext wk w2 := by
  subst hv
  exact ⟨Owns.viewL (show Owns w2 3 1 inv inv.ownBlock n xs from ⟨ownsRow_zero hown, rfl⟩), Touch.grown ((Ext.refl wk).alloc o) hgrow (fun k e => Or.inr (by cases e; exact Nat.le_refl _))⟩
def CsI (Ls : List (List Nat)) (m : Nat) (vi : Value) : Prop := ∃ i : Nat, vi = .int .i64 i ∧ i ≤ m ∧ ∀ k, k < i → (Ls.getD k []).length ≤ 300
set_option maxRecDepth 100000 in
set_option maxHeartbeats 4000000 in
theorem ref_law_costs (v : Value) (Ls : List (List Nat)) (cv : Value) (ch : List Int) (sv : Value) (sy : List Int) (w : World) (hL : RowsV w v Ls) (hb : ∀ L ∈ Ls, L.length ≤ maxLen ∧ ∀ b ∈ L, b < 256) (hLl : Ls.length ≤ maxLen) (hc : ViewL w cv (ints ch)) (hcl : ch.length ≤ 140737488351232) (hs : ViewL w sv (ints sy)) (hsl : sy.length ≤ 140737488351232) :
    Calls Try.prog 3 #[v, cv, sv] w fun e w' => e = .returned (.bool true) ∧ Ext w w' := by
  obtain ⟨la, lc, rfl⟩ := hL.shape
  obtain ⟨ca, cc, rfl⟩ := hc.shape
  obtain ⟨sa, sc, rfl⟩ := hs.shape
  simp only [length_ints] at hc hs ⊢
  obtain ⟨m, hm⟩ : ∃ m, m = Ls.length := ⟨_, rfl⟩
  obtain ⟨C, hC⟩ : ∃ C, C = ch.length := ⟨_, rfl⟩
  obtain ⟨S, hS⟩ : ∃ S, S = sy.length := ⟨_, rfl⟩
  rw [← hm] at hL hLl ⊢
  rw [← hC] at hc hcl ⊢
  rw [← hS] at hs hsl ⊢
  have HL := Lib.hid hL
  have HC := Lib.hid hc
  have HS := Lib.hid hs
  have HN := Lib.hid (show m = Ls.length ∧ C = ch.length ∧ S = sy.length from ⟨hm, hC, hS⟩)
  have HBB := Lib.hid (show ∀ L ∈ Ls, L.length ≤ maxLen from fun L h => (hb L h).1)
  unfold maxLen at hLl
  clear hL hc hs hm hC hS hb
  clear hLl
  by_cases t8 : 8 < m
  · have t8z : (8 : Int) < (m : Int) := by omega
    clear t8
    go_enter Try.func3, Try.ntmps3
    go_wp2_with fail
    go_ret
    exact ⟨rfl, Ext.refl w⟩
  have t8z : ¬ (8 : Int) < (m : Int) := by omega
  by_cases t40 : 40 < C
  · have t40z : (40 : Int) < (C : Int) := by omega
    clear t8 t40
    go_enter Try.func3, Try.ntmps3
    go_wp2_with fail
    go_ret
    exact ⟨rfl, Ext.refl w⟩
  have t40z : ¬ (40 : Int) < (C : Int) := by omega
  by_cases t1k : 1000 < S
  · have t1kz : (1000 : Int) < (S : Int) := by omega
    clear t8 t40 t1k
    go_enter Try.func3, Try.ntmps3
    go_wp2_with fail
    go_ret
    exact ⟨rfl, Ext.refl w⟩
  have t1kz : ¬ (1000 : Int) < (S : Int) := by omega
  have HM := Lib.hid (show m ≤ 8 ∧ C ≤ 40 ∧ S ≤ 1000 from by omega)
  clear t8 t40 t1k hcl hsl
  go_enter Try.func3, Try.ntmps3
  go_wp2_with fail
  go_loop [7] (fun vi => CsI Ls m vi) (fun vi => m - (intOf vi).toNat)
  case atStart => exact ⟨0, rfl, Nat.zero_le _, fun k h => by omega⟩
  case round =>
    obtain ⟨i, rfl, him, hall⟩ := hrel
    have HI := Lib.hid (And.intro him hall)
    clear him hall
    by_cases hlt : i < m
    · have hltz : (i : Int) < (m : Int) := by omega
      have him8 : (i : Int) ≤ 8 := by have := HM.out; omega
      obtain ⟨L, hLi⟩ : ∃ L, Ls[i]? = some L := ⟨_, List.getElem?_eq_getElem (show i < Ls.length by have := HN.out.1; omega)⟩
      have hLm := HBB.out L (List.mem_of_getElem? hLi)
      obtain ⟨q, hq⟩ : ∃ q, L.length = q := ⟨_, rfl⟩
      rw [hq] at hLm
      obtain ⟨b1, o1, uo, uc, rfl, crow, _⟩ := HL.out.at hLi hq
      have HLT := Lib.hid (show i < m ∧ Ls.getD i [] = L ∧ L.length = q from ⟨hlt, by rw [List.getD, hLi]; rfl, hq⟩)
      clear hLi hq hlt
      unfold maxLen at hLm
      by_cases hq3 : 300 < q
      · have hq3z : (300 : Int) < (q : Int) := by omega
        clear hq3 hLm
        go_wp2_with fail
        go_ret
        exact ⟨rfl, Ext.refl w⟩
      · have hq3z : ¬ (300 : Int) < (q : Int) := by omega
        have HQ := Lib.hid (show q ≤ 300 by omega)
        clear hq3 hLm
        go_wp2_with fail
        go_round
        case rel => exact ⟨i + 1, by go_num, by have := HLT.out.1; omega, fun k hk => by
          by_cases e : k = i
          · subst e; rw [HLT.out.2.1, HLT.out.2.2]; exact HQ.out
          · exact HI.out.2 k (by omega)⟩
        case measure => simp [intOf]; have := HLT.out.1; omega
    · have hltz : ¬ (i : Int) < (m : Int) := by omega
      have HALL := Lib.hid (show ∀ L ∈ Ls, L.length ≤ 2 ^ 40 from fun L h => by
        obtain ⟨k, hk⟩ := List.getElem?_of_mem h
        have hkl := (List.getElem?_eq_some_iff.1 hk).1
        have := HI.out.2 k (by have := HN.out.1; omega)
        rw [List.getD, hk] at this
        simp at this
        omega)
      obtain ⟨i0, hi, hz0, hz1, hz2⟩ := info_parts info_int
      have hM := HM.out
      have hlc : (ints ch).length = C := by rw [length_ints]; exact HN.out.2.1.symm
      have hls : (ints sy).length = S := by rw [length_ints]; exact HN.out.2.2.symm
      have HLC := Lib.hid (And.intro hlc hls)
      clear hlt hlc hls
      go_wp2_with (at_builtin; go_must (refine wpList_append_view _ rfl (.tmp 35) (.tmp 36) 23 rfl w.heap.size 3 i0 (.int .i64 0) 8 Try.underlying23 hi hz0 hz1 hz2 rfl (.slice (some ⟨w.heap.size, 0, none⟩) 0 0) 0 [] rfl (World.ownsRow_made w #[] 0 (Nat.le_refl _) (by decide) rfl) _ (ints ch) rfl (HC.out.ext ((Ext.refl w).alloc _)) (ints_one ch) (by rw [HLC.out.1]; unfold maxLen; omega) (by rw [HLC.out.1]; omega) (by simp) ?_))
      intro inv w2 hown hgrow _
      obtain ⟨hv2, hx2⟩ := clone_ints rfl hown hgrow
      obtain ⟨ia, ic, rfl⟩ := hv2.shape
      rw [HLC.out.1] at hv2 ⊢
      have HV2 := Lib.hid hv2
      have HX2 := Lib.hid hx2
      clear hown hgrow hv2 hx2
      go_wp2_with (at_builtin; go_must (refine wpList_append_view _ rfl (.tmp 38) (.tmp 39) 23 rfl w2.heap.size 3 i0 (.int .i64 0) 8 Try.underlying23 hi hz0 hz1 hz2 rfl (.slice (some ⟨w2.heap.size, 0, none⟩) 0 0) 0 [] rfl (World.ownsRow_made w2 #[] 0 (Nat.le_refl _) (by decide) rfl) _ (ints sy) rfl (HS.out.ext (HX2.out.alloc _)) (ints_one sy) (by rw [HLC.out.2]; unfold maxLen; omega) (by rw [HLC.out.2]; omega) (by simp) ?_))
      intro inv w3 hown hgrow _
      obtain ⟨hv3, hx3⟩ := clone_ints rfl hown hgrow
      obtain ⟨ja, jc, rfl⟩ := hv3.shape
      rw [HLC.out.2] at hv3 ⊢
      have HV3 := Lib.hid hv3
      have HX3 := Lib.hid (HX2.out.trans hx3)
      have HV2' := Lib.hid (HV2.out.ext hx3)
      clear hown hgrow hv3 hx3 HV2 HX2
      have HBD := Lib.hid (show ch.length ≤ 2 ^ 40 ∧ sy.length ≤ 2 ^ 40 ∧ Ls.length ≤ 2 ^ 40 from by have := HN.out; omega)
      clear hM
      go_wp2_with fail
      refine (cost_all _ _ _ Ls ch sy w3 (HL.out.ext HX3.out) HV2'.out HV3.out HALL.out HBD.out.1).mono ?_
      rintro e w4 ⟨rfl, hx⟩
      obtain ⟨z, hz⟩ : ∃ z, z = costZ Ls ch sy := ⟨_, rfl⟩
      rw [← hz]
      have HZ := Lib.hid hz
      have HX4 := Lib.hid (HX3.out.trans hx)
      have HW4 := Lib.hid hx
      clear hx hz
      go_wp2_with fail
      refine (ref_cost25 _ _ _ Ls ch sy w4 (HL.out.ext HX4.out) (HC.out.ext HX4.out) (HS.out.ext HX4.out) HALL.out HBD.out.1 HBD.out.2.1 HBD.out.2.2).mono ?_
      rintro e w5 ⟨rfl, hx⟩
      rw [← HZ.out]
      have HX5 := Lib.hid (HX4.out.trans hx)
      have HW5 := Lib.hid (HW4.out.trans hx)
      clear hx HX4 HW4
      go_wp2_with fail
      refine (ref_same _ _ ch ch w5 (HV2'.out.ext HW5.out) (HC.out.ext HX5.out) HBD.out.1 HBD.out.1).mono ?_
      rintro e w6 ⟨rfl, hx⟩
      rw [decide_eq_true (rfl : ch = ch)]
      have HX6 := Lib.hid (HX5.out.trans hx)
      have HW6 := Lib.hid (HW5.out.trans hx)
      clear hx HX5 HW5
      go_wp2_with fail
      refine (ref_same _ _ sy sy w6 (HV3.out.ext HW6.out) (HS.out.ext HX6.out) HBD.out.2.1 HBD.out.2.1).mono ?_
      rintro e w7 ⟨rfl, hx⟩
      rw [decide_eq_true (rfl : sy = sy)]
      have HX7 := Lib.hid (HX6.out.trans hx)
      clear hx HX6 HW6
      go_wp2_with fail
      refine (ref_counts w7).mono ?_
      rintro e w8 ⟨rfl, hx⟩
      have HX8 := Lib.hid (HX7.out.trans hx)
      clear hx HX7
      go_wp2_with fail
      go_ret
      exact ⟨rfl, HX8.out⟩
end Go.Proofs.Ytaabmlnbadpfgaa
