/- GunzipJoins: the law's walk. -/
import Derived.Test.YtbbcphloafmldaaBnd2
import Derived.Test.YtbbcphloafmldaaBnd23
namespace Go.Proofs.Ytbbcphloafmldaa
open Go.RowKit
set_option linter.unusedVariables false
set_option linter.unusedSimpArgs false

theorem strOf_app (a b : List Nat) : strOf (a ++ b) = strOf a ++ strOf b := by simp [strOf, ByteArray.ext_iff]
theorem cell4 {w : World} {p : Nat} {v : Value} {a b : Int} {c : Bool} (h : FB w p v a b c) : w.cell? ⟨p, 0, none⟩ = some v ∧ w.cell? ⟨p, 1, none⟩ = some (.int .i64 a) ∧ w.cell? ⟨p, 2, none⟩ = some (.int .i64 b) ∧ w.cell? ⟨p, 3, none⟩ = some (.bool c) := h.cells.1
set_option maxHeartbeats 16000000 in
set_option maxRecDepth 100000 in
theorem gun_law_joins (va : Value) (xs : List Nat) (vb : Value) (ys : List Nat) (keep : Nat) (w : World) (hva : View w va xs ∧ ViewL w va (u8s xs)) (hba : ∀ b ∈ xs, b < 256) (hla : xs.length ≤ 140737488351232) (hvb : View w vb ys ∧ ViewL w vb (u8s ys)) (hbb : ∀ b ∈ ys, b < 256) (hlb : ys.length ≤ 140737488351232) (hk : keep < 65536) :
    Calls Try.prog 3 #[va, vb, .int .u16 keep] w fun e w' => e = .returned (.bool true) ∧ Ext w w' := by
  obtain ⟨i0, hi, hz0, hz1, hz2⟩ := info_parts info_u8
  obtain ⟨ao, ac, rfl⟩ := hva.2.shape
  obtain ⟨bo, bc, rfl⟩ := hvb.2.shape
  simp only [length_u8s] at *
  have HBA := Lib.hid hba
  have HBB := Lib.hid hbb
  obtain ⟨la, hla'⟩ : ∃ la, la = xs.length := ⟨_, rfl⟩
  obtain ⟨lb, hlb'⟩ : ∃ lb, lb = ys.length := ⟨_, rfl⟩
  rw [← hla'] at hva hla ⊢
  rw [← hlb'] at hvb hlb ⊢
  have HVA := Lib.hid hva.2
  have HVB := Lib.hid hvb.2
  have HLA := Lib.hid hla'
  have HLB := Lib.hid hlb'
  clear hva hvb hba hbb hla' hlb'
  by_cases h1 : la ≤ 400
  case neg =>
    have h1i : (400 : Int) < (la : Int) := by omega
    go_enter Try.func3, Try.ntmps3
    go_wp2_with fail
    go_ret
    exact ⟨rfl, Ext.refl _⟩
  have h1i : ¬ (400 : Int) < (la : Int) := by omega
  by_cases h2 : lb ≤ 400
  case neg =>
    have h2i : (400 : Int) < (lb : Int) := by omega
    go_enter Try.func3, Try.ntmps3
    go_wp2_with fail
    go_ret
    exact ⟨rfl, Ext.refl _⟩
  have h2i : ¬ (400 : Int) < (lb : Int) := by omega
  have HLE := Lib.hid (And.intro h1 h2)
  clear h1 h2 hla hlb
  go_enter Try.func3, Try.ntmps3
  go_wp2_with fail
  refine (gun_res_at (k := 4000) (keep := 4000) (R := resG xs 4000) (by simp) rfl HVA.out (by rw [← HLA.out]; have := HLE.out; omega) HBA.out (by omega)).mono ?_
  rintro e w1 ⟨fo, fc, rfl, hv1, hx1, hz1⟩
  obtain ⟨RA, hRA⟩ : ∃ RA, RA = resG xs 4000 := ⟨_, rfl⟩
  rw [← hRA] at hv1 hz1 ⊢
  obtain ⟨fm, hfm⟩ : ∃ fm, fm = RA.b.length := ⟨_, rfl⟩
  obtain ⟨fs, hfs⟩ : ∃ fs, fs = RA.s := ⟨_, rfl⟩
  obtain ⟨fu, hfu⟩ : ∃ fu, fu = RA.u := ⟨_, rfl⟩
  obtain ⟨fw, hfw⟩ : ∃ fw, fw = RA.w := ⟨_, rfl⟩
  obtain ⟨fe, hfe⟩ : ∃ fe, fe = RA.e := ⟨_, rfl⟩
  rw [← hfm] at hv1
  rw [← hfe] at hz1
  rw [← hfm, ← hfs, ← hfu, ← hfw, ← hfe]
  have HRA := Lib.hid (show RA = resG xs 4000 ∧ fm = RA.b.length ∧ fs = RA.s ∧ fu = RA.u ∧ fw = RA.w ∧ fe = RA.e from ⟨hRA, hfm, hfs, hfu, hfw, hfe⟩)
  have HV1 := Lib.hid hv1
  have HX := Lib.hid hx1
  have HZ1 := Lib.hid hz1
  clear hRA hfm hfs hfu hfw hfe hv1 hx1 hz1
  obtain ⟨w2, hw2⟩ : ∃ w2, w2 = w1.alloc (.cells #[.slice fo fm fc, .int .i64 fs, .int .i64 fu, .bool fw] 25) := ⟨_, rfl⟩
  have hx2 : Ext w1 w2 := by rw [hw2]; exact (Ext.refl _).alloc _
  obtain ⟨qf, hqf⟩ : ∃ qf, qf = w1.heap.size := ⟨_, rfl⟩
  have HF := Lib.hid (show FB w2 qf (.slice fo fm fc) fs fu fw by rw [hw2, hqf]; exact FB.new _ _ _ _ _)
  have HV1 := Lib.hid (HV1.out.ext hx2)
  have HX := Lib.hid (HX.out.trans hx2)
  go_wp2_with fail
  rw [← hw2, ← hqf]
  clear hw2 hqf hx2
  refine (gun_res_at (k := 4000) (keep := 4000) (R := resG ys 4000) (by simp) rfl (HVB.out.ext HX.out) (by rw [← HLB.out]; have := HLE.out; omega) HBB.out (by omega)).mono ?_
  rintro e w3 ⟨go, gc, rfl, hv3, hx3, hz3⟩
  obtain ⟨RB, hRB⟩ : ∃ RB, RB = resG ys 4000 := ⟨_, rfl⟩
  rw [← hRB] at hv3 hz3 ⊢
  obtain ⟨gm, hgm⟩ : ∃ gm, gm = RB.b.length := ⟨_, rfl⟩
  obtain ⟨gs, hgs⟩ : ∃ gs, gs = RB.s := ⟨_, rfl⟩
  obtain ⟨gu, hgu⟩ : ∃ gu, gu = RB.u := ⟨_, rfl⟩
  obtain ⟨gw, hgw⟩ : ∃ gw, gw = RB.w := ⟨_, rfl⟩
  obtain ⟨ge, hge⟩ : ∃ ge, ge = RB.e := ⟨_, rfl⟩
  rw [← hgm] at hv3
  rw [← hge] at hz3
  rw [← hgm, ← hgs, ← hgu, ← hgw, ← hge]
  have HRB := Lib.hid (show RB = resG ys 4000 ∧ gm = RB.b.length ∧ gs = RB.s ∧ gu = RB.u ∧ gw = RB.w ∧ ge = RB.e from ⟨hRB, hgm, hgs, hgu, hgw, hge⟩)
  have HV3 := Lib.hid hv3
  have HV1 := Lib.hid (HV1.out.ext hx3)
  have HF := Lib.hid (HF.out.keep hx3 (fun f => f))
  have HX := Lib.hid (HX.out.trans hx3)
  clear hRB hgm hgs hgu hgw hge hv3 hx3 hz3
  obtain ⟨w4, hw4⟩ : ∃ w4, w4 = w3.alloc (.cells #[.slice go gm gc, .int .i64 gs, .int .i64 gu, .bool gw] 25) := ⟨_, rfl⟩
  have hx4 : Ext w3 w4 := by rw [hw4]; exact (Ext.refl _).alloc _
  obtain ⟨qg, hqg⟩ : ∃ qg, qg = w3.heap.size := ⟨_, rfl⟩
  have HG := Lib.hid (show FB w4 qg (.slice go gm gc) gs gu gw by rw [hw4, hqg]; exact FB.new _ _ _ _ _)
  have HF := Lib.hid (HF.out.keep hx4 (fun f => f))
  have HV1 := Lib.hid (HV1.out.ext hx4)
  have HV3 := Lib.hid (HV3.out.ext hx4)
  have HX := Lib.hid (HX.out.trans hx4)
  obtain ⟨c0, c1, c2, c3⟩ := cell4 HF.out
  obtain ⟨d0, d1, d2, d3⟩ := cell4 HG.out
  have HW4 := Lib.hid (And.intro hw4 hqg)
  clear hx4
  cases hga : gunF xs 4000 with
  | none =>
    obtain ⟨rfl, rfl, rfl, rfl, rfl⟩ : fm = 0 ∧ fs = 0 ∧ fu = 0 ∧ fw = false ∧ fe = 2 := by
      obtain ⟨h, h1, h2, h3, h4, h5⟩ := HRA.out
      rw [resG_none hga] at h
      subst h
      exact ⟨h1, h2, h3, h4, h5⟩
    obtain ⟨rfl, rfl⟩ := HZ1.out (by decide)
    clear hga HRB HLE
    rw [hw4] at c0 c1 c2 c3
    clear d0 d1 d2 d3 hqg
    go_wp2_with fail
    rw [← hw4]
    refine (gun_same none none 0 0 0 0 [] 0 0 false w4 (viewL_nil0 w4) (viewL_nil0 w4)).mono ?_
    rintro e w5 ⟨rfl, hx5⟩
    have HX := Lib.hid (HX.out.trans hx5)
    clear hx5 c0 c1 c2 c3 hw4
    go_wp2_with fail
    refine (gun_opens _).mono ?_
    rintro e w6 ⟨rfl, hx6⟩
    have HX := Lib.hid (HX.out.trans hx6)
    clear hx6
    go_wp2_with fail
    go_ret
    exact ⟨rfl, HX.out⟩
  | some ra =>
    obtain ⟨F, wa⟩ := ra
    obtain ⟨hfm, hfs, hfu, rfl, rfl⟩ : fm = (F.take 4000).length ∧ fs = F.length ∧ fu = xs.length ∧ fw = wa ∧ fe = 0 := by
      obtain ⟨h, h1, h2, h3, h4, h5⟩ := HRA.out
      rw [resG_some hga] at h
      subst h
      exact ⟨h1, h2, h3, h4, h5⟩
    cases hgb : gunF ys 4000 with
    | none =>
      obtain ⟨rfl, rfl, rfl, rfl, rfl⟩ : gm = 0 ∧ gs = 0 ∧ gu = 0 ∧ gw = false ∧ ge = 2 := by
        obtain ⟨h, h1, h2, h3, h4, h5⟩ := HRB.out
        rw [resG_none hgb] at h
        subst h
        exact ⟨h1, h2, h3, h4, h5⟩
      clear hga hgb c0 c1 c2 c3 d0 d1 d2 d3 hqg HLE HRA hfm hfs hfu
      go_wp2_with fail
      rw [show ((0 : Nat) : Int) = 0 from rfl] at hw4
      rw [← hw4]
      clear hw4
      refine (gun_opens _).mono ?_
      rintro e w6 ⟨rfl, hx6⟩
      have HX := Lib.hid (HX.out.trans hx6)
      clear hx6
      go_wp2_with fail
      go_ret
      exact ⟨rfl, HX.out⟩
    | some rb =>
      obtain ⟨G, wb⟩ := rb
      obtain ⟨hgm, hgs, hgu, rfl, rfl⟩ : gm = (G.take 4000).length ∧ gs = G.length ∧ gu = ys.length ∧ gw = wb ∧ ge = 0 := by
        obtain ⟨h, h1, h2, h3, h4, h5⟩ := HRB.out
        rw [resG_some hgb] at h
        subst h
        exact ⟨h1, h2, h3, h4, h5⟩
      have hl1 := gunF_len 400 (by rw [← HLA.out]; exact HLE.out.1) hga
      have hl2 := gunF_len 400 (by rw [← HLB.out]; exact HLE.out.2) hgb
      rw [← hfs] at hl1
      rw [← hgs] at hl2
      have HS := Lib.hid (show IntKind.i64.wrap ((fs : Int) + (gs : Int)) = ((fs + gs : Nat) : Int) from by rw [show (fs : Int) + (gs : Int) = ((fs + gs : Nat) : Int) by omega]; exact IntWalk.i64_in _ (by omega))
      have HGA := Lib.hid (And.intro hga (And.intro hgb (And.intro hfm (And.intro hgm (And.intro hfs (And.intro hgs (And.intro hfu hgu)))))))
      clear hga hgb hfm hgm hl1 hl2 hfs hgs hfu hgu
      by_cases hbig : fs + gs ≤ 4000
      case neg =>
        have hbi : (4000 : Int) < ((fs + gs : Nat) : Int) := by omega
        obtain ⟨NN, hNN⟩ : ∃ NN, NN = fs + gs := ⟨_, rfl⟩
        rw [← hNN] at HS hbi
        have hss := HS.out
        clear hbig hNN c0 c2 c3 d0 d2 d3 HLE HRA
        rw [hw4] at c1 d1
        rw [hqg] at d1
        clear HV1 HV3 HF HG HGA HRB HW4
        go_wp2_with fail
        rw [← hw4]
        clear hw4 c1 d1 hss
        refine (gun_opens _).mono ?_
        rintro e w6 ⟨rfl, hx6⟩
        have HX := Lib.hid (HX.out.trans hx6)
        clear hx6
        go_wp2_with fail
        go_ret
        exact ⟨rfl, HX.out⟩
      have hbi : ¬ (4000 : Int) < ((fs + gs : Nat) : Int) := by omega
      obtain ⟨NN, hNN⟩ : ∃ NN, NN = fs + gs := ⟨_, rfl⟩
      rw [← hNN] at HS hbi
      have hss := HS.out
      obtain ⟨UU, hUU⟩ : ∃ UU, UU = la + lb := ⟨_, rfl⟩
      have hfm : fm = fs ∧ gm = gs := by
        obtain ⟨_, _, h3, h4, h5, h6, _⟩ := HGA.out
        rw [List.length_take] at h3 h4
        omega
      obtain ⟨rfl, rfl⟩ := hfm
      have HV1 := Lib.hid (show ViewL w4 (.slice fo fm fc) (u8s F) from by
        have h := HV1.out
        rw [HRA.out.1, resG_some HGA.out.1] at h
        rw [List.take_of_length_le (by have := HGA.out.2.2.2.2.1; omega)] at h
        exact h)
      have HV3 := Lib.hid (show ViewL w4 (.slice go gm gc) (u8s G) from by
        have h := HV3.out
        rw [HRB.out.1, resG_some HGA.out.2.1] at h
        rw [List.take_of_length_le (by have := HGA.out.2.2.2.2.2.1; omega)] at h
        exact h)
      have HTW := Lib.hid (show gunF (xs ++ ys) 4000 = some (F ++ G, fw || gw) from gunF_two HBA.out HGA.out.1 HGA.out.2.1 (by have := HGA.out.2.2.2.2; omega))
      have HNN := Lib.hid (show NN = fm + gm ∧ UU = la + lb ∧ fm = F.length ∧ gm = G.length ∧ NN ≤ 4000 ∧ la ≤ 400 ∧ lb ≤ 400 ∧ la = xs.length ∧ lb = ys.length from ⟨hNN, hUU, HGA.out.2.2.2.2.1, HGA.out.2.2.2.2.2.1, by omega, HLE.out.1, HLE.out.2, HLA.out, HLB.out⟩)
      have HOWN := Lib.hid (show (w4.alloc (.cells #[] 5)).ownsRow w4.heap.size 5 1 (.slice (some ⟨qg + 1, 0, none⟩) 0 0) 0 [] from by rw [show qg + 1 = w4.heap.size by rw [hw4, World.size_alloc, hqg]]; exact World.ownsRow_made w4 #[] 0 (Nat.le_refl _) (by decide) rfl)
      have hx4 := (Ext.refl w4).alloc (.cells #[] 5)
      have HVA := Lib.hid (HVA.out.ext (HX.out.trans hx4))
      clear hx4
      rw [hw4] at c1 d1
      rw [hqg] at d1
      clear hbig hNN hUU c0 c2 c3 d0 d2 d3 HRA HRB HGA HLE HLA HLB HZ1 hw4 hqg
      go_wp2_with (at_builtin; rw [← HW4.out.1, ← HW4.out.2]; go_must (refine wpList_append_view _ rfl (.tmp 63) (.tmp 64) 22 rfl w4.heap.size 5 i0 (.int .u8 0) 1 Try.underlying22 hi hz0 hz1 hz2 rfl _ 0 [] rfl HOWN.out _ (u8s xs) rfl HVA.out (u8s_one _) (by rw [length_u8s]; have := HNN.out; unfold maxLen; omega) (by rw [length_u8s]; have := HNN.out; omega) (by rw [World.size_alloc]; omega) ?_))
      intro v5 w5 hown5 hgrow5 hat5
      have hx5 : Ext w4 w5 := Touch.grown ((Ext.refl w4).alloc _) hgrow5 (fun k e => Or.inr (by cases e; have h := HW4.out; show w4.heap.size ≤ qg + 1; rw [h.1, World.size_alloc, h.2]; exact Nat.le_refl _))
      have hog5 := own_block_ge hown5
      have HOWN5 := Lib.hid (show w5.ownsRow w4.heap.size 5 1 v5 xs.length (u8s xs) by simpa [length_u8s] using hown5)
      have HX5 := Lib.hid hx5
      have HVB := Lib.hid (HVB.out.ext (HX.out.trans hx5))
      have hsz5 := hx5.size
      clear hown5 hgrow5 hat5 hx5 HOWN HVA c1 d1 hss
      go_wp2_with (at_builtin; go_must (refine wpList_append_view _ rfl (.tmp 65) (.tmp 66) 22 rfl w4.heap.size 5 i0 (.int .u8 0) 1 Try.underlying22 hi hz0 hz1 hz2 rfl _ xs.length (u8s xs) rfl HOWN5.out _ (u8s ys) rfl HVB.out (u8s_one _) (by rw [length_u8s]; have := HNN.out; unfold maxLen; omega) (by rw [length_u8s]; have := HNN.out; omega) hsz5 ?_))
      intro v6 w6 hown6 hgrow6 hat6
      have hx6 : Ext w4 w6 := Touch.grown HX5.out hgrow6 (fun k e => Or.inr (hog5 k e))
      have ho6 : Owns w6 5 1 v6 v6.ownBlock UU (u8s (xs ++ ys)) := by
        have h := ownsRow_zero hown6
        rw [length_u8s, show xs.length + ys.length = UU by have := HNN.out; omega] at h
        exact ⟨by rw [u8s_append]; exact h, rfl⟩
      obtain ⟨co, cc, rfl⟩ := ho6.shape
      have HC := Lib.hid ho6.viewL
      have HF := Lib.hid (HF.out.keep hx6 (fun f => f))
      have HG := Lib.hid (HG.out.keep hx6 (fun f => f))
      have HV1 := Lib.hid (HV1.out.ext hx6)
      have HV3 := Lib.hid (HV3.out.ext hx6)
      have HX := Lib.hid (HX.out.trans hx6)
      clear hown6 hgrow6 hat6 hx6 ho6 hog5 hsz5 HOWN5 HX5 HVB HW4
      go_wp2_with fail
      have HLU := Lib.hid (show (xs ++ ys).length = UU by rw [List.length_append]; have := HNN.out; omega)
      have HLF := Lib.hid (show (F ++ G).length = NN by rw [List.length_append]; have := HNN.out; omega)
      have HBC := Lib.hid (show ∀ b ∈ xs ++ ys, b < 256 from fun b h => by rcases List.mem_append.1 h with h | h; exact HBA.out b h; exact HBB.out b h)
      have hcall := gun_known (v := .slice co UU cc) (keep := 4000) (L := F ++ G) (M := NN) (N := NN) (G := UU) (w := w6) HTW.out (List.take_of_length_le (by rw [HLF.out]; have := HNN.out; omega)) HLF.out HLF.out HLU.out HC.out (by rw [HLU.out]; have := HNN.out; omega) HBC.out (by omega)
      rw [show ((4000 : Nat) : Int) = 4000 by simp] at hcall
      refine hcall.mono ?_
      clear hcall
      rintro e w7 ⟨xo, xc, rfl, hv7, hx7⟩
      have HVX := Lib.hid hv7
      have HC := Lib.hid (HC.out.ext hx7)
      have HF := Lib.hid (HF.out.keep hx7 (fun f => f))
      have HG := Lib.hid (HG.out.keep hx7 (fun f => f))
      have HV1 := Lib.hid (HV1.out.ext hx7)
      have HV3 := Lib.hid (HV3.out.ext hx7)
      have HX := Lib.hid (HX.out.trans hx7)
      cases fw with
      | false =>
        obtain ⟨w8, hw8⟩ : ∃ w8, w8 = w7.alloc (.cells #[.slice xo NN xc, .int .i64 NN, .int .i64 UU, .bool gw] 25) := ⟨_, rfl⟩
        obtain ⟨qx, hqx⟩ : ∃ qx, qx = w7.heap.size := ⟨_, rfl⟩
        have hx8 : Ext w7 w8 := by rw [hw8]; exact (Ext.refl _).alloc _
        have HXB := Lib.hid (show FB w8 qx (.slice xo NN xc) NN UU gw by rw [hw8, hqx]; exact FB.new _ _ _ _ _)
        have HC := Lib.hid (HC.out.ext hx8)
        have HVX := Lib.hid (HVX.out.ext hx8)
        have HF := Lib.hid (HF.out.keep hx8 (fun f => f))
        have HG := Lib.hid (HG.out.keep hx8 (fun f => f))
        have HV1 := Lib.hid (HV1.out.ext hx8)
        have HV3 := Lib.hid (HV3.out.ext hx8)
        have HX := Lib.hid (HX.out.trans hx8)
        clear hv7 hx7 hx8
        obtain ⟨c0, c1, c2, c3⟩ := cell4 HF.out
        obtain ⟨d0, d1, d2, d3⟩ := cell4 HG.out
        obtain ⟨a0, a1, a2, a3⟩ := cell4 HXB.out
        have hs1 := run_string_view (P := Try.prog) 22 9 5 (viewL_view8 HV1.out) Try.underlying22 Try.underlying5 Try.underlying9
        have hs2 := run_string_view (P := Try.prog) 22 9 5 (viewL_view8 HV3.out) Try.underlying22 Try.underlying5 Try.underlying9
        have hs3 := run_string_view (P := Try.prog) 22 9 5 (viewL_view8 HVX.out) Try.underlying22 Try.underlying5 Try.underlying9
        rw [strOf_app] at hs3
        have hsz : (strOf F).size + (strOf G).size ≤ 9223372036854775807 := by have := HNN.out; rw [size_strOf, size_strOf]; omega
        generalize strOf F = sF at hs1 hs3 hsz
        generalize strOf G = sG at hs2 hs3 hsz
        have hss := HS.out
        have HW8 := Lib.hid (And.intro hw8 hqx)
        have hrm : Int.tmod (keep : Int) 4001 = ((keep % 4001 : Nat) : Int) := by rw [Int.tmod_eq_emod_of_nonneg (by omega)]; omega
        obtain ⟨K, hK⟩ : ∃ K, K = keep % 4001 := ⟨_, rfl⟩
        rw [← hK] at hrm
        have HK := Lib.hid (show K ≤ 4000 by omega)
        have hki : (keep : Int) ≤ 65535 := by omega
        clear hbi hk hK
        rw [hw8] at c0 c1 c3 d0 d1 d3 a0 a1 a2 a3 hs1 hs2 hs3
        rw [hqx] at a0 a1 a2 a3
        clear hw8 hqx c2 d2
        go_wp2_with fail
        rw [← HW8.out.1, ← HW8.out.2]
        clear c0 c1 c3 d0 d1 d3 a0 a1 a2 a3 hs1 hs2 hs3 hss hsz hrm hki
        obtain ⟨w2y, hgy, _⟩ := gunF_any _ (Nat.le_refl _) HTW.out K
        obtain ⟨M, hM⟩ : ∃ M, M = ((F ++ G).take K).length := ⟨_, rfl⟩
        refine (gun_known (v := .slice co UU cc) (keep := K) (L := (F ++ G).take K) (M := M) (N := NN) (G := UU) (w := w8) hgy rfl hM.symm HLF.out HLU.out HC.out (by rw [HLU.out]; have := HNN.out; omega) HBC.out (by have := HK.out; omega)).mono ?_
        rintro e w9 ⟨yo, yc, rfl, hv9, hx9⟩
        have hMk : M = min K NN := by rw [hM, List.length_take, HLF.out]
        have HMM := Lib.hid hMk
        have HVY := Lib.hid hv9
        have HVX := Lib.hid (HVX.out.ext hx9)
        have HXB := Lib.hid (HXB.out.keep hx9 (fun f => f))
        have HX := Lib.hid (HX.out.trans hx9)
        obtain ⟨wr, hwr⟩ : ∃ wr, wr = w9.alloc (.cells #[.slice yo M yc, .int .i64 NN, .int .i64 UU, .bool w2y] 25) := ⟨_, rfl⟩
        obtain ⟨qy, hqy⟩ : ∃ qy, qy = w9.heap.size := ⟨_, rfl⟩
        have hxr : Ext w9 wr := by rw [hwr]; exact (Ext.refl _).alloc _
        have HY := Lib.hid (show FB wr qy (.slice yo M yc) NN UU w2y by rw [hwr, hqy]; exact FB.new _ _ _ _ _)
        have HVY := Lib.hid (HVY.out.ext hxr)
        have HVX := Lib.hid (HVX.out.ext hxr)
        have HXB := Lib.hid (HXB.out.keep hxr (fun f => f))
        have HX := Lib.hid (HX.out.trans hxr)
        have HSL := Lib.hid (show (M : Int) ≤ (xc : Int) ∧ M ≤ NN from by
          have h := viewL_cap HVX.out
          have h2 := HMM.out
          omega)
        have HVS := Lib.hid (show ViewL wr (.slice xo M xc) (u8s ((F ++ G).take K)) from by
          have h := HVX.out
          rw [← HLF.out] at h
          have h := h.front M (by have := HSL.out.2; have := HLF.out; omega)
          rw [show (u8s (F ++ G)).take M = u8s ((F ++ G).take M) by simp [u8s, List.map_take]] at h
          rw [HMM.out, ← HLF.out, ← List.take_take, List.take_length, HLF.out, ← HMM.out] at h
          exact h)
        obtain ⟨S, hS⟩ : ∃ S, S = strOf ((F ++ G).take K) := ⟨_, rfl⟩
        have HSS := Lib.hid hS
        clear hM hMk hgy hS
        go_wp2_with fail
        rw [← hwr, ← hqy]
        clear hwr hqy hxr hx9 hv9
        have hst : Stab (Phi [(16, .int .i64 0), (15, .pointer (some ⟨qy, 0, none⟩)), (12, .pointer (some ⟨qx, 0, none⟩)), (14, .int .i64 K), (125, .int .i64 0), (126, .bool true), (127, .bool true), (128, .pointer (some ⟨qy, 1, none⟩)), (129, .int .i64 NN), (130, .pointer (some ⟨qx, 1, none⟩)), (131, .int .i64 NN), (132, .bool true), (133, .bool true), (134, .bool true), (135, .pointer (some ⟨qy, 2, none⟩)), (136, .int .i64 UU), (137, .pointer (some ⟨qx, 2, none⟩)), (138, .int .i64 UU), (139, .bool true), (140, .bool true), (141, .bool true), (142, .pointer (some ⟨qy, 0, none⟩)), (143, .slice yo M yc), (144, .int .i64 M), (145, .int .i64 K), (146, .pointer (some ⟨qx, 1, none⟩)), (147, .int .i64 NN), (148, .int .i64 M), (149, .bool true), (150, .bool true), (151, .bool true), (152, .pointer (some ⟨qy, 0, none⟩)), (153, .slice yo M yc), (154, .string S), (155, .pointer (some ⟨qx, 0, none⟩)), (156, .slice xo NN xc), (157, .pointer (some ⟨qy, 0, none⟩)), (158, .slice yo M yc), (159, .int .i64 M), (160, .slice xo M xc), (161, .string S), (162, .bool true), (163, .bool true), (164, .bool true), (165, .bool true), (166, .bool true), (6, .bool true)] []) := Phi.stable (fun x hx => by cases hx)
        refine wp_region_grow 167 [16, 15, 12, 14] (by kernel_rfl) _ hst (by kernel_rfl) rfl (fun _ => ⟨rfl, rfl, rfl, rfl, trivial⟩) ⟨?_, ?_, ?_, ?_, ?_, ?_, ?_, ?_, ?_, ?_, ?_, ?_, ?_, ?_, ?_, ?_, ?_, ?_, ?_, ?_, ?_, ?_, ?_, ?_, ?_, ?_, ?_, ?_, ?_, ?_, ?_, ?_, ?_, ?_, ?_, ?_, ?_, ?_, ?_, ?_, ?_, ?_, ?_, trivial⟩ ?fin
        · refine Obl.val (.int .i64 0) (fun ev w1 hc hf hg hev => ?_) (fun d hd w1 => by cases hd; rfl)
          have h0 : ev (.tmp 16) = .int .i64 0 := hev.1
          exact ⟨rfl, by (clear hev; go_simp)⟩
        · refine Obl.val (.bool true) (fun ev w1 hc hf hg hev => ?_) (fun d hd w1 => by cases hd; rfl)
          have h0 : ev (.tmp 125) = .int .i64 0 := hev.1
          exact ⟨rfl, by (clear hev; go_simp)⟩
        · refine Obl.val (.bool true) (fun ev w1 hc hf hg hev => ?_) (fun d hd w1 => by cases hd; rfl)
          have h0 : ev (.tmp 126) = .bool true := hev.1
          exact ⟨rfl, by (clear hev; go_simp)⟩
        · refine Obl.val (.pointer (some ⟨qy, 1, none⟩)) (fun ev w1 hc hf hg hev => ?_) (fun d hd w1 => by cases hd; rfl)
          have h0 : ev (.tmp 127) = .bool true := hev.1; have h1 : ev (.tmp 15) = .pointer (some ⟨qy, 0, none⟩) := hev.2.1
          exact ⟨wanted_of rfl rfl h0, by (clear hev; go_simp)⟩
        · refine Obl.some (fun ev w1 hI hc hf hg hev => ?_)
          have h0 : ev (.tmp 127) = .bool true := hev.1; have h1 : ev (.tmp 128) = .pointer (some ⟨qy, 1, none⟩) := hev.2.1
          clear hev
          have k := (cell4 (HY.out.keep hI (fun f => f))).2.1
          exact ⟨wanted_of rfl rfl h0, .int .i64 NN, by go_simp, fun d hd => by cases hd; rfl⟩
        · refine Obl.val (.pointer (some ⟨qx, 1, none⟩)) (fun ev w1 hc hf hg hev => ?_) (fun d hd w1 => by cases hd; rfl)
          have h0 : ev (.tmp 127) = .bool true := hev.1; have h1 : ev (.tmp 12) = .pointer (some ⟨qx, 0, none⟩) := hev.2.1
          exact ⟨wanted_of rfl rfl h0, by (clear hev; go_simp)⟩
        · refine Obl.some (fun ev w1 hI hc hf hg hev => ?_)
          have h0 : ev (.tmp 127) = .bool true := hev.1; have h1 : ev (.tmp 130) = .pointer (some ⟨qx, 1, none⟩) := hev.2.1
          clear hev
          have k := (cell4 (HXB.out.keep hI (fun f => f))).2.1
          exact ⟨wanted_of rfl rfl h0, .int .i64 NN, by go_simp, fun d hd => by cases hd; rfl⟩
        · refine Obl.val (.bool true) (fun ev w1 hc hf hg hev => ?_) (fun d hd w1 => by cases hd; rfl)
          have h0 : ev (.tmp 127) = .bool true := hev.1; have h1 : ev (.tmp 129) = .int .i64 NN := hev.2.1; have h2 : ev (.tmp 131) = .int .i64 NN := hev.2.2.1
          exact ⟨wanted_of rfl rfl h0, by (clear hev; go_simp)⟩
        · refine Obl.val (.bool true) (fun ev w1 hc hf hg hev => ?_) (fun d hd w1 => by cases hd; rfl)
          have h0 : ev (.tmp 127) = .bool true := hev.1; have h1 : ev (.tmp 132) = .bool true := hev.2.1
          exact ⟨rfl, by (clear hev; go_simp)⟩
        · refine Obl.val (.bool true) (fun ev w1 hc hf hg hev => ?_) (fun d hd w1 => by cases hd; rfl)
          have h0 : ev (.tmp 133) = .bool true := hev.1
          exact ⟨rfl, by (clear hev; go_simp)⟩
        · refine Obl.val (.pointer (some ⟨qy, 2, none⟩)) (fun ev w1 hc hf hg hev => ?_) (fun d hd w1 => by cases hd; rfl)
          have h0 : ev (.tmp 134) = .bool true := hev.1; have h1 : ev (.tmp 15) = .pointer (some ⟨qy, 0, none⟩) := hev.2.1
          exact ⟨wanted_of rfl rfl h0, by (clear hev; go_simp)⟩
        · refine Obl.some (fun ev w1 hI hc hf hg hev => ?_)
          have h0 : ev (.tmp 134) = .bool true := hev.1; have h1 : ev (.tmp 135) = .pointer (some ⟨qy, 2, none⟩) := hev.2.1
          clear hev
          have k := (cell4 (HY.out.keep hI (fun f => f))).2.2.1
          exact ⟨wanted_of rfl rfl h0, .int .i64 UU, by go_simp, fun d hd => by cases hd; rfl⟩
        · refine Obl.val (.pointer (some ⟨qx, 2, none⟩)) (fun ev w1 hc hf hg hev => ?_) (fun d hd w1 => by cases hd; rfl)
          have h0 : ev (.tmp 134) = .bool true := hev.1; have h1 : ev (.tmp 12) = .pointer (some ⟨qx, 0, none⟩) := hev.2.1
          exact ⟨wanted_of rfl rfl h0, by (clear hev; go_simp)⟩
        · refine Obl.some (fun ev w1 hI hc hf hg hev => ?_)
          have h0 : ev (.tmp 134) = .bool true := hev.1; have h1 : ev (.tmp 137) = .pointer (some ⟨qx, 2, none⟩) := hev.2.1
          clear hev
          have k := (cell4 (HXB.out.keep hI (fun f => f))).2.2.1
          exact ⟨wanted_of rfl rfl h0, .int .i64 UU, by go_simp, fun d hd => by cases hd; rfl⟩
        · refine Obl.val (.bool true) (fun ev w1 hc hf hg hev => ?_) (fun d hd w1 => by cases hd; rfl)
          have h0 : ev (.tmp 134) = .bool true := hev.1; have h1 : ev (.tmp 136) = .int .i64 UU := hev.2.1; have h2 : ev (.tmp 138) = .int .i64 UU := hev.2.2.1
          exact ⟨wanted_of rfl rfl h0, by (clear hev; go_simp)⟩
        · refine Obl.val (.bool true) (fun ev w1 hc hf hg hev => ?_) (fun d hd w1 => by cases hd; rfl)
          have h0 : ev (.tmp 134) = .bool true := hev.1; have h1 : ev (.tmp 139) = .bool true := hev.2.1
          exact ⟨rfl, by (clear hev; go_simp)⟩
        · refine Obl.val (.bool true) (fun ev w1 hc hf hg hev => ?_) (fun d hd w1 => by cases hd; rfl)
          have h0 : ev (.tmp 140) = .bool true := hev.1
          exact ⟨rfl, by (clear hev; go_simp)⟩
        · refine Obl.val (.pointer (some ⟨qy, 0, none⟩)) (fun ev w1 hc hf hg hev => ?_) (fun d hd w1 => by cases hd; rfl)
          have h0 : ev (.tmp 141) = .bool true := hev.1; have h1 : ev (.tmp 15) = .pointer (some ⟨qy, 0, none⟩) := hev.2.1
          exact ⟨wanted_of rfl rfl h0, by (clear hev; go_simp)⟩
        · refine Obl.some (fun ev w1 hI hc hf hg hev => ?_)
          have h0 : ev (.tmp 141) = .bool true := hev.1; have h1 : ev (.tmp 142) = .pointer (some ⟨qy, 0, none⟩) := hev.2.1
          clear hev
          have k := (cell4 (HY.out.keep hI (fun f => f))).1
          exact ⟨wanted_of rfl rfl h0, .slice yo M yc, by go_simp, fun d hd => by cases hd; rfl⟩
        · refine Obl.val (.int .i64 M) (fun ev w1 hc hf hg hev => ?_) (fun d hd w1 => by cases hd; rfl)
          have h0 : ev (.tmp 141) = .bool true := hev.1; have h1 : ev (.tmp 143) = .slice yo M yc := hev.2.1
          exact ⟨wanted_of rfl rfl h0, by (clear hev; go_simp)⟩
        · refine Obl.val (.int .i64 K) (fun ev w1 hc hf hg hev => ?_) (fun d hd w1 => by cases hd; rfl)
          have h0 : ev (.tmp 141) = .bool true := hev.1; have h1 : ev (.tmp 14) = .int .i64 K := hev.2.1
          exact ⟨wanted_of rfl rfl h0, by (clear hev; go_simp)⟩
        · refine Obl.val (.pointer (some ⟨qx, 1, none⟩)) (fun ev w1 hc hf hg hev => ?_) (fun d hd w1 => by cases hd; rfl)
          have h0 : ev (.tmp 141) = .bool true := hev.1; have h1 : ev (.tmp 12) = .pointer (some ⟨qx, 0, none⟩) := hev.2.1
          exact ⟨wanted_of rfl rfl h0, by (clear hev; go_simp)⟩
        · refine Obl.some (fun ev w1 hI hc hf hg hev => ?_)
          have h0 : ev (.tmp 141) = .bool true := hev.1; have h1 : ev (.tmp 146) = .pointer (some ⟨qx, 1, none⟩) := hev.2.1
          clear hev
          have k := (cell4 (HXB.out.keep hI (fun f => f))).2.1
          exact ⟨wanted_of rfl rfl h0, .int .i64 NN, by go_simp, fun d hd => by cases hd; rfl⟩
        · refine Obl.some (fun ev w1 hI hc hf hg hev => ?_)
          have h0 : ev (.tmp 141) = .bool true := hev.1; have h1 : ev (.tmp 145) = .int .i64 K := hev.2.1; have h2 : ev (.tmp 147) = .int .i64 NN := hev.2.2.1
          clear hev
          have hmn : (if NN < K then (NN : Int) else (K : Int)) = (M : Int) := by rw [HMM.out]; split <;> omega
          exact ⟨wanted_of rfl rfl h0, .int .i64 M, by go_simp, fun d hd => by cases hd; rfl⟩
        · refine Obl.val (.bool true) (fun ev w1 hc hf hg hev => ?_) (fun d hd w1 => by cases hd; rfl)
          have h0 : ev (.tmp 141) = .bool true := hev.1; have h1 : ev (.tmp 144) = .int .i64 M := hev.2.1; have h2 : ev (.tmp 148) = .int .i64 M := hev.2.2.1
          exact ⟨wanted_of rfl rfl h0, by (clear hev; go_simp)⟩
        · refine Obl.val (.bool true) (fun ev w1 hc hf hg hev => ?_) (fun d hd w1 => by cases hd; rfl)
          have h0 : ev (.tmp 141) = .bool true := hev.1; have h1 : ev (.tmp 149) = .bool true := hev.2.1
          exact ⟨rfl, by (clear hev; go_simp)⟩
        · refine Obl.val (.bool true) (fun ev w1 hc hf hg hev => ?_) (fun d hd w1 => by cases hd; rfl)
          have h0 : ev (.tmp 150) = .bool true := hev.1
          exact ⟨rfl, by (clear hev; go_simp)⟩
        · refine Obl.val (.pointer (some ⟨qy, 0, none⟩)) (fun ev w1 hc hf hg hev => ?_) (fun d hd w1 => by cases hd; rfl)
          have h0 : ev (.tmp 151) = .bool true := hev.1; have h1 : ev (.tmp 15) = .pointer (some ⟨qy, 0, none⟩) := hev.2.1
          exact ⟨wanted_of rfl rfl h0, by (clear hev; go_simp)⟩
        · refine Obl.some (fun ev w1 hI hc hf hg hev => ?_)
          have h0 : ev (.tmp 151) = .bool true := hev.1; have h1 : ev (.tmp 152) = .pointer (some ⟨qy, 0, none⟩) := hev.2.1
          clear hev
          have k := (cell4 (HY.out.keep hI (fun f => f))).1
          exact ⟨wanted_of rfl rfl h0, .slice yo M yc, by go_simp, fun d hd => by cases hd; rfl⟩
        · refine Obl.some (fun ev w1 hI hc hf hg hev => ?_)
          have h0 : ev (.tmp 151) = .bool true := hev.1; have h1 : ev (.tmp 153) = .slice yo M yc := hev.2.1
          clear hev
          have hs := run_string_view (P := Try.prog) 22 9 5 (viewL_view8 (HVY.out.ext hI)) Try.underlying22 Try.underlying5 Try.underlying9
          rw [← HSS.out] at hs
          exact ⟨wanted_of rfl rfl h0, .string S, by go_simp, fun d hd => by cases hd; rfl⟩
        · refine Obl.val (.pointer (some ⟨qx, 0, none⟩)) (fun ev w1 hc hf hg hev => ?_) (fun d hd w1 => by cases hd; rfl)
          have h0 : ev (.tmp 151) = .bool true := hev.1; have h1 : ev (.tmp 12) = .pointer (some ⟨qx, 0, none⟩) := hev.2.1
          exact ⟨wanted_of rfl rfl h0, by (clear hev; go_simp)⟩
        · refine Obl.some (fun ev w1 hI hc hf hg hev => ?_)
          have h0 : ev (.tmp 151) = .bool true := hev.1; have h1 : ev (.tmp 155) = .pointer (some ⟨qx, 0, none⟩) := hev.2.1
          clear hev
          have k := (cell4 (HXB.out.keep hI (fun f => f))).1
          exact ⟨wanted_of rfl rfl h0, .slice xo NN xc, by go_simp, fun d hd => by cases hd; rfl⟩
        · refine Obl.val (.pointer (some ⟨qy, 0, none⟩)) (fun ev w1 hc hf hg hev => ?_) (fun d hd w1 => by cases hd; rfl)
          have h0 : ev (.tmp 151) = .bool true := hev.1; have h1 : ev (.tmp 15) = .pointer (some ⟨qy, 0, none⟩) := hev.2.1
          exact ⟨wanted_of rfl rfl h0, by (clear hev; go_simp)⟩
        · refine Obl.some (fun ev w1 hI hc hf hg hev => ?_)
          have h0 : ev (.tmp 151) = .bool true := hev.1; have h1 : ev (.tmp 157) = .pointer (some ⟨qy, 0, none⟩) := hev.2.1
          clear hev
          have k := (cell4 (HY.out.keep hI (fun f => f))).1
          exact ⟨wanted_of rfl rfl h0, .slice yo M yc, by go_simp, fun d hd => by cases hd; rfl⟩
        · refine Obl.val (.int .i64 M) (fun ev w1 hc hf hg hev => ?_) (fun d hd w1 => by cases hd; rfl)
          have h0 : ev (.tmp 151) = .bool true := hev.1; have h1 : ev (.tmp 158) = .slice yo M yc := hev.2.1
          exact ⟨wanted_of rfl rfl h0, by (clear hev; go_simp)⟩
        · refine Obl.some (fun ev w1 hI hc hf hg hev => ?_)
          have h0 : ev (.tmp 151) = .bool true := hev.1; have h1 : ev (.tmp 156) = .slice xo NN xc := hev.2.1; have h2 : ev (.tmp 159) = .int .i64 M := hev.2.2.1
          clear hev
          have hb1 := HSL.out.1
          have hb2 := HSL.out.2
          exact ⟨wanted_of rfl rfl h0, .slice xo M xc, by go_simp, fun d hd => by cases hd; rfl⟩
        · refine Obl.some (fun ev w1 hI hc hf hg hev => ?_)
          have h0 : ev (.tmp 151) = .bool true := hev.1; have h1 : ev (.tmp 160) = .slice xo M xc := hev.2.1
          clear hev
          have hs := run_string_view (P := Try.prog) 22 9 5 (viewL_view8 (HVS.out.ext hI)) Try.underlying22 Try.underlying5 Try.underlying9
          rw [← HSS.out] at hs
          exact ⟨wanted_of rfl rfl h0, .string S, by go_simp, fun d hd => by cases hd; rfl⟩
        · refine Obl.val (.bool true) (fun ev w1 hc hf hg hev => ?_) (fun d hd w1 => by cases hd; rfl)
          have h0 : ev (.tmp 151) = .bool true := hev.1; have h1 : ev (.tmp 154) = .string S := hev.2.1; have h2 : ev (.tmp 161) = .string S := hev.2.2.1
          exact ⟨wanted_of rfl rfl h0, by (clear hev; go_simp)⟩
        · refine Obl.val (.bool true) (fun ev w1 hc hf hg hev => ?_) (fun d hd w1 => by cases hd; rfl)
          have h0 : ev (.tmp 151) = .bool true := hev.1; have h1 : ev (.tmp 162) = .bool true := hev.2.1
          exact ⟨rfl, by (clear hev; go_simp)⟩
        · refine Obl.val (.bool true) (fun ev w1 hc hf hg hev => ?_) (fun d hd w1 => by cases hd; rfl)
          have h0 : ev (.tmp 163) = .bool true := hev.1
          exact ⟨rfl, by (clear hev; go_simp)⟩
        · refine Obl.call 7 #[] (fun ev w1 hI hc hf hg hev => ?_)
          have h0 : ev (.tmp 164) = .bool true := hev.1
          refine ⟨wanted_of rfl rfl h0, by (clear hev; go_simp), ?_⟩
          refine (gun_opens w1).mono ?_
          rintro e w2 ⟨rfl, c3⟩
          exact ⟨_, rfl, c3, fun d hd => by cases hd; rfl⟩
        · refine Obl.val (.bool true) (fun ev w1 hc hf hg hev => ?_) (fun d hd w1 => by cases hd; rfl)
          have h0 : ev (.tmp 164) = .bool true := hev.1; have h1 : ev (.tmp 165) = .bool true := hev.2.1
          exact ⟨rfl, by (clear hev; go_simp)⟩
        · refine Obl.val (.bool true) (fun ev w1 hc hf hg hev => ?_) (fun d hd w1 => by cases hd; rfl)
          have h0 : ev (.tmp 166) = .bool true := hev.1
          exact ⟨rfl, by (clear hev; go_simp)⟩
        case fin =>
          intro a' w' he hd hf
          go_wp2_with fail
          have h6 : a'.tmps.getD 6 undef = .bool true := hf 6 (by decide)
          exact bodyPost_ret (by rw [results_tmp rfl, h6]) hd ⟨rfl, HX.out.trans he⟩
      | true =>
        obtain ⟨w8, hw8⟩ : ∃ w8, w8 = w7.alloc (.cells #[.slice xo NN xc, .int .i64 NN, .int .i64 UU, .bool true] 25) := ⟨_, rfl⟩
        obtain ⟨qx, hqx⟩ : ∃ qx, qx = w7.heap.size := ⟨_, rfl⟩
        have hx8 : Ext w7 w8 := by rw [hw8]; exact (Ext.refl _).alloc _
        have HXB := Lib.hid (show FB w8 qx (.slice xo NN xc) NN UU true by rw [hw8, hqx]; exact FB.new _ _ _ _ _)
        have HC := Lib.hid (HC.out.ext hx8)
        have HVX := Lib.hid (HVX.out.ext hx8)
        have HF := Lib.hid (HF.out.keep hx8 (fun f => f))
        have HG := Lib.hid (HG.out.keep hx8 (fun f => f))
        have HV1 := Lib.hid (HV1.out.ext hx8)
        have HV3 := Lib.hid (HV3.out.ext hx8)
        have HX := Lib.hid (HX.out.trans hx8)
        clear hv7 hx7 hx8
        obtain ⟨c0, c1, c2, c3⟩ := cell4 HF.out
        obtain ⟨d0, d1, d2, d3⟩ := cell4 HG.out
        obtain ⟨a0, a1, a2, a3⟩ := cell4 HXB.out
        have hs1 := run_string_view (P := Try.prog) 22 9 5 (viewL_view8 HV1.out) Try.underlying22 Try.underlying5 Try.underlying9
        have hs2 := run_string_view (P := Try.prog) 22 9 5 (viewL_view8 HV3.out) Try.underlying22 Try.underlying5 Try.underlying9
        have hs3 := run_string_view (P := Try.prog) 22 9 5 (viewL_view8 HVX.out) Try.underlying22 Try.underlying5 Try.underlying9
        rw [strOf_app] at hs3
        have hsz : (strOf F).size + (strOf G).size ≤ 9223372036854775807 := by have := HNN.out; rw [size_strOf, size_strOf]; omega
        generalize strOf F = sF at hs1 hs3 hsz
        generalize strOf G = sG at hs2 hs3 hsz
        have hss := HS.out
        have HW8 := Lib.hid (And.intro hw8 hqx)
        have hrm : Int.tmod (keep : Int) 4001 = ((keep % 4001 : Nat) : Int) := by rw [Int.tmod_eq_emod_of_nonneg (by omega)]; omega
        obtain ⟨K, hK⟩ : ∃ K, K = keep % 4001 := ⟨_, rfl⟩
        rw [← hK] at hrm
        have HK := Lib.hid (show K ≤ 4000 by omega)
        have hki : (keep : Int) ≤ 65535 := by omega
        clear hbi hk hK
        rw [hw8] at c0 c1 c3 d0 d1 d3 a0 a1 a2 a3 hs1 hs2 hs3
        rw [hqx] at a0 a1 a2 a3
        clear hw8 hqx c2 d2
        go_wp2_with fail
        rw [← HW8.out.1, ← HW8.out.2]
        clear c0 c1 c3 d0 d1 d3 a0 a1 a2 a3 hs1 hs2 hs3 hss hsz hrm hki
        obtain ⟨w2y, hgy, _⟩ := gunF_any _ (Nat.le_refl _) HTW.out K
        obtain ⟨M, hM⟩ : ∃ M, M = ((F ++ G).take K).length := ⟨_, rfl⟩
        refine (gun_known (v := .slice co UU cc) (keep := K) (L := (F ++ G).take K) (M := M) (N := NN) (G := UU) (w := w8) hgy rfl hM.symm HLF.out HLU.out HC.out (by rw [HLU.out]; have := HNN.out; omega) HBC.out (by have := HK.out; omega)).mono ?_
        rintro e w9 ⟨yo, yc, rfl, hv9, hx9⟩
        have hMk : M = min K NN := by rw [hM, List.length_take, HLF.out]
        have HMM := Lib.hid hMk
        have HVY := Lib.hid hv9
        have HVX := Lib.hid (HVX.out.ext hx9)
        have HXB := Lib.hid (HXB.out.keep hx9 (fun f => f))
        have HX := Lib.hid (HX.out.trans hx9)
        obtain ⟨wr, hwr⟩ : ∃ wr, wr = w9.alloc (.cells #[.slice yo M yc, .int .i64 NN, .int .i64 UU, .bool w2y] 25) := ⟨_, rfl⟩
        obtain ⟨qy, hqy⟩ : ∃ qy, qy = w9.heap.size := ⟨_, rfl⟩
        have hxr : Ext w9 wr := by rw [hwr]; exact (Ext.refl _).alloc _
        have HY := Lib.hid (show FB wr qy (.slice yo M yc) NN UU w2y by rw [hwr, hqy]; exact FB.new _ _ _ _ _)
        have HVY := Lib.hid (HVY.out.ext hxr)
        have HVX := Lib.hid (HVX.out.ext hxr)
        have HXB := Lib.hid (HXB.out.keep hxr (fun f => f))
        have HX := Lib.hid (HX.out.trans hxr)
        have HSL := Lib.hid (show (M : Int) ≤ (xc : Int) ∧ M ≤ NN from by
          have h := viewL_cap HVX.out
          have h2 := HMM.out
          omega)
        have HVS := Lib.hid (show ViewL wr (.slice xo M xc) (u8s ((F ++ G).take K)) from by
          have h := HVX.out
          rw [← HLF.out] at h
          have h := h.front M (by have := HSL.out.2; have := HLF.out; omega)
          rw [show (u8s (F ++ G)).take M = u8s ((F ++ G).take M) by simp [u8s, List.map_take]] at h
          rw [HMM.out, ← HLF.out, ← List.take_take, List.take_length, HLF.out, ← HMM.out] at h
          exact h)
        obtain ⟨S, hS⟩ : ∃ S, S = strOf ((F ++ G).take K) := ⟨_, rfl⟩
        have HSS := Lib.hid hS
        clear hM hMk hgy hS
        go_wp2_with fail
        rw [← hwr, ← hqy]
        clear hwr hqy hxr hx9 hv9
        have hst : Stab (Phi [(16, .int .i64 0), (15, .pointer (some ⟨qy, 0, none⟩)), (12, .pointer (some ⟨qx, 0, none⟩)), (14, .int .i64 K), (125, .int .i64 0), (126, .bool true), (127, .bool true), (128, .pointer (some ⟨qy, 1, none⟩)), (129, .int .i64 NN), (130, .pointer (some ⟨qx, 1, none⟩)), (131, .int .i64 NN), (132, .bool true), (133, .bool true), (134, .bool true), (135, .pointer (some ⟨qy, 2, none⟩)), (136, .int .i64 UU), (137, .pointer (some ⟨qx, 2, none⟩)), (138, .int .i64 UU), (139, .bool true), (140, .bool true), (141, .bool true), (142, .pointer (some ⟨qy, 0, none⟩)), (143, .slice yo M yc), (144, .int .i64 M), (145, .int .i64 K), (146, .pointer (some ⟨qx, 1, none⟩)), (147, .int .i64 NN), (148, .int .i64 M), (149, .bool true), (150, .bool true), (151, .bool true), (152, .pointer (some ⟨qy, 0, none⟩)), (153, .slice yo M yc), (154, .string S), (155, .pointer (some ⟨qx, 0, none⟩)), (156, .slice xo NN xc), (157, .pointer (some ⟨qy, 0, none⟩)), (158, .slice yo M yc), (159, .int .i64 M), (160, .slice xo M xc), (161, .string S), (162, .bool true), (163, .bool true), (164, .bool true), (165, .bool true), (166, .bool true), (6, .bool true)] []) := Phi.stable (fun x hx => by cases hx)
        refine wp_region_grow 167 [16, 15, 12, 14] (by kernel_rfl) _ hst (by kernel_rfl) rfl (fun _ => ⟨rfl, rfl, rfl, rfl, trivial⟩) ⟨?_, ?_, ?_, ?_, ?_, ?_, ?_, ?_, ?_, ?_, ?_, ?_, ?_, ?_, ?_, ?_, ?_, ?_, ?_, ?_, ?_, ?_, ?_, ?_, ?_, ?_, ?_, ?_, ?_, ?_, ?_, ?_, ?_, ?_, ?_, ?_, ?_, ?_, ?_, ?_, ?_, ?_, ?_, trivial⟩ ?fin
        · refine Obl.val (.int .i64 0) (fun ev w1 hc hf hg hev => ?_) (fun d hd w1 => by cases hd; rfl)
          have h0 : ev (.tmp 16) = .int .i64 0 := hev.1
          exact ⟨rfl, by (clear hev; go_simp)⟩
        · refine Obl.val (.bool true) (fun ev w1 hc hf hg hev => ?_) (fun d hd w1 => by cases hd; rfl)
          have h0 : ev (.tmp 125) = .int .i64 0 := hev.1
          exact ⟨rfl, by (clear hev; go_simp)⟩
        · refine Obl.val (.bool true) (fun ev w1 hc hf hg hev => ?_) (fun d hd w1 => by cases hd; rfl)
          have h0 : ev (.tmp 126) = .bool true := hev.1
          exact ⟨rfl, by (clear hev; go_simp)⟩
        · refine Obl.val (.pointer (some ⟨qy, 1, none⟩)) (fun ev w1 hc hf hg hev => ?_) (fun d hd w1 => by cases hd; rfl)
          have h0 : ev (.tmp 127) = .bool true := hev.1; have h1 : ev (.tmp 15) = .pointer (some ⟨qy, 0, none⟩) := hev.2.1
          exact ⟨wanted_of rfl rfl h0, by (clear hev; go_simp)⟩
        · refine Obl.some (fun ev w1 hI hc hf hg hev => ?_)
          have h0 : ev (.tmp 127) = .bool true := hev.1; have h1 : ev (.tmp 128) = .pointer (some ⟨qy, 1, none⟩) := hev.2.1
          clear hev
          have k := (cell4 (HY.out.keep hI (fun f => f))).2.1
          exact ⟨wanted_of rfl rfl h0, .int .i64 NN, by go_simp, fun d hd => by cases hd; rfl⟩
        · refine Obl.val (.pointer (some ⟨qx, 1, none⟩)) (fun ev w1 hc hf hg hev => ?_) (fun d hd w1 => by cases hd; rfl)
          have h0 : ev (.tmp 127) = .bool true := hev.1; have h1 : ev (.tmp 12) = .pointer (some ⟨qx, 0, none⟩) := hev.2.1
          exact ⟨wanted_of rfl rfl h0, by (clear hev; go_simp)⟩
        · refine Obl.some (fun ev w1 hI hc hf hg hev => ?_)
          have h0 : ev (.tmp 127) = .bool true := hev.1; have h1 : ev (.tmp 130) = .pointer (some ⟨qx, 1, none⟩) := hev.2.1
          clear hev
          have k := (cell4 (HXB.out.keep hI (fun f => f))).2.1
          exact ⟨wanted_of rfl rfl h0, .int .i64 NN, by go_simp, fun d hd => by cases hd; rfl⟩
        · refine Obl.val (.bool true) (fun ev w1 hc hf hg hev => ?_) (fun d hd w1 => by cases hd; rfl)
          have h0 : ev (.tmp 127) = .bool true := hev.1; have h1 : ev (.tmp 129) = .int .i64 NN := hev.2.1; have h2 : ev (.tmp 131) = .int .i64 NN := hev.2.2.1
          exact ⟨wanted_of rfl rfl h0, by (clear hev; go_simp)⟩
        · refine Obl.val (.bool true) (fun ev w1 hc hf hg hev => ?_) (fun d hd w1 => by cases hd; rfl)
          have h0 : ev (.tmp 127) = .bool true := hev.1; have h1 : ev (.tmp 132) = .bool true := hev.2.1
          exact ⟨rfl, by (clear hev; go_simp)⟩
        · refine Obl.val (.bool true) (fun ev w1 hc hf hg hev => ?_) (fun d hd w1 => by cases hd; rfl)
          have h0 : ev (.tmp 133) = .bool true := hev.1
          exact ⟨rfl, by (clear hev; go_simp)⟩
        · refine Obl.val (.pointer (some ⟨qy, 2, none⟩)) (fun ev w1 hc hf hg hev => ?_) (fun d hd w1 => by cases hd; rfl)
          have h0 : ev (.tmp 134) = .bool true := hev.1; have h1 : ev (.tmp 15) = .pointer (some ⟨qy, 0, none⟩) := hev.2.1
          exact ⟨wanted_of rfl rfl h0, by (clear hev; go_simp)⟩
        · refine Obl.some (fun ev w1 hI hc hf hg hev => ?_)
          have h0 : ev (.tmp 134) = .bool true := hev.1; have h1 : ev (.tmp 135) = .pointer (some ⟨qy, 2, none⟩) := hev.2.1
          clear hev
          have k := (cell4 (HY.out.keep hI (fun f => f))).2.2.1
          exact ⟨wanted_of rfl rfl h0, .int .i64 UU, by go_simp, fun d hd => by cases hd; rfl⟩
        · refine Obl.val (.pointer (some ⟨qx, 2, none⟩)) (fun ev w1 hc hf hg hev => ?_) (fun d hd w1 => by cases hd; rfl)
          have h0 : ev (.tmp 134) = .bool true := hev.1; have h1 : ev (.tmp 12) = .pointer (some ⟨qx, 0, none⟩) := hev.2.1
          exact ⟨wanted_of rfl rfl h0, by (clear hev; go_simp)⟩
        · refine Obl.some (fun ev w1 hI hc hf hg hev => ?_)
          have h0 : ev (.tmp 134) = .bool true := hev.1; have h1 : ev (.tmp 137) = .pointer (some ⟨qx, 2, none⟩) := hev.2.1
          clear hev
          have k := (cell4 (HXB.out.keep hI (fun f => f))).2.2.1
          exact ⟨wanted_of rfl rfl h0, .int .i64 UU, by go_simp, fun d hd => by cases hd; rfl⟩
        · refine Obl.val (.bool true) (fun ev w1 hc hf hg hev => ?_) (fun d hd w1 => by cases hd; rfl)
          have h0 : ev (.tmp 134) = .bool true := hev.1; have h1 : ev (.tmp 136) = .int .i64 UU := hev.2.1; have h2 : ev (.tmp 138) = .int .i64 UU := hev.2.2.1
          exact ⟨wanted_of rfl rfl h0, by (clear hev; go_simp)⟩
        · refine Obl.val (.bool true) (fun ev w1 hc hf hg hev => ?_) (fun d hd w1 => by cases hd; rfl)
          have h0 : ev (.tmp 134) = .bool true := hev.1; have h1 : ev (.tmp 139) = .bool true := hev.2.1
          exact ⟨rfl, by (clear hev; go_simp)⟩
        · refine Obl.val (.bool true) (fun ev w1 hc hf hg hev => ?_) (fun d hd w1 => by cases hd; rfl)
          have h0 : ev (.tmp 140) = .bool true := hev.1
          exact ⟨rfl, by (clear hev; go_simp)⟩
        · refine Obl.val (.pointer (some ⟨qy, 0, none⟩)) (fun ev w1 hc hf hg hev => ?_) (fun d hd w1 => by cases hd; rfl)
          have h0 : ev (.tmp 141) = .bool true := hev.1; have h1 : ev (.tmp 15) = .pointer (some ⟨qy, 0, none⟩) := hev.2.1
          exact ⟨wanted_of rfl rfl h0, by (clear hev; go_simp)⟩
        · refine Obl.some (fun ev w1 hI hc hf hg hev => ?_)
          have h0 : ev (.tmp 141) = .bool true := hev.1; have h1 : ev (.tmp 142) = .pointer (some ⟨qy, 0, none⟩) := hev.2.1
          clear hev
          have k := (cell4 (HY.out.keep hI (fun f => f))).1
          exact ⟨wanted_of rfl rfl h0, .slice yo M yc, by go_simp, fun d hd => by cases hd; rfl⟩
        · refine Obl.val (.int .i64 M) (fun ev w1 hc hf hg hev => ?_) (fun d hd w1 => by cases hd; rfl)
          have h0 : ev (.tmp 141) = .bool true := hev.1; have h1 : ev (.tmp 143) = .slice yo M yc := hev.2.1
          exact ⟨wanted_of rfl rfl h0, by (clear hev; go_simp)⟩
        · refine Obl.val (.int .i64 K) (fun ev w1 hc hf hg hev => ?_) (fun d hd w1 => by cases hd; rfl)
          have h0 : ev (.tmp 141) = .bool true := hev.1; have h1 : ev (.tmp 14) = .int .i64 K := hev.2.1
          exact ⟨wanted_of rfl rfl h0, by (clear hev; go_simp)⟩
        · refine Obl.val (.pointer (some ⟨qx, 1, none⟩)) (fun ev w1 hc hf hg hev => ?_) (fun d hd w1 => by cases hd; rfl)
          have h0 : ev (.tmp 141) = .bool true := hev.1; have h1 : ev (.tmp 12) = .pointer (some ⟨qx, 0, none⟩) := hev.2.1
          exact ⟨wanted_of rfl rfl h0, by (clear hev; go_simp)⟩
        · refine Obl.some (fun ev w1 hI hc hf hg hev => ?_)
          have h0 : ev (.tmp 141) = .bool true := hev.1; have h1 : ev (.tmp 146) = .pointer (some ⟨qx, 1, none⟩) := hev.2.1
          clear hev
          have k := (cell4 (HXB.out.keep hI (fun f => f))).2.1
          exact ⟨wanted_of rfl rfl h0, .int .i64 NN, by go_simp, fun d hd => by cases hd; rfl⟩
        · refine Obl.some (fun ev w1 hI hc hf hg hev => ?_)
          have h0 : ev (.tmp 141) = .bool true := hev.1; have h1 : ev (.tmp 145) = .int .i64 K := hev.2.1; have h2 : ev (.tmp 147) = .int .i64 NN := hev.2.2.1
          clear hev
          have hmn : (if NN < K then (NN : Int) else (K : Int)) = (M : Int) := by rw [HMM.out]; split <;> omega
          exact ⟨wanted_of rfl rfl h0, .int .i64 M, by go_simp, fun d hd => by cases hd; rfl⟩
        · refine Obl.val (.bool true) (fun ev w1 hc hf hg hev => ?_) (fun d hd w1 => by cases hd; rfl)
          have h0 : ev (.tmp 141) = .bool true := hev.1; have h1 : ev (.tmp 144) = .int .i64 M := hev.2.1; have h2 : ev (.tmp 148) = .int .i64 M := hev.2.2.1
          exact ⟨wanted_of rfl rfl h0, by (clear hev; go_simp)⟩
        · refine Obl.val (.bool true) (fun ev w1 hc hf hg hev => ?_) (fun d hd w1 => by cases hd; rfl)
          have h0 : ev (.tmp 141) = .bool true := hev.1; have h1 : ev (.tmp 149) = .bool true := hev.2.1
          exact ⟨rfl, by (clear hev; go_simp)⟩
        · refine Obl.val (.bool true) (fun ev w1 hc hf hg hev => ?_) (fun d hd w1 => by cases hd; rfl)
          have h0 : ev (.tmp 150) = .bool true := hev.1
          exact ⟨rfl, by (clear hev; go_simp)⟩
        · refine Obl.val (.pointer (some ⟨qy, 0, none⟩)) (fun ev w1 hc hf hg hev => ?_) (fun d hd w1 => by cases hd; rfl)
          have h0 : ev (.tmp 151) = .bool true := hev.1; have h1 : ev (.tmp 15) = .pointer (some ⟨qy, 0, none⟩) := hev.2.1
          exact ⟨wanted_of rfl rfl h0, by (clear hev; go_simp)⟩
        · refine Obl.some (fun ev w1 hI hc hf hg hev => ?_)
          have h0 : ev (.tmp 151) = .bool true := hev.1; have h1 : ev (.tmp 152) = .pointer (some ⟨qy, 0, none⟩) := hev.2.1
          clear hev
          have k := (cell4 (HY.out.keep hI (fun f => f))).1
          exact ⟨wanted_of rfl rfl h0, .slice yo M yc, by go_simp, fun d hd => by cases hd; rfl⟩
        · refine Obl.some (fun ev w1 hI hc hf hg hev => ?_)
          have h0 : ev (.tmp 151) = .bool true := hev.1; have h1 : ev (.tmp 153) = .slice yo M yc := hev.2.1
          clear hev
          have hs := run_string_view (P := Try.prog) 22 9 5 (viewL_view8 (HVY.out.ext hI)) Try.underlying22 Try.underlying5 Try.underlying9
          rw [← HSS.out] at hs
          exact ⟨wanted_of rfl rfl h0, .string S, by go_simp, fun d hd => by cases hd; rfl⟩
        · refine Obl.val (.pointer (some ⟨qx, 0, none⟩)) (fun ev w1 hc hf hg hev => ?_) (fun d hd w1 => by cases hd; rfl)
          have h0 : ev (.tmp 151) = .bool true := hev.1; have h1 : ev (.tmp 12) = .pointer (some ⟨qx, 0, none⟩) := hev.2.1
          exact ⟨wanted_of rfl rfl h0, by (clear hev; go_simp)⟩
        · refine Obl.some (fun ev w1 hI hc hf hg hev => ?_)
          have h0 : ev (.tmp 151) = .bool true := hev.1; have h1 : ev (.tmp 155) = .pointer (some ⟨qx, 0, none⟩) := hev.2.1
          clear hev
          have k := (cell4 (HXB.out.keep hI (fun f => f))).1
          exact ⟨wanted_of rfl rfl h0, .slice xo NN xc, by go_simp, fun d hd => by cases hd; rfl⟩
        · refine Obl.val (.pointer (some ⟨qy, 0, none⟩)) (fun ev w1 hc hf hg hev => ?_) (fun d hd w1 => by cases hd; rfl)
          have h0 : ev (.tmp 151) = .bool true := hev.1; have h1 : ev (.tmp 15) = .pointer (some ⟨qy, 0, none⟩) := hev.2.1
          exact ⟨wanted_of rfl rfl h0, by (clear hev; go_simp)⟩
        · refine Obl.some (fun ev w1 hI hc hf hg hev => ?_)
          have h0 : ev (.tmp 151) = .bool true := hev.1; have h1 : ev (.tmp 157) = .pointer (some ⟨qy, 0, none⟩) := hev.2.1
          clear hev
          have k := (cell4 (HY.out.keep hI (fun f => f))).1
          exact ⟨wanted_of rfl rfl h0, .slice yo M yc, by go_simp, fun d hd => by cases hd; rfl⟩
        · refine Obl.val (.int .i64 M) (fun ev w1 hc hf hg hev => ?_) (fun d hd w1 => by cases hd; rfl)
          have h0 : ev (.tmp 151) = .bool true := hev.1; have h1 : ev (.tmp 158) = .slice yo M yc := hev.2.1
          exact ⟨wanted_of rfl rfl h0, by (clear hev; go_simp)⟩
        · refine Obl.some (fun ev w1 hI hc hf hg hev => ?_)
          have h0 : ev (.tmp 151) = .bool true := hev.1; have h1 : ev (.tmp 156) = .slice xo NN xc := hev.2.1; have h2 : ev (.tmp 159) = .int .i64 M := hev.2.2.1
          clear hev
          have hb1 := HSL.out.1
          have hb2 := HSL.out.2
          exact ⟨wanted_of rfl rfl h0, .slice xo M xc, by go_simp, fun d hd => by cases hd; rfl⟩
        · refine Obl.some (fun ev w1 hI hc hf hg hev => ?_)
          have h0 : ev (.tmp 151) = .bool true := hev.1; have h1 : ev (.tmp 160) = .slice xo M xc := hev.2.1
          clear hev
          have hs := run_string_view (P := Try.prog) 22 9 5 (viewL_view8 (HVS.out.ext hI)) Try.underlying22 Try.underlying5 Try.underlying9
          rw [← HSS.out] at hs
          exact ⟨wanted_of rfl rfl h0, .string S, by go_simp, fun d hd => by cases hd; rfl⟩
        · refine Obl.val (.bool true) (fun ev w1 hc hf hg hev => ?_) (fun d hd w1 => by cases hd; rfl)
          have h0 : ev (.tmp 151) = .bool true := hev.1; have h1 : ev (.tmp 154) = .string S := hev.2.1; have h2 : ev (.tmp 161) = .string S := hev.2.2.1
          exact ⟨wanted_of rfl rfl h0, by (clear hev; go_simp)⟩
        · refine Obl.val (.bool true) (fun ev w1 hc hf hg hev => ?_) (fun d hd w1 => by cases hd; rfl)
          have h0 : ev (.tmp 151) = .bool true := hev.1; have h1 : ev (.tmp 162) = .bool true := hev.2.1
          exact ⟨rfl, by (clear hev; go_simp)⟩
        · refine Obl.val (.bool true) (fun ev w1 hc hf hg hev => ?_) (fun d hd w1 => by cases hd; rfl)
          have h0 : ev (.tmp 163) = .bool true := hev.1
          exact ⟨rfl, by (clear hev; go_simp)⟩
        · refine Obl.call 7 #[] (fun ev w1 hI hc hf hg hev => ?_)
          have h0 : ev (.tmp 164) = .bool true := hev.1
          refine ⟨wanted_of rfl rfl h0, by (clear hev; go_simp), ?_⟩
          refine (gun_opens w1).mono ?_
          rintro e w2 ⟨rfl, c3⟩
          exact ⟨_, rfl, c3, fun d hd => by cases hd; rfl⟩
        · refine Obl.val (.bool true) (fun ev w1 hc hf hg hev => ?_) (fun d hd w1 => by cases hd; rfl)
          have h0 : ev (.tmp 164) = .bool true := hev.1; have h1 : ev (.tmp 165) = .bool true := hev.2.1
          exact ⟨rfl, by (clear hev; go_simp)⟩
        · refine Obl.val (.bool true) (fun ev w1 hc hf hg hev => ?_) (fun d hd w1 => by cases hd; rfl)
          have h0 : ev (.tmp 166) = .bool true := hev.1
          exact ⟨rfl, by (clear hev; go_simp)⟩
        case fin =>
          intro a' w' he hd hf
          go_wp2_with fail
          have h6 : a'.tmps.getD 6 undef = .bool true := hf 6 (by decide)
          exact bodyPost_ret (by rw [results_tmp rfl, h6]) hd ⟨rfl, HX.out.trans he⟩
end Go.Proofs.Ytbbcphloafmldaa
