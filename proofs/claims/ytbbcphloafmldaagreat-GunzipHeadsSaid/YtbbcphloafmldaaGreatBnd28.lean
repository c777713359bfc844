/- GunzipHeads: the law's walk. An argument that is a head, opened. Arguments that are bytes, opened. -/
import Derived.Test.YtbbcphloafmldaaGreatBnd25
import Derived.Test.YtbbcphloafmldaaGreatBnd27
import Derived.Test.YtbbcphloafmldaaGreatBnd3
import Derived.Test.YtbbcphloafmldaaGreatBnd1
import Derived.Test.YtbbcphloafmldaaGreatBnd21
import Derived.Deep.Slices
import Derived.Deep.Fields
import Derived.ChangeSame
import Derived.Lib.SmallJoins
/-! GunzipHeads: the law's walk. -/
namespace Go.Proofs.YtbbcphloafmldaaGreat
open Go.RowKit
set_option linter.unusedVariables false
set_option linter.unusedSimpArgs false

theorem gun_knownN {v : Value} {g : List Nat} {keep : Nat} {F L : List Nat} {wr : Bool} {w : World} {M N G : Nat} (h : gunF g keep = some (F, wr)) (hL : F.take keep = L) (hM : L.length = M) (hN : F.length = N) (hG : g.length = G) (hv : ViewL w v (u8s g)) (hl : g.length ≤ 2 ^ 16) (hb : ∀ b ∈ g, b < 256) (hk : keep ≤ 2 ^ 62) :
    Calls Tryz.prog 6 #[v, .int .i64 keep] w fun e w' => ∃ ao ac, e = .returned (.tuple #[.agg #[.slice ao M ac, .int .i64 N, .int .i64 G, .bool wr], .int .i64 0]) ∧ ViewL w' (.slice ao M ac) (u8s L) ∧ Ext w w' ∧ ∀ b o, ao = some ⟨b, o, none⟩ → w.heap.size ≤ b := by
  refine (gun_yes h hv hl hb hk).mono ?_
  rintro e w' ⟨ao, ac, rfl, h1, h3, h2⟩
  rw [hL] at h1
  rw [hL, hM, hN, hG]
  rw [hM] at h1
  exact ⟨ao, ac, rfl, h1, h2, h3⟩
theorem hdZ_okG : HOk hdZ := ⟨by decide, by decide, by decide, by decide, fun b hb => by cases hb⟩
theorem hdZ_mayG : MayH hdZ := by decide +kernel
theorem hdZ_putG : (putH hdZ).length = 10 := by decide +kernel
theorem putH_ten (h : Hd) : 10 ≤ (putH h).length := by
  have h0 : 10 ≤ (px h).length := by unfold px fx8; split <;> simp only [List.length_append, List.length_cons, List.length_nil, length_leN] <;> omega
  have h1 : 10 ≤ (pn h).length := by unfold pn; split; (· simp only [List.length_append]; omega); exact h0
  have h2 : 10 ≤ (pc h).length := by unfold pc; split; (· simp only [List.length_append]; omega); exact h1
  unfold putH; split
  · rw [List.length_append]; omega
  · exact h2
theorem mem_lt (h : Hd) (ok : HOk h) (may : MayH h) (b : List Nat) (hl : b.length < 65536) (hb : ∀ x ∈ b, x < 256) : ∀ x ∈ memL h b, x < 256 := fun x hx => by
  rcases List.mem_append.1 hx with hx | hx
  · have hp := putH_lt h ok may.1
    unfold putH at hx
    split at hx
    · rcases List.mem_append.1 hx with hx | hx
      · exact hp x hx
      · exact leN_lt _ _ _ hx
    · exact hp x hx
  · rcases List.mem_append.1 hx with hx | hx
    · exact stoL_lt hl hb x hx
    · exact tailL_lt b x hx
theorem xorb : ∀ x : Fin 256, ∀ j : Fin 8, x.val ^^^ 2 ^ j.val ≠ x.val ∧ x.val ^^^ 2 ^ j.val < 256 ∧ bits .xor .u8 ((x.val : Nat) : Int) ((2 ^ j.val : Nat) : Int) = ((x.val ^^^ 2 ^ j.val : Nat) : Int) := by decide +kernel
theorem fcell4 {w : World} {p : Nat} {v : Value} {a b : Int} {c : Bool} (h : FB w p v a b c) : w.cell? ⟨p, 0, none⟩ = some v ∧ w.cell? ⟨p, 1, none⟩ = some (.int .i64 a) ∧ w.cell? ⟨p, 2, none⟩ = some (.int .i64 b) ∧ w.cell? ⟨p, 3, none⟩ = some (.bool c) := h.cells.1
theorem box_cells {w : World} {B : Nat} {h : Hd} {so : Option Addr} {n sc : Nat} (hb : IsBox w B h (.slice so n sc)) :
    w.cell? ⟨B, 0, none⟩ = some (.bool h.text) ∧ w.cell? ⟨B, 1, none⟩ = some (.int .u32 h.time) ∧ w.cell? ⟨B, 2, none⟩ = some (.int .u8 h.xfl) ∧ w.cell? ⟨B, 3, none⟩ = some (.int .u8 h.os) ∧ w.cell? ⟨B, 4, none⟩ = some (.slice so n sc) ∧ w.cell? ⟨B, 5, none⟩ = some (.string h.name) ∧ w.cell? ⟨B, 6, none⟩ = some (.string h.comment) ∧ w.cell? ⟨B, 7, none⟩ = some (.int .u8 h.has) ∧ w.cell? ⟨B, 8, none⟩ = some (.bool h.sum) :=
  ⟨hb.cell 0, hb.cell 1, hb.cell 2, hb.cell 3, hb.cell 4, hb.cell 5, hb.cell 6, hb.cell 7, hb.cell 8⟩
set_option maxHeartbeats 16000000 in
set_option maxRecDepth 100000 in
theorem gun_law_heads (v : Value) (bs : List Nat) (h : Hd) (eo : Option Addr) (ec : Nat) (keep : Nat) (w : World) (hv : View w v bs ∧ ViewL w v (u8s bs)) (hb : ∀ b ∈ bs, b < 256) (hl : bs.length ≤ 140737488351232) (ok : HOk h) (hve : ViewL w (.slice eo h.extra.length ec) (u8s h.extra)) (hk : keep < 65536) :
    Calls Tryz.prog 5 #[v, .agg (hcells h (.slice eo h.extra.length ec)), .int .u16 keep] w fun e w' => e = .returned (.bool true) ∧ Ext w w' := by
  obtain ⟨i0, hi, hz0, hz1, hz2⟩ := info_parts info_u8
  obtain ⟨bo, bc, rfl⟩ := hv.2.shape
  rw [length_u8s] at hv ⊢
  obtain ⟨n, hn⟩ : ∃ n, n = bs.length := ⟨_, rfl⟩
  obtain ⟨xl, hxl⟩ : ∃ xl, xl = h.extra.length := ⟨_, rfl⟩
  rw [← hn] at hv hl ⊢
  rw [← hxl] at hve ⊢
  obtain ⟨wb, hwb⟩ : ∃ wb, wb = w.alloc (.cells (hcells h (.slice eo xl ec)) 34) := ⟨_, rfl⟩
  have hxb : Ext w wb := by rw [hwb]; exact (Ext.refl _).alloc _
  have hbx : IsBox wb w.heap.size h (.slice eo xl ec) := by rw [hwb]; exact heap_alloc_new w _
  obtain ⟨c0, c1, c2, c3, c4, c5, c6, c7, c8⟩ := box_cells hbx
  have HBX := Lib.hid hbx
  have HV := Lib.hid hv.2
  have HB := Lib.hid hb
  have HE := Lib.hid hve
  have HL := Lib.hid (And.intro hn hxl)
  have HX := Lib.hid hxb
  have HW := Lib.hid hwb
  clear hv hb hve hn hxl hxb hbx
  simp only [hcells] at hwb ⊢
  by_cases h1 : n ≤ 1000
  case neg =>
    have h1i : (1000 : Int) < (n : Int) := by omega
    rw [hwb] at c0 c1 c2 c3 c4 c5 c6 c7 c8 HX
    clear hwb HW HBX
    go_enter Tryz.func5, Tryz.ntmps5
    go_wp2_with fail
    go_ret
    exact ⟨rfl, HX.out⟩
  have h1i : ¬ (1000 : Int) < (n : Int) := by omega
  by_cases h2 : xl ≤ 1000
  case neg =>
    have h2i : (1000 : Int) < (xl : Int) := by omega
    rw [hwb] at c0 c1 c2 c3 c4 c5 c6 c7 c8 HX
    clear hwb HW HBX
    go_enter Tryz.func5, Tryz.ntmps5
    go_wp2_with fail
    go_ret
    exact ⟨rfl, HX.out⟩
  have h2i : ¬ (1000 : Int) < (xl : Int) := by omega
  by_cases h3 : h.name.size ≤ 1000
  case neg =>
    have h3i : (1000 : Int) < (h.name.size : Int) := by omega
    rw [hwb] at c0 c1 c2 c3 c4 c5 c6 c7 c8 HX
    clear hwb HW HBX
    go_enter Tryz.func5, Tryz.ntmps5
    go_wp2_with fail
    go_ret
    exact ⟨rfl, HX.out⟩
  have h3i : ¬ (1000 : Int) < (h.name.size : Int) := by omega
  by_cases h4 : h.comment.size ≤ 1000
  case neg =>
    have h4i : (1000 : Int) < (h.comment.size : Int) := by omega
    rw [hwb] at c0 c1 c2 c3 c4 c5 c6 c7 c8 HX
    clear hwb HW HBX
    go_enter Tryz.func5, Tryz.ntmps5
    go_wp2_with fail
    go_ret
    exact ⟨rfl, HX.out⟩
  have h4i : ¬ (1000 : Int) < (h.comment.size : Int) := by omega
  have HSZ := Lib.hid (show h.extra.length ≤ 1000 ∧ h.name.size ≤ 1000 ∧ h.comment.size ≤ 1000 ∧ n ≤ 1000 ∧ xl = h.extra.length ∧ n = bs.length from ⟨by rw [← HL.out.2]; exact h2, h3, h4, h1, HL.out.2, HL.out.1⟩)
  have HPUT := Lib.hid (show Calls Tryz.prog 10 #[.agg (hcells h (.slice eo xl ec))] wb fun e w' => if MayH h then ∃ v, e = .returned (.tuple #[v, .int .i64 0]) ∧ CloneOf wb (putH h) (.returned v) w' else e = .returned (.tuple #[.slice none 0 0, .int .i64 5]) ∧ Ext wb w' from by
    have q := frm_put h eo ec wb ok (by rw [← HL.out.2]; exact HE.out.ext HX.out) (by have := HSZ.out; omega)
    rw [← HL.out.2] at q
    exact q)
  simp only [hcells] at HPUT
  have HC := Lib.hid (And.intro c0 (And.intro c1 (And.intro c2 (And.intro c3 (And.intro c4 (And.intro c5 (And.intro c6 (And.intro c7 c8))))))))
  have hwb' := hwb
  rw [hwb] at c0 c1 c2 c3 c4 c5 c6 c7 c8
  clear h1 h2 h3 h4 hl hwb'
  go_enter Tryz.func5, Tryz.ntmps5
  go_wp2_with fail
  rw [← hwb]
  clear c0 c1 c2 c3 c4 c5 c6 c7 c8 hwb h1i h2i h3i h4i
  refine HPUT.out.mono ?_
  clear HPUT
  by_cases may : MayH h
  case neg =>
    simp only [if_neg may]
    rintro e w1 ⟨rfl, hx1⟩
    have HX := Lib.hid (HX.out.trans hx1)
    clear hx1
    go_wp2_with fail
    refine (gun_opens _).mono ?_
    rintro e w2 ⟨rfl, hx2⟩
    have HX := Lib.hid (HX.out.trans hx2)
    clear hx2
    go_wp2_with fail
    go_ret
    exact ⟨rfl, HX.out⟩
  simp only [if_pos may]
  rintro e w1 ⟨v1, rfl, hc1⟩
  obtain ⟨v1', og1, e1, ho1, hg1, hx1⟩ := hc1
  cases e1
  obtain ⟨po, pc', rfl⟩ := ho1.shape
  obtain ⟨pl, hpl⟩ : ∃ pl, pl = (putH h).length := ⟨_, rfl⟩
  rw [← hpl]
  have HX := Lib.hid (HX.out.trans hx1)
  have HBX := Lib.hid (Touch.keep hx1 HBX.out (fun f => f))
  have HPL := Lib.hid hpl
  have HPB := Lib.hid (putH_len h may (by have := HSZ.out; omega))
  clear ho1 hg1 hx1 hpl HC
  have HST := Lib.hid (show ∀ wx, Ext w wx → Calls Tryz.prog 11 #[.agg (hcells h (.slice eo xl ec)), .slice bo n bc] wx (CloneOf wx (memL h bs)) from fun wx hx => by
    have q := gun_stored h eo ec (.slice bo n bc) bs wx ok may (by rw [← HL.out.2]; exact HE.out.ext hx) (HV.out.ext hx) HB.out (by have := HSZ.out; omega) (by have := HSZ.out; omega)
    rw [← HL.out.2] at q
    exact q)
  have HSZR := Lib.hid (show ∀ wx, Ext w wx → Calls Tryz.prog 11 #[.agg #[.bool false, .int .u32 0, .int .u8 0, .int .u8 0, .slice none 0 0, .string ⟨#[]⟩, .string ⟨#[]⟩, .int .u8 0, .bool false], .slice bo n bc] wx (CloneOf wx (memL hdZ bs)) from fun wx hx => gun_stored hdZ none 0 (.slice bo n bc) bs wx hdZ_okG hdZ_mayG (viewL_nil0 wx) (HV.out.ext hx) HB.out (by have := HSZ.out; omega) (by decide))
  simp only [hcells] at HST
  have hrm : Int.tmod (keep : Int) 1200 = ((keep % 1200 : Nat) : Int) := by rw [Int.tmod_eq_emod_of_nonneg (by omega)]; omega
  obtain ⟨K, hK⟩ : ∃ K, K = keep % 1200 := ⟨_, rfl⟩
  rw [← hK] at hrm
  have HK := Lib.hid (show K ≤ 1200 by omega)
  have hki : (keep : Int) ≤ 65535 := by omega
  obtain ⟨b0, b1, b2, b3, b4, b5, b6, b7, b8⟩ := box_cells HBX.out
  clear hk hK
  go_wp2_with fail
  clear b0 b1 b2 b3 b4 b5 b6 b7 b8
  refine (HST.out _ HX.out).mono ?_
  rintro e w2 ⟨v2, og2, rfl, ho2, hg2, hx2⟩
  obtain ⟨GL, hGL⟩ : ∃ GL, GL = (memL h bs).length := ⟨_, rfl⟩
  rw [← hGL] at ho2
  have HG := Lib.hid (show GL = (memL h bs).length ∧ GL = pl + 5 + n + 8 ∧ pl = (putH h).length ∧ pl ≤ 10000 ∧ 10 ≤ pl ∧ n ≤ 1000 ∧ n = bs.length from ⟨hGL, by rw [hGL, len_memL, ← HPL.out, ← HSZ.out.2.2.2.2.2], HPL.out, by rw [HPL.out]; exact HPB.out, by rw [HPL.out]; exact putH_ten h, HSZ.out.2.2.2.1, HSZ.out.2.2.2.2.2⟩)
  obtain ⟨gb, gc, rfl, rfl⟩ : ∃ gb gc, v2 = .slice (some ⟨gb, 0, none⟩) GL gc ∧ og2 = some gb := by
    rcases ho2.form with ⟨_, _, e0, _⟩ | ⟨gb, gc, cur, e1, e2, _⟩
    · have := HG.out; omega
    · exact ⟨gb, gc, e2, e1⟩
  have HO := Lib.hid (show Owns w2 5 1 (.slice (some ⟨gb, 0, none⟩) GL gc) (some gb) GL (u8s (memL h bs)) ∧ w.heap.size ≤ gb ∧ gb < w2.heap.size from ⟨ho2, Nat.le_trans HX.out.size (hg2 gb rfl), ho2.lt gb rfl⟩)
  have HBX := Lib.hid (Touch.keep hx2 HBX.out (fun f => f))
  have HX := Lib.hid (HX.out.trans hx2)
  have HKN := Lib.hid (And.intro hrm hki)
  clear ho2 hg2 hx2 hGL
  go_wp2_with fail
  clear hrm hki
  obtain ⟨M, hM⟩ : ∃ M, M = (bs.take K).length := ⟨_, rfl⟩
  have HM := Lib.hid hM
  refine (gun_knownN (v := .slice (some ⟨gb, 0, none⟩) GL gc) (keep := K) (L := bs.take K) (M := M) (N := n) (G := GL) (mem_gunF h ok may bs (by have := HG.out; omega) HB.out K) rfl HM.out.symm HG.out.2.2.2.2.2.2.symm HG.out.1.symm HO.out.1.viewL (by have := HG.out; omega) (mem_lt h ok may bs (by have := HG.out; omega) HB.out) (by have := HK.out; omega)).mono ?_
  clear hM
  rintro e w3 ⟨xo, xc, rfl, hv3, hx3, hxn⟩
  have HXN := Lib.hid (show ∀ b o, xo = some ⟨b, o, none⟩ → b ≠ gb from fun b o e => by have := hxn b o e; have := HO.out.2.2; omega)
  have HGQ := Lib.hid (Nat.lt_of_lt_of_le HO.out.2.2 hx3.size)
  clear hxn
  have HVX := Lib.hid hv3
  have HO := Lib.hid (And.intro (HO.out.1.ext' hx3) HO.out.2)
  have HBX := Lib.hid (Touch.keep hx3 HBX.out (fun f => f))
  have HX := Lib.hid (HX.out.trans hx3)
  clear hv3 hx3
  obtain ⟨w4, hw4⟩ : ∃ w4, w4 = w3.alloc (.cells #[.slice xo M xc, .int .i64 n, .int .i64 GL, .bool false] 24) := ⟨_, rfl⟩
  obtain ⟨qx, hqx⟩ : ∃ qx, qx = w3.heap.size := ⟨_, rfl⟩
  have hx4 : Ext w3 w4 := by rw [hw4]; exact (Ext.refl _).alloc _
  have HXB := Lib.hid (show FB w4 qx (.slice xo M xc) n GL false by rw [hw4, hqx]; exact FB.new _ _ _ _ _)
  have HVX := Lib.hid (HVX.out.ext hx4)
  have HO := Lib.hid (And.intro (HO.out.1.ext' hx4) HO.out.2)
  have HBX := Lib.hid (Touch.keep hx4 HBX.out (fun f => f))
  have HX := Lib.hid (HX.out.trans hx4)
  have HQX := Lib.hid (show gb ≠ qx from by have := HGQ.out; omega)
  clear hx4
  go_wp2_with fail
  rw [← hw4, ← hqx]
  clear hw4 hqx
  refine (HSZR.out _ HX.out).mono ?_
  rintro e w5 ⟨v5, og5, rfl, ho5, _, hx5⟩
  have hL2 : (memL hdZ bs).length = n + 23 := by rw [len_memL, hdZ_putG]; have := HG.out.2.2.2.2.2.2; omega
  rw [hL2] at ho5
  obtain ⟨yo5, yc5, rfl⟩ := ho5.shape
  have HV5 := Lib.hid ho5.viewL
  have HO := Lib.hid (And.intro (HO.out.1.ext' hx5) HO.out.2)
  have HBX := Lib.hid (Touch.keep hx5 HBX.out (fun f => f))
  have HVX := Lib.hid (HVX.out.ext hx5)
  have HXB := Lib.hid (HXB.out.keep hx5 (fun f => f))
  have HX := Lib.hid (HX.out.trans hx5)
  obtain ⟨G2, hG2⟩ : ∃ G2, G2 = n + 23 := ⟨_, rfl⟩
  rw [← hG2] at HV5 ⊢
  have HL2 := Lib.hid (show (memL hdZ bs).length = G2 ∧ G2 = n + 23 from ⟨by rw [hL2, hG2], hG2⟩)
  clear ho5 hx5 hL2 hG2
  go_wp2_with fail
  refine (gun_known (v := .slice yo5 G2 yc5) (keep := K) (L := bs.take K) (M := M) (N := n) (G := G2) (mem_gunF hdZ hdZ_okG hdZ_mayG bs (by have := HG.out; omega) HB.out K) rfl HM.out.symm HG.out.2.2.2.2.2.2.symm HL2.out.1 HV5.out (by rw [HL2.out.1]; have := HL2.out; have := HG.out; omega) (mem_lt hdZ hdZ_okG hdZ_mayG bs (by have := HG.out; omega) HB.out) (by have := HK.out; omega)).mono ?_
  rintro e w6 ⟨yo, yc, rfl, hv6, hx6⟩
  have HVY := Lib.hid hv6
  have HO := Lib.hid (And.intro (HO.out.1.ext' hx6) HO.out.2)
  have HBX := Lib.hid (Touch.keep hx6 HBX.out (fun f => f))
  have HVX := Lib.hid (HVX.out.ext hx6)
  have HXB := Lib.hid (HXB.out.keep hx6 (fun f => f))
  have HX := Lib.hid (HX.out.trans hx6)
  clear hv6 hx6
  obtain ⟨w7, hw7⟩ : ∃ w7, w7 = w6.alloc (.cells #[.slice yo M yc, .int .i64 n, .int .i64 G2, .bool false] 24) := ⟨_, rfl⟩
  obtain ⟨qy, hqy⟩ : ∃ qy, qy = w6.heap.size := ⟨_, rfl⟩
  have hx7 : Ext w6 w7 := by rw [hw7]; exact (Ext.refl _).alloc _
  have HYB := Lib.hid (show FB w7 qy (.slice yo M yc) n G2 false by rw [hw7, hqy]; exact FB.new _ _ _ _ _)
  have HVY := Lib.hid (HVY.out.ext hx7)
  have HO := Lib.hid (And.intro (HO.out.1.ext' hx7) HO.out.2)
  have HBX := Lib.hid (Touch.keep hx7 HBX.out (fun f => f))
  have HVX := Lib.hid (HVX.out.ext hx7)
  have HXB := Lib.hid (HXB.out.keep hx7 (fun f => f))
  have HX := Lib.hid (HX.out.trans hx7)
  obtain ⟨a0, a1, a2, a3⟩ := fcell4 HXB.out
  obtain ⟨d0, d1, d2, d3⟩ := fcell4 HYB.out
  have b8 := (box_cells HBX.out).2.2.2.2.2.2.2.2
  have hs1 := run_string_view (P := Tryz.prog) 22 9 5 (viewL_view8 HVX.out) Tryz.underlying22 Tryz.underlying5 Tryz.underlying9
  have hs2 := run_string_view (P := Tryz.prog) 22 9 5 (viewL_view8 HVY.out) Tryz.underlying22 Tryz.underlying5 Tryz.underlying9
  obtain ⟨S, hS⟩ : ∃ S, S = strOf (bs.take K) := ⟨_, rfl⟩
  rw [← hS] at hs1 hs2
  have HS := Lib.hid hS
  have HWQ := Lib.hid (And.intro hw7 hqy)
  obtain ⟨RR, hRR⟩ : ∃ RR, RR = n + 13 := ⟨_, rfl⟩
  have hu1 : IntKind.i64.wrap ((GL : Int) - (pl : Int)) = (RR : Int) := by
    have h1 := HG.out
    rw [show (GL : Int) - (pl : Int) = (RR : Int) by omega]; exact IntWalk.i64_in _ (by omega)
  have hu2 : IntKind.i64.wrap ((G2 : Int) - 10) = (RR : Int) := by
    have h1 := HL2.out
    have h2 := HG.out
    rw [show (G2 : Int) - 10 = (RR : Int) by omega]; exact IntWalk.i64_in _ (by omega)
  rw [hw7] at a0 a1 a2 a3 d0 d1 d2 d3 b8 hs1 hs2
  rw [hqy] at d0 d1 d2 d3
  clear hx7 hw7 hqy hS hRR HL2 HVY HYB HBX HV5 HSZR HST HE HPB
  cases hsm : h.sum with
  | false =>
    rw [hsm] at b8
    go_wp2_with fail
    rw [← HWQ.out.1]
    clear a0 a1 a2 a3 d0 d1 d2 d3 b8 hs1 hs2 hu1 hu2
    refine (gun_opens _).mono ?_
    rintro e w8 ⟨rfl, hx8⟩
    have HX := Lib.hid (HX.out.trans hx8)
    clear hx8
    go_wp2_with fail
    go_ret
    exact ⟨rfl, HX.out⟩
  | true =>
    rw [hsm] at b8
    obtain ⟨I, hI⟩ : ∃ I, I + 1 = pl := ⟨pl - 1, by have := HG.out; omega⟩
    have hi1 : IntKind.i64.wrap ((pl : Int) - 1) = (I : Int) := by
      have := HG.out
      rw [show (pl : Int) - 1 = (I : Int) by omega]; exact IntWalk.i64_in _ (by omega)
    have HIG := Lib.hid (show I < GL ∧ I + 1 = pl ∧ I = (putH h).length - 1 from ⟨by have := HG.out; omega, hI, by have := HG.out; omega⟩)
    have hig : (I : Int) < (GL : Int) := by have := HIG.out; omega
    obtain ⟨Y, hY⟩ : ∃ Y, Y = (memL h bs).getD I 0 := ⟨_, rfl⟩
    have hyl : Y < 256 := by
      rw [hY, List.getD, List.getElem?_eq_getElem (by rw [← HG.out.1]; exact HIG.out.1)]
      exact mem_lt h ok may bs (by have := HG.out; omega) HB.out _ (List.getElem_mem _)
    have cY : w7.cell? ⟨gb, I, none⟩ = some (.int .u8 Y) := HO.out.1.cell I _ (by rw [hY]; exact getElem?_u8s _ I (by rw [← HG.out.1]; exact HIG.out.1))
    have fY := HO.out.1.free I
    obtain ⟨g1, g2, g3⟩ := xorb ⟨Y, hyl⟩ ⟨0, by decide⟩
    obtain ⟨Z, hZ⟩ : ∃ Z, Z = Y ^^^ 2 ^ 0 := ⟨_, rfl⟩
    simp only at g1 g2 g3
    rw [← hZ] at g1 g2 g3
    have hxr : bits .xor .u8 (Y : Int) 1 = (Z : Int) := g3
    have HZ := Lib.hid (show Z ≠ (memL h bs).getD I 0 ∧ Z < 256 from ⟨by rw [← hY]; exact g1, g2⟩)
    have HCY := Lib.hid (And.intro cY fY)
    rw [HWQ.out.1] at cY fY
    clear g1 g2 g3 hZ hY hI hyl
    go_wp2_with fail
    rw [← HWQ.out.1]
    clear a0 a1 a2 a3 d0 d1 d2 d3 b8 hs1 hs2 hu1 hu2 cY fY hxr hi1 hig
    obtain ⟨w8, hw8⟩ : ∃ w8, w8 = w7.setCell ⟨gb, I, none⟩ (.int .u8 Z) := ⟨_, rfl⟩
    have ht8 : Touch (fun k => k = gb) w7 w8 := by rw [hw8]; exact (Touch.refl (fun k => k = gb) w7).setCell (Or.inl rfl) _
    have ho8 : Owns w8 5 1 (.slice (some ⟨gb, 0, none⟩) GL gc) (some gb) GL (u8s ((memL h bs).set I Z)) := by
      rw [hw8, u8s_set]; exact HO.out.1.set I _ HIG.out.1
    have HV8 := Lib.hid ho8.viewL
    have HXB := Lib.hid (HXB.out.keep ht8 (fun e => HQX.out e.symm))
    have HVX := Lib.hid (HVX.out.keep ht8 (fun b o n c e f => by
      cases e
      exact HXN.out b o rfl f))
    have HX := Lib.hid (show Ext w w8 from Touch.trans (S := fun _ => False) HX.out ht8 (fun k hk e => by have := HO.out.2.1; omega))
    rw [← hw8]
    clear hw8 ht8 ho8
    have hgt := mem_sum h ok may hsm bs (by have := HG.out; omega) HB.out K Z (by rw [← HIG.out.2.2]; exact HZ.out.1) HZ.out.2
    rw [← HIG.out.2.2] at hgt
    refine (gun_known (v := .slice (some ⟨gb, 0, none⟩) GL gc) (keep := K) (L := bs.take K) (M := M) (N := n) (G := GL) hgt rfl HM.out.symm HG.out.2.2.2.2.2.2.symm (by rw [List.length_set]; exact HG.out.1.symm) HV8.out (by rw [List.length_set]; have := HG.out; omega) (fun x hx => by
      rcases List.mem_or_eq_of_mem_set hx with hx | hx
      · exact mem_lt h ok may bs (by have := HG.out; omega) HB.out x hx
      · rw [hx]; exact HZ.out.2) (by have := HK.out; omega)).mono ?_
    clear hgt
    rintro e w9 ⟨zo, zc, rfl, hv9, hx9⟩
    have HVZ := Lib.hid hv9
    have HXB := Lib.hid (HXB.out.keep hx9 (fun f => f))
    have HVX := Lib.hid (HVX.out.ext hx9)
    have HX := Lib.hid (HX.out.trans hx9)
    clear hv9 hx9
    obtain ⟨wz, hwz⟩ : ∃ wz, wz = w9.alloc (.cells #[.slice zo M zc, .int .i64 n, .int .i64 GL, .bool true] 24) := ⟨_, rfl⟩
    obtain ⟨qz, hqz⟩ : ∃ qz, qz = w9.heap.size := ⟨_, rfl⟩
    have hxz : Ext w9 wz := by rw [hwz]; exact (Ext.refl _).alloc _
    have HZB := Lib.hid (show FB wz qz (.slice zo M zc) n GL true by rw [hwz, hqz]; exact FB.new _ _ _ _ _)
    have HVZ := Lib.hid (HVZ.out.ext hxz)
    have HVX := Lib.hid (HVX.out.ext hxz)
    have HXB := Lib.hid (HXB.out.keep hxz (fun f => f))
    have HX := Lib.hid (HX.out.trans hxz)
    have HWZ := Lib.hid hwz
    obtain ⟨a0, a1, a2, a3⟩ := fcell4 HXB.out
    obtain ⟨d0, d1, d2, d3⟩ := fcell4 HZB.out
    have hs1 := run_string_view (P := Tryz.prog) 22 9 5 (viewL_view8 HVX.out) Tryz.underlying22 Tryz.underlying5 Tryz.underlying9
    have hs2 := run_string_view (P := Tryz.prog) 22 9 5 (viewL_view8 HVZ.out) Tryz.underlying22 Tryz.underlying5 Tryz.underlying9
    rw [← HS.out] at hs1 hs2
    rw [hwz] at a0 a1 a2 a3 d0 d1 d2 d3 hs1 hs2
    rw [hqz] at d0 d1 d2 d3
    clear hxz hwz hqz
    go_wp2_with fail
    rw [← HWZ.out]
    clear a0 a1 a2 a3 d0 d1 d2 d3 hs1 hs2
    refine (gun_opens _).mono ?_
    rintro e wy ⟨rfl, hxy⟩
    have HX := Lib.hid (HX.out.trans hxy)
    clear hxy
    go_wp2_with fail
    go_ret
    exact ⟨rfl, HX.out⟩
end Go.Proofs.YtbbcphloafmldaaGreat

/-! An argument that is a head, opened. -/
namespace Go.Proofs.YtbbcphloafmldaaGreat
open Go.Joins Go.ChangeShapes Go.WideShapes Go.ChangeAt Go.RowKit Go.Deep
set_option linter.unusedVariables false

theorem cells_u8h : Tryz.prog.cellsOf 5 = 1 := by kernel_rfl
theorem array9 {α : Type} {cs : Array α} (h : cs.size = 9) : ∃ c0 c1 c2 c3 c4 c5 c6 c7 c8, cs = #[c0, c1, c2, c3, c4, c5, c6, c7, c8] := by
  obtain ⟨l⟩ := cs
  match l, h with
  | [c0, c1, c2, c3, c4, c5, c6, c7, c8], _ => exact ⟨c0, c1, c2, c3, c4, c5, c6, c7, c8, rfl⟩
/-- a field that is bytes. -/
theorem field_bytes {H : Type} {enc : TypeId × Value → H} {W : World} {v : Value} {n : Nat} {y : DataW H × List MemPlace} (hf : DataW.trod enc Tryz.prog W 0 (fun _ => true) true n 22 [v] = some y) :
    ∃ (bs : List Nat) (eo : Option Addr) (ec : Nat), v = .slice eo bs.length ec ∧ ViewL W v (u8s bs) ∧ (∀ b ∈ bs, b < 256) := by
  rcases open_ints Tryz.underlying22 Tryz.underlying5 cells_u8h hf with ⟨hcs, _⟩ | ⟨a, len, cap, zs, hcs, _, hl, _, hz, hx, hcell, hwz⟩
  · simp at hcs
    subst hcs
    exact ⟨[], none, 0, rfl, View.viewL (Or.inl ⟨rfl, rfl⟩) (fun a n cap e => by cases e), by simp⟩
  · simp at hcs
    subst hcs
    simp only [if_true] at hz
    have hw : ∀ z ∈ zs, 0 ≤ z ∧ z ≤ 255 := fun z hz => by simpa [Lit.wf, IntKind.min, IntKind.max, IntKind.signed, IntKind.bits] using hwz z hz
    have hlen : ((zs.take len).map Int.toNat).length = len := by rw [List.length_map, List.length_take]; omega
    have hv : View W (.slice (some a) len cap) ((zs.take len).map Int.toNat) := by
      refine Or.inr ⟨a, cap, by rw [hlen], ?_⟩
      intro j u hu
      have hj : j < len := by
        have := (List.getElem?_eq_some_iff.1 hu).1
        rw [length_u8s, hlen] at this; exact this
      have hjz : j < zs.length := by omega
      rw [hcell j hjz, ← hu]
      have h0 := hw (zs[j]) (List.getElem_mem hjz)
      simp [u8s, hj, List.getD, List.getElem?_eq_getElem hjz]
      omega
    refine ⟨(zs.take len).map Int.toNat, some a, cap, by rw [hlen], hv.viewL (fun a' n' c' e => by cases e; omega), ?_⟩
    intro b hb
    obtain ⟨z, hz', rfl⟩ := List.mem_map.1 hb
    have := hw z (List.mem_of_mem_take hz')
    omega
theorem field_int {H : Type} {enc : TypeId × Value → H} {W : World} {v : Value} {n : Nat} {y : DataW H × List MemPlace} {t : TypeId} {k : IntKind} (ht : Tryz.prog.underlying t = some (.int k)) (hf : DataW.trod enc Tryz.prog W 0 (fun _ => true) true n t [v] = some y) :
    ∃ x : Int, v = .int k x ∧ (Lit.int k x).wf = true := by
  obtain ⟨x, h, _, hw⟩ := DataW.trod_int ht hf
  simp at h
  exact ⟨x, h, hw⟩
theorem field_bool {H : Type} {enc : TypeId × Value → H} {W : World} {v : Value} {n : Nat} {y : DataW H × List MemPlace} {t : TypeId} (ht : Tryz.prog.underlying t = some .bool) (hf : DataW.trod enc Tryz.prog W 0 (fun _ => true) true n t [v] = some y) : ∃ b : Bool, v = .bool b := by
  obtain ⟨b, h, _⟩ := DataW.trod_bool ht hf
  simp at h
  exact ⟨b, h⟩
theorem field_string {H : Type} {enc : TypeId × Value → H} {W : World} {v : Value} {n : Nat} {y : DataW H × List MemPlace} {t : TypeId} (ht : Tryz.prog.underlying t = some .string) (hf : DataW.trod enc Tryz.prog W 0 (fun _ => true) true n t [v] = some y) : ∃ s : ByteArray, v = .string s := by
  obtain ⟨s, h, _⟩ := DataW.trod_string ht hf
  simp at h
  exact ⟨s, h⟩
theorem head_struct : ∃ fs : Array Field, Tryz.prog.underlying 34 = some (.struct fs) ∧ fs.map (fun f => (f.type, f.offset, Tryz.prog.cellsOf f.type)) = #[(4, 0, 1), (32, 1, 1), (5, 2, 1), (5, 3, 1), (22, 4, 1), (9, 5, 1), (9, 6, 1), (5, 7, 1), (4, 8, 1)] := ⟨_, Tryz.underlying34, by kernel_rfl⟩
theorem head_cellsOf : Tryz.prog.cellsOf 34 = 9 := by kernel_rfl
theorem head_field {fs : Array Field} (head_types : fs.map (fun f => (f.type, f.offset, Tryz.prog.cellsOf f.type)) = #[(4, 0, 1), (32, 1, 1), (5, 2, 1), (5, 3, 1), (22, 4, 1), (9, 5, 1), (9, 6, 1), (5, 7, 1), (4, 8, 1)]) (j : Nat) (ty : TypeId) (h : (#[(4, 0, 1), (32, 1, 1), (5, 2, 1), (5, 3, 1), (22, 4, 1), (9, 5, 1), (9, 6, 1), (5, 7, 1), (4, 8, 1)] : Array (Nat × Nat × Nat))[j]? = some (ty, j, 1)) :
    ∃ f : Field, fs[j]? = some f ∧ f.type = ty ∧ f.offset = j ∧ Tryz.prog.cellsOf f.type = 1 := by
  rw [← head_types, Array.getElem?_map] at h
  obtain ⟨f, hf, e⟩ := Option.map_eq_some_iff.1 h
  simp only [Prod.mk.injEq] at e
  exact ⟨f, hf, e.1, e.2.1, e.2.2⟩
set_option maxRecDepth 100000 in
/-- a head that came in. -/
theorem open_head {H : Type} {enc : TypeId × Value → H} (W : World) {base : Nat} {v : Value} {d : DataW H} {p : List MemPlace} (hv : Value.okWide Tryz.prog W .any base 34 v)
    (h : DataW.Trod enc Tryz.prog W 0 (fun _ => true) true 34 v d p) :
    ∃ (hd : Hd) (eo : Option Addr) (ec : Nat), v = .agg (hcells hd (.slice eo hd.extra.length ec)) ∧ HOk hd ∧ ViewL W (.slice eo hd.extra.length ec) (u8s hd.extra) := by
  obtain ⟨fs, hst, hty⟩ := head_struct
  obtain ⟨cs, rfl, hsz⟩ := okWide_struct hst hv
  obtain ⟨c0, c1, c2, c3, c4, c5, c6, c7, c8, rfl⟩ := array9 (hsz.trans head_cellsOf)
  obtain ⟨fuel, hf⟩ := h
  obtain ⟨xs, n, _, _, hl, hlen, hfs⟩ := DataW.trod_struct hst hf
  have key : ∀ (j : Nat) (ty : TypeId) (c : Value), (#[c0, c1, c2, c3, c4, c5, c6, c7, c8] : Array Value).toList.drop j = c :: (#[c0, c1, c2, c3, c4, c5, c6, c7, c8] : Array Value).toList.drop (j + 1) → (#[(4, 0, 1), (32, 1, 1), (5, 2, 1), (5, 3, 1), (22, 4, 1), (9, 5, 1), (9, 6, 1), (5, 7, 1), (4, 8, 1)] : Array (Nat × Nat × Nat))[j]? = some (ty, j, 1) → j < xs.length →
      ∃ y, DataW.trod enc Tryz.prog W 0 (fun _ => true) true n ty [c] = some y := by
    intro j ty c hd he hj
    obtain ⟨f, hfj, e1, e2, e3⟩ := head_field hty j ty he
    have := hfs j f hfj
    rw [e2, e3, e1, List.getElem?_eq_getElem hj] at this
    have e : (Value.agg #[c0, c1, c2, c3, c4, c5, c6, c7, c8]).cells = #[c0, c1, c2, c3, c4, c5, c6, c7, c8] := rfl
    rw [e, hd] at this
    exact ⟨xs[j], this⟩
  have hx9 : xs.length = 9 := by
    have := congrArg Array.size hty
    simp at this
    omega
  obtain ⟨y0, k0⟩ := key 0 _ c0 rfl rfl (by omega)
  obtain ⟨y1, k1⟩ := key 1 _ c1 rfl rfl (by omega)
  obtain ⟨y2, k2⟩ := key 2 _ c2 rfl rfl (by omega)
  obtain ⟨y3, k3⟩ := key 3 _ c3 rfl rfl (by omega)
  obtain ⟨y4, k4⟩ := key 4 _ c4 rfl rfl (by omega)
  obtain ⟨y5, k5⟩ := key 5 _ c5 rfl rfl (by omega)
  obtain ⟨y6, k6⟩ := key 6 _ c6 rfl rfl (by omega)
  obtain ⟨y7, k7⟩ := key 7 _ c7 rfl rfl (by omega)
  obtain ⟨y8, k8⟩ := key 8 _ c8 rfl rfl (by omega)
  obtain ⟨b0, rfl⟩ := field_bool Tryz.underlying4 k0
  obtain ⟨x1, rfl, w1⟩ := field_int Tryz.underlying32 k1
  obtain ⟨x2, rfl, w2⟩ := field_int Tryz.underlying5 k2
  obtain ⟨x3, rfl, w3⟩ := field_int Tryz.underlying5 k3
  obtain ⟨bs, eo, ec, rfl, vw, hb⟩ := field_bytes k4
  obtain ⟨s5, rfl⟩ := field_string Tryz.underlying9 k5
  obtain ⟨s6, rfl⟩ := field_string Tryz.underlying9 k6
  obtain ⟨x7, rfl, w7⟩ := field_int Tryz.underlying5 k7
  obtain ⟨b8, rfl⟩ := field_bool Tryz.underlying4 k8
  have r1 : 0 ≤ x1 ∧ x1 ≤ 4294967295 := by simpa [Lit.wf, IntKind.min, IntKind.max, IntKind.signed, IntKind.bits] using w1
  have r2 : 0 ≤ x2 ∧ x2 ≤ 255 := by simpa [Lit.wf, IntKind.min, IntKind.max, IntKind.signed, IntKind.bits] using w2
  have r3 : 0 ≤ x3 ∧ x3 ≤ 255 := by simpa [Lit.wf, IntKind.min, IntKind.max, IntKind.signed, IntKind.bits] using w3
  have r7 : 0 ≤ x7 ∧ x7 ≤ 255 := by simpa [Lit.wf, IntKind.min, IntKind.max, IntKind.signed, IntKind.bits] using w7
  obtain ⟨n1, rfl⟩ := Int.eq_ofNat_of_zero_le r1.1
  obtain ⟨n2, rfl⟩ := Int.eq_ofNat_of_zero_le r2.1
  obtain ⟨n3, rfl⟩ := Int.eq_ofNat_of_zero_le r3.1
  obtain ⟨n7, rfl⟩ := Int.eq_ofNat_of_zero_le r7.1
  exact ⟨⟨b0, n1, n2, n3, bs, s5, s6, n7, b8⟩, eo, ec, rfl, ⟨by simp only; omega, by simp only; omega, by simp only; omega, by simp only; omega, hb⟩, vw⟩
end Go.Proofs.YtbbcphloafmldaaGreat

/-! Arguments that are bytes, opened. -/
namespace Go.Proofs.YtbbcphloafmldaaGreat
open Go.ChangeShapes Go.WideShapes Go.ChangeAt Go.RowKit Go.Deep

theorem cells_u8 : Tryz.prog.cellsOf 5 = 1 := by kernel_rfl
theorem bytes_u8 : Tryz.prog.bytesOf 5 = 1 := by kernel_rfl
set_option maxRecDepth 100000 in
/-- bytes that came in. -/
theorem open_bytes {H : Type} {enc : TypeId × Value → H} (W : World) {base : Nat} {v : Value} {d : DataW H} {p : List MemPlace} (hv : Value.okWide Tryz.prog W .any base 22 v)
    (h : DataW.Trod enc Tryz.prog W 0 (fun _ => true) true 22 v d p) (hsz : ∀ el sp, d = .slice el sp → (el.length + sp.length) * Tryz.prog.bytesOf 5 ≤ reachBytes) :
    ∃ bs : List Nat, (View W v bs ∧ ViewL W v (u8s bs)) ∧ (∀ b ∈ bs, b < 256) ∧ bs.length ≤ 140737488351232 := by
  obtain ⟨a0, len, cap, rfl⟩ := okWide_slice Tryz.underlying22 hv
  obtain ⟨fuel, hf⟩ := h
  rcases open_ints Tryz.underlying22 Tryz.underlying5 cells_u8 hf with ⟨hcs, _⟩ | ⟨a, len', cap', zs, hcs, _, hl, _, hz, hx, hcell, hwz⟩
  · simp [Value.cells] at hcs
    obtain ⟨rfl, rfl, rfl⟩ := hcs
    exact ⟨[], ⟨Or.inl ⟨rfl, rfl⟩, View.viewL (Or.inl ⟨rfl, rfl⟩) (fun a n cap e => by cases e)⟩, by simp, by simp⟩
  · simp [Value.cells] at hcs
    obtain ⟨rfl, rfl, rfl⟩ := hcs
    simp only [if_true] at hz
    simp only [Prod.mk.injEq] at hx
    have hw : ∀ z ∈ zs, 0 ≤ z ∧ z ≤ 255 := fun z hz => by simpa [Lit.wf, IntKind.min, IntKind.max, IntKind.signed, IntKind.bits] using hwz z hz
    have hlen : ((zs.take len).map Int.toNat).length = len := by rw [List.length_map, List.length_take]; omega
    have hv : View W (.slice (some a) len cap) ((zs.take len).map Int.toNat) := by
      refine Or.inr ⟨a, cap, by rw [hlen], ?_⟩
      intro j u hu
      have hj : j < len := by
        have := (List.getElem?_eq_some_iff.1 hu).1
        rw [length_u8s, hlen] at this; exact this
      have hjz : j < zs.length := by omega
      rw [hcell j hjz, ← hu]
      have h0 := hw (zs[j]) (List.getElem_mem hjz)
      simp [u8s, hj, List.getD, List.getElem?_eq_getElem hjz]
      omega
    refine ⟨(zs.take len).map Int.toNat, ⟨hv, hv.viewL (fun a' n' c' e => by cases e; omega)⟩, ?_, ?_⟩
    · intro b hb
      obtain ⟨z, hz', rfl⟩ := List.mem_map.1 hb
      have := hw z (List.mem_of_mem_take hz')
      omega
    · have h1 := hsz _ _ hx.1
      rw [bytes_u8] at h1
      simp only [lits, List.length_map, List.length_take, List.length_drop, reachBytes] at h1
      rw [hlen]; omega
end Go.Proofs.YtbbcphloafmldaaGreat
