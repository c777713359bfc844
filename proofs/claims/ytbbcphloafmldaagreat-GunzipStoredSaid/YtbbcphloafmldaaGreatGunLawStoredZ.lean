/- GunzipStored: the law's walk. -/
import Derived.Test.YtbbcphloafmldaaGreatBnd25
import Derived.Test.YtbbcphloafmldaaGreatGrowReZ
import Derived.Test.YtbbcphloafmldaaGreatBnd27
import Derived.Test.YtbbcphloafmldaaGreatBnd28
namespace Go.Proofs.YtbbcphloafmldaaGreat
open Go.RowKit
set_option linter.unusedVariables false
set_option linter.unusedSimpArgs false

theorem xorb : ∀ x : Fin 256, ∀ j : Fin 8, x.val ^^^ 2 ^ j.val ≠ x.val ∧ x.val ^^^ 2 ^ j.val < 256 ∧ bits .xor .u8 ((x.val : Nat) : Int) ((2 ^ j.val : Nat) : Int) = ((x.val ^^^ 2 ^ j.val : Nat) : Int) := by decide +kernel
theorem box_cells {w : World} {B : Nat} {h : Hd} {so : Option Addr} {n sc : Nat} (hb : IsBox w B h (.slice so n sc)) :
    w.cell? ⟨B, 0, none⟩ = some (.bool h.text) ∧ w.cell? ⟨B, 1, none⟩ = some (.int .u32 h.time) ∧ w.cell? ⟨B, 2, none⟩ = some (.int .u8 h.xfl) ∧ w.cell? ⟨B, 3, none⟩ = some (.int .u8 h.os) ∧ w.cell? ⟨B, 4, none⟩ = some (.slice so n sc) ∧ w.cell? ⟨B, 5, none⟩ = some (.string h.name) ∧ w.cell? ⟨B, 6, none⟩ = some (.string h.comment) ∧ w.cell? ⟨B, 7, none⟩ = some (.int .u8 h.has) ∧ w.cell? ⟨B, 8, none⟩ = some (.bool h.sum) :=
  ⟨hb.cell 0, hb.cell 1, hb.cell 2, hb.cell 3, hb.cell 4, hb.cell 5, hb.cell 6, hb.cell 7, hb.cell 8⟩
/-- the file so far, and what it says so far. -/
structure StoS (h : Hd) (w0 : World) (A Bs : List (List Nat)) (gv wv : Value) (w : World) : Prop where
  ex : ∃ og ow, Owns w 5 1 gv og (stoG h A).length (u8s (stoG h A)) ∧ Owns w 5 1 wv ow Bs.flatten.length (u8s Bs.flatten) ∧ (∀ k, og = some k → w0.heap.size ≤ k) ∧ (∀ k, ow = some k → w0.heap.size ≤ k) ∧ (∀ k, og = some k → ow ≠ some k)
  ext : Ext w0 w
section
variable {h : Hd} {w0 w w' : World} {A Bs : List (List Nat)} {gv wv : Value}
theorem StoS.ext' (s : StoS h w0 A Bs gv wv w) (he : Ext w w') : StoS h w0 A Bs gv wv w' := by
  obtain ⟨⟨og, ow, h1, h2, h3, h4, h5⟩, hx⟩ := s
  exact ⟨⟨og, ow, h1.ext' he, h2.ext' he, h3, h4, h5⟩, hx.trans he⟩
theorem StoS.row (s : StoS h w0 A Bs gv wv w) : w.ownsRow 0 5 1 gv (stoG h A).length (u8s (stoG h A)) := by
  obtain ⟨⟨og, ow, h1, _⟩, _⟩ := s; exact h1.1
theorem StoS.roww (s : StoS h w0 A Bs gv wv w) : w.ownsRow 0 5 1 wv Bs.flatten.length (u8s Bs.flatten) := by
  obtain ⟨⟨og, ow, _, h1, _⟩, _⟩ := s; exact h1.1
theorem StoS.lt (s : StoS h w0 A Bs gv wv w) : ∀ k, gv.ownBlock = some k → k < w.heap.size := fun k e => by
  obtain ⟨⟨og, ow, h1, _⟩, _⟩ := s; exact h1.lt k (h1.2.symm.trans e)
theorem StoS.app (s : StoS h w0 A Bs gv wv w) {A2 : List (List Nat)} {b : List Nat} {v' : Value} (hA : A2 = A ++ [b]) (h2 : w'.ownsRow 0 5 1 v' ((stoG h A).length + (memL h b).length) (u8s (stoG h A) ++ u8s (memL h b))) (h3 : w.grownBy w' gv.ownBlock) (h4 : v'.ownBlock = gv.ownBlock ∨ v'.ownBlock = some w.heap.size) : StoS h w0 A2 Bs v' wv w' := by
  obtain ⟨⟨og, ow, k1, k2, k3, k4, k5⟩, hx⟩ := s
  have e1 := k1.2
  have ht : Touch (fun k => og = some k) w w' := Touch.grown (Touch.refl _ w) h3 (fun k e => Or.inl (by rw [← e1]; exact e))
  refine ⟨⟨v'.ownBlock, ow, ⟨by rw [hA, stoG_snoc, u8s_append, List.length_append]; exact h2, rfl⟩, k2.keep ht (fun k e e2 => k5 k e2 e), fun k e => ?_, k4, fun k e => ?_⟩, Touch.trans (S := fun _ => False) hx ht (fun k hk e => by have := k3 k e; omega)⟩
  · rcases h4 with h4 | h4
    · exact k3 k (by rw [← e1, ← h4]; exact e)
    · rw [h4] at e; cases e; exact hx.size
  · rcases h4 with h4 | h4
    · exact k5 k (by rw [← e1, ← h4]; exact e)
    · rw [h4] at e; cases e
      intro e2
      have := k2.lt _ e2
      omega
theorem StoS.appw (s : StoS h w0 A Bs gv wv w) {B2 : List (List Nat)} {b : List Nat} {v' : Value} (hB : B2 = Bs ++ [b]) (h2 : w'.ownsRow 0 5 1 v' (Bs.flatten.length + b.length) (u8s Bs.flatten ++ u8s b)) (h3 : w.grownBy w' wv.ownBlock) (h4 : v'.ownBlock = wv.ownBlock ∨ v'.ownBlock = some w.heap.size) : StoS h w0 A B2 gv v' w' := by
  obtain ⟨⟨og, ow, k1, k2, k3, k4, k5⟩, hx⟩ := s
  have e1 := k2.2
  have ht : Touch (fun k => ow = some k) w w' := Touch.grown (Touch.refl _ w) h3 (fun k e => Or.inl (by rw [← e1]; exact e))
  have hf : B2.flatten = Bs.flatten ++ b := by rw [hB]; simp
  refine ⟨⟨og, v'.ownBlock, k1.keep ht (fun k e e2 => k5 k e e2), ⟨by rw [hf, u8s_append, List.length_append]; exact h2, rfl⟩, k3, fun k e => ?_, fun k e e2 => ?_⟩, Touch.trans (S := fun _ => False) hx ht (fun k hk e => by have := k4 k e; omega)⟩
  · rcases h4 with h4 | h4
    · exact k4 k (by rw [← e1, ← h4]; exact e)
    · rw [h4] at e; cases e; exact hx.size
  · rcases h4 with h4 | h4
    · exact k5 k e (by rw [← e1, ← h4]; exact e2)
    · rw [h4] at e2; cases e2
      have := k1.lt _ e
      omega
end
set_option maxHeartbeats 16000000 in
set_option maxRecDepth 100000 in
theorem gun_law_stored (v : Value) (Ls : List (List Nat)) (h : Hd) (eo : Option Addr) (ec : Nat) (turn : Nat) (w : World) (hv : RowsQ w v Ls) (hb : ∀ L ∈ Ls, L.length ≤ maxLen ∧ ∀ b ∈ L, b < 256) (hl : Ls.length ≤ maxLen) (ok : HOk h) (hve : ViewL w (.slice eo h.extra.length ec) (u8s h.extra)) (hk : turn < 256) :
    Calls Tryz.prog 4 #[v, .agg (hcells h (.slice eo h.extra.length ec)), .int .u8 turn] w fun e w' => e = .returned (.bool true) ∧ Ext w w' := by
  obtain ⟨i0, hi, hz0, hz1, hz2⟩ := info_parts info_u8
  obtain ⟨ao, rc, rfl⟩ := hv.shape
  obtain ⟨N, hN⟩ : ∃ N, N = Ls.length := ⟨_, rfl⟩
  obtain ⟨xl, hxl⟩ : ∃ xl, xl = h.extra.length := ⟨_, rfl⟩
  rw [← hN] at hv hl ⊢
  rw [← hxl] at hve ⊢
  obtain ⟨BX, hBX⟩ : ∃ BX, BX = w.heap.size := ⟨_, rfl⟩
  obtain ⟨wb, hwb⟩ : ∃ wb, wb = w.alloc (.cells (hcells h (.slice eo xl ec)) 34) := ⟨_, rfl⟩
  have hxb : Ext w wb := by rw [hwb]; exact (Ext.refl _).alloc _
  have hbx : IsBox wb BX h (.slice eo xl ec) := by rw [hwb, hBX]; exact heap_alloc_new w _
  obtain ⟨c0, c1, c2, c3, c4, c5, c6, c7, c8⟩ := box_cells hbx
  have HBX := Lib.hid hbx
  have HV := Lib.hid hv
  have HB := Lib.hid hb
  have HE := Lib.hid hve
  have HL := Lib.hid (And.intro hN hxl)
  have HX := Lib.hid hxb
  have HW := Lib.hid (And.intro hwb hBX)
  clear hv hb hve hN hxl hxb hbx
  simp only [hcells] at hwb ⊢
  by_cases h0 : 1 ≤ N
  case neg =>
    have h0i : (N : Int) < 1 := by omega
    rw [hwb] at c0 c1 c2 c3 c4 c5 c6 c7 c8 HX
    rw [hBX] at c0 c1 c2 c3 c4 c5 c6 c7 c8
    clear hwb HW HBX hBX
    go_enter Tryz.func4, Tryz.ntmps4
    go_wp2_with fail
    refine (gun_opens _).mono ?_
    rintro e w2 ⟨rfl, hx2⟩
    have HX2 := Lib.hid (HX.out.trans hx2)
    clear hx2 c0 c1 c2 c3 c4 c5 c6 c7 c8
    go_wp2_with fail
    go_ret
    exact ⟨rfl, HX2.out⟩
  have h0i : ¬ (N : Int) < 1 := by omega
  by_cases h1 : N ≤ 8
  case neg =>
    have h1i : (8 : Int) < (N : Int) := by omega
    rw [hwb] at c0 c1 c2 c3 c4 c5 c6 c7 c8 HX
    rw [hBX] at c0 c1 c2 c3 c4 c5 c6 c7 c8
    clear hwb HW HBX hBX
    go_enter Tryz.func4, Tryz.ntmps4
    go_wp2_with fail
    refine (gun_opens _).mono ?_
    rintro e w2 ⟨rfl, hx2⟩
    have HX2 := Lib.hid (HX.out.trans hx2)
    clear hx2 c0 c1 c2 c3 c4 c5 c6 c7 c8
    go_wp2_with fail
    go_ret
    exact ⟨rfl, HX2.out⟩
  have h1i : ¬ (8 : Int) < (N : Int) := by omega
  by_cases h2 : xl ≤ 1000
  case neg =>
    have h2i : (1000 : Int) < (xl : Int) := by omega
    rw [hwb] at c0 c1 c2 c3 c4 c5 c6 c7 c8 HX
    rw [hBX] at c0 c1 c2 c3 c4 c5 c6 c7 c8
    clear hwb HW HBX hBX
    go_enter Tryz.func4, Tryz.ntmps4
    go_wp2_with fail
    refine (gun_opens _).mono ?_
    rintro e w2 ⟨rfl, hx2⟩
    have HX2 := Lib.hid (HX.out.trans hx2)
    clear hx2 c0 c1 c2 c3 c4 c5 c6 c7 c8
    go_wp2_with fail
    go_ret
    exact ⟨rfl, HX2.out⟩
  have h2i : ¬ (1000 : Int) < (xl : Int) := by omega
  by_cases h3 : h.name.size ≤ 1000
  case neg =>
    have h3i : (1000 : Int) < (h.name.size : Int) := by omega
    rw [hwb] at c0 c1 c2 c3 c4 c5 c6 c7 c8 HX
    rw [hBX] at c0 c1 c2 c3 c4 c5 c6 c7 c8
    clear hwb HW HBX hBX
    go_enter Tryz.func4, Tryz.ntmps4
    go_wp2_with fail
    refine (gun_opens _).mono ?_
    rintro e w2 ⟨rfl, hx2⟩
    have HX2 := Lib.hid (HX.out.trans hx2)
    clear hx2 c0 c1 c2 c3 c4 c5 c6 c7 c8
    go_wp2_with fail
    go_ret
    exact ⟨rfl, HX2.out⟩
  have h3i : ¬ (1000 : Int) < (h.name.size : Int) := by omega
  by_cases h4 : h.comment.size ≤ 1000
  case neg =>
    have h4i : (1000 : Int) < (h.comment.size : Int) := by omega
    rw [hwb] at c0 c1 c2 c3 c4 c5 c6 c7 c8 HX
    rw [hBX] at c0 c1 c2 c3 c4 c5 c6 c7 c8
    clear hwb HW HBX hBX
    go_enter Tryz.func4, Tryz.ntmps4
    go_wp2_with fail
    refine (gun_opens _).mono ?_
    rintro e w2 ⟨rfl, hx2⟩
    have HX2 := Lib.hid (HX.out.trans hx2)
    clear hx2 c0 c1 c2 c3 c4 c5 c6 c7 c8
    go_wp2_with fail
    go_ret
    exact ⟨rfl, HX2.out⟩
  have h4i : ¬ (1000 : Int) < (h.comment.size : Int) := by omega
  have HSZ := Lib.hid (show h.extra.length ≤ 1000 ∧ h.name.size ≤ 1000 ∧ h.comment.size ≤ 1000 ∧ 1 ≤ N ∧ N ≤ 8 ∧ xl = h.extra.length ∧ N = Ls.length from ⟨by rw [← HL.out.2]; exact h2, h3, h4, h0, h1, HL.out.2, HL.out.1⟩)
  have HPUT := Lib.hid (show Calls Tryz.prog 10 #[.agg (hcells h (.slice eo xl ec))] wb fun e w' => if MayH h then ∃ v, e = .returned (.tuple #[v, .int .i64 0]) ∧ CloneOf wb (putH h) (.returned v) w' else e = .returned (.tuple #[.slice none 0 0, .int .i64 5]) ∧ Ext wb w' from by
    have q := frm_put h eo ec wb ok (by rw [← HL.out.2]; exact HE.out.ext HX.out) (by have := HSZ.out; omega)
    rw [← HL.out.2] at q
    exact q)
  simp only [hcells] at HPUT
  rw [hwb] at c0 c1 c2 c3 c4 c5 c6 c7 c8
  rw [hBX] at c0 c1 c2 c3 c4 c5 c6 c7 c8
  clear h0 h1 h2 h3 h4 hl
  go_enter Tryz.func4, Tryz.ntmps4
  go_wp2_with fail
  rw [← hwb, ← hBX]
  clear c0 c1 c2 c3 c4 c5 c6 c7 c8 hwb hBX h0i h1i h2i h3i h4i
  refine HPUT.out.mono ?_
  clear HPUT
  by_cases may : MayH h
  case neg =>
    simp only [if_neg may]
    rintro e w1 ⟨rfl, hx1⟩
    have HX := Lib.hid (HX.out.trans hx1)
    clear hx1
    go_wp2_with fail
    refine (gun_opens _).mono ?_
    rintro e w2 ⟨rfl, hx2⟩
    have HX := Lib.hid (HX.out.trans hx2)
    clear hx2
    go_wp2_with fail
    go_ret
    exact ⟨rfl, HX.out⟩
  simp only [if_pos may]
  rintro e w0 ⟨v1, rfl, hc1⟩
  obtain ⟨v1', og1, e1, ho1, hg1, hx1⟩ := hc1
  cases e1
  obtain ⟨po, pc', rfl⟩ := ho1.shape
  have HX := Lib.hid (HX.out.trans hx1)
  have HBX := Lib.hid (Touch.keep hx1 HBX.out (fun f => f))
  clear ho1 hg1 hx1
  have HST := Lib.hid (show ∀ wx, Ext w wx → ∀ (v : Value) (b : List Nat), ViewL wx v (u8s b) → b.length ≤ 3000 → (∀ x ∈ b, x < 256) → Calls Tryz.prog 11 #[.agg (hcells h (.slice eo xl ec)), v] wx (CloneOf wx (memL h b)) from fun wx hx v b hvb hb3 hbb => by
    have q := gun_stored h eo ec v b wx ok may (by rw [← HL.out.2]; exact HE.out.ext hx) hvb hbb hb3 (by have := HSZ.out; omega)
    rw [← HL.out.2] at q
    exact q)
  simp only [hcells] at HST
  obtain ⟨rb, ro, rfl⟩ : ∃ rb ro, ao = some ⟨rb, ro, none⟩ := by
    obtain ⟨b, o, uo, uc, e, _⟩ := HV.out.at (k := 0) (List.getElem?_eq_getElem (by have := HSZ.out; omega)) rfl
    exact ⟨b, o, e⟩
  have HAT := Lib.hid (show ∀ i (hi : i < N), ∃ uo uc, w.cell? ⟨rb, ro + i, none⟩ = some (.slice uo (Ls.getD i []).length uc) ∧ ViewL w (.slice uo (Ls.getD i []).length uc) (u8s (Ls.getD i [])) from fun i hi => by
    obtain ⟨b, o, uo, uc, e, e2, e3⟩ := HV.out.at (k := i) (L := Ls.getD i []) (by rw [List.getD, List.getElem?_eq_getElem (by have := HSZ.out; omega)]; rfl) rfl
    cases e
    exact ⟨uo, uc, e2, e3⟩)
  have HMB := Lib.hid (show ∀ i, i < N → (∀ x ∈ Ls.getD i [], x < 256) ∧ Ls.take (i + 1) = Ls.take i ++ [Ls.getD i []] from fun i hi => by
    have hil : i < Ls.length := by have := HSZ.out; omega
    have e : Ls.getD i [] = Ls[i] := by rw [List.getD, List.getElem?_eq_getElem hil]; rfl
    rw [e]
    exact ⟨(HB.out _ (List.getElem_mem hil)).2, by rw [List.take_add_one, List.getElem?_eq_getElem hil]; rfl⟩)
  have HS0 := Lib.hid (show StoS h w0 (Ls.take 0) (Ls.take 0) (.slice none 0 0) (.slice none 0 0) w0 from ⟨⟨none, none, by simpa [stoG, u8s] using Owns.nil w0 5 1, by simpa [u8s] using Owns.nil w0 5 1, (fun k e => by cases e), (fun k e => by cases e), (fun k e => by cases e)⟩, Ext.refl _⟩)
  go_wp2_with fail
  go_loopw [9, 10, 11] (fun gv wv iv wr => ∃ i : Nat, iv = .int .i64 i ∧ i ≤ N ∧ StoS h w0 (Ls.take i) (Ls.take i) gv wv wr ∧ ∀ b ∈ Ls.take i, b.length ≤ 3000) (fun _ _ iv _ => N - (intOf iv).toNat)
  case atStart => exact ⟨0, rfl, Nat.zero_le _, HS0.out, by simp⟩
  case round =>
    obtain ⟨i, rfl, hiN, hSS, h3k⟩ := hrel
    have HSS := Lib.hid hSS
    have H3K := Lib.hid h3k
    clear hSS h3k
    by_cases hin : i < N
    · have hini : (i : Int) < (N : Int) := by omega
      obtain ⟨uo, uc, hcu, hvu⟩ := HAT.out i hin
      obtain ⟨B, hB⟩ : ∃ B, B = Ls.getD i [] := ⟨_, rfl⟩
      rw [← hB] at hcu hvu
      obtain ⟨m, hm⟩ : ∃ m, m = B.length := ⟨_, rfl⟩
      rw [← hm] at hcu hvu
      have hxr := HX.out.trans HSS.out.ext
      have hcr := cell_touch hxr hcu (fun f => f)
      have HCU := Lib.hid hcr
      have HCW := Lib.hid (And.intro hcu hvu)
      have HVU := Lib.hid (hvu.ext hxr)
      have HBM := Lib.hid (And.intro hB (And.intro hm hin))
      clear hcu hvu hB hm hxr
      by_cases hm3 : m ≤ 3000
      case neg =>
        have hm3i : (3000 : Int) < (m : Int) := by omega
        go_wp2_with fail
        refine (gun_opens _).mono ?_
        rintro e w2 ⟨rfl, hx2⟩
        have HX2 := Lib.hid ((HX.out.trans HSS.out.ext).trans hx2)
        clear hx2
        go_wp2_with fail
        go_ret
        exact ⟨rfl, HX2.out⟩
      have hm3i : ¬ (3000 : Int) < (m : Int) := by omega
      have hOk : OkLs (Ls.take i) := fun b hb => ⟨H3K.out b hb, (HB.out b (List.mem_of_mem_take hb)).2⟩
      have HTK := Lib.hid (show Ls.take (i + 1) = Ls.take i ++ [B] from by rw [HBM.out.1]; exact (HMB.out i hin).2)
      have hBb : ∀ x ∈ B, x < 256 := by rw [HBM.out.1]; exact (HMB.out i hin).1
      have HLN := Lib.hid (show (stoG h (Ls.take i)).length ≤ 60000 ∧ (memL h B).length ≤ 10000 ∧ (Ls.take i).flatten.length ≤ 30000 ∧ B.length = m ∧ m ≤ 3000 from by
        have h1 := stoG_len h may (by have := HSZ.out; omega) _ hOk
        have h2 := len_memL h B
        have h3 := pc_len h
        have h4 : (putH h).length ≤ (pc h).length + 2 := by
          unfold putH; split
          · rw [List.length_append, length_leN]; exact Nat.le_refl _
          · omega
        have h5 := HSZ.out
        have h6 := HBM.out.2.1
        have h7 : (Ls.take i).length ≤ 8 := by rw [List.length_take]; omega
        omega)
      have HBB := Lib.hid (And.intro hOk hBb)
      have HBW := Lib.hid (Touch.keep HSS.out.ext HBX.out (fun f => f))
      have HST2 := Lib.hid (show ∀ wx, Ext wr wx → Calls Tryz.prog 11 #[.agg #[.bool h.text, .int .u32 h.time, .int .u8 h.xfl, .int .u8 h.os, .slice eo xl ec, .string h.name, .string h.comment, .int .u8 h.has, .bool h.sum], .slice uo m uc] wx (CloneOf wx (memL h B)) from fun wx hx => HST.out wx ((HX.out.trans HSS.out.ext).trans hx) _ _ (HVU.out.ext hx) (by have := HLN.out; omega) HBB.out.2)
      clear hOk hBb
      go_wp2_with fail
      have hst : Stab (Phi [(65, u9), (66, .agg #[.bool h.text, .int .u32 h.time, .int .u8 h.xfl, .int .u8 h.os, .slice eo xl ec, .string h.name, .string h.comment, .int .u8 h.has, .bool h.sum]), (67, .slice (some ⟨rb, ro, none⟩) N rc), (68, .int .i64 i), (69, .pointer (some ⟨rb, ro + i, none⟩)), (70, .slice uo m uc)] [(71, fun (v : Value) (w' : World) => ∃ gu, Owns w' 5 1 v gu (memL h B).length (u8s (memL h B)) ∧ ∀ g, gu = some g → wr.heap.size ≤ g), (72, fun v w' => StoS h w0 (Ls.take (i + 1)) (Ls.take i) v u10 w'), (9, fun v w' => StoS h w0 (Ls.take (i + 1)) (Ls.take i) v u10 w')]) := Phi.stable (by
          intro x hx v wq w2 he hp
          simp only [List.mem_cons, List.not_mem_nil, or_false] at hx
          rcases hx with rfl | rfl | rfl
          · exact (let ⟨gu, h1, h2⟩ := hp; ⟨gu, h1.ext' he, h2⟩)
          · exact (StoS.ext' hp he)
          · exact (StoS.ext' hp he))
      refine wp_region_re 176 [9, 4, 0, 11] [65, 66, 67, 68, 69, 70, 71, 72, 9] 7 [0, 0, 0, 0, 0, 0, 0, 2, 1] (fun w' => Ext wr w') (fun w' => Ext w0 w') (by kernel_rfl) _ (Phi [(9, u9), (4, .pointer (some ⟨BX, 0, none⟩)), (0, .slice (some ⟨rb, ro, none⟩) N rc), (11, .int .i64 i)] []) hst (fun _ _ h k => h.trans k) (fun _ _ h k => h.trans k) (by kernel_rfl) rfl rfl (fun _ => ⟨rfl, rfl, rfl, rfl, trivial⟩) (Ext.refl wr) ⟨?_, ?_, ?_, ?_, ?_, ?_, ?_, ?_, ?_, trivial⟩ ?fin
      · refine OblR.val (u9) (fun ev wq hI hc hev => ?_)
        obtain ⟨hc, hf, hg⟩ := hc
        have h0 : ev (.tmp 9) = u9 := at_base hev.1 (by kernel_rfl)
        exact ⟨rfl, by (clear hev; go_simp), fun d hd => by cases hd; rfl⟩
      · refine OblR.val (.agg #[.bool h.text, .int .u32 h.time, .int .u8 h.xfl, .int .u8 h.os, .slice eo xl ec, .string h.name, .string h.comment, .int .u8 h.has, .bool h.sum]) (fun ev wq hI hc hev => ?_)
        obtain ⟨hc, hf, hg⟩ := hc
        have h0 : ev (.tmp 4) = .pointer (some ⟨BX, 0, none⟩) := at_base hev.1 (by kernel_rfl)
        clear hev
        obtain ⟨c0, c1, c2, c3, c4, c5, c6, c7, c8⟩ := box_cells (Touch.keep hI HBW.out (fun f => f))
        exact ⟨rfl, by go_simp, fun d hd => by cases hd; rfl⟩
      · refine OblR.val (.slice (some ⟨rb, ro, none⟩) N rc) (fun ev wq hI hc hev => ?_)
        obtain ⟨hc, hf, hg⟩ := hc
        have h0 : ev (.tmp 0) = .slice (some ⟨rb, ro, none⟩) N rc := at_base hev.1 (by kernel_rfl)
        exact ⟨rfl, by (clear hev; go_simp), fun d hd => by cases hd; rfl⟩
      · refine OblR.val (.int .i64 i) (fun ev wq hI hc hev => ?_)
        obtain ⟨hc, hf, hg⟩ := hc
        have h0 : ev (.tmp 11) = .int .i64 i := at_base hev.1 (by kernel_rfl)
        exact ⟨rfl, by (clear hev; go_simp), fun d hd => by cases hd; rfl⟩
      · refine OblR.val (.pointer (some ⟨rb, ro + i, none⟩)) (fun ev wq hI hc hev => ?_)
        obtain ⟨hc, hf, hg⟩ := hc
        have h0 : ev (.tmp 67) = .slice (some ⟨rb, ro, none⟩) N rc := at_new hev.1 (by kernel_rfl); have h1 : ev (.tmp 68) = .int .i64 i := at_new hev.2.1 (by kernel_rfl)
        exact ⟨rfl, by (clear hev; go_simp), fun d hd => by cases hd; rfl⟩
      · refine OblR.val (.slice uo m uc) (fun ev wq hI hc hev => ?_)
        obtain ⟨hc, hf, hg⟩ := hc
        have h0 : ev (.tmp 69) = .pointer (some ⟨rb, ro + i, none⟩) := at_new hev.1 (by kernel_rfl)
        clear hev
        have hc := cell_touch hI HCU.out (fun f => f)
        exact ⟨rfl, by go_simp, fun d hd => by cases hd; rfl⟩
      · refine OblR.call 11 #[.agg #[.bool h.text, .int .u32 h.time, .int .u8 h.xfl, .int .u8 h.os, .slice eo xl ec, .string h.name, .string h.comment, .int .u8 h.has, .bool h.sum], .slice uo m uc] (fun ev wq hI hc hev => ?_)
        obtain ⟨hc, hf, hg⟩ := hc
        have h0 : ev (.tmp 66) = .agg #[.bool h.text, .int .u32 h.time, .int .u8 h.xfl, .int .u8 h.os, .slice eo xl ec, .string h.name, .string h.comment, .int .u8 h.has, .bool h.sum] := at_new hev.1 (by kernel_rfl); have h1 : ev (.tmp 70) = .slice uo m uc := at_new hev.2.1 (by kernel_rfl)
        refine ⟨rfl, by (clear hev; go_simp), ?_⟩
        refine (HST2.out wq hI).mono ?_
        rintro e w2 ⟨u, gu, rfl, k1, k2, k3⟩
        exact ⟨u, rfl, k3, fun d hd => by cases hd; exact ⟨gu, k1, fun g e => Nat.le_trans hI.size (k2 g e)⟩⟩
      · refine OblRC.opt (fun ev wq hI hc hev => ?_)
        obtain ⟨hc, hf, hg⟩ := hc
        have h0 : ev (.tmp 65) = u9 := at_new hev.1 (by kernel_rfl); have h1 : (fun (v : Value) (w' : World) => ∃ gu, Owns w' 5 1 v gu (memL h B).length (u8s (memL h B)) ∧ ∀ g, gu = some g → wr.heap.size ≤ g) (ev (.tmp 71)) wq := at_new hev.2.1 (by kernel_rfl)
        clear hev
        obtain ⟨gu, k1, k2⟩ := h1
        have hS := HSS.out.ext' hI
        obtain ⟨v', w2', r1, r2, r3, r4⟩ := run_append_view (P := Tryz.prog) wq 0 22 22 5 i0 (.int .u8 0) 1 Tryz.underlying22 hi hz0 hz1 hz2 rfl u9 (stoG h (Ls.take i)).length (u8s (stoG h (Ls.take i))) hS.row (ev (.tmp 71)) (u8s (memL h B)) k1.viewL (u8s_one _) (by rw [length_u8s]; have := HLN.out; unfold maxLen; omega) (by rw [length_u8s]; have := HLN.out; omega) (Nat.zero_le _)
        have hr := hS.app HTK.out (by rw [length_u8s] at r2; exact r2) r3 r4
        refine ⟨rfl, v', w2', by simp [execOp, resolve, invoke, builtin, h0, r1, Result.andThen], hr.ext, fun t x ht hq => ?_, fun d hd => by cases hd; exact hr⟩
        have hkeep : ∀ k, wr.heap.size ≤ k → u9.ownBlock ≠ some k := fun k hk e => by have := HSS.out.lt k e; omega
        have htk : Touch (fun k => u9.ownBlock = some k) wq w2' := Touch.grown (Touch.refl _ wq) r3 (fun k e => Or.inl e)
        rw [show openSlots _ _ _ = [65, 66, 67, 68, 69, 70, 71] from by kernel_rfl] at ht
        simp only [List.mem_cons, List.not_mem_nil, or_false] at ht
        rcases ht with rfl | rfl | rfl | rfl | rfl | rfl | rfl
        · exact hq
        · exact hq
        · exact hq
        · exact hq
        · exact hq
        · exact hq
        · obtain ⟨gu', q1, q2⟩ : (fun (v : Value) (w' : World) => ∃ gu, Owns w' 5 1 v gu (memL h B).length (u8s (memL h B)) ∧ ∀ g, gu = some g → wr.heap.size ≤ g) x wq := hq
          exact ⟨gu', q1.keep htk (fun g e => hkeep g (q2 g e)), q2⟩
      · refine OblR.opt (fun ev wq hI hc hev => ?_)
        obtain ⟨hc, hf, hg⟩ := hc
        have h0 : (fun v w' => StoS h w0 (Ls.take (i + 1)) (Ls.take i) v u10 w') (ev (.tmp 72)) wq := at_new hev.1 (by kernel_rfl)
        clear hev
        exact ⟨rfl, ev (.tmp 72), by go_simp, fun d hd => by cases hd; exact h0⟩
      case fin =>
        intro vs w5 he5 hf
        have e65 : vs 65 = u9 := hf 65 (by decide)
        have e66 : vs 66 = .agg #[.bool h.text, .int .u32 h.time, .int .u8 h.xfl, .int .u8 h.os, .slice eo xl ec, .string h.name, .string h.comment, .int .u8 h.has, .bool h.sum] := hf 66 (by decide)
        have e67 : vs 67 = .slice (some ⟨rb, ro, none⟩) N rc := hf 67 (by decide)
        have e68 : vs 68 = .int .i64 i := hf 68 (by decide)
        have e69 : vs 69 = .pointer (some ⟨rb, ro + i, none⟩) := hf 69 (by decide)
        have e70 : vs 70 = .slice uo m uc := hf 70 (by decide)
        simp only [List.foldl_cons, List.foldl_nil]
        rw [e65, e66, e67, e68, e69, e70]
        generalize vs 71 = u71
        generalize vs 72 = u72
        have s9 : (fun v w' => StoS h w0 (Ls.take (i + 1)) (Ls.take i) v u10 w') (vs 9) w5 := hf 9 (by decide)
        generalize vs 9 = u9 at s9 ⊢
        simp only [Act.put, List.setIfInBounds_toArray, List.set_cons_succ, List.set_cons_zero]
        clear hf e65 e66 e67 e68 e69 e70
        have HF := Lib.hid s9
        clear s9 he5
        have hc := cell_touch (HX.out.trans HF.out.ext) HCW.out.1 (fun f => f)
        have HV5 := Lib.hid (HCW.out.2.ext (HX.out.trans HF.out.ext))
        obtain ⟨FW, hFW⟩ : ∃ FW, FW = (Ls.take i).flatten := ⟨_, rfl⟩
        have HFW := Lib.hid (show w5.ownsRow 0 5 1 u10 FW.length (u8s FW) ∧ FW = (Ls.take i).flatten ∧ FW.length ≤ 30000 from ⟨by rw [hFW]; exact HF.out.roww, hFW, by rw [hFW]; exact HLN.out.2.2.1⟩)
        clear hFW
        go_wp2_with (at_builtin; go_must (refine wpList_append_view _ rfl (.tmp 73) (.tmp 77) 22 rfl 0 5 i0 (.int .u8 0) 1 Tryz.underlying22 hi hz0 hz1 hz2 rfl _ FW.length (u8s FW) rfl HFW.out.1 _ (u8s B) rfl HV5.out (u8s_one _) (by rw [length_u8s]; have := HLN.out; have := HFW.out; unfold maxLen; omega) (by rw [length_u8s]; have := HLN.out; have := HFW.out; omega) (Nat.zero_le _) ?_))
        intro v6 w6 hown6 hgrow6 hat6
        rw [length_u8s, HFW.out.2.1] at hown6
        have HS6 := Lib.hid (HF.out.appw HTK.out hown6 hgrow6 hat6)
        have H3 := Lib.hid (show ∀ b ∈ Ls.take (i + 1), b.length ≤ 3000 from fun b hb => by
          rw [HTK.out] at hb
          rcases List.mem_append.1 hb with hb | hb
          · exact H3K.out b hb
          · rw [List.mem_singleton.1 hb]; have := HLN.out; omega)
        clear hown6 hgrow6 hat6 hc
        have hi8 : (i : Int) ≤ 8 := by have := HSZ.out; have := HBM.out.2.2; omega
        go_wp2_with fail
        go_roundw
        case rel => exact ⟨i + 1, by go_num, by have := HBM.out.2.2; omega, HS6.out, H3.out⟩
        case measure => simp [intOf]; have := HBM.out.2.2; omega
    · obtain rfl : i = N := by omega
      have hall : Ls.take i = Ls := List.take_of_length_le (by have := HSZ.out; omega)
      have hS := HSS.out
      rw [hall] at hS
      have hOk : OkLs Ls := fun b hb => ⟨H3K.out b (by rw [hall]; exact hb), (HB.out b hb).2⟩
      have hne : Ls ≠ [] := fun e => by have := HSZ.out; rw [e] at this; simp at this; omega
      have hLs : Ls = Ls.dropLast ++ [Ls.getLast hne] := (List.dropLast_concat_getLast hne).symm
      have hlen := stoG_len h may (by have := HSZ.out; omega) Ls hOk
      have hGp : 13 ≤ (stoG h Ls).length := by rw [hLs, stoG_snoc, List.length_append, len_memL]; omega
      obtain ⟨GL, hGL⟩ : ∃ GL, GL = (stoG h Ls).length := ⟨_, rfl⟩
      obtain ⟨WS, hWS⟩ : ∃ WS, WS = Ls.flatten := ⟨_, rfl⟩
      obtain ⟨WL, hWL⟩ : ∃ WL, WL = WS.length := ⟨_, rfl⟩
      have HN := Lib.hid (show GL = (stoG h Ls).length ∧ WS = Ls.flatten ∧ WL = WS.length ∧ GL ≤ 56000 ∧ WL ≤ 24000 ∧ 13 ≤ GL from by
        have := HSZ.out
        refine ⟨hGL, hWS, hWL, ?_, ?_, by omega⟩
        · omega
        · rw [hWL, hWS]; omega)
      obtain ⟨⟨og, ow, ho1, ho2, hn1, hn2, hn3⟩, hx0⟩ := hS
      rw [← hGL] at ho1
      rw [← hWS, ← hWL] at ho2
      obtain ⟨gb, gc, rfl, rfl⟩ : ∃ gb gc, u9 = .slice (some ⟨gb, 0, none⟩) GL gc ∧ og = some gb := by
        rcases ho1.form with ⟨_, _, e0, _⟩ | ⟨gb, gc, cur, e1, e2, _⟩
        · have := HN.out; omega
        · exact ⟨gb, gc, e2, e1⟩
      obtain ⟨wo, wc, rfl⟩ := ho2.shape
      have HO := Lib.hid (show Owns wr 5 1 (.slice (some ⟨gb, 0, none⟩) GL gc) (some gb) GL (u8s (stoG h Ls)) ∧ w.heap.size ≤ gb from ⟨ho1, Nat.le_trans HX.out.size (hn1 gb rfl)⟩)
      have HOW := Lib.hid (show Owns wr 5 1 (.slice wo WL wc) ow WL (u8s WS) ∧ ow ≠ some gb from ⟨ho2, hn3 gb rfl⟩)
      have HX := Lib.hid (HX.out.trans hx0)
      have HP := Lib.hid (show (∀ k, gunF (stoG h Ls) k = some (WS, false)) ∧ (∀ k, gunF ((stoG h Ls).take (GL - 1)) k = none) ∧ (∀ j u, j < 8 → u ≠ (stoG h Ls).getD (GL - 1 - j) 0 → gunF ((stoG h Ls).set (GL - 1 - j) u) WL = some (WS, true)) ∧ ∀ x ∈ stoG h Ls, x < 256 from by
        have hOk2 := hOk
        rw [hLs] at hOk2
        refine ⟨fun k => ?_, fun k => ?_, fun j u hj hu => ?_, stoG_lt h ok may Ls hOk⟩
        · have q := sto_all h ok may _ _ hOk2 k
          rw [← hLs, ← hWS] at q; exact q
        · have q := sto_short h ok may _ _ hOk2 k
          rw [← hLs, ← hGL] at q; exact q
        · have q := sto_turn h ok may _ _ hOk2 j hj u (by rw [← hLs, ← hGL]; exact hu)
          rw [← hLs, ← hGL, ← hWS, ← hWL] at q; exact q)
      clear hall hOk hne hLs hlen hGp hGL hWS hWL ho1 ho2 hn1 hn2 hn3 hx0 HAT HMB HS0 HST HSS H3K
      go_wp2_with fail
      refine (gun_known (v := .slice (some ⟨gb, 0, none⟩) GL gc) (keep := WL) (L := WS) (M := WL) (N := WL) (G := GL) (HP.out.1 WL) (List.take_of_length_le (by rw [← HN.out.2.2.1]; exact Nat.le_refl _)) HN.out.2.2.1.symm HN.out.2.2.1.symm HN.out.1.symm HO.out.1.viewL (by have := HN.out; omega) HP.out.2.2.2 (by have := HN.out; omega)).mono ?_
      rintro e w1 ⟨fo, fc, rfl, hv1, hx1⟩
      have HVF := Lib.hid hv1
      have HO := Lib.hid (And.intro (HO.out.1.ext' hx1) HO.out.2)
      have HOW := Lib.hid (And.intro (HOW.out.1.ext' hx1) HOW.out.2)
      have HX := Lib.hid (HX.out.trans hx1)
      clear hv1 hx1
      obtain ⟨w2, hw2⟩ : ∃ w2, w2 = w1.alloc (.cells #[.slice fo WL fc, .int .i64 WL, .int .i64 GL, .bool false] 24) := ⟨_, rfl⟩
      obtain ⟨qf, hqf⟩ : ∃ qf, qf = w1.heap.size := ⟨_, rfl⟩
      have hx2 : Ext w1 w2 := by rw [hw2]; exact (Ext.refl _).alloc _
      have HF := Lib.hid (show FB w2 qf (.slice fo WL fc) WL GL false by rw [hw2, hqf]; exact FB.new _ _ _ _ _)
      have HVF := Lib.hid (HVF.out.ext hx2)
      have HO := Lib.hid (And.intro (HO.out.1.ext' hx2) HO.out.2)
      have HOW := Lib.hid (And.intro (HOW.out.1.ext' hx2) HOW.out.2)
      have HX := Lib.hid (HX.out.trans hx2)
      have HW2 := Lib.hid (And.intro hw2 hqf)
      obtain ⟨a0, a1, a2, a3⟩ := HF.out.cells.1
      have hs1 := run_string_view (P := Tryz.prog) 22 9 5 (viewL_view8 HVF.out) Tryz.underlying22 Tryz.underlying5 Tryz.underlying9
      have hs2 := run_string_view (P := Tryz.prog) 22 9 5 (viewL_view8 (HN.out.2.2.1 ▸ HOW.out.1.viewL : ViewL w2 (.slice wo WL wc) (u8s WS))) Tryz.underlying22 Tryz.underlying5 Tryz.underlying9
      obtain ⟨S, hS⟩ : ∃ S, S = strOf WS := ⟨_, rfl⟩
      rw [← hS] at hs1 hs2
      have HS := Lib.hid hS
      obtain ⟨G1, hG1⟩ : ∃ G1, G1 + 1 = GL := ⟨GL - 1, by have := HN.out; omega⟩
      have hg1 : IntKind.i64.wrap ((GL : Int) - 1) = (G1 : Int) := by
        have := HN.out
        rw [show (GL : Int) - 1 = (G1 : Int) by omega]; exact IntWalk.i64_in _ (by omega)
      have hgc : (G1 : Int) ≤ (gc : Int) := by have := viewL_cap HO.out.1.viewL; omega
      have HG1 := Lib.hid hG1
      have HM := Lib.hid (show ∀ wx, Ext w2 wx → Calls Tryz.prog 6 #[.slice (some ⟨gb, 0, none⟩) G1 gc, .int .i64 WL] wx (GotN wx 2) from fun wx hx => by
        have q := (HO.out.1.ext' hx).viewL.front G1 (by omega)
        rw [show (u8s (stoG h Ls)).take G1 = u8s ((stoG h Ls).take (GL - 1)) by rw [show GL - 1 = G1 by omega]; simp [u8s, List.map_take]] at q
        exact gun_no (HP.out.2.1 WL) q (by rw [List.length_take]; have := HN.out; omega) (fun x hx => HP.out.2.2.2 x (List.mem_of_mem_take hx)) (by have := HN.out; omega))
      rw [hw2] at a0 a1 a2 a3 hs1 hs2
      rw [hqf] at a0 a1 a2 a3
      clear hx2 hw2 hqf hS hG1
      go_wp2_with fail
      rw [← HW2.out.1]
      clear a0 a1 a2 a3 hs1 hs2 hg1
      refine (HM.out _ (Ext.refl _)).mono ?_
      clear HM
      rintro e w3 ⟨rfl, hx3⟩
      have HO := Lib.hid (And.intro (HO.out.1.ext' hx3) HO.out.2)
      have HOW := Lib.hid (And.intro (HOW.out.1.ext' hx3) HOW.out.2)
      have HX := Lib.hid (HX.out.trans hx3)
      clear hx3
      obtain ⟨w4, hw4⟩ : ∃ w4, w4 = w3.alloc (.cells #[.slice none 0 0, .int .i64 0, .int .i64 0, .bool false] 24) := ⟨_, rfl⟩
      have hx4 : Ext w3 w4 := by rw [hw4]; exact (Ext.refl _).alloc _
      have HO := Lib.hid (And.intro (HO.out.1.ext' hx4) HO.out.2)
      have HOW := Lib.hid (And.intro (HOW.out.1.ext' hx4) HOW.out.2)
      have HX := Lib.hid (HX.out.trans hx4)
      have HW4 := Lib.hid hw4
      have hg1 : IntKind.i64.wrap ((GL : Int) - 1) = (G1 : Int) := by
        have := HN.out
        have := HG1.out
        rw [show (GL : Int) - 1 = (G1 : Int) by omega]; exact IntWalk.i64_in _ (by omega)
      have hr8 : Int.tmod (turn : Int) 8 = ((turn % 8 : Nat) : Int) := by rw [Int.tmod_eq_emod_of_nonneg (by omega)]; omega
      have hr7 : Int.tmod (turn : Int) 7 = ((turn % 7 : Nat) : Int) := by rw [Int.tmod_eq_emod_of_nonneg (by omega)]; omega
      obtain ⟨T8, hT8⟩ : ∃ T8, T8 = turn % 8 := ⟨_, rfl⟩
      obtain ⟨T7, hT7⟩ : ∃ T7, T7 = turn % 7 := ⟨_, rfl⟩
      rw [← hT8] at hr8
      rw [← hT7] at hr7
      obtain ⟨I, hI⟩ : ∃ I, I = G1 - T8 := ⟨_, rfl⟩
      have HI := Lib.hid (show I = GL - 1 - T8 ∧ T8 < 8 ∧ T7 < 7 ∧ I < GL from ⟨by have := HG1.out; omega, by omega, by omega, by have := HG1.out; omega⟩)
      have hii : IntKind.i64.wrap ((G1 : Int) - (T8 : Int)) = (I : Int) := by
        have := HN.out
        have := HG1.out
        rw [show (G1 : Int) - (T8 : Int) = (I : Int) by omega]; exact IntWalk.i64_in _ (by omega)
      have hig : (I : Int) < (GL : Int) := by have := HI.out; omega
      have ht8 : (turn : Int) ≤ 255 := by omega
      obtain ⟨Y, hY⟩ : ∃ Y, Y = (stoG h Ls).getD I 0 := ⟨_, rfl⟩
      have hyl : Y < 256 := by
        rw [hY, List.getD, List.getElem?_eq_getElem (by rw [← HN.out.1]; exact HI.out.2.2.2)]
        exact HP.out.2.2.2 _ (List.getElem_mem _)
      have cY : w4.cell? ⟨gb, I, none⟩ = some (.int .u8 Y) := HO.out.1.cell I _ (by rw [hY]; exact getElem?_u8s _ I (by rw [← HN.out.1]; exact HI.out.2.2.2))
      have fY := HO.out.1.free I
      obtain ⟨g1, g2, g3⟩ := xorb ⟨Y, hyl⟩ ⟨T7, by have := HI.out; omega⟩
      obtain ⟨Z, hZ⟩ : ∃ Z, Z = Y ^^^ 2 ^ T7 := ⟨_, rfl⟩
      simp only at g1 g2 g3
      rw [← hZ] at g1 g2 g3
      have HZ := Lib.hid (show Z ≠ (stoG h Ls).getD I 0 ∧ Z < 256 from ⟨by rw [← hY]; exact g1, g2⟩)
      have h7i : (T7 : Int) < 7 := by have := HI.out; omega
      have HXR := Lib.hid g3
      rw [hw4] at cY fY
      clear hx4 hw4 g1 g2 g3 hZ hY hT8 hT7 hI hyl hk
      have hZZ : bits .xor .u8 (Y : Int) (2 ^ T7 % 256) = (Z : Int) := by
        have q := HXR.out
        have e : ((2 ^ T7 : Nat) : Int) = 2 ^ T7 % 256 := by
          have h7 := HI.out.2.2.1
          have : T7 = 0 ∨ T7 = 1 ∨ T7 = 2 ∨ T7 = 3 ∨ T7 = 4 ∨ T7 = 5 ∨ T7 = 6 := by omega
          rcases this with rfl | rfl | rfl | rfl | rfl | rfl | rfl <;> rfl
        rw [e] at q
        exact q
      go_wp2_with fail
      rw [← HW4.out]
      clear cY fY hr8 hr7 hii hig ht8 h7i hg1 hgc hZZ HXR
      obtain ⟨w5, hw5⟩ : ∃ w5, w5 = w4.setCell ⟨gb, I, none⟩ (.int .u8 Z) := ⟨_, rfl⟩
      have ht5 : Touch (fun k => k = gb) w4 w5 := by rw [hw5]; exact (Touch.refl (fun k => k = gb) w4).setCell (Or.inl rfl) _
      have ho5 : Owns w5 5 1 (.slice (some ⟨gb, 0, none⟩) GL gc) (some gb) GL (u8s ((stoG h Ls).set I Z)) := by
        rw [hw5, u8s_set]; exact HO.out.1.set I _ HI.out.2.2.2
      have HV5 := Lib.hid ho5.viewL
      have HOW := Lib.hid (show Owns w5 5 1 (.slice wo WL wc) ow WL (u8s WS) from HOW.out.1.keep ht5 (fun k e f => HOW.out.2 (by rw [e, f])))
      have HX := Lib.hid (show Ext w w5 from Touch.trans (S := fun _ => False) HX.out ht5 (fun k hk e => by have := HO.out.2; omega))
      rw [← hw5]
      clear hw5 ht5 ho5
      have hgt := HP.out.2.2.1 T8 Z HI.out.2.1 (by rw [← HI.out.1]; exact HZ.out.1)
      rw [← HI.out.1] at hgt
      refine (gun_known (v := .slice (some ⟨gb, 0, none⟩) GL gc) (keep := WL) (L := WS) (M := WL) (N := WL) (G := GL) hgt (List.take_of_length_le (by rw [← HN.out.2.2.1]; exact Nat.le_refl _)) HN.out.2.2.1.symm HN.out.2.2.1.symm (by rw [List.length_set]; exact HN.out.1.symm) HV5.out (by rw [List.length_set]; have := HN.out; omega) (fun x hx => by
        rcases List.mem_or_eq_of_mem_set hx with hx | hx
        · exact HP.out.2.2.2 x hx
        · rw [hx]; exact HZ.out.2) (by have := HN.out; omega)).mono ?_
      clear hgt
      rintro e w6 ⟨xo, xc, rfl, hv6, hx6⟩
      have HVX := Lib.hid hv6
      have HOW := Lib.hid (HOW.out.ext' hx6)
      have HX := Lib.hid (HX.out.trans hx6)
      clear hv6 hx6
      obtain ⟨w7, hw7⟩ : ∃ w7, w7 = w6.alloc (.cells #[.slice xo WL xc, .int .i64 WL, .int .i64 GL, .bool true] 24) := ⟨_, rfl⟩
      obtain ⟨qx, hqx⟩ : ∃ qx, qx = w6.heap.size := ⟨_, rfl⟩
      have hx7 : Ext w6 w7 := by rw [hw7]; exact (Ext.refl _).alloc _
      have HXB := Lib.hid (show FB w7 qx (.slice xo WL xc) WL GL true by rw [hw7, hqx]; exact FB.new _ _ _ _ _)
      have HVX := Lib.hid (HVX.out.ext hx7)
      have HOW := Lib.hid (HOW.out.ext' hx7)
      have HX := Lib.hid (HX.out.trans hx7)
      have HW7 := Lib.hid hw7
      obtain ⟨a0, a1, a2, a3⟩ := HXB.out.cells.1
      have hs1 := run_string_view (P := Tryz.prog) 22 9 5 (viewL_view8 HVX.out) Tryz.underlying22 Tryz.underlying5 Tryz.underlying9
      have hs2 := run_string_view (P := Tryz.prog) 22 9 5 (viewL_view8 (HN.out.2.2.1 ▸ HOW.out.viewL : ViewL w7 (.slice wo WL wc) (u8s WS))) Tryz.underlying22 Tryz.underlying5 Tryz.underlying9
      rw [← HS.out] at hs1 hs2
      rw [hw7] at a0 a1 a2 a3 hs1 hs2
      rw [hqx] at a0 a1 a2 a3
      clear hx7 hw7 hqx
      go_wp2_with fail
      rw [← HW7.out]
      clear a0 a1 a2 a3 hs1 hs2
      refine (gun_opens _).mono ?_
      rintro e w8 ⟨rfl, hx8⟩
      have HX := Lib.hid (HX.out.trans hx8)
      clear hx8
      go_wp2_with fail
      go_ret
      exact ⟨rfl, HX.out⟩
end Go.Proofs.YtbbcphloafmldaaGreat
