/- The document's Get: its walk. -/
import Derived.Deep.RegionHeld3
import Derived.Deep.DeepCutAuto
import Derived.Test.YtmhkjcoidjpocaaFrmRefOut
namespace Go.Proofs.Ytmhkjcoidjpocaa
open Go.RowKit
set_option linter.unusedVariables false
set_option linter.unusedSimpArgs false

/-- what is stored so far. -/
def strip (h : Hd) : Hd := { hdZ with extra := h.extra, name := h.name, comment := h.comment, sum := h.sum }
theorem add_at (b o i : Nat) : (⟨b, o, none⟩ : Addr).add i = ⟨b, o + i, none⟩ := by unfold Addr.add; split <;> simp_all
structure Base (bs : List Nat) (F k : Nat) (h : Hd) : Prop where
  text : h.text = decide (F % 2 = 1)
  time : h.time = valL ((bs.drop 4).take 4)
  xfl : h.xfl = bs.getD 8 0
  os : h.os = bs.getD 9 0
  has : h.has = hasK F k
set_option maxHeartbeats 8000000 in
set_option maxRecDepth 100000 in
theorem frm_ref_get (v : Value) (bs : List Nat) (w : World) (hv : ViewL w v (u8s bs)) (hl : bs.length ≤ 2 ^ 40) (hb : ∀ b ∈ bs, b < 256) : Calls Try.prog 16 #[v] w (GotH w bs) := by
  obtain ⟨i0, hi, hz0, hz1, hz2⟩ := info_parts info_u8
  obtain ⟨bo, bcap, rfl⟩ := hv.shape
  rw [length_u8s] at *
  have HV := Lib.hid hv
  have HB := Lib.hid hb
  clear hb
  have HR0 := Lib.hid (RS.start w)
  by_cases h10 : 10 ≤ bs.length
  · obtain ⟨gb, go, rfl, hcap, hcs⟩ := viewL_cells hv (by rw [length_u8s]; omega)
    rw [length_u8s] at hcap
    have hx2 := HR0.out.ext
    have hcell : ∀ wx, Ext w wx → ∀ j, j < bs.length → wx.cell? ⟨gb, go + j, none⟩ = some (.int .u8 (bs.getD j 0 : Nat)) := fun wx hx j hj => cell_touch hx (hcs j _ (by simp [u8s, hj, List.getD, List.getElem?_eq_getElem hj])) (fun f => f)
    obtain ⟨F, hF⟩ : ∃ F, F = bs.getD 3 0 := ⟨_, rfl⟩
    obtain ⟨B0, hB0⟩ : ∃ F, F = bs.getD 0 0 := ⟨_, rfl⟩
    obtain ⟨B1, hB1⟩ : ∃ F, F = bs.getD 1 0 := ⟨_, rfl⟩
    obtain ⟨B2, hB2⟩ : ∃ F, F = bs.getD 2 0 := ⟨_, rfl⟩
    have hEq : bs.take 3 = [31, 139, 8] ↔ (B0 = 31 ∧ B1 = 139 ∧ B2 = 8) := by
      rw [hB0, hB1, hB2]
      match bs, h10 with
      | a :: b :: c :: l, _ => simp
    have e0 : ((w.alloc (.cells #[.bool false, .int .u32 0, .int .u8 0, .int .u8 0, .slice none 0 0, .string ⟨#[]⟩, .string ⟨#[]⟩, .int .u8 0, .bool false] 25)).alloc (.cells #[.bool false, .int .u32 0, .int .u8 0, .int .u8 0, .slice none 0 0, .string ⟨#[]⟩, .string ⟨#[]⟩, .int .u8 0, .bool false] 25)).cell? ⟨gb, go, none⟩ = some (.int .u8 B0) := by rw [hB0]; exact hcell _ hx2 0 (by omega)
    have e1 : ((w.alloc (.cells #[.bool false, .int .u32 0, .int .u8 0, .int .u8 0, .slice none 0 0, .string ⟨#[]⟩, .string ⟨#[]⟩, .int .u8 0, .bool false] 25)).alloc (.cells #[.bool false, .int .u32 0, .int .u8 0, .int .u8 0, .slice none 0 0, .string ⟨#[]⟩, .string ⟨#[]⟩, .int .u8 0, .bool false] 25)).cell? ⟨gb, go + 1, none⟩ = some (.int .u8 B1) := by rw [hB1]; exact hcell _ hx2 1 (by omega)
    have e2 : ((w.alloc (.cells #[.bool false, .int .u32 0, .int .u8 0, .int .u8 0, .slice none 0 0, .string ⟨#[]⟩, .string ⟨#[]⟩, .int .u8 0, .bool false] 25)).alloc (.cells #[.bool false, .int .u32 0, .int .u8 0, .int .u8 0, .slice none 0 0, .string ⟨#[]⟩, .string ⟨#[]⟩, .int .u8 0, .bool false] 25)).cell? ⟨gb, go + 2, none⟩ = some (.int .u8 B2) := by rw [hB2]; exact hcell _ hx2 2 (by omega)
    have e3 : ((w.alloc (.cells #[.bool false, .int .u32 0, .int .u8 0, .int .u8 0, .slice none 0 0, .string ⟨#[]⟩, .string ⟨#[]⟩, .int .u8 0, .bool false] 25)).alloc (.cells #[.bool false, .int .u32 0, .int .u8 0, .int .u8 0, .slice none 0 0, .string ⟨#[]⟩, .string ⟨#[]⟩, .int .u8 0, .bool false] 25)).cell? ⟨gb, go + 3, none⟩ = some (.int .u8 F) := by rw [hF]; exact hcell _ hx2 3 (by omega)
    have HCELL := Lib.hid hcell
    have HFD := Lib.hid hF
    have HEQ := Lib.hid hEq
    have hcapi : (bs.length : Int) ≤ (bcap : Int) := by omega
    have h10i : ¬ (bs.length : Int) < 10 := by omega
    clear hcell hF hB0 hB1 hB2 hEq hcs hx2 hv
    have HG := Lib.hid (show getH bs = if B0 = 31 ∧ B1 = 139 ∧ B2 = 8 ∧ F < 32 then rk0 bs F (hd0 bs, 10) else none by
      by_cases hc : B0 = 31 ∧ B1 = 139 ∧ B2 = 8 ∧ F < 32
      · rw [if_pos hc, HFD.out]; exact getH_rest h10 (HEQ.out.2 ⟨hc.1, hc.2.1, hc.2.2.1⟩) (by rw [← HFD.out]; exact hc.2.2.2)
      · rw [if_neg hc, getH, if_neg (fun hh => hc (by have := HEQ.out.1 hh.2.1; rw [HFD.out]; exact ⟨this.1, this.2.1, this.2.2, hh.2.2⟩))])
    by_cases k0 : B0 = 31
    case neg =>
      have HN := Lib.hid (show getH bs = none by rw [HG.out, if_neg (by omega)])
      have t0 : ((B0 : Int) != 31) = true := by simp; omega
      go_enter Try.func16, Try.ntmps16
      go_wp2_with fail
      exact ref_no0 HN.out HR0.out rfl rfl rfl rfl
    have s0 : ((B0 : Int) != 31) = false := by simp; omega
    by_cases k1 : B1 = 139
    case neg =>
      have HN := Lib.hid (show getH bs = none by rw [HG.out, if_neg (by omega)])
      have t1 : ((B1 : Int) != 139) = true := by simp; omega
      go_enter Try.func16, Try.ntmps16
      go_wp2_with fail
      exact ref_no0 HN.out HR0.out rfl rfl rfl rfl
    have s1 : ((B1 : Int) != 139) = false := by simp; omega
    by_cases k2 : B2 = 8
    case neg =>
      have HN := Lib.hid (show getH bs = none by rw [HG.out, if_neg (by omega)])
      have t2 : ((B2 : Int) != 8) = true := by simp; omega
      go_enter Try.func16, Try.ntmps16
      go_wp2_with fail
      exact ref_no0 HN.out HR0.out rfl rfl rfl rfl
    have s2 : ((B2 : Int) != 8) = false := by simp; omega
    by_cases h32 : F < 32
    case neg =>
      have HN := Lib.hid (show getH bs = none by rw [HG.out, if_neg (by omega)])
      have t3 : (31 : Int) < (F : Int) := by omega
      go_enter Try.func16, Try.ntmps16
      go_wp2_with fail
      exact ref_no0 HN.out HR0.out rfl rfl rfl rfl
    have HG0 := Lib.hid (show getH bs = rk0 bs F (hd0 bs, 10) by rw [HG.out, if_pos ⟨k0, k1, k2, h32⟩])
    have t3 : ¬ (31 : Int) < (F : Int) := by omega
    clear HG HEQ k0 k1 k2
    go_enter Try.func16, Try.ntmps16
    go_upto_if 47 with fail
    obtain ⟨w2, hw2⟩ : ∃ w2, w2 = (w.alloc (.cells #[.bool false, .int .u32 0, .int .u8 0, .int .u8 0, .slice none 0 0, .string ⟨#[]⟩, .string ⟨#[]⟩, .int .u8 0, .bool false] 25)).alloc (.cells #[.bool false, .int .u32 0, .int .u8 0, .int .u8 0, .slice none 0 0, .string ⟨#[]⟩, .string ⟨#[]⟩, .int .u8 0, .bool false] 25) := ⟨_, rfl⟩
    rw [← hw2]
    have HR2 := Lib.hid (show RS w hdZ (.slice none 0 0) w2 by rw [hw2]; exact HR0.out)
    have HHD := Lib.hid (show Base bs F 0 (hd0 bs) from ⟨by rw [HFD.out]; rfl, rfl, rfl, rfl, rfl⟩)
    clear hw2 e0 e1 e2 e3 HR0 s0 s1 s2 t3
    go_cut [8] (fun atv wx => ∃ (h : Hd) (n : Nat) (ev : Value), atv = .int .i64 n ∧ n ≤ bs.length ∧ RS w (strip h) ev wx ∧ Hid (getH bs = rk1 bs F (h, n)) ∧ Base bs F 1 h)
    case first =>
      by_cases hbit : F / 4 % 2 = 1
      · have kb : ((F : Int) / 4 % 2 == 1) = true := by simp; omega
        by_cases h12 : 12 ≤ bs.length
        · have h12i : ¬ (bs.length : Int) < 12 := by omega
          have hpv := (show ViewL w (.slice (some ⟨gb, go, none⟩) (u8s bs).length bcap) (u8s bs) by rw [length_u8s]; exact HV.out).piece 10 2 (by rw [length_u8s]; omega) (by omega)
          have e4 : ((u8s bs).drop 10).take 2 = u8s ((bs.drop 10).take 2) := by simp only [u8s, ← List.map_drop, ← List.map_take]
          rw [e4] at hpv
          obtain ⟨L, hL⟩ : ∃ L, L = exL bs 10 := ⟨_, rfl⟩
          have hLl : L < 65536 := by rw [hL]; exact exL_lt bs 10 HB.out
          have hval : ∀ wx, Ext w wx → Calls Try.prog 34 #[.slice (some ⟨gb, go + 10, none⟩) 2 (bcap - 10)] wx fun e w' => e = .returned (.int .u32 L) ∧ wx = w' := fun wx hx => by
            rw [hL]
            exact frm_ref_value _ _ wx (hpv.ext hx) (fun x hx => HB.out x (List.mem_of_mem_drop (List.mem_of_mem_take hx))) (by simp; omega)
          have HVAL := Lib.hid hval
          have HLD := Lib.hid hL
          have kc : IntKind.i64.wrap (L : Int) = (L : Int) := IntWalk.i64_in _ (by omega)
          have c12 : (12 : Int) ≤ (bcap : Int) := by omega
          have c12b : (10 : Int) ≤ (bcap : Int) := by omega
          clear hval hL hpv e4
          by_cases hx : 10 + 2 + L ≤ bs.length
          · have hxi : ¬ ((bs.length : Int) - 12 < (L : Int)) := by omega
            have HEL := Lib.hid (show (exB bs 10).length = L by rw [exB, ← HLD.out, List.length_take, List.length_drop]; omega)
            have HR1 := Lib.hid (show getH bs = rk1 bs F ({ hd0 bs with has := (hd0 bs).has + 1, extra := exB bs 10 }, 10 + 2 + L) by rw [HG0.out, rk0, stX, if_pos hbit]; simp only [← HLD.out]; rw [if_pos hx]; rfl)
            have HH := Lib.hid (show (hd0 bs).has + 1 = hasK F 1 from (has_s0 F).1 hbit)
            have hs2 := HR2.out.ext.size
            have hs2b := block_lt HR2.out.box
            have HOWN := Lib.hid (show (w2.alloc (.cells #[] 5)).ownsRow (w.heap.size + 2) 5 1 (.slice (some ⟨w2.heap.size, 0, none⟩) 0 0) 0 [] from World.ownsRow_made w2 #[] 0 (by omega) (by decide) rfl)
            by_cases hb12 : bcap = 12
            · have hL0 : L = 0 := by omega
              have HVE := Lib.hid (show ViewL (w2.alloc (.cells #[] 5)) (.slice (some ⟨gb, go, none⟩) 0 0) (u8s (exB bs 10)) by
                rw [List.eq_nil_of_length_eq_zero (HEL.out.trans hL0)]; exact view_none0' _ _)
              subst hb12
              subst hL0
              go_wp2_with fail
              refine (HVAL.out _ HR2.out.ext).mono ?_
              rintro e w3 ⟨rfl, rfl⟩
              go_wp2_with fail
              refine (HVAL.out _ HR2.out.ext).mono ?_
              rintro e w3 ⟨rfl, rfl⟩
              go_wp2_with (at_builtin; go_must (refine wpList_append_view _ rfl (.tmp 67) (.tmp 70) 23 rfl (w.heap.size + 2) 5 i0 (.int .u8 0) 1 Try.underlying23 hi hz0 hz1 hz2 rfl _ 0 [] rfl HOWN.out _ (u8s (exB bs 10)) rfl HVE.out (u8s_one _) (by rw [length_u8s, HEL.out]; unfold maxLen; omega) (by rw [length_u8s, HEL.out]; omega) (by rw [World.size_alloc]; omega) ?_))
              intro v' w3 hown' hgrow hat
              have hx3 : Ext w2 w3 := Touch.grown ((Ext.refl w2).alloc _) hgrow (fun k e => Or.inr (by cases e; exact Nat.le_refl _))
              have hr3 := HR2.out.up hx3
              have ho3 : Owns w3 5 1 v' v'.ownBlock (exB bs 10).length (u8s (exB bs 10)) := ⟨by simpa [length_u8s] using ownsRow_zero hown', rfl⟩
              obtain ⟨so, sc, rfl⟩ := ho3.shape
              have hob : ∀ g, (Value.slice so (exB bs 10).length sc).ownBlock = some g → w.heap.size + 2 ≤ g := own_block_ge hown'
              have v4 : w3.cell? ⟨w.heap.size + 1, 4, none⟩ = some (.slice none 0 0) := hr3.box.cell 4
              have y4 := hr3.free 4
              have HF := Lib.hid (hr3.set (h2 := strip { hd0 bs with has := (hd0 bs).has + 1, extra := exB bs 10 }) (ev2 := .slice so (exB bs 10).length sc) 4 (.slice so (exB bs 10).length sc) rfl ⟨_, ho3, hob⟩)
              clear hown' hgrow hat hx3 hr3 ho3 hob
              go_wp2_with fail
              go_meet
              exact ⟨_, 10 + 2 + 0, _, by go_num, hx, HF.out, HR1, ⟨HHD.out.text, HHD.out.time, HHD.out.xfl, HHD.out.os, HH.out⟩⟩
            · have HVE := Lib.hid (show ViewL (w2.alloc (.cells #[] 5)) (.slice (some ⟨gb, go + 12, none⟩) L (bcap - 12)) (u8s (exB bs 10)) by
                have hp := (show ViewL w (.slice (some ⟨gb, go, none⟩) (u8s bs).length bcap) (u8s bs) by rw [length_u8s]; exact HV.out).piece 12 L (by rw [length_u8s]; omega) hb12
                have e4 : ((u8s bs).drop 12).take L = u8s (exB bs 10) := by rw [exB, ← HLD.out]; simp only [u8s, ← List.map_drop, ← List.map_take]
                rw [e4] at hp
                exact hp.ext (HR2.out.ext.alloc _))
              go_wp2_with fail
              refine (HVAL.out _ HR2.out.ext).mono ?_
              rintro e w3 ⟨rfl, rfl⟩
              go_wp2_with fail
              refine (HVAL.out _ HR2.out.ext).mono ?_
              rintro e w3 ⟨rfl, rfl⟩
              go_wp2_with (at_builtin; go_must (refine wpList_append_view _ rfl (.tmp 67) (.tmp 70) 23 rfl (w.heap.size + 2) 5 i0 (.int .u8 0) 1 Try.underlying23 hi hz0 hz1 hz2 rfl _ 0 [] rfl HOWN.out (.slice (some ⟨gb, go + 12, none⟩) L (bcap - 12)) (u8s (exB bs 10)) (by simp [Act.eval]) HVE.out (u8s_one _) (by rw [length_u8s, HEL.out]; unfold maxLen; omega) (by rw [length_u8s, HEL.out]; omega) (by rw [World.size_alloc]; omega) ?_))
              intro v' w3 hown' hgrow hat
              have hx3 : Ext w2 w3 := Touch.grown ((Ext.refl w2).alloc _) hgrow (fun k e => Or.inr (by cases e; exact Nat.le_refl _))
              have hr3 := HR2.out.up hx3
              have ho3 : Owns w3 5 1 v' v'.ownBlock (exB bs 10).length (u8s (exB bs 10)) := ⟨by simpa [length_u8s] using ownsRow_zero hown', rfl⟩
              obtain ⟨so, sc, rfl⟩ := ho3.shape
              have hob : ∀ g, (Value.slice so (exB bs 10).length sc).ownBlock = some g → w.heap.size + 2 ≤ g := own_block_ge hown'
              have v4 : w3.cell? ⟨w.heap.size + 1, 4, none⟩ = some (.slice none 0 0) := hr3.box.cell 4
              have y4 := hr3.free 4
              have HF := Lib.hid (hr3.set (h2 := strip { hd0 bs with has := (hd0 bs).has + 1, extra := exB bs 10 }) (ev2 := .slice so (exB bs 10).length sc) 4 (.slice so (exB bs 10).length sc) rfl ⟨_, ho3, hob⟩)
              clear hown' hgrow hat hx3 hr3 ho3 hob
              go_wp2_with fail
              go_meet
              exact ⟨_, 10 + 2 + L, _, by go_num, hx, HF.out, HR1, ⟨HHD.out.text, HHD.out.time, HHD.out.xfl, HHD.out.os, HH.out⟩⟩
          · have hxi : ((bs.length : Int) - 12 < (L : Int)) := by omega
            have HN := Lib.hid (show getH bs = none by rw [HG0.out, rk0, stX, if_pos hbit]; simp only [← HLD.out]; rw [if_neg hx]; rfl)
            obtain ⟨v0, y0, v1, y1, v2, y2, v3, y3, v4, y4, v5, y5, v6, y6, v7, y7, v8, y8⟩ := HR2.out.vcells
            obtain ⟨q0, z0, q1, z1, q2, z2, q3, z3, q4, z4, q5, z5, q6, z6, q7, z7, q8, z8⟩ := HR2.out.rcells
            go_wp2_with fail
            refine (HVAL.out _ HR2.out.ext).mono ?_
            rintro e w3 ⟨rfl, rfl⟩
            go_wp2_with fail
            exact ref_no HN.out HR2.out rfl rfl rfl rfl
        · have h12i : (bs.length : Int) < 12 := by omega
          have HN := Lib.hid (show getH bs = none by rw [HG0.out, rk0, stX, if_pos hbit]; simp only; rw [if_neg (by omega)]; rfl)
          obtain ⟨v0, y0, v1, y1, v2, y2, v3, y3, v4, y4, v5, y5, v6, y6, v7, y7, v8, y8⟩ := HR2.out.vcells
          obtain ⟨q0, z0, q1, z1, q2, z2, q3, z3, q4, z4, q5, z5, q6, z6, q7, z7, q8, z8⟩ := HR2.out.rcells
          go_wp2_with fail
          exact ref_no HN.out HR2.out rfl rfl rfl rfl
      · have kb : ((F : Int) / 4 % 2 == 1) = false := by simp; omega
        have hh := (has_s0 F).2 hbit
        have HR1 := Lib.hid (show getH bs = rk1 bs F (hd0 bs, 10) by rw [HG0.out, rk0, stX, if_neg hbit]; rfl)
        have HB1 := Lib.hid (show Base bs F 1 (hd0 bs) from ⟨HHD.out.text, HHD.out.time, HHD.out.xfl, HHD.out.os, HHD.out.has.trans hh⟩)
        clear hh
        go_wp2_with fail
        go_meet
        exact ⟨hd0 bs, 10, .slice none 0 0, rfl, h10, HR2.out, HR1, HB1.out⟩
    case rest =>
    obtain ⟨h, n, ev, rfl, hn, hrs, HREST, hbase⟩ := hcut
    have HRS := Lib.hid hrs
    have HBASE := Lib.hid hbase
    clear hrs hbase HR2 HG0 HHD
    go_wp2_with fail
    have hx2i : (8 : Int) < 9 := by decide
    go_loopw [8, 9, 10] (fun atv nv kv wr => ∃ (k n : Nat) (h : Hd) (ev : Value) (nm : ByteArray), atv = .int .i64 n ∧ nv = .string nm ∧ kv = .int .i64 k ∧ k ≤ 2 ∧ n ≤ bs.length ∧ RS w (strip h) ev wr ∧ Hid (getH bs = restK bs F (k + 1) (h, n, false)) ∧ Hid (Base bs F (k + 1) h)) (fun _ _ kv _ => 2 - (intOf kv).toNat)
    case atStart => exact ⟨0, n, h, ev, _, rfl, rfl, rfl, by omega, hn, HRS.out, HREST, HBASE⟩
    case round =>
      clear HRS HREST HBASE hn
      obtain ⟨k, n, h, ev, nm, rfl, rfl, rfl, hk, hn, hrs, HREST, HBASE⟩ := hrel
      have HRS := Lib.hid hrs
      clear hrs
      by_cases k0 : k = 0
      · subst k0
        by_cases hbit : F / 8 % 2 = 1
        · have kb : ((F : Int) / 8 % 2 == 0) = false := by simp; omega
          have hz0' : ∀ wx, Ext w wx → Calls Try.prog 35 #[.slice (some ⟨gb, go, none⟩) bs.length bcap, .int .i64 n] wx fun e w' => e = .returned (.int .i64 (zI bs n)) ∧ wx = w' := fun wx hx => frm_zero _ bs n wx (HV.out.ext hx) HB.out hl hn
          have HZC := Lib.hid hz0'
          clear hz0'
          by_cases hz : fzI (bs.drop n) = -1
          · have HN := Lib.hid (show getH bs = none by rw [HREST.out]; simp only [restK, rk1, stN, if_pos hbit, fz, if_pos hz]; rfl)
            have HZI := Lib.hid (show zI bs n = -1 by rw [zI, if_pos hz])
            obtain ⟨q0, z0, q1, z1, q2, z2, q3, z3, q4, z4, q5, z5, q6, z6, q7, z7, q8, z8⟩ := HRS.out.rcells
            clear hz
            go_wp2_with fail
            refine (HZC.out _ HRS.out.ext).mono ?_
            rintro e w3 ⟨rfl, rfl⟩
            rw [HZI.out]
            go_wp2_with fail
            exact ref_no HN.out HRS.out rfl rfl rfl rfl
          · obtain ⟨z, hz1, hz2, _, _⟩ := fzI_nat _ hz
            rw [List.length_drop] at hz2
            have HR2 := Lib.hid (show getH bs = restK bs F (0 + 1 + 1) ({ h with has := h.has + 2, name := strOf ((bs.drop n).take z) }, n + (z + 1), false) by rw [HREST.out]; simp only [restK, rk1, stN, if_pos hbit, fz, if_neg hz, hz1]; rfl)
            obtain ⟨Z, hZ⟩ : ∃ Z, Z = n + z := ⟨_, rfl⟩
            have HZI := Lib.hid (show zI bs n = (Z : Int) by rw [zI, if_neg hz, hz1, hZ]; simp)
            have hHb := HBASE.out
            have HB2 := Lib.hid (show Base bs F (0 + 1 + 1) { h with has := h.has + 2, name := strOf ((bs.drop n).take z) } from ⟨hHb.text, hHb.time, hHb.xfl, hHb.os, by rw [← (has_s1 F).1 hbit]; exact congrArg (· + 2) hHb.has⟩)
            have hp := (show ViewL w (.slice (some ⟨gb, go, none⟩) (u8s bs).length bcap) (u8s bs) by rw [length_u8s]; exact HV.out).piece n z (by rw [length_u8s]; omega) (by omega)
            have e4 : ((u8s bs).drop n).take z = u8s ((bs.drop n).take z) := by simp only [u8s, ← List.map_drop, ← List.map_take]
            rw [e4] at hp
            have hs1 := run_string_view (P := Try.prog) 23 9 5 (viewL_view8 (hp.ext HRS.out.ext)) Try.underlying23 Try.underlying5 Try.underlying9
            simp only [Option.map_some, add_at] at hs1
            have j1 : Z - n = z := by omega
            have j2 : (Z : Int) - (n : Int) = (z : Int) := by omega
            have j3 : (n : Int) ≤ (Z : Int) := by omega
            have j4 : (Z : Int) ≤ (bcap : Int) := by omega
            have j5 : ¬ (Z : Int) < 0 := by omega
            have j9 : (Z : Int) ≤ 1099511627776 := by omega
            have j6 : bcap ≠ n := by omega
            have j7 : ¬ bcap = n := by omega
            obtain ⟨v0, y0, v1, y1, v2, y2, v3, y3, v4, y4, v5, y5, v6, y6, v7, y7, v8, y8⟩ := HRS.out.vcells
            have HF := Lib.hid (HRS.out.set (h2 := strip { h with has := h.has + 2, name := strOf ((bs.drop n).take z) }) (ev2 := ev) 5 (.string (strOf ((bs.drop n).take z))) rfl HRS.out.own)
            have HZE := Lib.hid hZ
            have HZ2 := Lib.hid hz2
            generalize strOf ((bs.drop n).take z) = ST at *
            clear hz hz1 hp e4 hHb hZ hz2
            go_wp2_with fail
            refine (HZC.out _ HRS.out.ext).mono ?_
            rintro e w3 ⟨rfl, rfl⟩
            rw [HZI.out]
            go_wp2_with fail
            go_roundw
            case rel => exact ⟨1, n + (z + 1), _, ev, ST, by rw [show n + (z + 1) = Z + 1 by have := HZE.out; omega]; go_num, rfl, by go_num, by omega, by have a1 := HZ2.out; have a2 := HZE.out; omega, HF.out, HR2, HB2⟩
            case measure => simp [intOf]
        · have kb : ((F : Int) / 8 % 2 == 0) = true := by simp; omega
          have HR2 := Lib.hid (show getH bs = restK bs F (0 + 1 + 1) (h, n, false) by rw [HREST.out]; simp only [restK, rk1, stN, if_neg hbit]; rfl)
          have hHb := HBASE.out
          have HB2 := Lib.hid (show Base bs F (0 + 1 + 1) h from ⟨hHb.text, hHb.time, hHb.xfl, hHb.os, hHb.has.trans ((has_s1 F).2 hbit)⟩)
          clear hHb
          go_wp2_with fail
          go_roundw
          case rel => exact ⟨1, n, h, ev, nm, rfl, rfl, by go_num, by omega, hn, HRS.out, HR2, HB2⟩
          case measure => simp [intOf]
      by_cases k1 : k = 1
      · subst k1
        by_cases hbit : F / 16 % 2 = 1
        · have kb : ((F : Int) / 16 % 2 == 0) = false := by simp; omega
          have hz0' : ∀ wx, Ext w wx → Calls Try.prog 35 #[.slice (some ⟨gb, go, none⟩) bs.length bcap, .int .i64 n] wx fun e w' => e = .returned (.int .i64 (zI bs n)) ∧ wx = w' := fun wx hx => frm_zero _ bs n wx (HV.out.ext hx) HB.out hl hn
          have HZC := Lib.hid hz0'
          clear hz0'
          by_cases hz : fzI (bs.drop n) = -1
          · have HN := Lib.hid (show getH bs = none by rw [HREST.out]; simp only [restK, rk2, stC, if_pos hbit, fz, if_pos hz]; rfl)
            have HZI := Lib.hid (show zI bs n = -1 by rw [zI, if_pos hz])
            obtain ⟨q0, z0, q1, z1, q2, z2, q3, z3, q4, z4, q5, z5, q6, z6, q7, z7, q8, z8⟩ := HRS.out.rcells
            clear hz
            go_wp2_with fail
            refine (HZC.out _ HRS.out.ext).mono ?_
            rintro e w3 ⟨rfl, rfl⟩
            rw [HZI.out]
            go_wp2_with fail
            exact ref_no HN.out HRS.out rfl rfl rfl rfl
          · obtain ⟨z, hz1, hz2, _, _⟩ := fzI_nat _ hz
            rw [List.length_drop] at hz2
            have HR2 := Lib.hid (show getH bs = restK bs F (1 + 1 + 1) ({ h with has := h.has + 4, comment := strOf ((bs.drop n).take z) }, n + (z + 1), false) by rw [HREST.out]; simp only [restK, rk2, stC, if_pos hbit, fz, if_neg hz, hz1]; rfl)
            obtain ⟨Z, hZ⟩ : ∃ Z, Z = n + z := ⟨_, rfl⟩
            have HZI := Lib.hid (show zI bs n = (Z : Int) by rw [zI, if_neg hz, hz1, hZ]; simp)
            have hHb := HBASE.out
            have HB2 := Lib.hid (show Base bs F (1 + 1 + 1) { h with has := h.has + 4, comment := strOf ((bs.drop n).take z) } from ⟨hHb.text, hHb.time, hHb.xfl, hHb.os, by rw [← (has_s2 F).1 hbit]; exact congrArg (· + 4) hHb.has⟩)
            have hp := (show ViewL w (.slice (some ⟨gb, go, none⟩) (u8s bs).length bcap) (u8s bs) by rw [length_u8s]; exact HV.out).piece n z (by rw [length_u8s]; omega) (by omega)
            have e4 : ((u8s bs).drop n).take z = u8s ((bs.drop n).take z) := by simp only [u8s, ← List.map_drop, ← List.map_take]
            rw [e4] at hp
            have hs1 := run_string_view (P := Try.prog) 23 9 5 (viewL_view8 (hp.ext HRS.out.ext)) Try.underlying23 Try.underlying5 Try.underlying9
            simp only [Option.map_some, add_at] at hs1
            have j1 : Z - n = z := by omega
            have j2 : (Z : Int) - (n : Int) = (z : Int) := by omega
            have j3 : (n : Int) ≤ (Z : Int) := by omega
            have j4 : (Z : Int) ≤ (bcap : Int) := by omega
            have j5 : ¬ (Z : Int) < 0 := by omega
            have j9 : (Z : Int) ≤ 1099511627776 := by omega
            have j6 : bcap ≠ n := by omega
            have j7 : ¬ bcap = n := by omega
            obtain ⟨v0, y0, v1, y1, v2, y2, v3, y3, v4, y4, v5, y5, v6, y6, v7, y7, v8, y8⟩ := HRS.out.vcells
            have HF := Lib.hid (HRS.out.set (h2 := strip { h with has := h.has + 4, comment := strOf ((bs.drop n).take z) }) (ev2 := ev) 6 (.string (strOf ((bs.drop n).take z))) rfl HRS.out.own)
            have HZE := Lib.hid hZ
            have HZ2 := Lib.hid hz2
            generalize strOf ((bs.drop n).take z) = ST at *
            clear hz hz1 hp e4 hHb hZ hz2
            go_wp2_with fail
            refine (HZC.out _ HRS.out.ext).mono ?_
            rintro e w3 ⟨rfl, rfl⟩
            rw [HZI.out]
            go_wp2_with fail
            go_roundw
            case rel => exact ⟨2, n + (z + 1), _, ev, ST, by rw [show n + (z + 1) = Z + 1 by have := HZE.out; omega]; go_num, rfl, by go_num, by omega, by have a1 := HZ2.out; have a2 := HZE.out; omega, HF.out, HR2, HB2⟩
            case measure => simp [intOf]
        · have kb : ((F : Int) / 16 % 2 == 0) = true := by simp; omega
          have HR2 := Lib.hid (show getH bs = restK bs F (1 + 1 + 1) (h, n, false) by rw [HREST.out]; simp only [restK, rk2, stC, if_neg hbit]; rfl)
          have hHb := HBASE.out
          have HB2 := Lib.hid (show Base bs F (1 + 1 + 1) h from ⟨hHb.text, hHb.time, hHb.xfl, hHb.os, hHb.has.trans ((has_s2 F).2 hbit)⟩)
          clear hHb
          go_wp2_with fail
          go_roundw
          case rel => exact ⟨2, n, h, ev, nm, rfl, rfl, by go_num, by omega, hn, HRS.out, HR2, HB2⟩
          case measure => simp [intOf]
      obtain rfl : k = 2 := by omega
      have HG3 := Lib.hid (show getH bs = stS bs F (h, n) from HREST.out)
      clear HREST
      go_upto_if 105 with fail
      go_cut [8, 12] (fun atv wv wx => ∃ (h : Hd) (n : Nat) (ev : Value) (wrong : Bool), atv = .int .i64 n ∧ wv = .bool wrong ∧ RS w (strip h) ev wx ∧ Hid (getH bs = some (h, n, wrong)) ∧ Hid (Base bs F 3 h))
      case first =>
        obtain ⟨v0, y0, v1, y1, v2, y2, v3, y3, v4, y4, v5, y5, v6, y6, v7, y7, v8, y8⟩ := HRS.out.vcells
        by_cases hbit : F / 2 % 2 = 1
        · have kb : ((F : Int) / 2 % 2 == 1) = true := by simp; omega
          by_cases hx : n + 2 ≤ bs.length
          · have hxi : ¬ ((bs.length : Int) - (n : Int) < 2) := by omega
            obtain ⟨L, hL⟩ : ∃ L, L = exL bs n := ⟨_, rfl⟩
            obtain ⟨C, hC⟩ : ∃ C, C = crcL (bs.take n) := ⟨_, rfl⟩
            have hLl : L < 65536 := by rw [hL]; exact exL_lt bs n HB.out
            have hCl : C < 4294967296 := by rw [hC]; exact crcL_lt _
            have hp := (show ViewL w (.slice (some ⟨gb, go, none⟩) (u8s bs).length bcap) (u8s bs) by rw [length_u8s]; exact HV.out).piece n 2 (by rw [length_u8s]; omega) (by omega)
            have e4 : ((u8s bs).drop n).take 2 = u8s ((bs.drop n).take 2) := by simp only [u8s, ← List.map_drop, ← List.map_take]
            rw [e4] at hp
            simp only [Option.map_some, add_at] at hp
            have hf := HV.out.front n hn
            have e5 : (u8s bs).take n = u8s (bs.take n) := by simp [u8s, List.map_take]
            rw [e5] at hf
            have hval : ∀ wx, Ext w wx → Calls Try.prog 34 #[.slice (some ⟨gb, go + n, none⟩) 2 (bcap - n)] wx fun e w' => e = .returned (.int .u32 L) ∧ wx = w' := fun wx hx => by
              rw [hL]
              exact frm_ref_value _ _ wx (hp.ext hx) (fun x hx => HB.out x (List.mem_of_mem_drop (List.mem_of_mem_take hx))) (by simp; omega)
            have hlow : ∀ wx, Ext w wx → Calls Try.prog 25 #[.slice (some ⟨gb, go, none⟩) n bcap] wx fun e w' => e = .returned (.int .u32 C) ∧ wx = w' := fun wx hx => by
              rw [hC]
              exact crc_ref_low _ _ wx (hf.ext hx) (fun x hx => HB.out x (List.mem_of_mem_take hx)) (by rw [List.length_take]; omega)
            have HVAL := Lib.hid hval
            have HVALQ := Lib.hid (fun wx hx => (hval wx hx).mono fun e w' ⟨a, b⟩ => (⟨a, b.symm⟩ : e = Ending.returned (.int .u32 L) ∧ w' = wx))
            have HLOWQ := Lib.hid (fun wx hx => (hlow wx hx).mono fun e w' ⟨a, b⟩ => (⟨a, b.symm⟩ : e = Ending.returned (.int .u32 C) ∧ w' = wx))
            have HLOW := Lib.hid hlow
            obtain ⟨WR, hWR⟩ : ∃ b : Bool, b = decide (L ≠ C % 65536) := ⟨_, rfl⟩
            have kw : ((L : Int) != (C : Int) % 65536) = WR := by
              rw [hWR, Bool.eq_iff_iff]; simp; omega
            have HKW := Lib.hid (show ((L : Int) != (C : Int).tmod 65536) = WR by rw [Int.tmod_eq_emod_of_nonneg (by omega)]; exact kw)
            have HR2 := Lib.hid (show getH bs = some ({ h with sum := true }, n + 2, WR) by rw [HG3.out, stS, if_pos hbit]; simp only [← hL, ← hC]; rw [if_pos hx, hWR])
            have hHb := HBASE.out
            have HB2 := Lib.hid (show Base bs F 3 { h with sum := true } from ⟨hHb.text, hHb.time, hHb.xfl, hHb.os, hHb.has⟩)
            obtain ⟨Z, hZ⟩ : ∃ Z, Z = n + 2 := ⟨_, rfl⟩
            have HJ := Lib.hid (show IntKind.i64.wrap ((n : Int) + 2) = (Z : Int) by rw [IntWalk.i64_in _ (by omega)]; omega)
            have j8 : (0 : Int) ≤ (n : Int) := by omega
            have HJ3 := Lib.hid (show IntKind.i64.wrap (n : Int) = (n : Int) from IntWalk.i64_in _ (by omega))
            have j1 : Z - n = 2 := by omega
            have j2 : (Z : Int) - (n : Int) = 2 := by omega
            have j3 : (n : Int) ≤ (Z : Int) := by omega
            have j4 : (Z : Int) ≤ (bcap : Int) := by omega
            have j5 : (n : Int) ≤ (bcap : Int) := by omega
            have j6 : bcap ≠ n := by omega
            have j7 : ¬ bcap = n := by omega
            have HF := fun (wx : World) (hx : Ext wr wx) => (HRS.out.up hx).set (h2 := strip { h with sum := true }) (ev2 := ev) 8 (.bool true) rfl (HRS.out.up hx).own
            have HFH := Lib.hid HF
            have HZE := Lib.hid hZ
            clear hL hC hp e4 hf e5 hval hlow hWR hHb hZ HF
            go_wp2_with fail
            have HNL := Lib.hid (And.intro hn (And.intro hl (And.intro hx (And.intro h10 (And.intro hcap (And.intro hcapi (And.intro hxi h10i)))))))
            clear hn hl hx h10 hcap hcapi hxi h10i
            have j00 := HJ.out
            have j01 := HJ3.out
            go_quiet (first | (go_at_call 34; exact Calls.quiet_of_same (HVALQ.out _ (HRS.out.ext.drewN _))) | (go_at_call 25; exact Calls.quiet_of_same (HLOWQ.out _ (HRS.out.ext.drewN _))))
            go_wp2_with fail
            go_meet
            exact ⟨_, n + 2, ev, WR, by rw [← HZE.out], congrArg Value.bool HKW.out, HFH.out _ ((Ext.refl _).drewN _), HR2, HB2⟩
          · have hxi : ((bs.length : Int) - (n : Int) < 2) := by omega
            have HN := Lib.hid (show getH bs = none by rw [HG3.out, stS, if_pos hbit]; simp only; rw [if_neg hx])
            obtain ⟨q0, z0, q1, z1, q2, z2, q3, z3, q4, z4, q5, z5, q6, z6, q7, z7, q8, z8⟩ := HRS.out.rcells
            go_wp2_with fail
            exact ref_no HN.out HRS.out rfl rfl rfl rfl
        · have kb : ((F : Int) / 2 % 2 == 1) = false := by simp; omega
          have HR2 := Lib.hid (show getH bs = some (h, n, false) by rw [HG3.out, stS, if_neg hbit])
          go_wp2_with fail
          go_meet
          exact ⟨h, n, ev, false, rfl, rfl, HRS.out, HR2, HBASE⟩
      case rest =>
      obtain ⟨h, n, ev, wrong, rfl, rfl, hrs, HG, HBS⟩ := hcut
      have HRS := Lib.hid hrs
      clear hrs HG3 HBASE
      obtain ⟨hT, hM, hX, hO, hE, hNm, hC, hH, hS⟩ := h
      obtain ⟨so, sc, rfl⟩ := HRS.out.own.choose_spec.1.shape
      have hT1 : hT = decide (F % 2 = 1) := HBS.out.text
      have hM1 : hM = valL ((bs.drop 4).take 4) := HBS.out.time
      have hX1 : hX = bs.getD 8 0 := HBS.out.xfl
      have hO1 : hO = bs.getD 9 0 := HBS.out.os
      have hH1 : hH = hasK F 3 := HBS.out.has
      obtain rfl : hT = ((F : Int) % 2 == 1) := by rw [hT1, Bool.eq_iff_iff]; simp; omega
      have HKH := Lib.hid (show (F : Int) / 4 = (hH : Int) by rw [hH1]; simp [hasK]; omega)
      have r1 := HRS.out.set (h2 := { strip ⟨((F : Int) % 2 == 1), hM, hX, hO, hE, hNm, hC, hH, hS⟩ with text := ((F : Int) % 2 == 1) }) (ev2 := .slice so hE.length sc) 0 (.bool ((F : Int) % 2 == 1)) rfl HRS.out.own
      have r2 := r1.set (h2 := { strip ⟨((F : Int) % 2 == 1), hM, hX, hO, hE, hNm, hC, hH, hS⟩ with text := ((F : Int) % 2 == 1), has := hH }) (ev2 := .slice so hE.length sc) 7 (.int .u8 hH) rfl r1.own
      have r3 := r2.set (h2 := { strip ⟨((F : Int) % 2 == 1), hM, hX, hO, hE, hNm, hC, hH, hS⟩ with text := ((F : Int) % 2 == 1), has := hH, time := hM }) (ev2 := .slice so hE.length sc) 1 (.int .u32 hM) rfl r2.own
      have r4 := r3.set (h2 := { strip ⟨((F : Int) % 2 == 1), hM, hX, hO, hE, hNm, hC, hH, hS⟩ with text := ((F : Int) % 2 == 1), has := hH, time := hM, xfl := hX }) (ev2 := .slice so hE.length sc) 2 (.int .u8 hX) rfl r3.own
      have r5 := r4.set (h2 := ⟨((F : Int) % 2 == 1), hM, hX, hO, hE, hNm, hC, hH, hS⟩) (ev2 := .slice so hE.length sc) 3 (.int .u8 hO) rfl r4.own
      have HF := Lib.hid r5
      have hp := (show ViewL w (.slice (some ⟨gb, go, none⟩) (u8s bs).length bcap) (u8s bs) by rw [length_u8s]; exact HV.out).piece 4 4 (by rw [length_u8s]; omega) (by omega)
      have e4 : ((u8s bs).drop 4).take 4 = u8s ((bs.drop 4).take 4) := by simp only [u8s, ← List.map_drop, ← List.map_take]
      rw [e4] at hp
      have hval : ∀ wx, Ext w wx → Calls Try.prog 34 #[.slice (some ⟨gb, go + 4, none⟩) 4 (bcap - 4)] wx fun e w' => e = .returned (.int .u32 hM) ∧ wx = w' := fun wx hx => by
        rw [hM1]
        exact frm_ref_value _ _ wx (hp.ext hx) (fun x hx => HB.out x (List.mem_of_mem_drop (List.mem_of_mem_take hx))) (by simp; omega)
      have HVAL := Lib.hid hval
      have d8 : wc.cell? ⟨gb, go + 8, none⟩ = some (.int .u8 hX) := by rw [hX1]; exact HCELL.out _ HRS.out.ext 8 (by omega)
      have d9 : wc.cell? ⟨gb, go + 9, none⟩ = some (.int .u8 hO) := by rw [hO1]; exact HCELL.out _ HRS.out.ext 9 (by omega)
      have hgw : gb < w.heap.size := World.block_lt_of_cell? _ _ (HCELL.out w (Ext.refl w) 0 (by omega))
      have n1 : gb ≠ w.heap.size + 1 := by omega
      have n2 : w.heap.size + 1 ≠ gb := by omega
      have n3 : gb ≠ w.heap.size := by omega
      have n4 : w.heap.size ≠ gb := by omega
      have m1 : (4 : Int) ≤ (bcap : Int) := by omega
      have m2 : (8 : Int) ≤ (bcap : Int) := by omega
      have m3 : ¬ bcap = 4 := by omega
      have m4 : (8 : Int) < (bs.length : Int) := by omega
      have m5 : (9 : Int) < (bs.length : Int) := by omega
      have HXR := Lib.hid r2.ext
      obtain ⟨v0, y0, v1, y1, v2, y2, v3, y3, v4, y4, v5, y5, v6, y6, v7, y7, v8, y8⟩ := HRS.out.vcells
      obtain ⟨q0, z0, q1, z1, q2, z2, q3, z3, q4, z4, q5, z5, q6, z6, q7, z7, q8, z8⟩ := HRS.out.rcells
      simp only [strip, hdZ] at v0 v1 v2 v3 v4 v5 v6 v7 v8
      clear hT1 hM1 hX1 hO1 hH1 r1 r2 r3 r4 r5 hp e4 hval HBS
      go_wp2_with fail
      simp only [HKH.out]
      refine (HVAL.out _ HXR.out).mono ?_
      rintro e w3 ⟨rfl, rfl⟩
      go_wp2_with fail
      have hfin := fun tmps t2 t3 t4 t5 => ref_yes (tmps := tmps) HG.out HF.out t2 t3 t4 t5
      dsimp only at hfin
      exact hfin _ rfl rfl rfl rfl

  · have HN := Lib.hid (show getH bs = none by rw [getH, if_neg (by omega)])
    have h10i : (bs.length : Int) < 10 := by omega
    clear hv
    go_enter Try.func16, Try.ntmps16
    go_wp2_with fail
    exact ref_no0 HN.out HR0.out rfl rfl rfl rfl
end Go.Proofs.Ytmhkjcoidjpocaa
