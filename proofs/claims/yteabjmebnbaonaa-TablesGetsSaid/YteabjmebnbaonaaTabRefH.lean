/- pressworkref24.GetSelectors: its walk. -/
import Derived.Test.YteabjmebnbaonaaTabRefG
namespace Go.Proofs.Yteabjmebnbaonaa
open Go.RowKit
set_option linter.unusedVariables false

/-- two lists of ints, in new memory, apart. -/
def IL (w : World) (l lst : List Nat) (rv lv : Value) (wr : World) : Prop :=
  ∃ og oh, Owns wr 3 1 rv og l.length (i64s l) ∧ Owns wr 3 1 lv oh lst.length (i64s lst) ∧ (∀ g, og = some g → w.heap.size ≤ g) ∧ (∀ g, oh = some g → w.heap.size ≤ g) ∧ (∀ g, og = some g → oh ≠ some g) ∧ Ext w wr
theorem IL.row {w : World} {l lst : List Nat} {rv lv : Value} {wr : World} (h : IL w l lst rv lv wr) : wr.ownsRow 0 3 1 rv l.length (i64s l) := by
  obtain ⟨og, oh, h1, _⟩ := h; exact h1.1
theorem IL.viewL {w : World} {l lst : List Nat} {rv lv : Value} {wr : World} (h : IL w l lst rv lv wr) : ViewL wr lv (i64s lst) := by
  obtain ⟨og, oh, h1, h2, _⟩ := h; exact h2.viewL
theorem IL.toExt {w : World} {l lst : List Nat} {rv lv : Value} {wr : World} (h : IL w l lst rv lv wr) : Ext w wr := by
  obtain ⟨og, oh, h1, h2, h3, h4, h5, h6⟩ := h; exact h6
theorem IL.toIO {w : World} {l lst : List Nat} {rv lv : Value} {wr : World} (h : IL w l lst rv lv wr) : IOt w l rv wr := by
  obtain ⟨og, oh, h1, h2, h3, h4, h5, h6⟩ := h; exact ⟨og, h1, h3, h6⟩
theorem IL.shape {w : World} {l lst : List Nat} {rv lv : Value} {wr : World} (h : IL w l lst rv lv wr) : (∃ ao cap, rv = .slice ao l.length cap) ∧ ∃ ao cap, lv = .slice ao lst.length cap := by
  obtain ⟨og, oh, h1, h2, _⟩ := h; exact ⟨h1.shape, h2.shape⟩
theorem IL.app {w w1 w2 : World} {l xs lst : List Nat} {ov v' lv : Value} {o : Obj} (h : IL w l lst ov lv w1) (hown' : w2.ownsRow 0 3 1 v' (l.length + xs.length) (i64s l ++ i64s xs))
    (hgrow : (w1.alloc o).grownBy w2 ov.ownBlock) (hat : v'.ownBlock = ov.ownBlock ∨ v'.ownBlock = some (w1.heap.size + 1)) : IL w (l ++ xs) lst v' lv w2 := by
  obtain ⟨og, oh, h1, h2, h3, h4, h5, h6⟩ := h
  have t : Touch (fun k => ov.ownBlock = some k) w1 w2 := (((Ext.refl w1).alloc _).mono (fun _ _ f => f.elim)).grown hgrow (fun k e => Or.inl e)
  refine ⟨v'.ownBlock, oh, ⟨by rw [i64s_append, List.length_append]; exact hown', rfl⟩, h2.keep t (fun g e e2 => h5 g (by rw [← h1.2]; exact e2) e), fun g e => ?_, h4, fun g e e2 => ?_, Touch.grown (h6.alloc _) hgrow (fun i e => Or.inr (h3 i (by rw [← h1.2]; exact e)))⟩
  · rcases hat with hat | hat
    · rw [hat, h1.2] at e; exact h3 g e
    · rw [hat] at e; cases e; have := h6.size; omega
  · rcases hat with hat | hat
    · rw [hat, h1.2] at e; exact h5 g e e2
    · rw [hat] at e; cases e; have := h2.lt _ e2; omega
theorem IL.front {w w1 w2 : World} {l lst lst' : List Nat} {rv lv lv' : Value} (h : IL w l lst rv lv w1) (hf : IOt w1 lst' lv' w2) : IL w l lst' rv lv' w2 := by
  obtain ⟨og, oh, h1, h2, h3, h4, h5, h6⟩ := h
  obtain ⟨oi, k1, k2, k3⟩ := hf
  exact ⟨og, oi, h1.ext' k3, k1, h3, fun g e => Nat.le_trans h6.size (k2 g e), fun g e e2 => by have := h1.lt g e; have := k2 g e2; omega, h6.trans k3⟩
def RH (w : World) (r : Option (List Nat × Nat)) (e : Ending) (w' : World) : Prop :=
  (∃ l q v, r = some (l, q) ∧ e = .returned (.tuple #[v, .int .i64 (q : Nat), .int .i64 0]) ∧ IOt w l v w') ∨
  (∃ q : Int, r = none ∧ e = .returned (.tuple #[.slice none 0 0, .int .i64 q, .int .i64 2]) ∧ Ext w w')
set_option maxHeartbeats 4000000 in
set_option maxRecDepth 100000 in
theorem tab_ref_gets (v : Value) (L : List Bool) (p t : Nat) (w : World) (hv : ViewL w v (bls L)) (hl : L.length ≤ 2 ^ 24) (hp : p ≤ L.length) (ht2 : 2 ≤ t) (ht6 : t ≤ 6) :
    Calls Try.prog 40 #[v, .int .i64 p, .int .i64 t] w (RH w (gSel (rowF L) L.length p t)) := by
  obtain ⟨i0, hi, hz0, hz1, hz2⟩ := info_parts info_int
  have HC := Lib.hid (show ∀ wr, Ext w wr → ∀ j, j < L.length → ∃ ao cap b o, v = .slice ao L.length cap ∧ ao = some ⟨b, o, none⟩ ∧ wr.cell? ⟨b, o + j, none⟩ = some (.bool (rowF L j)) from fun wr hx j hj => by
    obtain ⟨ao, cap, rfl⟩ := hv.shape
    rw [length_bls] at hv ⊢
    obtain ⟨b, o, rfl, _, hc⟩ := viewL_cells hv (by rw [length_bls]; omega)
    exact ⟨_, cap, b, o, rfl, rfl, cell_touch hx (hc j _ (rowF_get L j hj)) (fun f => f)⟩)
  have HOK := Lib.hid (fun h => msb_ref_get_ok v L p 15 w hv (by decide) (by omega) h)
  have hlb := length_bls L
  obtain ⟨ao, cap, rfl⟩ := hv.shape
  rw [hlb] at HC HOK ⊢
  have HFAR := Lib.hid (fun h => msb_ref_get_far ao L.length cap p 15 w (by decide) (by omega) hp h)
  obtain ⟨f, hf⟩ : ∃ f, f = rowF L := ⟨_, rfl⟩
  have HK := Lib.hid (show p + 15 ≤ L.length → (L.drop p).take 15 = fbits f p 15 from fun h => by rw [hf]; exact rowF_bits L p 15 h)
  obtain ⟨N, hN⟩ : ∃ N, N = L.length := ⟨_, rfl⟩
  obtain ⟨G, hG⟩ : ∃ G, G = gSel f N p t := ⟨_, rfl⟩
  obtain ⟨K, hK⟩ : ∃ K, K = numOf true ((L.drop p).take 15) := ⟨_, rfl⟩
  rw [← hK] at HOK
  rw [← hf] at HC ⊢
  rw [← hN] at HC HOK HFAR HK ⊢
  rw [← hG]
  have HKE := Lib.hid hK
  have HG := Lib.hid hG
  have hNl : N ≤ 2 ^ 24 := by omega
  have hpN : p ≤ N := by omega
  clear hv hG hK hN hlb hl hp hf
  go_enter Try.func40, Try.ntmps40
  go_wp2_with fail
  by_cases h15 : N < p + 15
  · have HN := Lib.hid (show G = none by rw [HG.out, gSel, if_pos h15])
    refine (HFAR.out h15).mono ?_
    rintro e w' ⟨rfl, rfl⟩
    clear HFAR HOK HC
    go_wp2_with fail
    go_ret3
    exact Or.inr ⟨_, HN.out, rfl, Ext.refl _⟩
  · have hGL : G = if K = 0 then none else selGet f N t K lst0 (p + 15) := by rw [HG.out, gSel, if_neg h15, HKE.out, HK.out (by omega)]
    have hK32 : K < 32768 := by rw [HKE.out, HK.out (by omega)]; exact numOf_lt5 _ 15 (length_fbits _ _ _)
    refine (HOK.out (by omega)).mono ?_
    rintro e w' ⟨rfl, rfl⟩
    have HGL := Lib.hid hGL
    clear HFAR HOK hGL HK HKE HG
    by_cases hK0 : K = 0
    · have HN := Lib.hid (show G = none by rw [HGL.out, if_pos hK0])
      have hKi : ((K : Int) == 0) = true := by simp [hK0]
      have hKj : (K : Int) = 0 := by omega
      clear hK0
      go_wp2_with fail
      go_ret3
      exact Or.inr ⟨_, HN.out, rfl, Ext.refl _⟩
    · have hKi : ((K : Int) == 0) = false := by rw [beq_eq_false_iff_ne]; omega
      have hKj : ¬ (K : Int) = 0 := by omega
      have HGL2 := Lib.hid (show G = selGet f N t K lst0 (p + 15) by rw [HGL.out, if_neg hK0])
      have hio := io_new w lst0 [.int .i64 0, .int .i64 1, .int .i64 2, .int .i64 3, .int .i64 4, .int .i64 5] rfl 6 rfl (by decide) (by decide)
      have HIL := Lib.hid (show IL w [] lst0 (.slice none 0 0) (.slice (some ⟨w.heap.size, 0, none⟩) 6 6) (w.alloc (.cells #[.int .i64 0, .int .i64 1, .int .i64 2, .int .i64 3, .int .i64 4, .int .i64 5] 3)) from by
        obtain ⟨oi, k1, k2, k3⟩ := hio
        exact ⟨none, oi, Owns.nil _ _ _, k1, fun g e => (by cases e), k2, fun g e => (by cases e), k3⟩)
      clear hio hK0 HGL
      go_wp2_with fail
      go_loopw [1, 11, 12] (fun av lv ov wr => ∃ (l lst : List Nat) (q : Nat), av = .int .i64 q ∧ l.length ≤ K ∧ q ≤ N ∧ Good t lst ∧ IL w l lst ov lv wr ∧
        Hid (G = (selGet f N t (K - l.length) lst q).map fun y => (l ++ y.1, y.2))) (fun _ _ ov _ => K - lenOf ov)
      case atStart => exact ⟨[], lst0, p + 15, by go_num, Nat.zero_le _, by omega, good0 t ht2 ht6, HIL.out, Lib.hid (by rw [HGL2.out]; simp)⟩
      case round =>
        clear HIL HGL2
        obtain ⟨l, lst, q, rfl, hln, hq, hgood, hil, HEQ⟩ := hrel
        obtain ⟨⟨oa, ocap, rfl⟩, la, lcap, rfl⟩ := hil.shape
        have HIL := Lib.hid hil
        have HGD := Lib.hid hgood
        have hl6 := hgood.len
        rw [hl6] at HIL ⊢
        have HL6 := Lib.hid hl6
        clear hil hgood hl6
        by_cases hlt : l.length < K
        · have hlti : (l.length : Int) < (K : Int) := by omega
          go_wp2_with fail
          go_loopw [1, 13] (fun av kv wr => ∃ (k2 q2 : Nat), av = .int .i64 q2 ∧ kv = .int .i64 k2 ∧ k2 ≤ t ∧ q2 ≤ N ∧ IL w l lst (.slice oa l.length ocap) (.slice la 6 lcap) wr ∧
            Hid (k2 < t → oneSel f N t 0 q = oneSel f N t k2 q2) ∧ Hid (k2 = t → oneSel f N t 0 q = none)) (fun av _ _ => N - (intOf av).toNat)
          case atStart => exact ⟨0, q, rfl, rfl, by omega, hq, HIL.out, Lib.hid (fun _ => rfl), Lib.hid (fun h => by omega)⟩
          case round =>
            clear HIL
            obtain ⟨k2, q2, rfl, rfl, hk2, hq2, hil2, HE, HE2⟩ := hrel
            have HIL := Lib.hid hil2
            clear hil2
            by_cases hqN : q2 = N
            · have hqi : ¬ (q2 : Int) < (N : Int) := by omega
              have hqj : ((q2 : Int) == (N : Int)) = true := by rw [beq_iff_eq]; omega
              have hqk : (q2 : Int) = (N : Int) := by omega
              have HN := Lib.hid (show G = none from sg_none HEQ.out hlt (by
                by_cases hkt : k2 < t
                · rw [HE.out hkt, oneSel, if_pos (by omega)]
                · exact HE2.out (by omega)))
              clear hqN
              go_wp2_with fail
              go_ret3
              exact Or.inr ⟨_, HN.out, rfl, HIL.out.toExt⟩
            · have hqi : (q2 : Int) < (N : Int) := by omega
              have hqj : ((q2 : Int) == (N : Int)) = false := by rw [beq_eq_false_iff_ne]; omega
              have hqk : ¬ (q2 : Int) = (N : Int) := by omega
              obtain ⟨ao1, cap1, b1, o1, e1, e2, c1⟩ := HC.out wr HIL.out.toExt q2 (by omega)
              cases e1
              subst e2
              cases hb : f q2 with
              | false =>
                rw [hb] at c1
                have HB := Lib.hid hb
                clear hb
                by_cases hkt : k2 = t
                · have hki : ((k2 : Int) == (t : Int)) = true := by rw [beq_iff_eq]; omega
                  have hkj : (k2 : Int) = (t : Int) := by omega
                  have HN := Lib.hid (show G = none from sg_none HEQ.out hlt (HE2.out hkt))
                  clear hkt
                  go_wp2_with fail
                  go_ret3
                  exact Or.inr ⟨_, HN.out, rfl, HIL.out.toExt⟩
                · have hki : ((k2 : Int) == (t : Int)) = false := by rw [beq_eq_false_iff_ne]; omega
                  have hkj : ¬ (k2 : Int) = (t : Int) := by omega
                  have HS := Lib.hid (sg_some HEQ.out hlt (k := k2) (r := q2 + 1) (by rw [HE.out (by omega), oneSel, if_neg (by omega), if_pos HB.out]))
                  have HG2 := Lib.hid (HGD.out.mtf ht6 (show k2 < t by omega))
                  have hl6 := HL6.out
                  have HF := Lib.hid (fun wx (hx : ViewL wx (.slice la 6 lcap) (i64s lst)) => tab_front _ lst k2 wx hx hl6 (by omega))
                  clear hl6
                  go_wp2_with fail
                  refine (HF.out _ HIL.out.viewL).mono ?_
                  rintro e w6 ⟨v6, rfl, i6⟩
                  have hm6 := HG2.out.len
                  obtain ⟨b3, o3, cap3, c3⟩ : ∃ b o cap, v6 = .slice (some ⟨b, o, none⟩) 6 cap ∧ w6.cell? ⟨b, o, none⟩ = some (.int .i64 (lst.getD k2 0 : Nat)) := by
                    obtain ⟨a, c, rfl⟩ := i6.shape
                    rw [hm6] at i6 ⊢
                    obtain ⟨b, o, rfl, _, hc⟩ := viewL_cells i6.viewL (by rw [length_i64s, hm6]; omega)
                    exact ⟨b, o, c, rfl, by simpa using hc 0 (.int .i64 (lst.getD k2 0 : Nat)) (by rw [getElem?_i64s _ _ (by omega)]; rfl)⟩
                  obtain ⟨e3, c3⟩ := c3
                  subst e3
                  have HIL6 := Lib.hid (HIL.out.front i6)
                  obtain ⟨y, hy⟩ : ∃ y, y = lst.getD k2 0 := ⟨_, rfl⟩
                  rw [← hy] at HS c3
                  clear i6 hy hm6
                  go_wp2_with (at_builtin; go_must (refine wpList_append_own_at _ rfl (.tmp 68) (.tmp 72) 48 rfl 0 3 i0 (.int .i64 0) 1 8 Try.underlying48 hi hz0 hz1 hz2 rfl (by decide) _ l.length (i64s l) rfl (HIL6.out.row.alloc _) ⟨w6.heap.size, 0, none⟩ 1 1 [.int .i64 y] rfl rfl (news _ _ _ _) (by simp [Value.oneCell']) (by unfold maxLen; omega) (by omega) (Nat.zero_le _) ?_))
                  intro v' w7 hown' hgrow _ hat
                  have hlv : lenOf v' = l.length + 1 := by obtain ⟨a', c', e⟩ := (show Owns w7 3 1 v' v'.ownBlock (l.length + 1) _ from ⟨hown', rfl⟩).shape; rw [e]; rfl
                  have HLV := Lib.hid hlv
                  have HIL7 := Lib.hid (IL.app (xs := [y]) HIL6.out hown' hgrow hat)
                  clear hown' hgrow hat hlv c3 c1 hki hkj hqi hqj hqk
                  go_wp2_with fail
                  go_roundw
                  case rel => exact ⟨l ++ [y], mtf lst k2, q2 + 1, by go_num, by simp; omega, by omega, HG2.out, HIL7.out, HS⟩
                  case measure => rw [HLV.out]; simp [lenOf]; omega
              | true =>
                rw [hb] at c1
                have HB := Lib.hid hb
                clear hb
                by_cases hkt : k2 = t
                · have hki : ((k2 : Int) == (t : Int)) = true := by rw [beq_iff_eq]; omega
                  have hkj : (k2 : Int) = (t : Int) := by omega
                  have hkl : ¬ (k2 : Int) < (t : Int) := by omega
                  have HN := Lib.hid (show G = none from sg_none HEQ.out hlt (HE2.out hkt))
                  clear hkt
                  go_wp2_with fail
                  go_ret3
                  exact Or.inr ⟨_, HN.out, rfl, HIL.out.toExt⟩
                · have hkl : (k2 : Int) < (t : Int) := by omega
                  have HA := Lib.hid (show k2 + 1 < t → oneSel f N t 0 q = oneSel f N t (k2 + 1) (q2 + 1) from fun h => by
                    rw [HE.out (by omega)]; conv => lhs; rw [oneSel, if_neg (by omega), if_neg (by rw [HB.out]; simp), if_neg (by omega)])
                  have HA2 := Lib.hid (show k2 + 1 = t → oneSel f N t 0 q = none from fun h => by
                    rw [HE.out (by omega), oneSel, if_neg (by omega), if_neg (by rw [HB.out]; simp), if_pos (by omega)])
                  go_wp2_with fail
                  go_roundw
                  case rel => exact ⟨k2 + 1, q2 + 1, by go_num, by go_num, by omega, by omega, HIL.out, HA, HA2⟩
                  case measure => simp [intOf]; omega
        · have hlti : ¬ (l.length : Int) < (K : Int) := by omega
          have HS := Lib.hid (show G = some (l, q) from sg_end HEQ.out (by omega))
          go_wp2_with fail
          go_ret3
          exact Or.inl ⟨_, _, _, HS.out, rfl, HIL.out.toIO⟩
end Go.Proofs.Yteabjmebnbaonaa
