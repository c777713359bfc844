/- pressworklaw06.PrefixReads: its walk. -/
import Derived.Test.YtomnhfcckalkiaaPreRefGet
namespace Go.Proofs.Ytomnhfcckalkiaa
open Go.RowKit
set_option linter.unusedVariables false

theorem St.setB {w0 w : World} {Ts : List Thing} {g n cap : Nat} {bs : List Nat} (h : St w0 w Ts) (j : Nat) (hj : Ts[j]? = some (oB (.slice (some ⟨g, 0, none⟩) n cap) bs)) (i u : Nat) (hi : i < bs.length) :
    St w0 (w.setCell ⟨g, i, none⟩ (.int .u8 u)) (Ts.set j (oB (.slice (some ⟨g, 0, none⟩) n cap) (bs.set i u))) := by
  obtain ⟨S, ⟨og, h1, h2⟩, h3, h4, h5⟩ := h.at j _ hj
  have e : og = some g := by have := h1.2; rw [← this]; rfl
  subst e
  refine h5 _ _ S ((Touch.refl S w).setCell (Or.inl ((h2 g).2 rfl)) _) ⟨some g, ?_, h2⟩ (fun k hk => Or.inl hk)
  have := h1.set i (.int .u8 u) (by rw [length_u8s]; exact hi)
  rw [← u8s_set] at this
  rw [length_u8s] at this ⊢
  rw [List.length_set]
  exact this
theorem St.blockB {w0 w : World} {Ts : List Thing} {ao : Option Addr} {n cap : Nat} {bs : List Nat} (h : St w0 w Ts) (j : Nat) (hj : Ts[j]? = some (oB (.slice ao n cap) bs)) (h0 : 0 < bs.length) :
    ∃ g, ao = some ⟨g, 0, none⟩ ∧ (∀ i, w.frozen? ⟨g, i, none⟩ = false) ∧ ∀ i u, (u8s bs)[i]? = some u → w.cell? ⟨g, i, none⟩ = some u := by
  obtain ⟨S, og, h1, _⟩ := h.has hj
  rcases h1.form with ⟨_, _, h2, _⟩ | ⟨g, c, cur, e1, e2, _⟩
  · rw [length_u8s] at h2; omega
  · cases e2
    rw [e1] at h1
    exact ⟨g, rfl, fun i => h1.free i, fun i u hu => h1.cell i u hu⟩
theorem dec_le {rows : List (List Bool)} {bits : List Bool} {p s q : Nat} {e : Int} (h : IsDec rows bits p s q e) : q ≤ bits.length := by obtain ⟨n, _, h2, _⟩ := h.is; exact h2
theorem rowsL_len {L : List Nat} (hg : Good L) : ∀ r ∈ rowsL L, r.length ≤ 20 := fun r hr => by
  obtain ⟨i, hi, rfl⟩ := List.mem_map.1 hr
  rw [length_rowOf]
  have := List.mem_range.1 hi
  rw [List.getD, List.getElem?_eq_getElem this]; exact hg.1 _ (List.getElem_mem _)
theorem St.refGet {w0 w : World} {Ts : List Thing} {rv bv : Value} {L : List Nat} {bits : List Bool} (h : St w0 w Ts) (j k : Nat) (hj : Ts[j]? = some (tRows rv (rowsN L))) (hk : Ts[k]? = some (oB bv (bn bits))) (hg : Good L) (hl : bits.length ≤ 2 ^ 30) (p : Nat) (hp : p ≤ bits.length) :
    Calls Try.prog 23 #[rv, bv, .int .i64 p] w fun e w' => ∃ (s q : Nat) (er : Int), e = .returned (.tuple #[.int .i64 s, .int .i64 q, .int .i64 er]) ∧ IsDec (rowsL L) bits p s q er ∧ St w0 w' Ts := by
  refine (pre_ref_get rv bv (rowsL L) bits p w ?_ (h.viewL k hk) (by rw [length_rowsL]; exact hg.2.1) (rowsL_len hg) hl hp).mono ?_
  · obtain ⟨ao, cap, e, r⟩ := h.rowsAt j hj (rowsL L).length (by rw [length_rowsN, length_rowsL])
    exact ⟨ao, cap, e, r⟩
  · rintro e w' ⟨s, q, er, rfl, d, m, rfl⟩
    exact ⟨s, q, er, rfl, d, h.step ((Ext.refl w).drewN m)⟩
set_option maxHeartbeats 8000000 in
set_option maxRecDepth 100000 in
theorem pre_law_reads_some (v : Value) (bs : List Nat) (z : Value) (be : List Nat) (n : Nat) (w : World) (hv : View w v bs ∧ ViewL w v (u8s bs)) (hz : View w z be ∧ ViewL w z (u8s be)) (hbe : ∀ b ∈ be, b < 256) (hbl : bs.length ≤ 60 ∨ (512 < bs.length ∧ bs.length ≤ 600)) (hzl : be.length ≤ 40) (hn : n < 256) :
    Calls Try.prog 4 #[v, z, .int .u8 n] w fun e w' => e = .returned (.bool true) ∧ Ext w w' := by
  obtain ⟨j0, hj, hj0, hj1, hj2⟩ := info_parts info_u8
  obtain ⟨ao, cap, rfl⟩ := hv.2.shape
  obtain ⟨zo, zcap, rfl⟩ := hz.2.shape
  simp only [length_u8s] at *
  have HV := Lib.hid hv
  have HZ := Lib.hid hz
  have HBE := Lib.hid hbe
  clear hv hz hbe
  have h0 : ¬ (600 : Int) < (bs.length : Int) := by omega
  have h3 : ¬ (40 : Int) < (be.length : Int) := by omega
  go_enter Try.func4, Try.ntmps4
  by_cases h60 : 60 < bs.length
  · have h1 : (60 : Int) < (bs.length : Int) := by omega
    have h2 : ¬ (bs.length : Int) ≤ 512 := by omega
    have HERR := Lib.hid (show errW bs = 5 by rw [errW, if_pos]; intro h; have := h.1; omega)
    go_wp2_with (at_builtin; go_must (refine wpList_append_view _ rfl (.tmp 43) (.tmp 44) 22 rfl w.heap.size 5 j0 (.int .u8 0) 1 Try.underlying22 hj hj0 hj1 hj2 rfl (.slice (some ⟨w.heap.size, 0, none⟩) 0 0) 0 [] rfl (World.ownsRow_made w #[] 0 (Nat.le_refl _) (by decide) rfl) _ (u8s bs) rfl (HV.out.2.ext ((Ext.refl w).alloc _)) (u8s_one bs) (by rw [length_u8s]; unfold maxLen; omega) (by rw [length_u8s]; omega) (by simp) ?_))
    intro inv w2 hown2 hgrow2 hat2
    have hx2 : Ext w w2 := Touch.grown ((Ext.refl w).alloc _) hgrow2 (fun k e => Or.inr (by cases e; exact Nat.le_refl _))
    simp only [length_u8s] at hown2
    have hs2 : ∀ g, inv.ownBlock = some g → w.heap.size ≤ g := fun g e => by
      rcases hat2 with h | h
      · rw [h] at e; cases e; exact Nat.le_refl _
      · rw [h] at e; cases e; simp
    have ho2 : Owns w2 5 1 inv inv.ownBlock (u8s bs).length (u8s bs) := ⟨by rw [length_u8s]; simpa using ownsRow_zero hown2, rfl⟩
    have h2s : St w w2 ([] ++ [oB inv bs]) := (St.of (Ext.refl w)).new hx2 ho2 hs2
    obtain ⟨ia, icap, rfl⟩ := h2s.shapeB 0 rfl rfl
    have HS := Lib.hid (show St w w2 [oB (.slice ia bs.length icap) bs] from h2s)
    clear hx2 hown2 hgrow2 hat2 ho2 hs2 h2s
    go_wp2_with fail
    refine (pre_new _ bs _ (HS.out.view 0 rfl rfl) (HS.out.viewL 0 rfl) (fun b o n c e h0 => view_block (HS.out.viewL 0 rfl) h0 b o n c e) (by omega)).mono ?_
    rintro e w1 (⟨he, rfl, x1⟩ | ⟨he, _⟩)
    · have HS := Lib.hid (show St w w1 [oB (.slice ia bs.length icap) bs] from HS.out.step x1)
      rw [HERR.out]
      clear x1 he
      go_wp2_with fail
      go_loopw [10] (fun iv wr => ∃ (i : Nat) (cs : List Nat), iv = .int .i64 i ∧ i ≤ bs.length ∧ cs.length = bs.length ∧ St w wr [oB (.slice ia bs.length icap) cs]) (fun iv _ => bs.length - (intOf iv).toNat)
      case atStart => exact ⟨0, bs, rfl, Nat.zero_le _, rfl, HS.out⟩
      case round =>
        obtain ⟨i, cs, rfl, hi, hcs, hp⟩ := hrel
        have HP := Lib.hid hp
        clear hp
        by_cases hin : i < bs.length
        · have hini : (i : Int) < (bs.length : Int) := by omega
          obtain ⟨g, rfl, hfr, hcl⟩ := HP.out.blockB 0 rfl (by omega)
          have hf1 := hfr i
          have hc1 := hcl i _ (getElem?_u8s cs i (by omega))
          have HS2 := Lib.hid (HP.out.setB 0 rfl i 1 (by omega))
          clear hfr hcl
          go_wp2_with fail
          go_roundw
          case rel => exact ⟨i + 1, cs.set i 1, by go_num, by omega, by rw [List.length_set, hcs], HS2.out⟩
          case measure => simp [intOf]; omega
        · obtain rfl : i = bs.length := by omega
          go_wp2_with fail
          refine (pre_ref_rows _ bs _ (HV.out.2.ext HP.out.ext) (by omega)).mono ?_
          rintro e w3 (⟨_, rfl, x2⟩ | ⟨h0, _⟩)
          · try rw [HERR.out]
            have HX := Lib.hid (HP.out.ext.trans x2)
            clear x2
            go_wp2_with fail
            refine (pre_puts _).mono ?_
            rintro e w4 ⟨rfl, x3⟩
            have HX := Lib.hid (HX.out.trans x3)
            clear x3
            go_wp2_with fail
            go_ret
            exact ⟨rfl, HX.out⟩
          · first | (rw [HERR.out] at h0; cases h0) | exact absurd h0 HE.out
    · rw [HERR.out] at he; cases he
  · have h1 : ¬ (60 : Int) < (bs.length : Int) := by omega
    go_wp2_with (at_builtin; go_must (refine wpList_append_view _ rfl (.tmp 43) (.tmp 44) 22 rfl w.heap.size 5 j0 (.int .u8 0) 1 Try.underlying22 hj hj0 hj1 hj2 rfl (.slice (some ⟨w.heap.size, 0, none⟩) 0 0) 0 [] rfl (World.ownsRow_made w #[] 0 (Nat.le_refl _) (by decide) rfl) _ (u8s bs) rfl (HV.out.2.ext ((Ext.refl w).alloc _)) (u8s_one bs) (by rw [length_u8s]; unfold maxLen; omega) (by rw [length_u8s]; omega) (by simp) ?_))
    intro inv w2 hown2 hgrow2 hat2
    have hx2 : Ext w w2 := Touch.grown ((Ext.refl w).alloc _) hgrow2 (fun k e => Or.inr (by cases e; exact Nat.le_refl _))
    simp only [length_u8s] at hown2
    have hs2 : ∀ g, inv.ownBlock = some g → w.heap.size ≤ g := fun g e => by
      rcases hat2 with h | h
      · rw [h] at e; cases e; exact Nat.le_refl _
      · rw [h] at e; cases e; simp
    have ho2 : Owns w2 5 1 inv inv.ownBlock (u8s bs).length (u8s bs) := ⟨by rw [length_u8s]; simpa using ownsRow_zero hown2, rfl⟩
    have h2s : St w w2 ([] ++ [oB inv bs]) := (St.of (Ext.refl w)).new hx2 ho2 hs2
    obtain ⟨ia, icap, rfl⟩ := h2s.shapeB 0 rfl rfl
    have HS := Lib.hid (show St w w2 [oB (.slice ia bs.length icap) bs] from h2s)
    clear hx2 hown2 hgrow2 hat2 ho2 hs2 h2s
    go_wp2_with fail
    refine (pre_new _ bs _ (HS.out.view 0 rfl rfl) (HS.out.viewL 0 rfl) (fun b o n c e h0 => view_block (HS.out.viewL 0 rfl) h0 b o n c e) (by omega)).mono ?_
    rintro e w1 (⟨he, rfl, x1⟩ | ⟨he, T, og, og2, m, rfl, t1, n1, x1⟩)
    · have HE := Lib.hid he
      have heb : (errW bs != 0) = true := bne_iff_ne.2 he
      have heb2 : (errW bs == 0) = false := beq_eq_false_iff_ne.2 he
      have hei : ¬ errW bs = 0 := he
      have HS := Lib.hid (show St w w1 [oB (.slice ia bs.length icap) bs] from HS.out.step x1)
      clear x1 he
      go_wp2_with fail
      go_loopw [10] (fun iv wr => ∃ (i : Nat) (cs : List Nat), iv = .int .i64 i ∧ i ≤ bs.length ∧ cs.length = bs.length ∧ St w wr [oB (.slice ia bs.length icap) cs]) (fun iv _ => bs.length - (intOf iv).toNat)
      case atStart => exact ⟨0, bs, rfl, Nat.zero_le _, rfl, HS.out⟩
      case round =>
        obtain ⟨i, cs, rfl, hi, hcs, hp⟩ := hrel
        have HP := Lib.hid hp
        clear hp
        by_cases hin : i < bs.length
        · have hini : (i : Int) < (bs.length : Int) := by omega
          obtain ⟨g, rfl, hfr, hcl⟩ := HP.out.blockB 0 rfl (by omega)
          have hf1 := hfr i
          have hc1 := hcl i _ (getElem?_u8s cs i (by omega))
          have HS2 := Lib.hid (HP.out.setB 0 rfl i 1 (by omega))
          clear hfr hcl
          go_wp2_with fail
          go_roundw
          case rel => exact ⟨i + 1, cs.set i 1, by go_num, by omega, by rw [List.length_set, hcs], HS2.out⟩
          case measure => simp [intOf]; omega
        · obtain rfl : i = bs.length := by omega
          go_wp2_with fail
          refine (pre_ref_rows _ bs _ (HV.out.2.ext HP.out.ext) (by omega)).mono ?_
          rintro e w3 (⟨_, rfl, x2⟩ | ⟨h0, _⟩)
          · try rw [HERR.out]
            have HX := Lib.hid (HP.out.ext.trans x2)
            clear x2
            go_wp2_with fail
            refine (pre_puts _).mono ?_
            rintro e w4 ⟨rfl, x3⟩
            have HX := Lib.hid (HX.out.trans x3)
            clear x3
            go_wp2_with fail
            go_ret
            exact ⟨rfl, HX.out⟩
          · first | (rw [HERR.out] at h0; cases h0) | exact absurd h0 HE.out
    · have HG := Lib.hid ((good_iff bs).2 he)
      have HE := Lib.hid he
      have HS := Lib.hid (show St w w1 [oB (.slice ia bs.length icap) bs, tT T bs] from HS.out.tab t1 n1 x1)
      clear t1 n1 x1 he
      go_wp2_with fail
      go_loopw [10] (fun iv wr => ∃ (i : Nat) (cs : List Nat), iv = .int .i64 i ∧ i ≤ bs.length ∧ cs.length = bs.length ∧ St w wr [oB (.slice ia bs.length icap) cs, tT T bs]) (fun iv _ => bs.length - (intOf iv).toNat)
      case atStart => exact ⟨0, bs, rfl, Nat.zero_le _, rfl, HS.out⟩
      case round =>
        obtain ⟨i, cs, rfl, hi, hcs, hp⟩ := hrel
        have HP := Lib.hid hp
        clear hp
        by_cases hin : i < bs.length
        · have hini : (i : Int) < (bs.length : Int) := by omega
          obtain ⟨g, rfl, hfr, hcl⟩ := HP.out.blockB 0 rfl (by omega)
          have hf1 := hfr i
          have hc1 := hcl i _ (getElem?_u8s cs i (by omega))
          have HS2 := Lib.hid (HP.out.setB 0 rfl i 1 (by omega))
          clear hfr hcl
          go_wp2_with fail
          go_roundw
          case rel => exact ⟨i + 1, cs.set i 1, by go_num, by omega, by rw [List.length_set, hcs], HS2.out⟩
          case measure => simp [intOf]; omega
        · obtain rfl : i = bs.length := by omega
          go_wp2_with fail
          refine (pre_ref_rows _ bs _ (HV.out.2.ext HP.out.ext) (by omega)).mono ?_
          rintro e w3 (⟨h0, _⟩ | ⟨_, rv, rfl, r2⟩)
          · exact absurd HE.out h0
          · have HS := Lib.hid (show St w w3 [oB (.slice ia bs.length icap) cs, tT T bs, tRows rv (rowsN bs)] from HP.out.rws r2)
            clear r2
            go_wp2_with fail
            refine (HS.out.lsb_newr _ be (HZ.out.1.ext HS.out.ext) (by omega)).mono ?_
            rintro e w4 ⟨X, rfl, s4⟩
            have HS := Lib.hid s4
            clear s4
            go_wp2_with fail
            refine (HS.out.msb_newr _ be (HZ.out.1.ext HS.out.ext) (by omega)).mono ?_
            rintro e w5 ⟨Y, rfl, s4⟩
            have HS := Lib.hid s4
            clear s4
            go_wp2_with fail
            refine (pre_law_bits _ be false true rfl _ (HZ.out.2.ext HS.out.ext) HBE.out (by omega)).mono ?_
            rintro e w6 ⟨cv, cg, rfl, c1, c2, c3⟩
            have HS := Lib.hid (HS.out.new (show Ext w5 w6 from c3) (by rw [length_u8s]; exact c1) c2)
            clear c1 c2 c3
            go_wp2_with fail
            refine (pre_law_bits _ be true false rfl _ (HZ.out.2.ext HS.out.ext) HBE.out (by omega)).mono ?_
            rintro e w7 ⟨dv, dg, rfl, c1, c2, c3⟩
            have HS := Lib.hid (show St w w7 [oB (.slice ia bs.length icap) cs, tT T bs, tRows rv (rowsN bs), lR X be 0, mR Y be 0, oB cv (bn (ofBits false be)), oB dv (bn (ofBits true be))] from HS.out.new (show Ext w6 w7 from c3) (by rw [length_u8s]; exact c1) c2)
            clear c1 c2 c3
            go_wp2_with fail
            go_loopw [17, 18, 19] (fun av bv iv wr => ∃ (i p1 p2 : Nat), iv = .int .i64 i ∧ av = .int .i64 p1 ∧ bv = .int .i64 p2 ∧ i ≤ n % 61 ∧ p1 ≤ 8 * be.length ∧ p2 ≤ 8 * be.length ∧ St w wr [oB (.slice ia bs.length icap) cs, tT T bs, tRows rv (rowsN bs), lR X be p1, mR Y be p2, oB cv (bn (ofBits false be)), oB dv (bn (ofBits true be))]) (fun _ _ iv _ => n % 61 - (intOf iv).toNat)
            case atStart => exact ⟨0, 0, 0, rfl, rfl, rfl, Nat.zero_le _, Nat.zero_le _, Nat.zero_le _, HS.out⟩
            case round =>
              obtain ⟨i, p1, p2, rfl, rfl, rfl, hi2, hp1, hp2, hp⟩ := hrel
              have HS := Lib.hid hp
              clear hp
              by_cases hin2 : i < n % 61
              · have hin2i : (i : Int) < (n : Int) % 61 := by omega
                go_wp2_with fail
                refine (HS.out.lsb_get 3 1 rfl rfl (by decide) HG.out (by omega) HBE.out (by omega)).mono ?_
                rintro e w9 ⟨s, q, er, rfl, hd, s9⟩
                have HD := Lib.hid hd
                have HS := Lib.hid s9
                clear s9 hd
                go_wp2_with fail
                refine (HS.out.refGet 2 5 rfl rfl HG.out (by rw [length_ofBits]; omega) p1 (by rw [length_ofBits]; omega)).mono ?_
                rintro e w10 ⟨s', q', er', rfl, hd, s9⟩
                obtain ⟨rfl, rfl, rfl⟩ := dec_one (rows_pf HG.out) hd HD.out
                have hq := dec_le hd
                rw [length_ofBits] at hq
                have HS := Lib.hid s9
                clear s9 hd HD
                go_wp2_with fail
                refine (HS.out.lsb_at 3 rfl).mono ?_
                rintro e w11 ⟨rfl, hw⟩
                have HS := Lib.hid (hw ▸ HS.out)
                clear hw
                obtain ⟨p1', hp1⟩ : ∃ p, p = q' := ⟨_, rfl⟩
                subst hp1
                go_wp2_with fail
                refine (HS.out.msb_get 4 1 rfl rfl (by decide) HG.out (by omega) HBE.out (by omega)).mono ?_
                rintro e w9 ⟨s, q, er, rfl, hd, s9⟩
                have HD := Lib.hid hd
                have HS := Lib.hid s9
                clear s9 hd
                go_wp2_with fail
                refine (HS.out.refGet 2 6 rfl rfl HG.out (by rw [length_ofBits]; omega) p2 (by rw [length_ofBits]; omega)).mono ?_
                rintro e w10 ⟨s', q', er', rfl, hd, s9⟩
                obtain ⟨rfl, rfl, rfl⟩ := dec_one (rows_pf HG.out) hd HD.out
                have hq := dec_le hd
                rw [length_ofBits] at hq
                have HS := Lib.hid s9
                clear s9 hd HD
                go_wp2_with fail
                refine (HS.out.msb_at 4 rfl).mono ?_
                rintro e w11 ⟨rfl, hw⟩
                have HS := Lib.hid (hw ▸ HS.out)
                clear hw
                obtain ⟨p2', hp2⟩ : ∃ p, p = q' := ⟨_, rfl⟩
                subst hp2
                go_wp2_with fail
                go_roundw
                case rel => exact ⟨i + 1, p1', p2', by go_num, rfl, rfl, by omega, by omega, by omega, HS.out⟩
                case measure => simp [intOf]; omega
              · obtain rfl : i = n % 61 := by omega
                have hin2i : ¬ ((n % 61 : Nat) : Int) < (n : Int) % 61 := by omega
                go_wp2_with fail
                refine (pre_puts _).mono ?_
                rintro e w13 ⟨rfl, x3⟩
                have HX := Lib.hid (HS.out.ext.trans x3)
                clear x3
                go_wp2_with fail
                go_ret
                exact ⟨rfl, HX.out⟩
set_option maxRecDepth 100000 in
theorem pre_law_reads (v : Value) (bs : List Nat) (z : Value) (be : List Nat) (n : Nat) (w : World) (hv : View w v bs ∧ ViewL w v (u8s bs)) (hb : ∀ b ∈ bs, b < 256) (hbm : bs.length ≤ 140737488351232) (hz : View w z be ∧ ViewL w z (u8s be)) (hbe : ∀ b ∈ be, b < 256) (hzm : be.length ≤ 140737488351232) (hn : n < 256) :
    Calls Try.prog 4 #[v, z, .int .u8 n] w fun e w' => e = .returned (.bool true) ∧ Ext w w' := by
  by_cases hs : (bs.length ≤ 60 ∨ (512 < bs.length ∧ bs.length ≤ 600)) ∧ be.length ≤ 40
  · exact pre_law_reads_some v bs z be n w hv hz hbe hs.1 hs.2 hn
  · obtain ⟨ao, cap, rfl⟩ := hv.2.shape
    obtain ⟨zo, zcap, rfl⟩ := hz.2.shape
    simp only [length_u8s] at *
    clear hv hb hz hbe
    by_cases h1 : 60 < bs.length ∧ bs.length ≤ 512
    · have h11 : (60 : Int) < (bs.length : Int) := by omega
      have h12 : (bs.length : Int) ≤ 512 := by omega
      go_enter Try.func4, Try.ntmps4
      go_wp2_with fail
      go_ret
      exact ⟨rfl, Ext.refl w⟩
    · by_cases h2 : 600 < bs.length
      · have h11 : (60 : Int) < (bs.length : Int) := by omega
        have h12 : ¬ (bs.length : Int) ≤ 512 := by omega
        have h13 : (600 : Int) < (bs.length : Int) := by omega
        go_enter Try.func4, Try.ntmps4
        go_wp2_with fail
        go_ret
        exact ⟨rfl, Ext.refl w⟩
      · have h3 : (40 : Int) < (be.length : Int) := by omega
        have h13 : ¬ (600 : Int) < (bs.length : Int) := by omega
        by_cases h4 : 60 < bs.length
        · have h11 : (60 : Int) < (bs.length : Int) := by omega
          have h12 : ¬ (bs.length : Int) ≤ 512 := by omega
          go_enter Try.func4, Try.ntmps4
          go_wp2_with fail
          go_ret
          exact ⟨rfl, Ext.refl w⟩
        · have h11 : ¬ (60 : Int) < (bs.length : Int) := by omega
          go_enter Try.func4, Try.ntmps4
          go_wp2_with fail
          go_ret
          exact ⟨rfl, Ext.refl w⟩
end Go.Proofs.Ytomnhfcckalkiaa
