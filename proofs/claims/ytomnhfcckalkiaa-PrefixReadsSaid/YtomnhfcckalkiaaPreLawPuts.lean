/- pressworklaw06.PrefixPuts: its walk (its last region written by gen_prelawputs.py). -/
import Derived.Test.YtomnhfcckalkiaaPrePuts
import Derived.Test.YtomnhfcckalkiaaInts
import Derived.Test.YtomnhfcckalkiaaAppend
import Derived.Test.YtomnhfcckalkiaaGrowOn
namespace Go.Proofs.Ytomnhfcckalkiaa
open Go.RowKit
set_option linter.unusedVariables false

/-- what puts lay. -/
def rowsZ (L : List Nat) (xs : List Int) : List Bool := xs.flatMap (rowZ L)
theorem rowsZ_succ (L : List Nat) (xs : List Int) (i : Nat) (x : Int) (h : xs[i]? = some x) : rowsZ L (xs.take (i + 1)) = rowsZ L (xs.take i) ++ rowZ L x := by
  rw [List.take_add_one, h]; simp [rowsZ]
theorem rowZ_len {L : List Nat} (hg : Good L) (x : Int) : (rowZ L x).length ≤ 20 := by
  rw [rowZ]
  split
  · rename_i h
    obtain ⟨k, rfl, hk, e⟩ := bitsL_pos h
    rw [length_rowOf, Int.toNat_natCast, ← e]; exact bitsL_le hg _
  · simp
theorem rowsZ_len {L : List Nat} (hg : Good L) (xs : List Int) : (rowsZ L xs).length ≤ 20 * xs.length := by
  induction xs with
  | nil => simp [rowsZ]
  | cons x xs ih =>
    have := rowZ_len hg x
    simp only [rowsZ, List.flatMap_cons, List.length_append, List.length_cons] at ih ⊢
    omega
theorem not_put (L : List Nat) (x : Int) (h : bitsL L x = 0) : x < 0 ∨ ∃ k : Nat, x = k ∧ (L.length ≤ k ∨ (k < L.length ∧ L.getD k 0 = 0)) := by
  by_cases h0 : x < 0
  · exact Or.inl h0
  · obtain ⟨k, rfl⟩ := Int.eq_ofNat_of_zero_le (show 0 ≤ x by omega)
    refine Or.inr ⟨k, rfl, ?_⟩
    by_cases hk : k < L.length
    · refine Or.inr ⟨hk, ?_⟩
      rw [bitsL, if_pos (by omega), Int.toNat_natCast] at h; exact h
    · exact Or.inl (by omega)
theorem ofBits_packs (hi : Bool) (l : List Bool) : (ofBits hi (packs hi l)).take l.length = l := by
  have hl : (ofBits hi (packs hi l)).length = 8 * ((l.length + 7) / 8) := by rw [length_ofBits, length_packs]
  apply List.ext_getElem?
  intro i
  rw [List.getElem?_take]
  by_cases h : i < l.length
  · rw [if_pos h]
    have := ofBits_get hi (packs hi l) i
    rw [rbit_packs, List.getD, List.getD, List.getElem?_eq_getElem (by omega), List.getElem?_eq_getElem h] at this
    rw [List.getElem?_eq_getElem (by omega), List.getElem?_eq_getElem h]
    simpa using this
  · rw [if_neg h, List.getElem?_eq_none (by omega)]
theorem View.cut {w : World} {ao : Option Addr} {n cap : Nat} {bs : List Nat} (h : View w (.slice ao n cap) bs) (k : Nat) (hk : k ≤ n) : View w (.slice ao k cap) (bs.take k) := by
  rcases h with ⟨e, rfl⟩ | ⟨a, cap', e, hc⟩
  · cases e
    obtain rfl : k = 0 := by omega
    exact Or.inl ⟨rfl, rfl⟩
  · cases e
    refine Or.inr ⟨a, cap, by rw [List.length_take]; congr 1; omega, fun j u hu => hc j u ?_⟩
    simp only [u8s, List.map_take] at hu ⊢
    rw [List.getElem?_take] at hu
    split at hu
    · exact hu
    · cases hu
theorem St.growB {w0 w w' : World} {Ts : List Thing} {v v' : Value} {bs cs : List Nat} {n : Nat} (h : St w0 w Ts) (j : Nat) (hj : Ts[j]? = some (oB v bs)) (hn : bs.length = n) (hown' : w'.ownsRow 0 5 1 v' (n + (u8s cs).length) (u8s bs ++ u8s cs))
    (hgrow : w.grownBy w' v.ownBlock) (hat : v'.ownBlock = v.ownBlock ∨ v'.ownBlock = some w.heap.size) : St w0 w' (Ts.set j (oB v' (bs ++ cs))) := by
  subst hn
  show St w0 w' (Ts.set j (tO 5 v' (u8s (bs ++ cs))))
  rw [u8s_append]
  exact h.grown j hj (by rw [length_u8s]; exact hown') hgrow hat
theorem viewL_at {w : World} {b o n c i : Nat} {xs : List Value} {u : Value} (h : ViewL w (.slice (some ⟨b, o, none⟩) n c) xs) (hu : xs[i]? = some u) : w.cell? ⟨b, o + i, none⟩ = some u := by
  obtain ⟨b', o', e, _, hc⟩ := viewL_cells h (by have := getE_lt hu; omega)
  cases e
  exact hc i u hu
set_option maxHeartbeats 8000000 in
set_option maxRecDepth 100000 in
theorem pre_law_puts_some (v : Value) (bs : List Nat) (u : Value) (xs : List Int) (w : World) (hv : View w v bs ∧ ViewL w v (u8s bs)) (hu : ViewL w u (kints .i64 xs)) (hbl : bs.length ≤ 60) (hxl : xs.length ≤ 40) :
    Calls Try.prog 3 #[v, u] w fun e w' => e = .returned (.bool true) ∧ Ext w w' := by
  obtain ⟨j0, hj, hj0, hj1, hj2⟩ := info_parts info_u8
  have hvb := view_block hv.2
  obtain ⟨ao, cap, rfl⟩ := hv.2.shape
  obtain ⟨bo, ucap, rfl⟩ := hu.shape
  rw [length_u8s] at *
  rw [length_kints] at *
  have HV := Lib.hid hv
  have HU := Lib.hid hu
  have HVB := Lib.hid (show ∀ b o n c, Value.slice ao bs.length cap = .slice (some ⟨b, o, none⟩) n c → 0 < bs.length → b < w.heap.size from fun b o n c e h0 => hvb h0 b o n c e)
  clear hv hu hvb
  have h1 : ¬ (60 : Int) < (bs.length : Int) := by omega
  have h2 : ¬ (40 : Int) < (xs.length : Int) := by omega
  go_enter Try.func3, Try.ntmps3
  go_wp2_with fail
  refine (pre_new _ bs _ HV.out.1 HV.out.2 HVB.out (by omega)).mono ?_
  rintro e w1 (⟨he, rfl, x1⟩ | ⟨he, T, og, og2, m, rfl, t1, n1, x1⟩)
  · have HE := Lib.hid he
    have heb : (errW bs != 0) = true := bne_iff_ne.2 he
    have hei : ¬ errW bs = 0 := he
    have HX := Lib.hid x1
    clear he x1
    go_wp2_with fail
    refine (pre_ref_rows _ bs _ (HV.out.2.ext HX.out) (by omega)).mono ?_
    rintro e w2 (⟨_, rfl, x2⟩ | ⟨h0, _⟩)
    · have HX := Lib.hid (HX.out.trans x2)
      clear x2
      go_wp2_with fail
      refine (pre_puts _).mono ?_
      rintro e w3 ⟨rfl, x3⟩
      have HX := Lib.hid (HX.out.trans x3)
      clear x3
      go_wp2_with fail
      go_ret
      exact ⟨rfl, HX.out⟩
    · exact absurd h0 HE.out
  · have HG := Lib.hid ((good_iff bs).2 he)
    have HE := Lib.hid he
    have HS := Lib.hid ((St.of (Ext.refl w)).tab t1 n1 x1)
    clear t1 n1 x1 he
    go_wp2_with fail
    refine (pre_ref_rows _ bs _ (HV.out.2.ext HS.out.ext) (by omega)).mono ?_
    rintro e w2 (⟨h0, _⟩ | ⟨_, rv, rfl, r2⟩)
    · exact absurd HE.out h0
    · have s2 := HS.out.rws r2
      obtain ⟨ra, rcap, rfl, _⟩ := s2.rowsAt 1 rfl bs.length (length_rowsN bs)
      have s3 := s2.lsb_neww.msb_neww.new (Ext.refl _) (Owns.nil _ 5 1) (fun g e => by cases e)
      rw [World.size_alloc] at s3
      obtain ⟨A, hA⟩ : ∃ A, A = w2.heap.size := ⟨_, rfl⟩
      have HA := Lib.hid hA
      rw [← hA] at s3
      have HS := Lib.hid (show St w _ [tT T bs, tRows (.slice ra bs.length rcap) (rowsN bs), lW A [], mW (A + 1) [], oB (.slice none 0 0) (bn [])] from s3)
      clear s2 s3 r2 hA
      go_wp2_with fail
      rw [← HA.out]
      clear HA
      go_loopw [11, 12] (fun qv iv wr => ∃ i : Nat, iv = .int .i64 i ∧ i ≤ xs.length ∧ St w wr [tT T bs, tRows (.slice ra bs.length rcap) (rowsN bs), lW A (rowsZ bs (xs.take i)), mW (A + 1) (rowsZ bs (xs.take i)), oB qv (bn (rowsZ bs (xs.take i)))]) (fun _ iv _ => xs.length - (intOf iv).toNat)
      case atStart => exact ⟨0, rfl, Nat.zero_le _, HS.out⟩
      case round =>
        obtain ⟨i, rfl, hi2, hp⟩ := hrel
        have hRl := rowsZ_len HG.out (xs.take i)
        rw [List.length_take] at hRl
        by_cases hin : i < xs.length
        · have hini : (i : Int) < (xs.length : Int) := by omega
          obtain ⟨b, o, rfl, _, hc⟩ := viewL_cells (HU.out.ext hp.ext) (by rw [length_kints]; omega)
          obtain ⟨x, hx⟩ : ∃ x, xs[i]? = some x := ⟨_, List.getElem?_eq_getElem hin⟩
          have cX := hc i (.int .i64 x) (by simp [kints, hx])
          have hst := rowsZ_succ bs xs i x hx
          have hzl := rowZ_len HG.out x
          generalize hR : rowsZ bs (xs.take i) = R at *
          clear hR
          have HST := Lib.hid hst
          have HX := Lib.hid hx
          have HP := Lib.hid hp
          have hRb : R.length ≤ 800 := by omega
          have hb20 := bitsL_le HG.out x
          clear hc hx hst hp hRl
          by_cases hpos : 0 < bitsL bs x
          · obtain ⟨k, rfl, hk, hn⟩ := bitsL_pos hpos
            have hZ : rowZ bs k = rowOf bs k := by rw [rowZ, if_pos hpos, Int.toNat_natCast]
            have hE0 : putErr bs k = 0 := by rw [putErr, if_pos hpos]
            have hzl2 : (bn (rowOf bs k)).length = bitsL bs k := by rw [length_bn, length_rowOf, hn]
            obtain ⟨ra', rcap', e, hr⟩ := HP.out.rowsAt 1 rfl bs.length (length_rowsN bs)
            cases e
            obtain ⟨g, uo, uc, rfl, cr, vl, vw⟩ := hr k _ _ (rowsN_get bs k hk) hzl2
            have hki : (k : Int) < (bs.length : Int) := by omega
            have HVL := Lib.hid vl
            have HZ := Lib.hid hZ
            have HE0 := Lib.hid hE0
            have HZL := Lib.hid hzl2
            generalize hnn : bitsL bs k = n at *
            have HN := Lib.hid hnn
            clear hnn
            have hn0 : (0 : Int) < (n : Int) := by omega
            clear hr vl vw hn hZ hE0 hzl2
            go_wp2_with (at_builtin; go_must (refine wpList_append_view _ rfl (.tmp 76) (.tmp 83) 22 rfl 0 5 j0 (.int .u8 0) 1 Try.underlying22 hj hj0 hj1 hj2 rfl _ R.length (u8s (bn R)) rfl (HP.out.rowB 4 rfl (length_bn R)) _ (u8s (bn (rowOf bs k))) rfl HVL.out (u8s_one _) (by rw [length_u8s, HZL.out]; unfold maxLen; omega) (by rw [length_u8s, HZL.out]; omega) (Nat.zero_le _) ?_))
            intro v' w3 hown' hgrow hat
            have s3 := HP.out.growB 4 rfl (length_bn R) hown' hgrow hat
            rw [← bn_append] at s3
            have HS := Lib.hid (show St w w3 [tT T bs, tRows (.slice (some ⟨g, 0, none⟩) bs.length rcap) (rowsN bs), lW A R, mW (A + 1) R, oB v' (bn (R ++ rowOf bs k))] from s3)
            clear s3 hown' hgrow hat cX cr
            obtain ⟨_, _, e, hr⟩ := HS.out.rowsAt 1 rfl bs.length (length_rowsN bs)
            obtain ⟨_, uo', uc', e2, cr, _, _⟩ := hr k _ _ (rowsN_get bs k hk) HZL.out
            cases e
            cases e2
            have cX := viewL_at (HU.out.ext HS.out.ext) (show (kints .i64 xs)[i]? = some (.int .i64 k) by simp [kints, HX.out])
            clear hr
            go_wp2_with fail
            clear cr cX
            refine (HS.out.lsb_put 2 0 rfl rfl (by decide) HG.out k (by omega)).mono ?_
            rw [HE0.out, HZ.out]
            rintro e w4 ⟨rfl, s4⟩
            have HS := Lib.hid (show St w w4 [tT T bs, tRows (.slice (some ⟨g, 0, none⟩) bs.length rcap) (rowsN bs), lW A (R ++ rowOf bs k), mW (A + 1) R, oB v' (bn (R ++ rowOf bs k))] from s4)
            have cX := viewL_at (HU.out.ext HS.out.ext) (show (kints .i64 xs)[i]? = some (.int .i64 k) by simp [kints, HX.out])
            clear s4
            go_wp2_with fail
            clear cX
            refine (HS.out.msb_put 3 0 rfl rfl (by decide) HG.out k (by omega)).mono ?_
            rw [HE0.out, HZ.out]
            rintro e w5 ⟨rfl, s4⟩
            have HS := Lib.hid (show St w w5 [tT T bs, tRows (.slice (some ⟨g, 0, none⟩) bs.length rcap) (rowsN bs), lW A (R ++ rowOf bs k), mW (A + 1) (R ++ rowOf bs k), oB v' (bn (R ++ rowOf bs k))] from s4)
            have cX := viewL_at (HU.out.ext HS.out.ext) (show (kints .i64 xs)[i]? = some (.int .i64 k) by simp [kints, HX.out])
            clear s4
            go_wp2_with fail
            clear cX
            refine (HS.out.bits 0 rfl HG.out k).mono ?_
            rw [HN.out]
            rintro e w6 ⟨rfl, hw⟩
            have HS := Lib.hid (hw ▸ HS.out)
            clear hw
            go_wp2_with fail
            go_roundw
            case rel => exact ⟨i + 1, by go_num, by omega, by rw [HST.out, HZ.out]; exact HS.out⟩
            case measure => simp [intOf]; omega
          · have hZ : rowZ bs x = [] := by rw [rowZ, if_neg hpos]
            have hE5 : putErr bs x = 5 := by rw [putErr, if_neg hpos]
            have hB0 : bitsL bs x = 0 := by omega
            have HZ := Lib.hid hZ
            have HE5 := Lib.hid hE5
            have HB0 := Lib.hid hB0
            clear hpos
            rcases not_put bs x hB0 with hx0 | ⟨k, rfl, hk | ⟨hk, hn⟩⟩
            · have HK := Lib.hid (show (kints .i64 xs)[i]? = some (.int .i64 x) by simp [kints, HX.out])
              have hb0 : ¬ 0 ≤ x := by omega
              go_wp2_with fail
              clear cX
              refine (HP.out.lsb_put 2 0 rfl rfl (by decide) HG.out _ (by omega)).mono ?_
              rw [HE5.out, HZ.out, List.append_nil]
              rintro e w4 ⟨rfl, s4⟩
              have HS := Lib.hid (show St w w4 [tT T bs, tRows (.slice _ bs.length rcap) (rowsN bs), lW A R, mW (A + 1) R, oB u11 (bn R)] from s4)
              have cX := viewL_at (HU.out.ext HS.out.ext) HK.out
              clear s4
              go_wp2_with fail
              clear cX
              refine (HS.out.msb_put 3 0 rfl rfl (by decide) HG.out _ (by omega)).mono ?_
              rw [HE5.out, HZ.out, List.append_nil]
              rintro e w5 ⟨rfl, s4⟩
              have HS := Lib.hid (show St w w5 [tT T bs, tRows (.slice _ bs.length rcap) (rowsN bs), lW A R, mW (A + 1) R, oB u11 (bn R)] from s4)
              have cX := viewL_at (HU.out.ext HS.out.ext) HK.out
              clear s4
              go_wp2_with fail
              clear cX
              refine (HS.out.bits 0 rfl HG.out _).mono ?_
              rw [HB0.out]
              rintro e w6 ⟨rfl, hw⟩
              have HS := Lib.hid (hw ▸ HS.out)
              clear hw
              go_wp2_with fail
              go_roundw
              case rel => exact ⟨i + 1, by go_num, by omega, by rw [HST.out, HZ.out, List.append_nil]; exact HS.out⟩
              case measure => simp [intOf]; omega
            · have HK := Lib.hid (show (kints .i64 xs)[i]? = some (.int .i64 k) by simp [kints, HX.out])
              have hb0 : (0 : Int) ≤ (k : Int) := by omega
              have hb1 : ¬ (k : Int) < (bs.length : Int) := by omega
              go_wp2_with fail
              clear cX
              refine (HP.out.lsb_put 2 0 rfl rfl (by decide) HG.out _ (by omega)).mono ?_
              rw [HE5.out, HZ.out, List.append_nil]
              rintro e w4 ⟨rfl, s4⟩
              have HS := Lib.hid (show St w w4 [tT T bs, tRows (.slice _ bs.length rcap) (rowsN bs), lW A R, mW (A + 1) R, oB u11 (bn R)] from s4)
              have cX := viewL_at (HU.out.ext HS.out.ext) HK.out
              clear s4
              go_wp2_with fail
              clear cX
              refine (HS.out.msb_put 3 0 rfl rfl (by decide) HG.out _ (by omega)).mono ?_
              rw [HE5.out, HZ.out, List.append_nil]
              rintro e w5 ⟨rfl, s4⟩
              have HS := Lib.hid (show St w w5 [tT T bs, tRows (.slice _ bs.length rcap) (rowsN bs), lW A R, mW (A + 1) R, oB u11 (bn R)] from s4)
              have cX := viewL_at (HU.out.ext HS.out.ext) HK.out
              clear s4
              go_wp2_with fail
              clear cX
              refine (HS.out.bits 0 rfl HG.out _).mono ?_
              rw [HB0.out]
              rintro e w6 ⟨rfl, hw⟩
              have HS := Lib.hid (hw ▸ HS.out)
              clear hw
              go_wp2_with fail
              go_roundw
              case rel => exact ⟨i + 1, by go_num, by omega, by rw [HST.out, HZ.out, List.append_nil]; exact HS.out⟩
              case measure => simp [intOf]; omega
            · have HK := Lib.hid (show (kints .i64 xs)[i]? = some (.int .i64 k) by simp [kints, HX.out])
              have hb0 : (0 : Int) ≤ (k : Int) := by omega
              have hb1 : (k : Int) < (bs.length : Int) := by omega
              obtain ⟨_, _, e, hr⟩ := HP.out.rowsAt 1 rfl bs.length (length_rowsN bs)
              obtain ⟨g, uo', uc', e2, cr, _, _⟩ := hr k _ 0 (rowsN_get bs k hk) (by rw [length_bn, length_rowOf, hn])
              cases e
              cases e2
              clear hr
              go_wp2_with fail
              clear cX
              refine (HP.out.lsb_put 2 0 rfl rfl (by decide) HG.out _ (by omega)).mono ?_
              rw [HE5.out, HZ.out, List.append_nil]
              rintro e w4 ⟨rfl, s4⟩
              have HS := Lib.hid (show St w w4 [tT T bs, tRows (.slice _ bs.length rcap) (rowsN bs), lW A R, mW (A + 1) R, oB u11 (bn R)] from s4)
              have cX := viewL_at (HU.out.ext HS.out.ext) HK.out
              clear s4
              go_wp2_with fail
              clear cX
              refine (HS.out.msb_put 3 0 rfl rfl (by decide) HG.out _ (by omega)).mono ?_
              rw [HE5.out, HZ.out, List.append_nil]
              rintro e w5 ⟨rfl, s4⟩
              have HS := Lib.hid (show St w w5 [tT T bs, tRows (.slice _ bs.length rcap) (rowsN bs), lW A R, mW (A + 1) R, oB u11 (bn R)] from s4)
              have cX := viewL_at (HU.out.ext HS.out.ext) HK.out
              clear s4
              go_wp2_with fail
              clear cX
              refine (HS.out.bits 0 rfl HG.out _).mono ?_
              rw [HB0.out]
              rintro e w6 ⟨rfl, hw⟩
              have HS := Lib.hid (hw ▸ HS.out)
              clear hw
              go_wp2_with fail
              go_roundw
              case rel => exact ⟨i + 1, by go_num, by omega, by rw [HST.out, HZ.out, List.append_nil]; exact HS.out⟩
              case measure => simp [intOf]; omega
        · obtain rfl : i = xs.length := by omega
          rw [List.take_length] at hp
          obtain ⟨R, hR⟩ : ∃ R, R = rowsZ bs xs := ⟨_, rfl⟩
          have hRb : R.length ≤ 800 := by have := rowsZ_len HG.out xs; rw [← hR] at this; omega
          rw [← hR] at hp
          have HS := Lib.hid hp
          obtain ⟨qa, qcap, rfl⟩ := hp.shapeB 4 rfl (length_bn R)
          clear hp hR hRl
          go_wp2_with fail
          refine (HS.out.lsb_bytes 2 rfl (by omega)).mono ?_
          rintro e w3 ⟨v3, rfl, s3, _⟩
          have HS := Lib.hid s3
          clear s3
          go_wp2_with fail
          have hlp := length_packs false R
          refine (pre_law_bits v3 (packs false R) false true rfl _ (HS.out.viewL 5 rfl) (packs_lt _ _) (by omega)).mono ?_
          rintro e w4 ⟨cv, cg, rfl, c1, c2, c3⟩
          have HS := Lib.hid (HS.out.new (show Ext w3 w4 from c3) (by rw [length_u8s]; exact c1) c2)
          clear c1 c2 c3
          go_wp2_with fail
          refine (HS.out.msb_bytes 3 rfl (by omega)).mono ?_
          rintro e w5 ⟨v5, rfl, s3, _⟩
          have HS := Lib.hid s3
          clear s3
          go_wp2_with fail
          have hlp2 := length_packs true R
          refine (pre_law_bits v5 (packs true R) true false rfl _ (HS.out.viewL 7 rfl) (packs_lt _ _) (by omega)).mono ?_
          rintro e w6 ⟨dv, dg, rfl, c1, c2, c3⟩
          obtain ⟨N, hN⟩ : ∃ N, N = 8 * ((R.length + 7) / 8) := ⟨_, rfl⟩
          have hNR : R.length ≤ N := by omega
          have HS := Lib.hid (show St w w6 [tT T bs, tRows _ (rowsN bs), lW A R, mW (A + 1) R, oB (.slice qa R.length qcap) (bn R), oB v3 (packs false R), oB cv (bn (ofBits false (packs false R))), oB v5 (packs true R), oB dv (bn (ofBits true (packs true R)))] from HS.out.new (show Ext w5 w6 from c3) (by rw [length_u8s]; exact c1) c2)
          obtain ⟨ca, ccap, rfl⟩ := HS.out.shapeB 6 rfl (show (bn (ofBits false (packs false R))).length = N by rw [length_bn, length_ofBits, hlp, hN])
          obtain ⟨da, dcap, rfl⟩ := HS.out.shapeB 8 rfl (show (bn (ofBits true (packs true R))).length = N by rw [length_bn, length_ofBits, hlp2, hN])
          have hcv := (HS.out.view 6 rfl rfl).cut R.length hNR
          have hdv := (HS.out.view 8 rfl rfl).cut R.length hNR
          rw [show (bn (ofBits false (packs false R))).take R.length = bn R by rw [bn, ← List.map_take, ofBits_packs]; rfl] at hcv
          rw [show (bn (ofBits true (packs true R))).take R.length = bn R by rw [bn, ← List.map_take, ofBits_packs]; rfl] at hdv
          have HCV := Lib.hid hcv
          have HDV := Lib.hid hdv
          have HRV := Lib.hid (HS.out.view 4 rfl rfl)
          have hq : ((strOf (bn R)).toList == (strOf (bn R)).toList) = true := by simp
          have hcc : N ≤ ccap := by
            obtain ⟨_, _, e, h, _⟩ := HS.out.viewL 6 rfl
            cases e
            rw [length_u8s, length_bn, length_ofBits, hlp] at h; omega
          have hdc : N ≤ dcap := by
            obtain ⟨_, _, e, h, _⟩ := HS.out.viewL 8 rfl
            cases e
            rw [length_u8s, length_bn, length_ofBits, hlp2] at h; omega
          have hcr : ¬ ccap < R.length := by omega
          have hdr : ¬ dcap < R.length := by omega
          clear hcv hdv c1 c2 c3 hlp hlp2 hN
          go_wp2_with fail
-- REG
          have hst : Stab (Phi [(9, .pointer (some ⟨A, 0, none⟩)), (11, .slice qa R.length qcap), (10, .pointer (some ⟨A + 1, 0, none⟩)), (15, .slice ca N ccap), (16, .slice da N dcap), (125, .int .i64 R.length), (126, .slice qa R.length qcap), (127, .int .i64 R.length), (128, .bool true), (129, .bool true), (130, .int .i64 R.length), (131, .slice qa R.length qcap), (132, .int .i64 R.length), (133, .bool true), (134, .bool true), (135, .bool true), (136, .slice ca N ccap), (137, .int .i64 N), (138, .slice qa R.length qcap), (139, .int .i64 R.length), (140, .bool true), (141, .bool true), (142, .bool true), (143, .slice da N dcap), (144, .int .i64 N), (145, .slice qa R.length qcap), (146, .int .i64 R.length), (147, .bool true), (148, .bool true), (149, .bool true), (150, .slice ca N ccap), (151, .slice qa R.length qcap), (152, .int .i64 R.length), (153, .slice ca R.length ccap), (154, .string (strOf (bn R))), (155, .slice qa R.length qcap), (156, .string (strOf (bn R))), (157, .bool true), (158, .bool true), (159, .bool true), (160, .slice da N dcap), (161, .slice qa R.length qcap), (162, .int .i64 R.length), (163, .slice da R.length dcap), (164, .string (strOf (bn R))), (165, .slice qa R.length qcap), (166, .string (strOf (bn R))), (167, .bool true), (168, .bool true), (169, .bool true), (170, .bool true), (171, .bool true), (4, .bool true)] []) := Phi.stable (fun x hx => by cases hx)
          refine wp_region_grow 172 [9, 11, 10, 15, 16] (by kernel_rfl) _ hst (by kernel_rfl) rfl (fun _ => ⟨rfl, rfl, rfl, rfl, rfl, trivial⟩) ⟨?_, ?_, ?_, ?_, ?_, ?_, ?_, ?_, ?_, ?_, ?_, ?_, ?_, ?_, ?_, ?_, ?_, ?_, ?_, ?_, ?_, ?_, ?_, ?_, ?_, ?_, ?_, ?_, ?_, ?_, ?_, ?_, ?_, ?_, ?_, ?_, ?_, ?_, ?_, ?_, ?_, ?_, ?_, ?_, ?_, ?_, ?_, ?_, trivial⟩ ?fin
          · refine Obl.call 18 #[.pointer (some ⟨A, 0, none⟩)] (fun ev w1 hI hc hf hg hev => ?_)
            have h0 : ev (.tmp 9) = .pointer (some ⟨A, 0, none⟩) := hev.1
            refine ⟨rfl, by (clear hev; go_simp), ?_⟩
            refine ((HS.out.step hI).lsb_len 2 rfl).mono ?_
            rintro e w2 ⟨rfl, rfl⟩
            exact ⟨_, rfl, Ext.refl _, fun d hd => by cases hd; rfl⟩
          · refine Obl.val (.slice qa R.length qcap) (fun ev w1 hc hf hg hev => ?_) (fun d hd w1 => by cases hd; rfl)
            have h0 : ev (.tmp 11) = .slice qa R.length qcap := hev.1
            exact ⟨rfl, by (clear hev; go_simp)⟩
          · refine Obl.val (.int .i64 R.length) (fun ev w1 hc hf hg hev => ?_) (fun d hd w1 => by cases hd; rfl)
            have h0 : ev (.tmp 126) = .slice qa R.length qcap := hev.1
            exact ⟨rfl, by (clear hev; go_simp)⟩
          · refine Obl.val (.bool true) (fun ev w1 hc hf hg hev => ?_) (fun d hd w1 => by cases hd; rfl)
            have h0 : ev (.tmp 125) = .int .i64 R.length := hev.1; have h1 : ev (.tmp 127) = .int .i64 R.length := hev.2.1
            exact ⟨rfl, by (clear hev; go_simp)⟩
          · refine Obl.val (.bool true) (fun ev w1 hc hf hg hev => ?_) (fun d hd w1 => by cases hd; rfl)
            have h0 : ev (.tmp 128) = .bool true := hev.1
            exact ⟨rfl, by (clear hev; go_simp)⟩
          · refine Obl.call 19 #[.pointer (some ⟨A + 1, 0, none⟩)] (fun ev w1 hI hc hf hg hev => ?_)
            have h0 : ev (.tmp 129) = .bool true := hev.1; have h1 : ev (.tmp 10) = .pointer (some ⟨A + 1, 0, none⟩) := hev.2.1
            refine ⟨wanted_of rfl rfl h0, by (clear hev; go_simp), ?_⟩
            refine ((HS.out.step hI).msb_len 3 rfl).mono ?_
            rintro e w2 ⟨rfl, rfl⟩
            exact ⟨_, rfl, Ext.refl _, fun d hd => by cases hd; rfl⟩
          · refine Obl.val (.slice qa R.length qcap) (fun ev w1 hc hf hg hev => ?_) (fun d hd w1 => by cases hd; rfl)
            have h0 : ev (.tmp 129) = .bool true := hev.1; have h1 : ev (.tmp 11) = .slice qa R.length qcap := hev.2.1
            exact ⟨wanted_of rfl rfl h0, by (clear hev; go_simp)⟩
          · refine Obl.val (.int .i64 R.length) (fun ev w1 hc hf hg hev => ?_) (fun d hd w1 => by cases hd; rfl)
            have h0 : ev (.tmp 129) = .bool true := hev.1; have h1 : ev (.tmp 131) = .slice qa R.length qcap := hev.2.1
            exact ⟨wanted_of rfl rfl h0, by (clear hev; go_simp)⟩
          · refine Obl.val (.bool true) (fun ev w1 hc hf hg hev => ?_) (fun d hd w1 => by cases hd; rfl)
            have h0 : ev (.tmp 129) = .bool true := hev.1; have h1 : ev (.tmp 130) = .int .i64 R.length := hev.2.1; have h2 : ev (.tmp 132) = .int .i64 R.length := hev.2.2.1
            exact ⟨wanted_of rfl rfl h0, by (clear hev; go_simp)⟩
          · refine Obl.val (.bool true) (fun ev w1 hc hf hg hev => ?_) (fun d hd w1 => by cases hd; rfl)
            have h0 : ev (.tmp 129) = .bool true := hev.1; have h1 : ev (.tmp 133) = .bool true := hev.2.1
            exact ⟨rfl, by (clear hev; go_simp)⟩
          · refine Obl.val (.bool true) (fun ev w1 hc hf hg hev => ?_) (fun d hd w1 => by cases hd; rfl)
            have h0 : ev (.tmp 134) = .bool true := hev.1
            exact ⟨rfl, by (clear hev; go_simp)⟩
          · refine Obl.val (.slice ca N ccap) (fun ev w1 hc hf hg hev => ?_) (fun d hd w1 => by cases hd; rfl)
            have h0 : ev (.tmp 135) = .bool true := hev.1; have h1 : ev (.tmp 15) = .slice ca N ccap := hev.2.1
            exact ⟨wanted_of rfl rfl h0, by (clear hev; go_simp)⟩
          · refine Obl.val (.int .i64 N) (fun ev w1 hc hf hg hev => ?_) (fun d hd w1 => by cases hd; rfl)
            have h0 : ev (.tmp 135) = .bool true := hev.1; have h1 : ev (.tmp 136) = .slice ca N ccap := hev.2.1
            exact ⟨wanted_of rfl rfl h0, by (clear hev; go_simp)⟩
          · refine Obl.val (.slice qa R.length qcap) (fun ev w1 hc hf hg hev => ?_) (fun d hd w1 => by cases hd; rfl)
            have h0 : ev (.tmp 135) = .bool true := hev.1; have h1 : ev (.tmp 11) = .slice qa R.length qcap := hev.2.1
            exact ⟨wanted_of rfl rfl h0, by (clear hev; go_simp)⟩
          · refine Obl.val (.int .i64 R.length) (fun ev w1 hc hf hg hev => ?_) (fun d hd w1 => by cases hd; rfl)
            have h0 : ev (.tmp 135) = .bool true := hev.1; have h1 : ev (.tmp 138) = .slice qa R.length qcap := hev.2.1
            exact ⟨wanted_of rfl rfl h0, by (clear hev; go_simp)⟩
          · refine Obl.val (.bool true) (fun ev w1 hc hf hg hev => ?_) (fun d hd w1 => by cases hd; rfl)
            have h0 : ev (.tmp 135) = .bool true := hev.1; have h1 : ev (.tmp 137) = .int .i64 N := hev.2.1; have h2 : ev (.tmp 139) = .int .i64 R.length := hev.2.2.1
            exact ⟨wanted_of rfl rfl h0, by (clear hev; go_simp)⟩
          · refine Obl.val (.bool true) (fun ev w1 hc hf hg hev => ?_) (fun d hd w1 => by cases hd; rfl)
            have h0 : ev (.tmp 135) = .bool true := hev.1; have h1 : ev (.tmp 140) = .bool true := hev.2.1
            exact ⟨rfl, by (clear hev; go_simp)⟩
          · refine Obl.val (.bool true) (fun ev w1 hc hf hg hev => ?_) (fun d hd w1 => by cases hd; rfl)
            have h0 : ev (.tmp 141) = .bool true := hev.1
            exact ⟨rfl, by (clear hev; go_simp)⟩
          · refine Obl.val (.slice da N dcap) (fun ev w1 hc hf hg hev => ?_) (fun d hd w1 => by cases hd; rfl)
            have h0 : ev (.tmp 142) = .bool true := hev.1; have h1 : ev (.tmp 16) = .slice da N dcap := hev.2.1
            exact ⟨wanted_of rfl rfl h0, by (clear hev; go_simp)⟩
          · refine Obl.val (.int .i64 N) (fun ev w1 hc hf hg hev => ?_) (fun d hd w1 => by cases hd; rfl)
            have h0 : ev (.tmp 142) = .bool true := hev.1; have h1 : ev (.tmp 143) = .slice da N dcap := hev.2.1
            exact ⟨wanted_of rfl rfl h0, by (clear hev; go_simp)⟩
          · refine Obl.val (.slice qa R.length qcap) (fun ev w1 hc hf hg hev => ?_) (fun d hd w1 => by cases hd; rfl)
            have h0 : ev (.tmp 142) = .bool true := hev.1; have h1 : ev (.tmp 11) = .slice qa R.length qcap := hev.2.1
            exact ⟨wanted_of rfl rfl h0, by (clear hev; go_simp)⟩
          · refine Obl.val (.int .i64 R.length) (fun ev w1 hc hf hg hev => ?_) (fun d hd w1 => by cases hd; rfl)
            have h0 : ev (.tmp 142) = .bool true := hev.1; have h1 : ev (.tmp 145) = .slice qa R.length qcap := hev.2.1
            exact ⟨wanted_of rfl rfl h0, by (clear hev; go_simp)⟩
          · refine Obl.val (.bool true) (fun ev w1 hc hf hg hev => ?_) (fun d hd w1 => by cases hd; rfl)
            have h0 : ev (.tmp 142) = .bool true := hev.1; have h1 : ev (.tmp 144) = .int .i64 N := hev.2.1; have h2 : ev (.tmp 146) = .int .i64 R.length := hev.2.2.1
            exact ⟨wanted_of rfl rfl h0, by (clear hev; go_simp)⟩
          · refine Obl.val (.bool true) (fun ev w1 hc hf hg hev => ?_) (fun d hd w1 => by cases hd; rfl)
            have h0 : ev (.tmp 142) = .bool true := hev.1; have h1 : ev (.tmp 147) = .bool true := hev.2.1
            exact ⟨rfl, by (clear hev; go_simp)⟩
          · refine Obl.val (.bool true) (fun ev w1 hc hf hg hev => ?_) (fun d hd w1 => by cases hd; rfl)
            have h0 : ev (.tmp 148) = .bool true := hev.1
            exact ⟨rfl, by (clear hev; go_simp)⟩
          · refine Obl.val (.slice ca N ccap) (fun ev w1 hc hf hg hev => ?_) (fun d hd w1 => by cases hd; rfl)
            have h0 : ev (.tmp 149) = .bool true := hev.1; have h1 : ev (.tmp 15) = .slice ca N ccap := hev.2.1
            exact ⟨wanted_of rfl rfl h0, by (clear hev; go_simp)⟩
          · refine Obl.val (.slice qa R.length qcap) (fun ev w1 hc hf hg hev => ?_) (fun d hd w1 => by cases hd; rfl)
            have h0 : ev (.tmp 149) = .bool true := hev.1; have h1 : ev (.tmp 11) = .slice qa R.length qcap := hev.2.1
            exact ⟨wanted_of rfl rfl h0, by (clear hev; go_simp)⟩
          · refine Obl.val (.int .i64 R.length) (fun ev w1 hc hf hg hev => ?_) (fun d hd w1 => by cases hd; rfl)
            have h0 : ev (.tmp 149) = .bool true := hev.1; have h1 : ev (.tmp 151) = .slice qa R.length qcap := hev.2.1
            exact ⟨wanted_of rfl rfl h0, by (clear hev; go_simp)⟩
          · refine Obl.val (.slice ca R.length ccap) (fun ev w1 hc hf hg hev => ?_) (fun d hd w1 => by cases hd; rfl)
            have h0 : ev (.tmp 149) = .bool true := hev.1; have h1 : ev (.tmp 150) = .slice ca N ccap := hev.2.1; have h2 : ev (.tmp 152) = .int .i64 R.length := hev.2.2.1
            exact ⟨wanted_of rfl rfl h0, by (clear hev; go_simp)⟩
          · refine Obl.some (fun ev w1 hI hc hf hg hev => ?_)
            have h0 : ev (.tmp 149) = .bool true := hev.1; have h1 : ev (.tmp 153) = .slice ca R.length ccap := hev.2.1
            clear hev
            have hs := run_string_view (P := Try.prog) 22 9 5 (HCV.out.ext hI) Try.underlying22 Try.underlying5 Try.underlying9
            exact ⟨wanted_of rfl rfl h0, .string (strOf (bn R)), by go_simp, fun d hd => by cases hd; rfl⟩
          · refine Obl.val (.slice qa R.length qcap) (fun ev w1 hc hf hg hev => ?_) (fun d hd w1 => by cases hd; rfl)
            have h0 : ev (.tmp 149) = .bool true := hev.1; have h1 : ev (.tmp 11) = .slice qa R.length qcap := hev.2.1
            exact ⟨wanted_of rfl rfl h0, by (clear hev; go_simp)⟩
          · refine Obl.some (fun ev w1 hI hc hf hg hev => ?_)
            have h0 : ev (.tmp 149) = .bool true := hev.1; have h1 : ev (.tmp 155) = .slice qa R.length qcap := hev.2.1
            clear hev
            have hs := run_string_view (P := Try.prog) 22 9 5 (HRV.out.ext hI) Try.underlying22 Try.underlying5 Try.underlying9
            exact ⟨wanted_of rfl rfl h0, .string (strOf (bn R)), by go_simp, fun d hd => by cases hd; rfl⟩
          · refine Obl.val (.bool true) (fun ev w1 hc hf hg hev => ?_) (fun d hd w1 => by cases hd; rfl)
            have h0 : ev (.tmp 149) = .bool true := hev.1; have h1 : ev (.tmp 154) = .string (strOf (bn R)) := hev.2.1; have h2 : ev (.tmp 156) = .string (strOf (bn R)) := hev.2.2.1
            exact ⟨wanted_of rfl rfl h0, by (clear hev; go_simp)⟩
          · refine Obl.val (.bool true) (fun ev w1 hc hf hg hev => ?_) (fun d hd w1 => by cases hd; rfl)
            have h0 : ev (.tmp 149) = .bool true := hev.1; have h1 : ev (.tmp 157) = .bool true := hev.2.1
            exact ⟨rfl, by (clear hev; go_simp)⟩
          · refine Obl.val (.bool true) (fun ev w1 hc hf hg hev => ?_) (fun d hd w1 => by cases hd; rfl)
            have h0 : ev (.tmp 158) = .bool true := hev.1
            exact ⟨rfl, by (clear hev; go_simp)⟩
          · refine Obl.val (.slice da N dcap) (fun ev w1 hc hf hg hev => ?_) (fun d hd w1 => by cases hd; rfl)
            have h0 : ev (.tmp 159) = .bool true := hev.1; have h1 : ev (.tmp 16) = .slice da N dcap := hev.2.1
            exact ⟨wanted_of rfl rfl h0, by (clear hev; go_simp)⟩
          · refine Obl.val (.slice qa R.length qcap) (fun ev w1 hc hf hg hev => ?_) (fun d hd w1 => by cases hd; rfl)
            have h0 : ev (.tmp 159) = .bool true := hev.1; have h1 : ev (.tmp 11) = .slice qa R.length qcap := hev.2.1
            exact ⟨wanted_of rfl rfl h0, by (clear hev; go_simp)⟩
          · refine Obl.val (.int .i64 R.length) (fun ev w1 hc hf hg hev => ?_) (fun d hd w1 => by cases hd; rfl)
            have h0 : ev (.tmp 159) = .bool true := hev.1; have h1 : ev (.tmp 161) = .slice qa R.length qcap := hev.2.1
            exact ⟨wanted_of rfl rfl h0, by (clear hev; go_simp)⟩
          · refine Obl.val (.slice da R.length dcap) (fun ev w1 hc hf hg hev => ?_) (fun d hd w1 => by cases hd; rfl)
            have h0 : ev (.tmp 159) = .bool true := hev.1; have h1 : ev (.tmp 160) = .slice da N dcap := hev.2.1; have h2 : ev (.tmp 162) = .int .i64 R.length := hev.2.2.1
            exact ⟨wanted_of rfl rfl h0, by (clear hev; go_simp)⟩
          · refine Obl.some (fun ev w1 hI hc hf hg hev => ?_)
            have h0 : ev (.tmp 159) = .bool true := hev.1; have h1 : ev (.tmp 163) = .slice da R.length dcap := hev.2.1
            clear hev
            have hs := run_string_view (P := Try.prog) 22 9 5 (HDV.out.ext hI) Try.underlying22 Try.underlying5 Try.underlying9
            exact ⟨wanted_of rfl rfl h0, .string (strOf (bn R)), by go_simp, fun d hd => by cases hd; rfl⟩
          · refine Obl.val (.slice qa R.length qcap) (fun ev w1 hc hf hg hev => ?_) (fun d hd w1 => by cases hd; rfl)
            have h0 : ev (.tmp 159) = .bool true := hev.1; have h1 : ev (.tmp 11) = .slice qa R.length qcap := hev.2.1
            exact ⟨wanted_of rfl rfl h0, by (clear hev; go_simp)⟩
          · refine Obl.some (fun ev w1 hI hc hf hg hev => ?_)
            have h0 : ev (.tmp 159) = .bool true := hev.1; have h1 : ev (.tmp 165) = .slice qa R.length qcap := hev.2.1
            clear hev
            have hs := run_string_view (P := Try.prog) 22 9 5 (HRV.out.ext hI) Try.underlying22 Try.underlying5 Try.underlying9
            exact ⟨wanted_of rfl rfl h0, .string (strOf (bn R)), by go_simp, fun d hd => by cases hd; rfl⟩
          · refine Obl.val (.bool true) (fun ev w1 hc hf hg hev => ?_) (fun d hd w1 => by cases hd; rfl)
            have h0 : ev (.tmp 159) = .bool true := hev.1; have h1 : ev (.tmp 164) = .string (strOf (bn R)) := hev.2.1; have h2 : ev (.tmp 166) = .string (strOf (bn R)) := hev.2.2.1
            exact ⟨wanted_of rfl rfl h0, by (clear hev; go_simp)⟩
          · refine Obl.val (.bool true) (fun ev w1 hc hf hg hev => ?_) (fun d hd w1 => by cases hd; rfl)
            have h0 : ev (.tmp 159) = .bool true := hev.1; have h1 : ev (.tmp 167) = .bool true := hev.2.1
            exact ⟨rfl, by (clear hev; go_simp)⟩
          · refine Obl.val (.bool true) (fun ev w1 hc hf hg hev => ?_) (fun d hd w1 => by cases hd; rfl)
            have h0 : ev (.tmp 168) = .bool true := hev.1
            exact ⟨rfl, by (clear hev; go_simp)⟩
          · refine Obl.call 11 #[] (fun ev w1 hI hc hf hg hev => ?_)
            have h0 : ev (.tmp 169) = .bool true := hev.1
            refine ⟨wanted_of rfl rfl h0, by (clear hev; go_simp), ?_⟩
            refine (pre_puts w1).mono ?_
            rintro e w2 ⟨rfl, c3⟩
            exact ⟨_, rfl, c3, fun d hd => by cases hd; rfl⟩
          · refine Obl.val (.bool true) (fun ev w1 hc hf hg hev => ?_) (fun d hd w1 => by cases hd; rfl)
            have h0 : ev (.tmp 169) = .bool true := hev.1; have h1 : ev (.tmp 170) = .bool true := hev.2.1
            exact ⟨rfl, by (clear hev; go_simp)⟩
          · refine Obl.val (.bool true) (fun ev w1 hc hf hg hev => ?_) (fun d hd w1 => by cases hd; rfl)
            have h0 : ev (.tmp 171) = .bool true := hev.1
            exact ⟨rfl, by (clear hev; go_simp)⟩
          case fin =>
            intro a' w' he hd hf
            go_wp2_with fail
            have h6 : a'.tmps.getD 4 undef = .bool true := hf 4 (by decide)
            exact bodyPost_ret (by rw [results_tmp rfl, h6]) hd ⟨rfl, HS.out.ext.trans he⟩
-- REGEND
set_option maxRecDepth 100000 in
theorem pre_law_puts (v : Value) (bs : List Nat) (u : Value) (xs : List Int) (w : World) (hv : View w v bs ∧ ViewL w v (u8s bs)) (hb : ∀ b ∈ bs, b < 256) (hbm : bs.length ≤ 140737488351232) (hu : ViewL w u (kints .i64 xs) ∧ xs.length ≤ 140737488351232) (hw : ∀ x ∈ xs, (Lit.int .i64 x).wf = true) :
    Calls Try.prog 3 #[v, u] w fun e w' => e = .returned (.bool true) ∧ Ext w w' := by
  by_cases h1 : 60 < bs.length
  · obtain ⟨ao, cap, rfl⟩ := hv.2.shape
    obtain ⟨bo, ucap, rfl⟩ := hu.1.shape
    rw [length_u8s] at *
    clear hv hb hu hw
    have h1 : (60 : Int) < (bs.length : Int) := by omega
    go_enter Try.func3, Try.ntmps3
    go_wp2_with fail
    go_ret
    exact ⟨rfl, Ext.refl w⟩
  · by_cases h2 : 40 < xs.length
    · obtain ⟨ao, cap, rfl⟩ := hv.2.shape
      obtain ⟨bo, ucap, rfl⟩ := hu.1.shape
      rw [length_u8s] at *
      rw [length_kints] at *
      clear hv hb hu hw
      have h1 : ¬ (60 : Int) < (bs.length : Int) := by omega
      have h2 : (40 : Int) < (xs.length : Int) := by omega
      go_enter Try.func3, Try.ntmps3
      go_wp2_with fail
      go_ret
      exact ⟨rfl, Ext.refl w⟩
    · exact pre_law_puts_some v bs u xs w hv hu.1 (by omega) (by omega)
end Go.Proofs.Ytomnhfcckalkiaa
