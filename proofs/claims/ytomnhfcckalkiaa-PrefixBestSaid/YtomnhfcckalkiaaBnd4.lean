/- pressworklaw06.puts: its walk. pressworklaw06.PrefixPuts: its walk (its last region written by gen_prelawputs.py). pressworklaw06.PrefixBack: its walk. pressworklaw06.PrefixBest: its walk. -/
import Derived.Test.YtomnhfcckalkiaaBnd3
import Derived.Test.YtomnhfcckalkiaaStr
import Derived.Test.YtomnhfcckalkiaaInts
import Derived.Test.YtomnhfcckalkiaaAppend
import Derived.Test.YtomnhfcckalkiaaGrowOn
import Derived.Test.YtomnhfcckalkiaaBnd1
/-! pressworklaw06.puts: its walk. -/
namespace Go.Proofs.Ytomnhfcckalkiaa
open Go.RowKit
set_option linter.unusedVariables false

abbrev exL : List Nat := [2, 1, 0, 2]
theorem exE : errW exL = 0 := by decide +kernel
theorem exG : Good exL := (good_iff _).2 exE
theorem ex0 : rowZ exL 0 = [true, false] := by decide +kernel
theorem ex1 : rowZ exL 1 = [false] := by decide +kernel
theorem ex3 : rowZ exL 3 = [true, true] := by decide +kernel
theorem exR0 : (rowsL exL)[0]? = some [true, false] := by decide +kernel
theorem ex152 : ofBits true [152] = [true, false, false, true, true, false, false, false] := by decide +kernel
theorem exLow : packs false ([] ++ [true, false] ++ [false] ++ [true, true]) = [25] := by decide +kernel
theorem exHigh : packs true ([] ++ [true, false] ++ [false] ++ [true, true]) = [152] := by decide +kernel
theorem St.newT {w0 w : World} {Ts : List Thing} (h : St w0 w Ts) (v : Value) (bs : List Nat) (hv : View w v bs) (hv2 : ViewL w v (u8s bs)) (hvb : ∀ b o n c, v = .slice (some ⟨b, o, none⟩) n c → 0 < bs.length → b < w.heap.size) (hl : bs.length ≤ 2 ^ 40) (he : errW bs = 0) :
    Calls Try.prog 9 #[v] w fun e w' => ∃ B, e = .returned (.tuple #[.pointer (some ⟨B, 0, none⟩), .int .i64 0]) ∧ St w0 w' (Ts ++ [tT B bs]) := by
  refine (pre_new v bs w hv hv2 hvb hl).mono ?_
  rintro e w' (⟨h1, _⟩ | ⟨_, B, og, og2, m, rfl, t, n, x⟩)
  · exact absurd he h1
  · exact ⟨B, rfl, h.tab t n x⟩
set_option maxHeartbeats 2000000 in
set_option maxRecDepth 100000 in
theorem pre_puts (w : World) : Calls Try.prog 11 #[] w fun e w' => e = .returned (.bool true) ∧ Ext w w' := by
  have hv0 := view_new w exL 5 (0, 0)
  have HS := Lib.hid ((St.of (Ext.refl w)).lit 5 (u8s exL) 4 rfl (by decide) (by decide))
  rw [List.nil_append] at HS
  have HV := Lib.hid hv0
  clear hv0
  go_enter Try.func11, Try.ntmps11
  go_wp2_with fail
  refine (HS.out.newT _ exL HV.out (HS.out.viewL 0 rfl) (fun b o n c e _ => by cases e; simp) (by decide) exE).mono ?_
  rintro e w1 ⟨T, rfl, s1⟩
  have h1 := s1.lsb_neww.msb_neww
  rw [World.size_alloc] at h1
  obtain ⟨A, hA⟩ : ∃ A, A = w1.heap.size := ⟨_, rfl⟩
  have HA := Lib.hid hA
  rw [← hA] at h1
  have HS := Lib.hid (show St w _ [oB (.slice (some ⟨w.heap.size, 0, none⟩) 4 4) exL, tT T exL, lW A [], mW (A + 1) []] from h1)
  clear s1 h1 hA
  go_wp2_with fail
  rw [← HA.out]
  clear HA HV
  refine (HS.out.lsb_put 2 1 rfl rfl (by decide) exG 0 (by decide)).mono ?_
  rintro e w2 ⟨rfl, s2⟩
  rw [ex0] at s2
  have HS := Lib.hid (show St w _ [oB (.slice (some ⟨w.heap.size, 0, none⟩) 4 4) exL, tT T exL, lW A ([] ++ [true, false]), mW (A + 1) []] from s2)
  clear s2
  go_wp2_with fail
  refine (HS.out.lsb_put 2 1 rfl rfl (by decide) exG 1 (by decide)).mono ?_
  rintro e w3 ⟨rfl, s2⟩
  rw [ex1] at s2
  have HS := Lib.hid (show St w _ [oB (.slice (some ⟨w.heap.size, 0, none⟩) 4 4) exL, tT T exL, lW A ([] ++ [true, false] ++ [false]), mW (A + 1) []] from s2)
  clear s2
  go_wp2_with fail
  refine (HS.out.lsb_put 2 1 rfl rfl (by decide) exG 3 (by decide)).mono ?_
  rintro e w4 ⟨rfl, s2⟩
  rw [ex3] at s2
  rw [show putErr exL 3 = 0 by decide +kernel]
  have HS := Lib.hid (show St w _ [oB (.slice (some ⟨w.heap.size, 0, none⟩) 4 4) exL, tT T exL, lW A ([] ++ [true, false] ++ [false] ++ [true, true]), mW (A + 1) []] from s2)
  clear s2
  go_wp2_with fail
  refine (HS.out.msb_put 3 1 rfl rfl (by decide) exG 0 (by decide)).mono ?_
  rintro e w5 ⟨rfl, s2⟩
  rw [ex0] at s2
  have HS := Lib.hid (show St w _ [oB (.slice (some ⟨w.heap.size, 0, none⟩) 4 4) exL, tT T exL, lW A ([] ++ [true, false] ++ [false] ++ [true, true]), mW (A + 1) ([] ++ [true, false])] from s2)
  clear s2
  go_wp2_with fail
  refine (HS.out.msb_put 3 1 rfl rfl (by decide) exG 1 (by decide)).mono ?_
  rintro e w6 ⟨rfl, s2⟩
  rw [ex1] at s2
  have HS := Lib.hid (show St w _ [oB (.slice (some ⟨w.heap.size, 0, none⟩) 4 4) exL, tT T exL, lW A ([] ++ [true, false] ++ [false] ++ [true, true]), mW (A + 1) ([] ++ [true, false] ++ [false])] from s2)
  clear s2
  go_wp2_with fail
  refine (HS.out.msb_put 3 1 rfl rfl (by decide) exG 3 (by decide)).mono ?_
  rintro e w7 ⟨rfl, s2⟩
  rw [ex3] at s2
  rw [show putErr exL 3 = 0 by decide +kernel]
  have HS := Lib.hid (show St w _ [oB (.slice (some ⟨w.heap.size, 0, none⟩) 4 4) exL, tT T exL, lW A ([] ++ [true, false] ++ [false] ++ [true, true]), mW (A + 1) ([] ++ [true, false] ++ [false] ++ [true, true])] from s2)
  clear s2
  go_wp2_with fail
  have HS := Lib.hid (HS.out.lit 5 (u8s [152]) 1 rfl (by decide) (by decide))
  refine (HS.out.msb_newr _ [152] (view_new w7 [152] 5 (0, 0)) (by decide)).mono ?_
  rintro e w8 ⟨R, rfl, s2⟩
  have HS := Lib.hid (show St w _ [oB (.slice (some ⟨w.heap.size, 0, none⟩) 4 4) exL, tT T exL, lW A ([] ++ [true, false] ++ [false] ++ [true, true]), mW (A + 1) ([] ++ [true, false] ++ [false] ++ [true, true]), oB (.slice (some ⟨w7.heap.size, 0, none⟩) 1 1) [152], mR R [152] 0] from s2)
  clear s2
  go_wp2_with fail
  refine (HS.out.msb_get 5 1 rfl rfl (by decide) exG (by decide) (by decide) (by decide)).mono ?_
  rintro e w9 ⟨s, q, er, rfl, hd, s2⟩
  obtain ⟨rfl, rfl, rfl⟩ := dec_one (rows_pf exG) hd (dec_put (rows_pf exG) (a := []) (r := [true, false]) (b := [false, true, true, false, false, false]) (s := 0) ex152 exR0 (by decide))
  have HS := Lib.hid s2
  clear s2 hd
  have hq1 : ((strOf [25]).toList == [25]) = true := by rw [strOf_toList]; decide
  have hq2 : ((strOf [152]).toList == [152]) = true := by rw [strOf_toList]; decide
  go_wp2_with fail
  refine (HS.out.lsb_bytes 2 rfl (by decide)).mono ?_
  rintro e w10 ⟨v, rfl, s2, x10⟩
  rw [exLow] at s2
  have hs3 := run_string_view (P := Try.prog) 22 9 5 (s2.view 6 rfl rfl) Try.underlying22 Try.underlying5 Try.underlying9
  have HS := Lib.hid s2
  clear s2 x10
  go_wp2_with fail
  refine (HS.out.msb_bytes 3 rfl (by decide)).mono ?_
  rintro e w11 ⟨v, rfl, s2, x10⟩
  rw [exHigh] at s2
  have hs4 := run_string_view (P := Try.prog) 22 9 5 (s2.view 7 rfl rfl) Try.underlying22 Try.underlying5 Try.underlying9
  have HS := Lib.hid s2
  clear s2 x10 hs3
  go_wp2_with fail
  refine (HS.out.bits 1 rfl exG 3).mono ?_
  rw [show bitsL exL 3 = 2 by decide +kernel]
  rintro e w12 ⟨rfl, hw⟩
  have HS := Lib.hid (hw ▸ HS.out)
  clear hw
  go_wp2_with fail
  refine (HS.out.bits 1 rfl exG 2).mono ?_
  rw [show bitsL exL 2 = 0 by decide +kernel]
  rintro e w13 ⟨rfl, hw⟩
  have HX := Lib.hid (show Ext w w13 from hw ▸ HS.out.ext)
  clear hw
  go_wp2_with fail
  go_ret
  exact ⟨rfl, HX.out⟩
end Go.Proofs.Ytomnhfcckalkiaa

/-! pressworklaw06.PrefixPuts: its walk (its last region written by gen_prelawputs.py). -/
namespace Go.Proofs.Ytomnhfcckalkiaa
open Go.RowKit
set_option linter.unusedVariables false

/-- what puts lay. -/
def rowsZ (L : List Nat) (xs : List Int) : List Bool := xs.flatMap (rowZ L)
theorem rowsZ_succ (L : List Nat) (xs : List Int) (i : Nat) (x : Int) (h : xs[i]? = some x) : rowsZ L (xs.take (i + 1)) = rowsZ L (xs.take i) ++ rowZ L x := by
  rw [List.take_add_one, h]; simp [rowsZ]
theorem rowZ_len {L : List Nat} (hg : Good L) (x : Int) : (rowZ L x).length ≤ 20 := by
  rw [rowZ]
  split
  · rename_i h
    obtain ⟨k, rfl, hk, e⟩ := bitsL_pos h
    rw [length_rowOf, Int.toNat_natCast, ← e]; exact bitsL_le hg _
  · simp
theorem rowsZ_len {L : List Nat} (hg : Good L) (xs : List Int) : (rowsZ L xs).length ≤ 20 * xs.length := by
  induction xs with
  | nil => simp [rowsZ]
  | cons x xs ih =>
    have := rowZ_len hg x
    simp only [rowsZ, List.flatMap_cons, List.length_append, List.length_cons] at ih ⊢
    omega
theorem not_put (L : List Nat) (x : Int) (h : bitsL L x = 0) : x < 0 ∨ ∃ k : Nat, x = k ∧ (L.length ≤ k ∨ (k < L.length ∧ L.getD k 0 = 0)) := by
  by_cases h0 : x < 0
  · exact Or.inl h0
  · obtain ⟨k, rfl⟩ := Int.eq_ofNat_of_zero_le (show 0 ≤ x by omega)
    refine Or.inr ⟨k, rfl, ?_⟩
    by_cases hk : k < L.length
    · refine Or.inr ⟨hk, ?_⟩
      rw [bitsL, if_pos (by omega), Int.toNat_natCast] at h; exact h
    · exact Or.inl (by omega)
theorem ofBits_packs (hi : Bool) (l : List Bool) : (ofBits hi (packs hi l)).take l.length = l := by
  have hl : (ofBits hi (packs hi l)).length = 8 * ((l.length + 7) / 8) := by rw [length_ofBits, length_packs]
  apply List.ext_getElem?
  intro i
  rw [List.getElem?_take]
  by_cases h : i < l.length
  · rw [if_pos h]
    have := ofBits_get hi (packs hi l) i
    rw [rbit_packs, List.getD, List.getD, List.getElem?_eq_getElem (by omega), List.getElem?_eq_getElem h] at this
    rw [List.getElem?_eq_getElem (by omega), List.getElem?_eq_getElem h]
    simpa using this
  · rw [if_neg h, List.getElem?_eq_none (by omega)]
theorem View.cut {w : World} {ao : Option Addr} {n cap : Nat} {bs : List Nat} (h : View w (.slice ao n cap) bs) (k : Nat) (hk : k ≤ n) : View w (.slice ao k cap) (bs.take k) := by
  rcases h with ⟨e, rfl⟩ | ⟨a, cap', e, hc⟩
  · cases e
    obtain rfl : k = 0 := by omega
    exact Or.inl ⟨rfl, rfl⟩
  · cases e
    refine Or.inr ⟨a, cap, by rw [List.length_take]; congr 1; omega, fun j u hu => hc j u ?_⟩
    simp only [u8s, List.map_take] at hu ⊢
    rw [List.getElem?_take] at hu
    split at hu
    · exact hu
    · cases hu
theorem St.growB {w0 w w' : World} {Ts : List Thing} {v v' : Value} {bs cs : List Nat} {n : Nat} (h : St w0 w Ts) (j : Nat) (hj : Ts[j]? = some (oB v bs)) (hn : bs.length = n) (hown' : w'.ownsRow 0 5 1 v' (n + (u8s cs).length) (u8s bs ++ u8s cs))
    (hgrow : w.grownBy w' v.ownBlock) (hat : v'.ownBlock = v.ownBlock ∨ v'.ownBlock = some w.heap.size) : St w0 w' (Ts.set j (oB v' (bs ++ cs))) := by
  subst hn
  show St w0 w' (Ts.set j (tO 5 v' (u8s (bs ++ cs))))
  rw [u8s_append]
  exact h.grown j hj (by rw [length_u8s]; exact hown') hgrow hat
theorem viewL_at {w : World} {b o n c i : Nat} {xs : List Value} {u : Value} (h : ViewL w (.slice (some ⟨b, o, none⟩) n c) xs) (hu : xs[i]? = some u) : w.cell? ⟨b, o + i, none⟩ = some u := by
  obtain ⟨b', o', e, _, hc⟩ := viewL_cells h (by have := getE_lt hu; omega)
  cases e
  exact hc i u hu
set_option maxHeartbeats 8000000 in
set_option maxRecDepth 100000 in
theorem pre_law_puts_some (v : Value) (bs : List Nat) (u : Value) (xs : List Int) (w : World) (hv : View w v bs ∧ ViewL w v (u8s bs)) (hu : ViewL w u (kints .i64 xs)) (hbl : bs.length ≤ 60) (hxl : xs.length ≤ 40) :
    Calls Try.prog 3 #[v, u] w fun e w' => e = .returned (.bool true) ∧ Ext w w' := by
  obtain ⟨j0, hj, hj0, hj1, hj2⟩ := info_parts info_u8
  have hvb := view_block hv.2
  obtain ⟨ao, cap, rfl⟩ := hv.2.shape
  obtain ⟨bo, ucap, rfl⟩ := hu.shape
  rw [length_u8s] at *
  rw [length_kints] at *
  have HV := Lib.hid hv
  have HU := Lib.hid hu
  have HVB := Lib.hid (show ∀ b o n c, Value.slice ao bs.length cap = .slice (some ⟨b, o, none⟩) n c → 0 < bs.length → b < w.heap.size from fun b o n c e h0 => hvb h0 b o n c e)
  clear hv hu hvb
  have h1 : ¬ (60 : Int) < (bs.length : Int) := by omega
  have h2 : ¬ (40 : Int) < (xs.length : Int) := by omega
  go_enter Try.func3, Try.ntmps3
  go_wp2_with fail
  refine (pre_new _ bs _ HV.out.1 HV.out.2 HVB.out (by omega)).mono ?_
  rintro e w1 (⟨he, rfl, x1⟩ | ⟨he, T, og, og2, m, rfl, t1, n1, x1⟩)
  · have HE := Lib.hid he
    have heb : (errW bs != 0) = true := bne_iff_ne.2 he
    have hei : ¬ errW bs = 0 := he
    have HX := Lib.hid x1
    clear he x1
    go_wp2_with fail
    refine (pre_ref_rows _ bs _ (HV.out.2.ext HX.out) (by omega)).mono ?_
    rintro e w2 (⟨_, rfl, x2⟩ | ⟨h0, _⟩)
    · have HX := Lib.hid (HX.out.trans x2)
      clear x2
      go_wp2_with fail
      refine (pre_puts _).mono ?_
      rintro e w3 ⟨rfl, x3⟩
      have HX := Lib.hid (HX.out.trans x3)
      clear x3
      go_wp2_with fail
      go_ret
      exact ⟨rfl, HX.out⟩
    · exact absurd h0 HE.out
  · have HG := Lib.hid ((good_iff bs).2 he)
    have HE := Lib.hid he
    have HS := Lib.hid ((St.of (Ext.refl w)).tab t1 n1 x1)
    clear t1 n1 x1 he
    go_wp2_with fail
    refine (pre_ref_rows _ bs _ (HV.out.2.ext HS.out.ext) (by omega)).mono ?_
    rintro e w2 (⟨h0, _⟩ | ⟨_, rv, rfl, r2⟩)
    · exact absurd HE.out h0
    · have s2 := HS.out.rws r2
      obtain ⟨ra, rcap, rfl, _⟩ := s2.rowsAt 1 rfl bs.length (length_rowsN bs)
      have s3 := s2.lsb_neww.msb_neww.new (Ext.refl _) (Owns.nil _ 5 1) (fun g e => by cases e)
      rw [World.size_alloc] at s3
      obtain ⟨A, hA⟩ : ∃ A, A = w2.heap.size := ⟨_, rfl⟩
      have HA := Lib.hid hA
      rw [← hA] at s3
      have HS := Lib.hid (show St w _ [tT T bs, tRows (.slice ra bs.length rcap) (rowsN bs), lW A [], mW (A + 1) [], oB (.slice none 0 0) (bn [])] from s3)
      clear s2 s3 r2 hA
      go_wp2_with fail
      rw [← HA.out]
      clear HA
      go_loopw [11, 12] (fun qv iv wr => ∃ i : Nat, iv = .int .i64 i ∧ i ≤ xs.length ∧ St w wr [tT T bs, tRows (.slice ra bs.length rcap) (rowsN bs), lW A (rowsZ bs (xs.take i)), mW (A + 1) (rowsZ bs (xs.take i)), oB qv (bn (rowsZ bs (xs.take i)))]) (fun _ iv _ => xs.length - (intOf iv).toNat)
      case atStart => exact ⟨0, rfl, Nat.zero_le _, HS.out⟩
      case round =>
        obtain ⟨i, rfl, hi2, hp⟩ := hrel
        have hRl := rowsZ_len HG.out (xs.take i)
        rw [List.length_take] at hRl
        by_cases hin : i < xs.length
        · have hini : (i : Int) < (xs.length : Int) := by omega
          obtain ⟨b, o, rfl, _, hc⟩ := viewL_cells (HU.out.ext hp.ext) (by rw [length_kints]; omega)
          obtain ⟨x, hx⟩ : ∃ x, xs[i]? = some x := ⟨_, List.getElem?_eq_getElem hin⟩
          have cX := hc i (.int .i64 x) (by simp [kints, hx])
          have hst := rowsZ_succ bs xs i x hx
          have hzl := rowZ_len HG.out x
          generalize hR : rowsZ bs (xs.take i) = R at *
          clear hR
          have HST := Lib.hid hst
          have HX := Lib.hid hx
          have HP := Lib.hid hp
          have hRb : R.length ≤ 800 := by omega
          have hb20 := bitsL_le HG.out x
          clear hc hx hst hp hRl
          by_cases hpos : 0 < bitsL bs x
          · obtain ⟨k, rfl, hk, hn⟩ := bitsL_pos hpos
            have hZ : rowZ bs k = rowOf bs k := by rw [rowZ, if_pos hpos, Int.toNat_natCast]
            have hE0 : putErr bs k = 0 := by rw [putErr, if_pos hpos]
            have hzl2 : (bn (rowOf bs k)).length = bitsL bs k := by rw [length_bn, length_rowOf, hn]
            obtain ⟨ra', rcap', e, hr⟩ := HP.out.rowsAt 1 rfl bs.length (length_rowsN bs)
            cases e
            obtain ⟨g, uo, uc, rfl, cr, vl, vw⟩ := hr k _ _ (rowsN_get bs k hk) hzl2
            have hki : (k : Int) < (bs.length : Int) := by omega
            have HVL := Lib.hid vl
            have HZ := Lib.hid hZ
            have HE0 := Lib.hid hE0
            have HZL := Lib.hid hzl2
            generalize hnn : bitsL bs k = n at *
            have HN := Lib.hid hnn
            clear hnn
            have hn0 : (0 : Int) < (n : Int) := by omega
            clear hr vl vw hn hZ hE0 hzl2
            go_wp2_with (at_builtin; go_must (refine wpList_append_view _ rfl (.tmp 76) (.tmp 83) 22 rfl 0 5 j0 (.int .u8 0) 1 Try.underlying22 hj hj0 hj1 hj2 rfl _ R.length (u8s (bn R)) rfl (HP.out.rowB 4 rfl (length_bn R)) _ (u8s (bn (rowOf bs k))) rfl HVL.out (u8s_one _) (by rw [length_u8s, HZL.out]; unfold maxLen; omega) (by rw [length_u8s, HZL.out]; omega) (Nat.zero_le _) ?_))
            intro v' w3 hown' hgrow hat
            have s3 := HP.out.growB 4 rfl (length_bn R) hown' hgrow hat
            rw [← bn_append] at s3
            have HS := Lib.hid (show St w w3 [tT T bs, tRows (.slice (some ⟨g, 0, none⟩) bs.length rcap) (rowsN bs), lW A R, mW (A + 1) R, oB v' (bn (R ++ rowOf bs k))] from s3)
            clear s3 hown' hgrow hat cX cr
            obtain ⟨_, _, e, hr⟩ := HS.out.rowsAt 1 rfl bs.length (length_rowsN bs)
            obtain ⟨_, uo', uc', e2, cr, _, _⟩ := hr k _ _ (rowsN_get bs k hk) HZL.out
            cases e
            cases e2
            have cX := viewL_at (HU.out.ext HS.out.ext) (show (kints .i64 xs)[i]? = some (.int .i64 k) by simp [kints, HX.out])
            clear hr
            go_wp2_with fail
            clear cr cX
            refine (HS.out.lsb_put 2 0 rfl rfl (by decide) HG.out k (by omega)).mono ?_
            rw [HE0.out, HZ.out]
            rintro e w4 ⟨rfl, s4⟩
            have HS := Lib.hid (show St w w4 [tT T bs, tRows (.slice (some ⟨g, 0, none⟩) bs.length rcap) (rowsN bs), lW A (R ++ rowOf bs k), mW (A + 1) R, oB v' (bn (R ++ rowOf bs k))] from s4)
            have cX := viewL_at (HU.out.ext HS.out.ext) (show (kints .i64 xs)[i]? = some (.int .i64 k) by simp [kints, HX.out])
            clear s4
            go_wp2_with fail
            clear cX
            refine (HS.out.msb_put 3 0 rfl rfl (by decide) HG.out k (by omega)).mono ?_
            rw [HE0.out, HZ.out]
            rintro e w5 ⟨rfl, s4⟩
            have HS := Lib.hid (show St w w5 [tT T bs, tRows (.slice (some ⟨g, 0, none⟩) bs.length rcap) (rowsN bs), lW A (R ++ rowOf bs k), mW (A + 1) (R ++ rowOf bs k), oB v' (bn (R ++ rowOf bs k))] from s4)
            have cX := viewL_at (HU.out.ext HS.out.ext) (show (kints .i64 xs)[i]? = some (.int .i64 k) by simp [kints, HX.out])
            clear s4
            go_wp2_with fail
            clear cX
            refine (HS.out.bits 0 rfl HG.out k).mono ?_
            rw [HN.out]
            rintro e w6 ⟨rfl, hw⟩
            have HS := Lib.hid (hw ▸ HS.out)
            clear hw
            go_wp2_with fail
            go_roundw
            case rel => exact ⟨i + 1, by go_num, by omega, by rw [HST.out, HZ.out]; exact HS.out⟩
            case measure => simp [intOf]; omega
          · have hZ : rowZ bs x = [] := by rw [rowZ, if_neg hpos]
            have hE5 : putErr bs x = 5 := by rw [putErr, if_neg hpos]
            have hB0 : bitsL bs x = 0 := by omega
            have HZ := Lib.hid hZ
            have HE5 := Lib.hid hE5
            have HB0 := Lib.hid hB0
            clear hpos
            rcases not_put bs x hB0 with hx0 | ⟨k, rfl, hk | ⟨hk, hn⟩⟩
            · have HK := Lib.hid (show (kints .i64 xs)[i]? = some (.int .i64 x) by simp [kints, HX.out])
              have hb0 : ¬ 0 ≤ x := by omega
              go_wp2_with fail
              clear cX
              refine (HP.out.lsb_put 2 0 rfl rfl (by decide) HG.out _ (by omega)).mono ?_
              rw [HE5.out, HZ.out, List.append_nil]
              rintro e w4 ⟨rfl, s4⟩
              have HS := Lib.hid (show St w w4 [tT T bs, tRows (.slice _ bs.length rcap) (rowsN bs), lW A R, mW (A + 1) R, oB u11 (bn R)] from s4)
              have cX := viewL_at (HU.out.ext HS.out.ext) HK.out
              clear s4
              go_wp2_with fail
              clear cX
              refine (HS.out.msb_put 3 0 rfl rfl (by decide) HG.out _ (by omega)).mono ?_
              rw [HE5.out, HZ.out, List.append_nil]
              rintro e w5 ⟨rfl, s4⟩
              have HS := Lib.hid (show St w w5 [tT T bs, tRows (.slice _ bs.length rcap) (rowsN bs), lW A R, mW (A + 1) R, oB u11 (bn R)] from s4)
              have cX := viewL_at (HU.out.ext HS.out.ext) HK.out
              clear s4
              go_wp2_with fail
              clear cX
              refine (HS.out.bits 0 rfl HG.out _).mono ?_
              rw [HB0.out]
              rintro e w6 ⟨rfl, hw⟩
              have HS := Lib.hid (hw ▸ HS.out)
              clear hw
              go_wp2_with fail
              go_roundw
              case rel => exact ⟨i + 1, by go_num, by omega, by rw [HST.out, HZ.out, List.append_nil]; exact HS.out⟩
              case measure => simp [intOf]; omega
            · have HK := Lib.hid (show (kints .i64 xs)[i]? = some (.int .i64 k) by simp [kints, HX.out])
              have hb0 : (0 : Int) ≤ (k : Int) := by omega
              have hb1 : ¬ (k : Int) < (bs.length : Int) := by omega
              go_wp2_with fail
              clear cX
              refine (HP.out.lsb_put 2 0 rfl rfl (by decide) HG.out _ (by omega)).mono ?_
              rw [HE5.out, HZ.out, List.append_nil]
              rintro e w4 ⟨rfl, s4⟩
              have HS := Lib.hid (show St w w4 [tT T bs, tRows (.slice _ bs.length rcap) (rowsN bs), lW A R, mW (A + 1) R, oB u11 (bn R)] from s4)
              have cX := viewL_at (HU.out.ext HS.out.ext) HK.out
              clear s4
              go_wp2_with fail
              clear cX
              refine (HS.out.msb_put 3 0 rfl rfl (by decide) HG.out _ (by omega)).mono ?_
              rw [HE5.out, HZ.out, List.append_nil]
              rintro e w5 ⟨rfl, s4⟩
              have HS := Lib.hid (show St w w5 [tT T bs, tRows (.slice _ bs.length rcap) (rowsN bs), lW A R, mW (A + 1) R, oB u11 (bn R)] from s4)
              have cX := viewL_at (HU.out.ext HS.out.ext) HK.out
              clear s4
              go_wp2_with fail
              clear cX
              refine (HS.out.bits 0 rfl HG.out _).mono ?_
              rw [HB0.out]
              rintro e w6 ⟨rfl, hw⟩
              have HS := Lib.hid (hw ▸ HS.out)
              clear hw
              go_wp2_with fail
              go_roundw
              case rel => exact ⟨i + 1, by go_num, by omega, by rw [HST.out, HZ.out, List.append_nil]; exact HS.out⟩
              case measure => simp [intOf]; omega
            · have HK := Lib.hid (show (kints .i64 xs)[i]? = some (.int .i64 k) by simp [kints, HX.out])
              have hb0 : (0 : Int) ≤ (k : Int) := by omega
              have hb1 : (k : Int) < (bs.length : Int) := by omega
              obtain ⟨_, _, e, hr⟩ := HP.out.rowsAt 1 rfl bs.length (length_rowsN bs)
              obtain ⟨g, uo', uc', e2, cr, _, _⟩ := hr k _ 0 (rowsN_get bs k hk) (by rw [length_bn, length_rowOf, hn])
              cases e
              cases e2
              clear hr
              go_wp2_with fail
              clear cX
              refine (HP.out.lsb_put 2 0 rfl rfl (by decide) HG.out _ (by omega)).mono ?_
              rw [HE5.out, HZ.out, List.append_nil]
              rintro e w4 ⟨rfl, s4⟩
              have HS := Lib.hid (show St w w4 [tT T bs, tRows (.slice _ bs.length rcap) (rowsN bs), lW A R, mW (A + 1) R, oB u11 (bn R)] from s4)
              have cX := viewL_at (HU.out.ext HS.out.ext) HK.out
              clear s4
              go_wp2_with fail
              clear cX
              refine (HS.out.msb_put 3 0 rfl rfl (by decide) HG.out _ (by omega)).mono ?_
              rw [HE5.out, HZ.out, List.append_nil]
              rintro e w5 ⟨rfl, s4⟩
              have HS := Lib.hid (show St w w5 [tT T bs, tRows (.slice _ bs.length rcap) (rowsN bs), lW A R, mW (A + 1) R, oB u11 (bn R)] from s4)
              have cX := viewL_at (HU.out.ext HS.out.ext) HK.out
              clear s4
              go_wp2_with fail
              clear cX
              refine (HS.out.bits 0 rfl HG.out _).mono ?_
              rw [HB0.out]
              rintro e w6 ⟨rfl, hw⟩
              have HS := Lib.hid (hw ▸ HS.out)
              clear hw
              go_wp2_with fail
              go_roundw
              case rel => exact ⟨i + 1, by go_num, by omega, by rw [HST.out, HZ.out, List.append_nil]; exact HS.out⟩
              case measure => simp [intOf]; omega
        · obtain rfl : i = xs.length := by omega
          rw [List.take_length] at hp
          obtain ⟨R, hR⟩ : ∃ R, R = rowsZ bs xs := ⟨_, rfl⟩
          have hRb : R.length ≤ 800 := by have := rowsZ_len HG.out xs; rw [← hR] at this; omega
          rw [← hR] at hp
          have HS := Lib.hid hp
          obtain ⟨qa, qcap, rfl⟩ := hp.shapeB 4 rfl (length_bn R)
          clear hp hR hRl
          go_wp2_with fail
          refine (HS.out.lsb_bytes 2 rfl (by omega)).mono ?_
          rintro e w3 ⟨v3, rfl, s3, _⟩
          have HS := Lib.hid s3
          clear s3
          go_wp2_with fail
          have hlp := length_packs false R
          refine (pre_law_bits v3 (packs false R) false true rfl _ (HS.out.viewL 5 rfl) (packs_lt _ _) (by omega)).mono ?_
          rintro e w4 ⟨cv, cg, rfl, c1, c2, c3⟩
          have HS := Lib.hid (HS.out.new (show Ext w3 w4 from c3) (by rw [length_u8s]; exact c1) c2)
          clear c1 c2 c3
          go_wp2_with fail
          refine (HS.out.msb_bytes 3 rfl (by omega)).mono ?_
          rintro e w5 ⟨v5, rfl, s3, _⟩
          have HS := Lib.hid s3
          clear s3
          go_wp2_with fail
          have hlp2 := length_packs true R
          refine (pre_law_bits v5 (packs true R) true false rfl _ (HS.out.viewL 7 rfl) (packs_lt _ _) (by omega)).mono ?_
          rintro e w6 ⟨dv, dg, rfl, c1, c2, c3⟩
          obtain ⟨N, hN⟩ : ∃ N, N = 8 * ((R.length + 7) / 8) := ⟨_, rfl⟩
          have hNR : R.length ≤ N := by omega
          have HS := Lib.hid (show St w w6 [tT T bs, tRows _ (rowsN bs), lW A R, mW (A + 1) R, oB (.slice qa R.length qcap) (bn R), oB v3 (packs false R), oB cv (bn (ofBits false (packs false R))), oB v5 (packs true R), oB dv (bn (ofBits true (packs true R)))] from HS.out.new (show Ext w5 w6 from c3) (by rw [length_u8s]; exact c1) c2)
          obtain ⟨ca, ccap, rfl⟩ := HS.out.shapeB 6 rfl (show (bn (ofBits false (packs false R))).length = N by rw [length_bn, length_ofBits, hlp, hN])
          obtain ⟨da, dcap, rfl⟩ := HS.out.shapeB 8 rfl (show (bn (ofBits true (packs true R))).length = N by rw [length_bn, length_ofBits, hlp2, hN])
          have hcv := (HS.out.view 6 rfl rfl).cut R.length hNR
          have hdv := (HS.out.view 8 rfl rfl).cut R.length hNR
          rw [show (bn (ofBits false (packs false R))).take R.length = bn R by rw [bn, ← List.map_take, ofBits_packs]; rfl] at hcv
          rw [show (bn (ofBits true (packs true R))).take R.length = bn R by rw [bn, ← List.map_take, ofBits_packs]; rfl] at hdv
          have HCV := Lib.hid hcv
          have HDV := Lib.hid hdv
          have HRV := Lib.hid (HS.out.view 4 rfl rfl)
          have hq : ((strOf (bn R)).toList == (strOf (bn R)).toList) = true := by simp
          have hcc : N ≤ ccap := by
            obtain ⟨_, _, e, h, _⟩ := HS.out.viewL 6 rfl
            cases e
            rw [length_u8s, length_bn, length_ofBits, hlp] at h; omega
          have hdc : N ≤ dcap := by
            obtain ⟨_, _, e, h, _⟩ := HS.out.viewL 8 rfl
            cases e
            rw [length_u8s, length_bn, length_ofBits, hlp2] at h; omega
          have hcr : ¬ ccap < R.length := by omega
          have hdr : ¬ dcap < R.length := by omega
          clear hcv hdv c1 c2 c3 hlp hlp2 hN
          go_wp2_with fail
-- REG
          have hst : Stab (Phi [(9, .pointer (some ⟨A, 0, none⟩)), (11, .slice qa R.length qcap), (10, .pointer (some ⟨A + 1, 0, none⟩)), (15, .slice ca N ccap), (16, .slice da N dcap), (125, .int .i64 R.length), (126, .slice qa R.length qcap), (127, .int .i64 R.length), (128, .bool true), (129, .bool true), (130, .int .i64 R.length), (131, .slice qa R.length qcap), (132, .int .i64 R.length), (133, .bool true), (134, .bool true), (135, .bool true), (136, .slice ca N ccap), (137, .int .i64 N), (138, .slice qa R.length qcap), (139, .int .i64 R.length), (140, .bool true), (141, .bool true), (142, .bool true), (143, .slice da N dcap), (144, .int .i64 N), (145, .slice qa R.length qcap), (146, .int .i64 R.length), (147, .bool true), (148, .bool true), (149, .bool true), (150, .slice ca N ccap), (151, .slice qa R.length qcap), (152, .int .i64 R.length), (153, .slice ca R.length ccap), (154, .string (strOf (bn R))), (155, .slice qa R.length qcap), (156, .string (strOf (bn R))), (157, .bool true), (158, .bool true), (159, .bool true), (160, .slice da N dcap), (161, .slice qa R.length qcap), (162, .int .i64 R.length), (163, .slice da R.length dcap), (164, .string (strOf (bn R))), (165, .slice qa R.length qcap), (166, .string (strOf (bn R))), (167, .bool true), (168, .bool true), (169, .bool true), (170, .bool true), (171, .bool true), (4, .bool true)] []) := Phi.stable (fun x hx => by cases hx)
          refine wp_region_grow 172 [9, 11, 10, 15, 16] (by kernel_rfl) _ hst (by kernel_rfl) rfl (fun _ => ⟨rfl, rfl, rfl, rfl, rfl, trivial⟩) ⟨?_, ?_, ?_, ?_, ?_, ?_, ?_, ?_, ?_, ?_, ?_, ?_, ?_, ?_, ?_, ?_, ?_, ?_, ?_, ?_, ?_, ?_, ?_, ?_, ?_, ?_, ?_, ?_, ?_, ?_, ?_, ?_, ?_, ?_, ?_, ?_, ?_, ?_, ?_, ?_, ?_, ?_, ?_, ?_, ?_, ?_, ?_, ?_, trivial⟩ ?fin
          · refine Obl.call 18 #[.pointer (some ⟨A, 0, none⟩)] (fun ev w1 hI hc hf hg hev => ?_)
            have h0 : ev (.tmp 9) = .pointer (some ⟨A, 0, none⟩) := hev.1
            refine ⟨rfl, by (clear hev; go_simp), ?_⟩
            refine ((HS.out.step hI).lsb_len 2 rfl).mono ?_
            rintro e w2 ⟨rfl, rfl⟩
            exact ⟨_, rfl, Ext.refl _, fun d hd => by cases hd; rfl⟩
          · refine Obl.val (.slice qa R.length qcap) (fun ev w1 hc hf hg hev => ?_) (fun d hd w1 => by cases hd; rfl)
            have h0 : ev (.tmp 11) = .slice qa R.length qcap := hev.1
            exact ⟨rfl, by (clear hev; go_simp)⟩
          · refine Obl.val (.int .i64 R.length) (fun ev w1 hc hf hg hev => ?_) (fun d hd w1 => by cases hd; rfl)
            have h0 : ev (.tmp 126) = .slice qa R.length qcap := hev.1
            exact ⟨rfl, by (clear hev; go_simp)⟩
          · refine Obl.val (.bool true) (fun ev w1 hc hf hg hev => ?_) (fun d hd w1 => by cases hd; rfl)
            have h0 : ev (.tmp 125) = .int .i64 R.length := hev.1; have h1 : ev (.tmp 127) = .int .i64 R.length := hev.2.1
            exact ⟨rfl, by (clear hev; go_simp)⟩
          · refine Obl.val (.bool true) (fun ev w1 hc hf hg hev => ?_) (fun d hd w1 => by cases hd; rfl)
            have h0 : ev (.tmp 128) = .bool true := hev.1
            exact ⟨rfl, by (clear hev; go_simp)⟩
          · refine Obl.call 19 #[.pointer (some ⟨A + 1, 0, none⟩)] (fun ev w1 hI hc hf hg hev => ?_)
            have h0 : ev (.tmp 129) = .bool true := hev.1; have h1 : ev (.tmp 10) = .pointer (some ⟨A + 1, 0, none⟩) := hev.2.1
            refine ⟨wanted_of rfl rfl h0, by (clear hev; go_simp), ?_⟩
            refine ((HS.out.step hI).msb_len 3 rfl).mono ?_
            rintro e w2 ⟨rfl, rfl⟩
            exact ⟨_, rfl, Ext.refl _, fun d hd => by cases hd; rfl⟩
          · refine Obl.val (.slice qa R.length qcap) (fun ev w1 hc hf hg hev => ?_) (fun d hd w1 => by cases hd; rfl)
            have h0 : ev (.tmp 129) = .bool true := hev.1; have h1 : ev (.tmp 11) = .slice qa R.length qcap := hev.2.1
            exact ⟨wanted_of rfl rfl h0, by (clear hev; go_simp)⟩
          · refine Obl.val (.int .i64 R.length) (fun ev w1 hc hf hg hev => ?_) (fun d hd w1 => by cases hd; rfl)
            have h0 : ev (.tmp 129) = .bool true := hev.1; have h1 : ev (.tmp 131) = .slice qa R.length qcap := hev.2.1
            exact ⟨wanted_of rfl rfl h0, by (clear hev; go_simp)⟩
          · refine Obl.val (.bool true) (fun ev w1 hc hf hg hev => ?_) (fun d hd w1 => by cases hd; rfl)
            have h0 : ev (.tmp 129) = .bool true := hev.1; have h1 : ev (.tmp 130) = .int .i64 R.length := hev.2.1; have h2 : ev (.tmp 132) = .int .i64 R.length := hev.2.2.1
            exact ⟨wanted_of rfl rfl h0, by (clear hev; go_simp)⟩
          · refine Obl.val (.bool true) (fun ev w1 hc hf hg hev => ?_) (fun d hd w1 => by cases hd; rfl)
            have h0 : ev (.tmp 129) = .bool true := hev.1; have h1 : ev (.tmp 133) = .bool true := hev.2.1
            exact ⟨rfl, by (clear hev; go_simp)⟩
          · refine Obl.val (.bool true) (fun ev w1 hc hf hg hev => ?_) (fun d hd w1 => by cases hd; rfl)
            have h0 : ev (.tmp 134) = .bool true := hev.1
            exact ⟨rfl, by (clear hev; go_simp)⟩
          · refine Obl.val (.slice ca N ccap) (fun ev w1 hc hf hg hev => ?_) (fun d hd w1 => by cases hd; rfl)
            have h0 : ev (.tmp 135) = .bool true := hev.1; have h1 : ev (.tmp 15) = .slice ca N ccap := hev.2.1
            exact ⟨wanted_of rfl rfl h0, by (clear hev; go_simp)⟩
          · refine Obl.val (.int .i64 N) (fun ev w1 hc hf hg hev => ?_) (fun d hd w1 => by cases hd; rfl)
            have h0 : ev (.tmp 135) = .bool true := hev.1; have h1 : ev (.tmp 136) = .slice ca N ccap := hev.2.1
            exact ⟨wanted_of rfl rfl h0, by (clear hev; go_simp)⟩
          · refine Obl.val (.slice qa R.length qcap) (fun ev w1 hc hf hg hev => ?_) (fun d hd w1 => by cases hd; rfl)
            have h0 : ev (.tmp 135) = .bool true := hev.1; have h1 : ev (.tmp 11) = .slice qa R.length qcap := hev.2.1
            exact ⟨wanted_of rfl rfl h0, by (clear hev; go_simp)⟩
          · refine Obl.val (.int .i64 R.length) (fun ev w1 hc hf hg hev => ?_) (fun d hd w1 => by cases hd; rfl)
            have h0 : ev (.tmp 135) = .bool true := hev.1; have h1 : ev (.tmp 138) = .slice qa R.length qcap := hev.2.1
            exact ⟨wanted_of rfl rfl h0, by (clear hev; go_simp)⟩
          · refine Obl.val (.bool true) (fun ev w1 hc hf hg hev => ?_) (fun d hd w1 => by cases hd; rfl)
            have h0 : ev (.tmp 135) = .bool true := hev.1; have h1 : ev (.tmp 137) = .int .i64 N := hev.2.1; have h2 : ev (.tmp 139) = .int .i64 R.length := hev.2.2.1
            exact ⟨wanted_of rfl rfl h0, by (clear hev; go_simp)⟩
          · refine Obl.val (.bool true) (fun ev w1 hc hf hg hev => ?_) (fun d hd w1 => by cases hd; rfl)
            have h0 : ev (.tmp 135) = .bool true := hev.1; have h1 : ev (.tmp 140) = .bool true := hev.2.1
            exact ⟨rfl, by (clear hev; go_simp)⟩
          · refine Obl.val (.bool true) (fun ev w1 hc hf hg hev => ?_) (fun d hd w1 => by cases hd; rfl)
            have h0 : ev (.tmp 141) = .bool true := hev.1
            exact ⟨rfl, by (clear hev; go_simp)⟩
          · refine Obl.val (.slice da N dcap) (fun ev w1 hc hf hg hev => ?_) (fun d hd w1 => by cases hd; rfl)
            have h0 : ev (.tmp 142) = .bool true := hev.1; have h1 : ev (.tmp 16) = .slice da N dcap := hev.2.1
            exact ⟨wanted_of rfl rfl h0, by (clear hev; go_simp)⟩
          · refine Obl.val (.int .i64 N) (fun ev w1 hc hf hg hev => ?_) (fun d hd w1 => by cases hd; rfl)
            have h0 : ev (.tmp 142) = .bool true := hev.1; have h1 : ev (.tmp 143) = .slice da N dcap := hev.2.1
            exact ⟨wanted_of rfl rfl h0, by (clear hev; go_simp)⟩
          · refine Obl.val (.slice qa R.length qcap) (fun ev w1 hc hf hg hev => ?_) (fun d hd w1 => by cases hd; rfl)
            have h0 : ev (.tmp 142) = .bool true := hev.1; have h1 : ev (.tmp 11) = .slice qa R.length qcap := hev.2.1
            exact ⟨wanted_of rfl rfl h0, by (clear hev; go_simp)⟩
          · refine Obl.val (.int .i64 R.length) (fun ev w1 hc hf hg hev => ?_) (fun d hd w1 => by cases hd; rfl)
            have h0 : ev (.tmp 142) = .bool true := hev.1; have h1 : ev (.tmp 145) = .slice qa R.length qcap := hev.2.1
            exact ⟨wanted_of rfl rfl h0, by (clear hev; go_simp)⟩
          · refine Obl.val (.bool true) (fun ev w1 hc hf hg hev => ?_) (fun d hd w1 => by cases hd; rfl)
            have h0 : ev (.tmp 142) = .bool true := hev.1; have h1 : ev (.tmp 144) = .int .i64 N := hev.2.1; have h2 : ev (.tmp 146) = .int .i64 R.length := hev.2.2.1
            exact ⟨wanted_of rfl rfl h0, by (clear hev; go_simp)⟩
          · refine Obl.val (.bool true) (fun ev w1 hc hf hg hev => ?_) (fun d hd w1 => by cases hd; rfl)
            have h0 : ev (.tmp 142) = .bool true := hev.1; have h1 : ev (.tmp 147) = .bool true := hev.2.1
            exact ⟨rfl, by (clear hev; go_simp)⟩
          · refine Obl.val (.bool true) (fun ev w1 hc hf hg hev => ?_) (fun d hd w1 => by cases hd; rfl)
            have h0 : ev (.tmp 148) = .bool true := hev.1
            exact ⟨rfl, by (clear hev; go_simp)⟩
          · refine Obl.val (.slice ca N ccap) (fun ev w1 hc hf hg hev => ?_) (fun d hd w1 => by cases hd; rfl)
            have h0 : ev (.tmp 149) = .bool true := hev.1; have h1 : ev (.tmp 15) = .slice ca N ccap := hev.2.1
            exact ⟨wanted_of rfl rfl h0, by (clear hev; go_simp)⟩
          · refine Obl.val (.slice qa R.length qcap) (fun ev w1 hc hf hg hev => ?_) (fun d hd w1 => by cases hd; rfl)
            have h0 : ev (.tmp 149) = .bool true := hev.1; have h1 : ev (.tmp 11) = .slice qa R.length qcap := hev.2.1
            exact ⟨wanted_of rfl rfl h0, by (clear hev; go_simp)⟩
          · refine Obl.val (.int .i64 R.length) (fun ev w1 hc hf hg hev => ?_) (fun d hd w1 => by cases hd; rfl)
            have h0 : ev (.tmp 149) = .bool true := hev.1; have h1 : ev (.tmp 151) = .slice qa R.length qcap := hev.2.1
            exact ⟨wanted_of rfl rfl h0, by (clear hev; go_simp)⟩
          · refine Obl.val (.slice ca R.length ccap) (fun ev w1 hc hf hg hev => ?_) (fun d hd w1 => by cases hd; rfl)
            have h0 : ev (.tmp 149) = .bool true := hev.1; have h1 : ev (.tmp 150) = .slice ca N ccap := hev.2.1; have h2 : ev (.tmp 152) = .int .i64 R.length := hev.2.2.1
            exact ⟨wanted_of rfl rfl h0, by (clear hev; go_simp)⟩
          · refine Obl.some (fun ev w1 hI hc hf hg hev => ?_)
            have h0 : ev (.tmp 149) = .bool true := hev.1; have h1 : ev (.tmp 153) = .slice ca R.length ccap := hev.2.1
            clear hev
            have hs := run_string_view (P := Try.prog) 22 9 5 (HCV.out.ext hI) Try.underlying22 Try.underlying5 Try.underlying9
            exact ⟨wanted_of rfl rfl h0, .string (strOf (bn R)), by go_simp, fun d hd => by cases hd; rfl⟩
          · refine Obl.val (.slice qa R.length qcap) (fun ev w1 hc hf hg hev => ?_) (fun d hd w1 => by cases hd; rfl)
            have h0 : ev (.tmp 149) = .bool true := hev.1; have h1 : ev (.tmp 11) = .slice qa R.length qcap := hev.2.1
            exact ⟨wanted_of rfl rfl h0, by (clear hev; go_simp)⟩
          · refine Obl.some (fun ev w1 hI hc hf hg hev => ?_)
            have h0 : ev (.tmp 149) = .bool true := hev.1; have h1 : ev (.tmp 155) = .slice qa R.length qcap := hev.2.1
            clear hev
            have hs := run_string_view (P := Try.prog) 22 9 5 (HRV.out.ext hI) Try.underlying22 Try.underlying5 Try.underlying9
            exact ⟨wanted_of rfl rfl h0, .string (strOf (bn R)), by go_simp, fun d hd => by cases hd; rfl⟩
          · refine Obl.val (.bool true) (fun ev w1 hc hf hg hev => ?_) (fun d hd w1 => by cases hd; rfl)
            have h0 : ev (.tmp 149) = .bool true := hev.1; have h1 : ev (.tmp 154) = .string (strOf (bn R)) := hev.2.1; have h2 : ev (.tmp 156) = .string (strOf (bn R)) := hev.2.2.1
            exact ⟨wanted_of rfl rfl h0, by (clear hev; go_simp)⟩
          · refine Obl.val (.bool true) (fun ev w1 hc hf hg hev => ?_) (fun d hd w1 => by cases hd; rfl)
            have h0 : ev (.tmp 149) = .bool true := hev.1; have h1 : ev (.tmp 157) = .bool true := hev.2.1
            exact ⟨rfl, by (clear hev; go_simp)⟩
          · refine Obl.val (.bool true) (fun ev w1 hc hf hg hev => ?_) (fun d hd w1 => by cases hd; rfl)
            have h0 : ev (.tmp 158) = .bool true := hev.1
            exact ⟨rfl, by (clear hev; go_simp)⟩
          · refine Obl.val (.slice da N dcap) (fun ev w1 hc hf hg hev => ?_) (fun d hd w1 => by cases hd; rfl)
            have h0 : ev (.tmp 159) = .bool true := hev.1; have h1 : ev (.tmp 16) = .slice da N dcap := hev.2.1
            exact ⟨wanted_of rfl rfl h0, by (clear hev; go_simp)⟩
          · refine Obl.val (.slice qa R.length qcap) (fun ev w1 hc hf hg hev => ?_) (fun d hd w1 => by cases hd; rfl)
            have h0 : ev (.tmp 159) = .bool true := hev.1; have h1 : ev (.tmp 11) = .slice qa R.length qcap := hev.2.1
            exact ⟨wanted_of rfl rfl h0, by (clear hev; go_simp)⟩
          · refine Obl.val (.int .i64 R.length) (fun ev w1 hc hf hg hev => ?_) (fun d hd w1 => by cases hd; rfl)
            have h0 : ev (.tmp 159) = .bool true := hev.1; have h1 : ev (.tmp 161) = .slice qa R.length qcap := hev.2.1
            exact ⟨wanted_of rfl rfl h0, by (clear hev; go_simp)⟩
          · refine Obl.val (.slice da R.length dcap) (fun ev w1 hc hf hg hev => ?_) (fun d hd w1 => by cases hd; rfl)
            have h0 : ev (.tmp 159) = .bool true := hev.1; have h1 : ev (.tmp 160) = .slice da N dcap := hev.2.1; have h2 : ev (.tmp 162) = .int .i64 R.length := hev.2.2.1
            exact ⟨wanted_of rfl rfl h0, by (clear hev; go_simp)⟩
          · refine Obl.some (fun ev w1 hI hc hf hg hev => ?_)
            have h0 : ev (.tmp 159) = .bool true := hev.1; have h1 : ev (.tmp 163) = .slice da R.length dcap := hev.2.1
            clear hev
            have hs := run_string_view (P := Try.prog) 22 9 5 (HDV.out.ext hI) Try.underlying22 Try.underlying5 Try.underlying9
            exact ⟨wanted_of rfl rfl h0, .string (strOf (bn R)), by go_simp, fun d hd => by cases hd; rfl⟩
          · refine Obl.val (.slice qa R.length qcap) (fun ev w1 hc hf hg hev => ?_) (fun d hd w1 => by cases hd; rfl)
            have h0 : ev (.tmp 159) = .bool true := hev.1; have h1 : ev (.tmp 11) = .slice qa R.length qcap := hev.2.1
            exact ⟨wanted_of rfl rfl h0, by (clear hev; go_simp)⟩
          · refine Obl.some (fun ev w1 hI hc hf hg hev => ?_)
            have h0 : ev (.tmp 159) = .bool true := hev.1; have h1 : ev (.tmp 165) = .slice qa R.length qcap := hev.2.1
            clear hev
            have hs := run_string_view (P := Try.prog) 22 9 5 (HRV.out.ext hI) Try.underlying22 Try.underlying5 Try.underlying9
            exact ⟨wanted_of rfl rfl h0, .string (strOf (bn R)), by go_simp, fun d hd => by cases hd; rfl⟩
          · refine Obl.val (.bool true) (fun ev w1 hc hf hg hev => ?_) (fun d hd w1 => by cases hd; rfl)
            have h0 : ev (.tmp 159) = .bool true := hev.1; have h1 : ev (.tmp 164) = .string (strOf (bn R)) := hev.2.1; have h2 : ev (.tmp 166) = .string (strOf (bn R)) := hev.2.2.1
            exact ⟨wanted_of rfl rfl h0, by (clear hev; go_simp)⟩
          · refine Obl.val (.bool true) (fun ev w1 hc hf hg hev => ?_) (fun d hd w1 => by cases hd; rfl)
            have h0 : ev (.tmp 159) = .bool true := hev.1; have h1 : ev (.tmp 167) = .bool true := hev.2.1
            exact ⟨rfl, by (clear hev; go_simp)⟩
          · refine Obl.val (.bool true) (fun ev w1 hc hf hg hev => ?_) (fun d hd w1 => by cases hd; rfl)
            have h0 : ev (.tmp 168) = .bool true := hev.1
            exact ⟨rfl, by (clear hev; go_simp)⟩
          · refine Obl.call 11 #[] (fun ev w1 hI hc hf hg hev => ?_)
            have h0 : ev (.tmp 169) = .bool true := hev.1
            refine ⟨wanted_of rfl rfl h0, by (clear hev; go_simp), ?_⟩
            refine (pre_puts w1).mono ?_
            rintro e w2 ⟨rfl, c3⟩
            exact ⟨_, rfl, c3, fun d hd => by cases hd; rfl⟩
          · refine Obl.val (.bool true) (fun ev w1 hc hf hg hev => ?_) (fun d hd w1 => by cases hd; rfl)
            have h0 : ev (.tmp 169) = .bool true := hev.1; have h1 : ev (.tmp 170) = .bool true := hev.2.1
            exact ⟨rfl, by (clear hev; go_simp)⟩
          · refine Obl.val (.bool true) (fun ev w1 hc hf hg hev => ?_) (fun d hd w1 => by cases hd; rfl)
            have h0 : ev (.tmp 171) = .bool true := hev.1
            exact ⟨rfl, by (clear hev; go_simp)⟩
          case fin =>
            intro a' w' he hd hf
            go_wp2_with fail
            have h6 : a'.tmps.getD 4 undef = .bool true := hf 4 (by decide)
            exact bodyPost_ret (by rw [results_tmp rfl, h6]) hd ⟨rfl, HS.out.ext.trans he⟩
-- REGEND
set_option maxRecDepth 100000 in
theorem pre_law_puts (v : Value) (bs : List Nat) (u : Value) (xs : List Int) (w : World) (hv : View w v bs ∧ ViewL w v (u8s bs)) (hb : ∀ b ∈ bs, b < 256) (hbm : bs.length ≤ 140737488351232) (hu : ViewL w u (kints .i64 xs) ∧ xs.length ≤ 140737488351232) (hw : ∀ x ∈ xs, (Lit.int .i64 x).wf = true) :
    Calls Try.prog 3 #[v, u] w fun e w' => e = .returned (.bool true) ∧ Ext w w' := by
  by_cases h1 : 60 < bs.length
  · obtain ⟨ao, cap, rfl⟩ := hv.2.shape
    obtain ⟨bo, ucap, rfl⟩ := hu.1.shape
    rw [length_u8s] at *
    clear hv hb hu hw
    have h1 : (60 : Int) < (bs.length : Int) := by omega
    go_enter Try.func3, Try.ntmps3
    go_wp2_with fail
    go_ret
    exact ⟨rfl, Ext.refl w⟩
  · by_cases h2 : 40 < xs.length
    · obtain ⟨ao, cap, rfl⟩ := hv.2.shape
      obtain ⟨bo, ucap, rfl⟩ := hu.1.shape
      rw [length_u8s] at *
      rw [length_kints] at *
      clear hv hb hu hw
      have h1 : ¬ (60 : Int) < (bs.length : Int) := by omega
      have h2 : (40 : Int) < (xs.length : Int) := by omega
      go_enter Try.func3, Try.ntmps3
      go_wp2_with fail
      go_ret
      exact ⟨rfl, Ext.refl w⟩
    · exact pre_law_puts_some v bs u xs w hv hu.1 (by omega) (by omega)
end Go.Proofs.Ytomnhfcckalkiaa

/-! pressworklaw06.PrefixBack: its walk. -/
namespace Go.Proofs.Ytomnhfcckalkiaa
open Go.RowKit
set_option linter.unusedVariables false

/-- the symbols that are meant, and those of them that have words. -/
def symS (n : Nat) (xs : List Int) : List Nat := xs.map fun (x : Int) => (x % (n : Int)).toNat
def didS (L : List Nat) (ms : List Nat) : List Nat := ms.filter fun s => decide (0 < L.getD s 0)
def rowsD (L : List Nat) (D : List Nat) : List Bool := D.flatMap (rowOf L)
theorem symS_get {n : Nat} {xs : List Int} {i : Nat} {x : Int} (h : xs[i]? = some x) : (symS n xs)[i]? = some (x % (n : Int)).toNat := by simp [symS, h]
theorem didS_succ (L ms : List Nat) (i s : Nat) (h : ms[i]? = some s) : didS L (ms.take (i + 1)) = didS L (ms.take i) ++ if 0 < L.getD s 0 then [s] else [] := by
  rw [List.take_add_one, h, didS, List.filter_append]
  by_cases h0 : 0 < L.getD s 0
  · rw [if_pos h0]; simp only [Option.toList_some, List.filter_cons, decide_eq_true h0, if_true, List.filter_nil]; rfl
  · rw [if_neg h0]; simp only [Option.toList_some, List.filter_cons, decide_eq_false h0, Bool.false_eq_true, if_false, List.filter_nil]; rfl
theorem didS_mem {L : List Nat} {ms : List Nat} {s : Nat} (h : s ∈ didS L ms) : s < L.length ∧ 0 < L.getD s 0 := by
  have h0 := of_decide_eq_true (List.mem_filter.1 h).2
  refine ⟨?_, h0⟩
  refine Classical.byContradiction fun hn => ?_
  rw [List.getD, List.getElem?_eq_none (by omega)] at h0
  simp at h0
theorem didS_len (L ms : List Nat) : (didS L ms).length ≤ ms.length := List.length_filter_le _ _
theorem rowsD_len {L : List Nat} (hg : Good L) (D : List Nat) : (rowsD L D).length ≤ 20 * D.length := by
  induction D with
  | nil => simp [rowsD]
  | cons x D ih =>
    have h20 : (rowOf L x).length ≤ 20 := by
      rw [length_rowOf]
      by_cases h : x < L.length
      · rw [List.getD, List.getElem?_eq_getElem h]; exact hg.1 _ (List.getElem_mem _)
      · rw [List.getD, List.getElem?_eq_none (by omega)]; simp
    simp only [rowsD, List.flatMap_cons, List.length_append, List.length_cons] at ih ⊢
    omega
theorem rowsD_append (L D E : List Nat) : rowsD L (D ++ E) = rowsD L D ++ rowsD L E := by simp [rowsD]
theorem rowsD_one (L : List Nat) (s : Nat) : rowsD L [s] = rowOf L s := by simp [rowsD]
/-- what is put stands at the head of the bits. -/
theorem put_head (hi : Bool) (R : List Bool) (be : List Nat) : ∃ t, ofBits hi (packs hi R ++ be) = R ++ t := by
  refine ⟨(ofBits hi (packs hi R)).drop R.length ++ ofBits hi be, ?_⟩
  have h := ofBits_packs hi R
  conv => rhs; rw [← List.append_assoc]
  conv => rhs; lhs; lhs; rw [← h]
  rw [List.take_append_drop]
  simp [ofBits]
theorem dec_at {L : List Nat} (hg : Good L) (hi : Bool) (D be : List Nat) (i s : Nat) (hs : D[i]? = some s) (hD : s < L.length ∧ 0 < L.getD s 0) :
    IsDec (rowsL L) (ofBits hi (packs hi (rowsD L D) ++ be)) (rowsD L (D.take i)).length s ((rowsD L (D.take (i + 1))).length) 0 := by
  obtain ⟨t, ht⟩ := put_head hi (rowsD L D) be
  have hil := getE_lt hs
  have e : D = D.take i ++ (s :: D.drop (i + 1)) := by
    have : s = D[i] := by rw [List.getElem?_eq_getElem hil] at hs; exact (Option.some.inj hs).symm
    rw [this, List.getElem_cons_drop, List.take_append_drop]
  have e2 : rowsD L D = rowsD L (D.take i) ++ (rowOf L s ++ rowsD L (D.drop (i + 1))) := by
    conv => lhs; rw [e]
    simp [rowsD]
  have h0 : rowOf L s ≠ [] := fun e => by have := length_rowOf L s; rw [e, List.length_nil] at this; have := hD.2; omega
  have e3 : (rowsD L (D.take (i + 1))).length = (rowsD L (D.take i)).length + (rowOf L s).length := by
    rw [List.take_add_one, hs, Option.toList_some, rowsD_append, rowsD_one, List.length_append]
  rw [e3]
  exact dec_put (rows_pf hg) (a := rowsD L (D.take i)) (r := rowOf L s) (b := rowsD L (D.drop (i + 1)) ++ t) (by rw [ht, ← List.append_assoc (rowOf L s), ← List.append_assoc (rowsD L (D.take i)), ← e2]) (rowsL_get L s hD.1) h0
theorem St.rowI {w0 w : World} {Ts : List Thing} {v : Value} {l : List Nat} {n : Nat} (h : St w0 w Ts) (j : Nat) (hj : Ts[j]? = some (tO 3 v (i64n l))) (hn : l.length = n) : w.ownsRow 0 3 1 v n (i64n l) := by
  subst hn
  have := h.row j hj; rwa [length_i64n] at this
theorem St.shapeI {w0 w : World} {Ts : List Thing} {v : Value} {l : List Nat} {n : Nat} (h : St w0 w Ts) (j : Nat) (hj : Ts[j]? = some (tO 3 v (i64n l))) (hn : l.length = n) : ∃ ao cap, v = .slice ao n cap := by
  subst hn
  have := h.shape j hj; rwa [length_i64n] at this
theorem St.snocI {w0 w w' : World} {Ts : List Thing} {v v' : Value} {l : List Nat} {y : Nat} {o : Obj} {n : Nat} (h : St w0 w Ts) (j : Nat) (hj : Ts[j]? = some (tO 3 v (i64n l))) (hn : n = l.length) (hown' : w'.ownsRow 0 3 1 v' (n + 1) (i64n l ++ [.int .i64 y]))
    (hgrow : (w.alloc o).grownBy w' v.ownBlock) (hat : v'.ownBlock = v.ownBlock ∨ v'.ownBlock = some (w.heap.size + 1)) : St w0 w' (Ts.set j (tO 3 v' (i64n (l ++ [y])))) := by
  rw [i64n_append]
  exact h.app1 j hj (by rw [length_i64n, hn]) hown' hgrow hat
theorem info_int6 : (Try.prog.info? 3).map (fun i => (i.zero, i.size, i.bytes)) = some (some (.int .i64 0), 1, 8) := by kernel_rfl
set_option maxHeartbeats 8000000 in
set_option maxRecDepth 100000 in
theorem pre_law_back_some (v : Value) (bs : List Nat) (u : Value) (xs : List Int) (z : Value) (be : List Nat) (w : World) (hv : View w v bs ∧ ViewL w v (u8s bs)) (hu : ViewL w u (kints .u16 xs)) (hx : ∀ x ∈ xs, 0 ≤ x ∧ x < 65536) (hz : ViewL w z (u8s be)) (hbe : ∀ b ∈ be, b < 256) (hbl : bs.length ≤ 60) (hxl : xs.length ≤ 200) (hzl : be.length ≤ 40) :
    Calls Try.prog 7 #[v, u, z] w fun e w' => e = .returned (.bool true) ∧ Ext w w' := by
  obtain ⟨j0, hj, hj0, hj1, hj2⟩ := info_parts info_u8
  obtain ⟨i0, ki, ki0, ki1, ki2⟩ := info_parts info_int6
  have hvb := view_block hv.2
  obtain ⟨ao, cap, rfl⟩ := hv.2.shape
  obtain ⟨bo, ucap, rfl⟩ := hu.shape
  obtain ⟨zo, zcap, rfl⟩ := hz.shape
  simp only [length_u8s, length_kints] at *
  have HV := Lib.hid hv
  have HU := Lib.hid hu
  have HZ := Lib.hid hz
  have HX16 := Lib.hid hx
  have HBE := Lib.hid hbe
  have HVB := Lib.hid (show ∀ b o n c, Value.slice ao bs.length cap = .slice (some ⟨b, o, none⟩) n c → 0 < bs.length → b < w.heap.size from fun b o n c e h0 => hvb h0 b o n c e)
  clear hv hu hvb hz hx hbe
  have h1 : ¬ (60 : Int) < (bs.length : Int) := by omega
  have h2 : ¬ (200 : Int) < (xs.length : Int) := by omega
  have h3 : ¬ (40 : Int) < (be.length : Int) := by omega
  go_enter Try.func7, Try.ntmps7
  go_wp2_with fail
  refine (pre_new _ bs _ HV.out.1 HV.out.2 HVB.out (by omega)).mono ?_
  rintro e w1 (⟨he, rfl, x1⟩ | ⟨he, T, og, og2, m, rfl, t1, n1, x1⟩)
  · have heb : (errW bs != 0) = true := bne_iff_ne.2 he
    have hei : ¬ errW bs = 0 := he
    have HX := Lib.hid x1
    clear he x1
    go_wp2_with fail
    refine (pre_puts _).mono ?_
    rintro e w3 ⟨rfl, x3⟩
    have HX := Lib.hid (HX.out.trans x3)
    clear x3
    go_wp2_with fail
    go_ret
    exact ⟨rfl, HX.out⟩
  · have HG := Lib.hid ((good_iff bs).2 he)
    have s1 := (St.of (Ext.refl w)).tab t1 n1 x1
    clear t1 n1 x1
    by_cases hb0 : bs.length = 0
    · have hb0i : (bs.length : Int) = 0 := by omega
      have HX := Lib.hid s1.ext
      clear s1 he
      go_wp2_with fail
      refine (pre_puts _).mono ?_
      rintro e w3 ⟨rfl, x3⟩
      have HX := Lib.hid (HX.out.trans x3)
      clear x3
      go_wp2_with fail
      go_ret
      exact ⟨rfl, HX.out⟩
    · have hb0i : ¬ (bs.length : Int) = 0 := by omega
      have hb0b : ((bs.length : Int) == 0) = false := beq_eq_false_iff_ne.2 hb0i
      obtain ⟨vb, vo, rfl, _, _⟩ := viewL_cells HV.out.2 (by rw [length_u8s]; omega)
      have s3 := s1.lsb_neww.msb_neww.new (Ext.refl _) (Owns.nil _ 3 1) (fun g e => by cases e)
      rw [World.size_alloc] at s3
      obtain ⟨A, hA⟩ : ∃ A, A = w1.heap.size := ⟨_, rfl⟩
      have HA := Lib.hid hA
      rw [← hA] at s3
      have HS := Lib.hid (show St w _ [tT T bs, lW A [], mW (A + 1) [], tO 3 (.slice none 0 0) (i64n [])] from s3)
      clear s1 s3 hA he
      go_wp2_with fail
      rw [← HA.out]
      clear HA
      go_loopw [11, 12, 13] (fun dv nv iv wr => ∃ i : Nat, iv = .int .i64 i ∧ i ≤ xs.length ∧ nv = .int .i64 (rowsD bs (didS bs ((symS bs.length xs).take i))).length ∧ St w wr [tT T bs, lW A (rowsD bs (didS bs ((symS bs.length xs).take i))), mW (A + 1) (rowsD bs (didS bs ((symS bs.length xs).take i))), tO 3 dv (i64n (didS bs ((symS bs.length xs).take i)))]) (fun _ _ iv _ => xs.length - (intOf iv).toNat)
      case atStart => exact ⟨0, rfl, Nat.zero_le _, rfl, HS.out⟩
      case round =>
        obtain ⟨i, rfl, hi2, rfl, hp⟩ := hrel
        have hRl := rowsD_len HG.out (didS bs ((symS bs.length xs).take i))
        have hDl := didS_len bs ((symS bs.length xs).take i)
        rw [List.length_take] at hDl
        by_cases hin : i < xs.length
        · have hini : (i : Int) < (xs.length : Int) := by omega
          obtain ⟨b, o, rfl, _, hc⟩ := viewL_cells (HU.out.ext hp.ext) (by rw [length_kints]; omega)
          obtain ⟨x, hx⟩ : ∃ x, xs[i]? = some x := ⟨_, List.getElem?_eq_getElem hin⟩
          have hx16 := HX16.out x (List.mem_of_getElem? hx)
          have cX := hc i (.int .u16 x) (by simp [kints, hx])
          obtain ⟨s, hs⟩ : ∃ s : Nat, (s : Int) = x % (bs.length : Int) := ⟨(x % (bs.length : Int)).toNat, by have := Int.emod_nonneg x hb0i; omega⟩
          have hst := didS_succ bs _ i s (by rw [symS_get hx, ← hs, Int.toNat_natCast])
          have hsl : s < bs.length := by have := Int.emod_lt_of_pos x (show (0 : Int) < bs.length by omega); omega
          have k5 : x.tmod (bs.length : Int) = (s : Int) := by rw [Int.tmod_eq_emod_of_nonneg hx16.1, hs]
          generalize hR : didS bs ((symS bs.length xs).take i) = E at *
          clear hR
          have hEb : E.length ≤ 200 := by omega
          obtain ⟨R, hR⟩ : ∃ R, R = rowsD bs E := ⟨_, rfl⟩
          rw [← hR] at hp hRl
          rw [← hR]
          have HR := Lib.hid hR
          have HST := Lib.hid hst
          have HX := Lib.hid hx
          have HP := Lib.hid hp
          have HSS := Lib.hid hs
          have hsi : (s : Int) < (bs.length : Int) := by omega
          have cB := viewL_at (HV.out.2.ext hp.ext) (getElem?_u8s bs s hsl)
          clear hc hx hst hp hs hR
          obtain ⟨n, hn⟩ : ∃ n, bs.getD s 0 = n := ⟨_, rfl⟩
          have hbs : bitsL bs s = n := by rw [bitsL, if_pos (by omega), Int.toNat_natCast, hn]
          rw [hn] at cB
          rw [hn] at HST
          have hn20 : n ≤ 20 := hbs ▸ bitsL_le HG.out s
          have hrl : (rowOf bs s).length = n := by rw [length_rowOf, hn]
          by_cases hn0 : 0 < n
          · have hE : putErr bs s = 0 := by rw [putErr, if_pos (by omega)]
            have hZ : rowZ bs s = rowOf bs s := by rw [rowZ, if_pos (by omega), Int.toNat_natCast]
            rw [if_pos hn0] at HST
            have HE := Lib.hid hE
            have HZR := Lib.hid hZ
            have HRL := Lib.hid hrl
            have HCB := Lib.hid (getElem?_u8s bs s hsl)
            rw [hn] at HCB
            have hn0i : (0 : Int) < (n : Int) := by omega
            clear hE hZ hrl hbs hn
            go_wp2_with fail
            clear cX cB k5
            refine (HP.out.lsb_put 1 0 rfl rfl (by decide) HG.out s (by omega)).mono ?_
            rw [HE.out, HZR.out]
            rintro e w4 ⟨rfl, s4⟩
            have HS := Lib.hid (show St w w4 [tT T bs, lW A (R ++ rowOf bs s), mW (A + 1) R, tO 3 u11 (i64n E)] from s4)
            clear s4
            go_wp2_with fail
            refine (HS.out.msb_put 2 0 rfl rfl (by decide) HG.out s (by omega)).mono ?_
            rw [HE.out, HZR.out]
            rintro e w5 ⟨rfl, s4⟩
            have HS := Lib.hid (show St w w5 [tT T bs, lW A (R ++ rowOf bs s), mW (A + 1) (R ++ rowOf bs s), tO 3 u11 (i64n E)] from s4)
            have cB := viewL_at (HV.out.2.ext HS.out.ext) HCB.out
            clear s4
            go_wp2_with (at_builtin; go_must (refine wpList_append_own_at _ rfl (.tmp 83) (.tmp 85) 23 rfl 0 3 i0 (.int .i64 0) 1 8 Try.underlying23 ki ki0 ki1 ki2 rfl (by decide) _ E.length (i64n E) rfl ((HS.out.rowI 3 rfl rfl).alloc _) ⟨w5.heap.size, 0, none⟩ 1 1 [_] rfl rfl (cell_one_new _ _ _) (by simp [Value.oneCell']) (by unfold maxLen; omega) (by omega) (Nat.zero_le _) ?_))
            intro v' w6 hown' hgrow _ hat
            have s6 := HS.out.snocI 3 rfl rfl hown' hgrow hat
            have HS := Lib.hid (show St w w6 [tT T bs, lW A (R ++ rowOf bs s), mW (A + 1) (R ++ rowOf bs s), tO 3 v' (i64n (E ++ [s]))] from s6)
            clear s6 hown' hgrow hat cB
            have cB := viewL_at (HV.out.2.ext HS.out.ext) HCB.out
            go_wp2_with fail
            go_roundw
            case rel => exact ⟨i + 1, by go_num, by omega, by rw [HST.out, rowsD_append, rowsD_one, ← HR.out, List.length_append, HRL.out]; go_num, by rw [HST.out, rowsD_append, rowsD_one, ← HR.out]; exact HS.out⟩
            case measure => simp [intOf]; omega
          · have hE : putErr bs s = 5 := by rw [putErr, if_neg (by omega)]
            have hZ : rowZ bs s = [] := by rw [rowZ, if_neg (by omega)]
            rw [if_neg hn0, List.append_nil] at HST
            obtain rfl : n = 0 := by omega
            have HE := Lib.hid hE
            have HZR := Lib.hid hZ
            have HCB := Lib.hid (getElem?_u8s bs s hsl)
            rw [hn] at HCB
            clear hE hZ hrl hbs hn
            go_wp2_with fail
            clear cX cB k5
            refine (HP.out.lsb_put 1 0 rfl rfl (by decide) HG.out s (by omega)).mono ?_
            rw [HE.out, HZR.out, List.append_nil]
            rintro e w4 ⟨rfl, s4⟩
            have HS := Lib.hid (show St w w4 [tT T bs, lW A R, mW (A + 1) R, tO 3 u11 (i64n E)] from s4)
            clear s4
            go_wp2_with fail
            refine (HS.out.msb_put 2 0 rfl rfl (by decide) HG.out s (by omega)).mono ?_
            rw [HE.out, HZR.out, List.append_nil]
            rintro e w5 ⟨rfl, s4⟩
            have HS := Lib.hid (show St w w5 [tT T bs, lW A R, mW (A + 1) R, tO 3 u11 (i64n E)] from s4)
            have cB := viewL_at (HV.out.2.ext HS.out.ext) HCB.out
            clear s4
            go_wp2_with fail
            go_roundw
            case rel => exact ⟨i + 1, by go_num, by omega, by rw [HST.out, ← HR.out], by rw [HST.out, ← HR.out]; exact HS.out⟩
            case measure => simp [intOf]; omega
        · obtain rfl : i = xs.length := by omega
          rw [show (symS bs.length xs).take xs.length = symS bs.length xs from List.take_of_length_le (by simp [symS])] at hp hRl hDl
          rw [show (symS bs.length xs).take xs.length = symS bs.length xs from List.take_of_length_le (by simp [symS])]
          have hmem : ∀ s ∈ didS bs (symS bs.length xs), s < bs.length ∧ 0 < bs.getD s 0 := fun s h => didS_mem h
          generalize didS bs (symS bs.length xs) = E at *
          obtain ⟨R, hR⟩ : ∃ R, R = rowsD bs E := ⟨_, rfl⟩
          rw [← hR] at hp hRl
          rw [← hR]
          have HR := Lib.hid hR
          have HS := Lib.hid hp
          have HMEM := Lib.hid hmem
          have hRb : R.length ≤ 4000 := by omega
          clear hp hR hmem
          go_wp2_with fail
          refine (HS.out.lsb_bytes 1 rfl (by omega)).mono ?_
          rintro e w3 ⟨v3, rfl, s3, _⟩
          have HS := Lib.hid s3
          clear s3
          have hlp := length_packs false R
          go_wp2_with (at_builtin; go_must (refine wpList_append_view _ rfl (.tmp 94) (.tmp 95) 22 rfl 0 5 j0 (.int .u8 0) 1 Try.underlying22 hj hj0 hj1 hj2 rfl _ (packs false R).length (u8s (packs false R)) rfl (HS.out.rowB 4 rfl rfl) _ (u8s be) rfl (HZ.out.ext HS.out.ext) (u8s_one _) (by rw [length_u8s]; unfold maxLen; omega) (by rw [length_u8s]; omega) (Nat.zero_le _) ?_))
          intro v4 w4 hown' hgrow hat
          have s4 := HS.out.growB 4 rfl (length_packs false R) hown' hgrow hat
          have HS := Lib.hid (show St w w4 [tT T bs, lW A R, mW (A + 1) R, tO 3 u11 (i64n E), oB v4 (packs false R ++ be)] from s4)
          clear s4 hown' hgrow hat
          go_wp2_with fail
          refine (HS.out.lsb_newr _ _ (HS.out.view 4 rfl rfl) (by rw [List.length_append]; omega)).mono ?_
          rintro e w5 ⟨X, rfl, s5⟩
          have HS := Lib.hid (show St w w5 [tT T bs, lW A R, mW (A + 1) R, tO 3 u11 (i64n E), oB v4 (packs false R ++ be), lR X (packs false R ++ be) 0] from s5)
          clear s5
          go_wp2_with fail
          refine (HS.out.msb_bytes 2 rfl (by omega)).mono ?_
          rintro e w6 ⟨v6, rfl, s3, _⟩
          have HS := Lib.hid s3
          clear s3
          have hlp2 := length_packs true R
          go_wp2_with (at_builtin; go_must (refine wpList_append_view _ rfl (.tmp 98) (.tmp 99) 22 rfl 0 5 j0 (.int .u8 0) 1 Try.underlying22 hj hj0 hj1 hj2 rfl _ (packs true R).length (u8s (packs true R)) rfl (HS.out.rowB 6 rfl rfl) _ (u8s be) rfl (HZ.out.ext HS.out.ext) (u8s_one _) (by rw [length_u8s]; unfold maxLen; omega) (by rw [length_u8s]; omega) (Nat.zero_le _) ?_))
          intro v7 w7 hown' hgrow hat
          have s4 := HS.out.growB 6 rfl (length_packs true R) hown' hgrow hat
          have HS := Lib.hid (show St w w7 [tT T bs, lW A R, mW (A + 1) R, tO 3 u11 (i64n E), oB v4 (packs false R ++ be), lR X (packs false R ++ be) 0, oB v7 (packs true R ++ be)] from s4)
          clear s4 hown' hgrow hat
          go_wp2_with fail
          refine (HS.out.msb_newr _ _ (HS.out.view 6 rfl rfl) (by rw [List.length_append]; omega)).mono ?_
          rintro e w8 ⟨Y, rfl, s5⟩
          have HS := Lib.hid (show St w w8 [tT T bs, lW A R, mW (A + 1) R, tO 3 u11 (i64n E), oB v4 (packs false R ++ be), lR X (packs false R ++ be) 0, oB v7 (packs true R ++ be), mR Y (packs true R ++ be) 0] from s5)
          obtain ⟨ea, ecap, rfl⟩ := HS.out.shapeI 3 rfl (n := E.length) rfl
          clear s5
          have hlb : (packs false R ++ be).length ≤ 1000 := by rw [List.length_append]; omega
          have hlb2 : (packs true R ++ be).length ≤ 1000 := by rw [List.length_append]; omega
          have HB1 := Lib.hid (show ∀ b ∈ packs false R ++ be, b < 256 from fun b hb => (List.mem_append.1 hb).elim (packs_lt _ _ b) (HBE.out b))
          have HB2 := Lib.hid (show ∀ b ∈ packs true R ++ be, b < 256 from fun b hb => (List.mem_append.1 hb).elim (packs_lt _ _ b) (HBE.out b))
          have HP8 := Lib.hid (show ∀ i, (rowsD bs (E.take i)).length ≤ R.length from fun i => by
            rw [HR.out]
            have : rowsD bs E = rowsD bs (E.take i) ++ rowsD bs (E.drop i) := by rw [← rowsD_append, List.take_append_drop]
            rw [this, List.length_append]; omega)
          have HL1 := Lib.hid (show R.length ≤ 8 * (packs false R ++ be).length by rw [List.length_append]; omega)
          have HL2 := Lib.hid (show R.length ≤ 8 * (packs true R ++ be).length by rw [List.length_append]; omega)
          have HDL := Lib.hid (show ∀ i s, E[i]? = some s → IsDec (rowsL bs) (ofBits false (packs false R ++ be)) (rowsD bs (E.take i)).length s ((rowsD bs (E.take (i + 1))).length) 0 from fun i s h => by rw [HR.out]; exact dec_at HG.out false E be i s h (HMEM.out s (List.mem_of_getElem? h)))
          have HDM := Lib.hid (show ∀ i s, E[i]? = some s → IsDec (rowsL bs) (ofBits true (packs true R ++ be)) (rowsD bs (E.take i)).length s ((rowsD bs (E.take (i + 1))).length) 0 from fun i s h => by rw [HR.out]; exact dec_at HG.out true E be i s h (HMEM.out s (List.mem_of_getElem? h)))
          clear hlp hlp2
          generalize packs false R ++ be = b1 at *
          generalize packs true R ++ be = b2 at *
          go_wp2_with fail
          go_loopw [18] (fun iv wr => ∃ i : Nat, iv = .int .i64 i ∧ i ≤ E.length ∧ St w wr [tT T bs, lW A R, mW (A + 1) R, tO 3 (.slice ea E.length ecap) (i64n E), oB v4 b1, lR X b1 (rowsD bs (E.take i)).length, oB v7 b2, mR Y b2 (rowsD bs (E.take i)).length]) (fun iv _ => E.length - (intOf iv).toNat)
          case atStart => exact ⟨0, rfl, Nat.zero_le _, HS.out⟩
          case round =>
            obtain ⟨i, rfl, hi3, hp⟩ := hrel
            have HP := Lib.hid hp
            clear hp
            by_cases hie : i < E.length
            · have hiei : (i : Int) < (E.length : Int) := by omega
              obtain ⟨s, hs⟩ : ∃ s, E[i]? = some s := ⟨_, List.getElem?_eq_getElem hie⟩
              have HES := Lib.hid hs
              have HCE := Lib.hid (show (i64n E)[i]? = some (.int .i64 s) by simp [i64n, hs])
              clear hs
              go_wp2_with fail
              refine (HP.out.lsb_get 5 0 rfl rfl (by decide) HG.out (by omega) HB1.out (by have := HP8.out i; have := HL1.out; omega)).mono ?_
              rintro e w9 ⟨s', q, er, rfl, hd, s9⟩
              obtain ⟨rfl, rfl, rfl⟩ := dec_one (rows_pf HG.out) hd (HDL.out i s HES.out)
              have HS := Lib.hid s9
              clear s9 hd
              go_wp2_with fail
              refine (HS.out.msb_get 7 0 rfl rfl (by decide) HG.out (by omega) HB2.out (by have := HP8.out i; have := HL2.out; omega)).mono ?_
              rintro e w10 ⟨s', q, er, rfl, hd, s9⟩
              obtain ⟨rfl, rfl, rfl⟩ := dec_one (rows_pf HG.out) hd (HDM.out i _ HES.out)
              have HS := Lib.hid s9
              obtain ⟨eg, eo, e, _, _⟩ := viewL_cells (s9.viewL 3 rfl) (by rw [length_i64n]; omega)
              cases e
              have cE := viewL_at (s9.viewL 3 rfl) HCE.out
              clear s9 hd
              go_wp2_with fail
              go_roundw
              case rel => exact ⟨i + 1, by go_num, by omega, HS.out⟩
              case measure => simp [intOf]; omega
            · obtain rfl : i = E.length := by omega
              rw [List.take_length, ← HR.out] at HP
              go_wp2_with fail
              refine (HP.out.lsb_at 5 rfl).mono ?_
              rintro e w9 ⟨rfl, hw⟩
              have HS := Lib.hid (hw ▸ HP.out)
              clear hw
              go_wp2_with fail
              refine (HS.out.msb_at 7 rfl).mono ?_
              rintro e w10 ⟨rfl, hw⟩
              have HS := Lib.hid (hw ▸ HS.out)
              clear hw
              go_wp2_with fail
              refine (HS.out.lsb_len 1 rfl).mono ?_
              rintro e w11 ⟨rfl, hw⟩
              have HS := Lib.hid (hw ▸ HS.out)
              clear hw
              go_wp2_with fail
              refine (HS.out.msb_len 2 rfl).mono ?_
              rintro e w12 ⟨rfl, hw⟩
              have HS := Lib.hid (hw ▸ HS.out)
              clear hw
              go_wp2_with fail
              refine (pre_puts _).mono ?_
              rintro e w13 ⟨rfl, x3⟩
              have HX := Lib.hid (HS.out.ext.trans x3)
              clear x3
              go_wp2_with fail
              go_ret
              exact ⟨rfl, HX.out⟩
set_option maxRecDepth 100000 in
theorem pre_law_back (v : Value) (bs : List Nat) (u : Value) (xs : List Int) (z : Value) (be : List Nat) (w : World) (hv : View w v bs ∧ ViewL w v (u8s bs)) (hb : ∀ b ∈ bs, b < 256) (hbm : bs.length ≤ 140737488351232) (hu : ViewL w u (kints .u16 xs) ∧ xs.length ≤ 140737488351232) (hw : ∀ x ∈ xs, (Lit.int .u16 x).wf = true) (hz : View w z be ∧ ViewL w z (u8s be)) (hbe : ∀ b ∈ be, b < 256) (hzm : be.length ≤ 140737488351232) :
    Calls Try.prog 7 #[v, u, z] w fun e w' => e = .returned (.bool true) ∧ Ext w w' := by
  by_cases hs : bs.length ≤ 60 ∧ xs.length ≤ 200 ∧ be.length ≤ 40
  · exact pre_law_back_some v bs u xs z be w hv hu.1 (fun x hx => by have := hw x hx; simp [Lit.wf, IntKind.min, IntKind.max, IntKind.signed, IntKind.bits] at this; omega) hz.2 hbe hs.1 hs.2.1 hs.2.2
  · obtain ⟨ao, cap, rfl⟩ := hv.2.shape
    obtain ⟨bo, ucap, rfl⟩ := hu.1.shape
    obtain ⟨zo, zcap, rfl⟩ := hz.2.shape
    simp only [length_u8s, length_kints] at *
    clear hv hb hu hw hz hbe
    by_cases h1 : 60 < bs.length
    · have h1 : (60 : Int) < (bs.length : Int) := by omega
      go_enter Try.func7, Try.ntmps7
      go_wp2_with fail
      go_ret
      exact ⟨rfl, Ext.refl w⟩
    · have h1 : ¬ (60 : Int) < (bs.length : Int) := by omega
      by_cases h2 : 200 < xs.length
      · have h2 : (200 : Int) < (xs.length : Int) := by omega
        go_enter Try.func7, Try.ntmps7
        go_wp2_with fail
        go_ret
        exact ⟨rfl, Ext.refl w⟩
      · have h2 : ¬ (200 : Int) < (xs.length : Int) := by omega
        have h3 : (40 : Int) < (be.length : Int) := by omega
        go_enter Try.func7, Try.ntmps7
        go_wp2_with fail
        go_ret
        exact ⟨rfl, Ext.refl w⟩
end Go.Proofs.Ytomnhfcckalkiaa

/-! pressworklaw06.PrefixBest: its walk. -/
namespace Go.Proofs.Ytomnhfcckalkiaa
open Go.RowKit
set_option linter.unusedVariables false

/-- each symbol as often as its frequency says, of the first so many. -/
def symsR (F : List Nat) (i : Nat) : List Nat := (List.range i).flatMap fun s => List.replicate (F.getD s 0) s
def symsK (F : List Nat) (i k : Nat) : List Nat := symsR F i ++ List.replicate k i
theorem symsR_succ (F : List Nat) (i : Nat) : symsR F (i + 1) = symsK F i (F.getD i 0) := by rw [symsR, List.range_succ, List.flatMap_append]; simp [symsK, symsR]
theorem symsK_nil (F : List Nat) (i : Nat) : symsK F i 0 = symsR F i := by simp [symsK]
theorem symsK_succ (F : List Nat) (i k : Nat) : symsK F i (k + 1) = symsK F i k ++ [i] := by rw [symsK, List.replicate_succ', ← List.append_assoc]; rfl
theorem symsR_len {F : List Nat} (h7 : ∀ s, F.getD s 0 ≤ 7) : ∀ i, (symsR F i).length ≤ 7 * i
  | 0 => by simp [symsR]
  | i + 1 => by
    have := symsR_len h7 i
    have := h7 i
    rw [symsR_succ, symsK, List.length_append, List.length_replicate]; omega
theorem symsR_more (F : List Nat) (i : Nat) : ∀ d, ∃ t, symsR F (i + d) = symsR F i ++ t
  | 0 => ⟨[], by simp⟩
  | d + 1 => by
    obtain ⟨t, ht⟩ := symsR_more F i d
    exact ⟨t ++ List.replicate (F.getD (i + d) 0) (i + d), by rw [← Nat.add_assoc, symsR_succ, symsK, ht, List.append_assoc]⟩
theorem symsK_more {F : List Nat} {i k n : Nat} (hi : i < n) (hk : k < F.getD i 0) : ∃ t, symsR F n = symsK F i k ++ i :: t := by
  obtain ⟨t, ht⟩ := symsR_more F (i + 1) (n - (i + 1))
  rw [show i + 1 + (n - (i + 1)) = n by omega, symsR_succ, symsK] at ht
  obtain ⟨m, hm⟩ : ∃ m, F.getD i 0 = k + (m + 1) := ⟨F.getD i 0 - k - 1, by omega⟩
  have e : List.replicate (k + (m + 1)) i = List.replicate k i ++ i :: List.replicate m i := by rw [← List.replicate_append_replicate, List.replicate_succ]
  exact ⟨List.replicate m i ++ t, by rw [ht, hm, e, symsK]; simp⟩
theorem split_at {E A t : List Nat} {i : Nat} (h : E = A ++ i :: t) : E[A.length]? = some i ∧ E.take A.length = A ∧ E.take (A.length + 1) = A ++ [i] := by
  subst h
  exact ⟨by simp, by simp, by rw [show A ++ i :: t = (A ++ [i]) ++ t by simp, List.take_left' (by simp)]⟩
def modF (bs : List Nat) : List Nat := bs.map (· % 8)
theorem modF_get {bs : List Nat} {i : Nat} : (modF bs).getD i 0 = bs.getD i 0 % 8 := by
  by_cases h : i < bs.length
  · simp [modF, List.getD, h]
  · simp [modF, List.getD, List.getElem?_eq_none (show bs.length ≤ i by omega)]
theorem modF_take {bs : List Nat} {i : Nat} (h : i < bs.length) : (modF bs).take (i + 1) = (modF bs).take i ++ [bs.getD i 0 % 8] := by
  rw [List.take_succ_eq_append_getElem (by simpa [modF] using h)]
  simp [modF, List.getD, h]
def PbA (bs : List Nat) (N : Nat) (w : World) (dv iv : Value) (wr : World) : Prop := ∃ i : Nat, iv = .int .i64 i ∧ i ≤ N ∧ St w wr [tO 3 dv (i64n ((modF bs).take i))]
def PbP (F ls : List Nat) (N T A : Nat) (fv ov : Value) (w : World) (nv iv : Value) (wr : World) : Prop := ∃ i : Nat, iv = .int .i64 i ∧ i ≤ N ∧ nv = .int .i64 (rowsD ls (symsR F i)).length ∧ St w wr [tO 3 fv (i64n F), oB ov ls, tT T ls, mW A (rowsD ls (symsR F i))]
def PbQ (F ls : List Nat) (i f T A : Nat) (fv ov : Value) (w : World) (nv kv : Value) (wr : World) : Prop := ∃ k : Nat, kv = .int .i64 k ∧ k ≤ f ∧ nv = .int .i64 (rowsD ls (symsK F i k)).length ∧ St w wr [tO 3 fv (i64n F), oB ov ls, tT T ls, mW A (rowsD ls (symsK F i k))]
def PbG (F ls R by' : List Nat) (N T A X : Nat) (fv ov bv : Value) (w : World) (iv : Value) (wr : World) : Prop := ∃ i : Nat, iv = .int .i64 i ∧ i ≤ N ∧ St w wr [tO 3 fv (i64n F), oB ov ls, tT T ls, mW A (rowsD ls R), oB bv by', mR X by' (rowsD ls (symsR F i)).length]
def PbH (F ls R by' : List Nat) (i f T A X : Nat) (fv ov bv : Value) (w : World) (kv : Value) (wr : World) : Prop := ∃ k : Nat, kv = .int .i64 k ∧ k ≤ f ∧ St w wr [tO 3 fv (i64n F), oB ov ls, tT T ls, mW A (rowsD ls R), oB bv by', mR X by' (rowsD ls (symsK F i k)).length]
theorem view_bs {w : World} {ao : Option Addr} {n cap : Nat} {bs : List Nat} (h : ViewL w (.slice ao n cap) (u8s bs)) {i : Nat} (hi : i < bs.length) : ∃ b o, ao = some ⟨b, o, none⟩ ∧ w.cell? ⟨b, o + i, none⟩ = some (.int .u8 (bs.getD i 0 : Nat)) := by
  obtain ⟨b, o, rfl, _, hc⟩ := viewL_cells h (by rw [length_u8s]; omega)
  exact ⟨b, o, rfl, hc i _ (getElem?_u8s bs i hi)⟩
theorem view_is {w : World} {ao : Option Addr} {n cap : Nat} {l : List Nat} (h : ViewL w (.slice ao n cap) (i64n l)) {i : Nat} (hi : i < l.length) : ∃ b o, ao = some ⟨b, o, none⟩ ∧ w.cell? ⟨b, o + i, none⟩ = some (.int .i64 (l.getD i 0 : Nat)) := by
  obtain ⟨b, o, rfl, _, hc⟩ := viewL_cells h (by rw [length_i64n]; omega)
  exact ⟨b, o, rfl, hc i _ (by simp [i64n, List.getD, hi])⟩
set_option maxHeartbeats 8000000 in
set_option maxRecDepth 100000 in
theorem pre_law_best_some (v : Value) (bs : List Nat) (a : Nat) (w : World) (hv : ViewL w v (u8s bs)) (hb : ∀ b ∈ bs, b < 256) (hN40 : bs.length ≤ 40) (ha : a < 256) :
    Calls Try.prog 8 #[v, .int .u8 a] w fun e w' => e = .returned (.bool true) ∧ Ext w w' := by
  obtain ⟨i0, ki, ki0, ki1, ki2⟩ := info_parts info_int6
  obtain ⟨ao, cap, rfl⟩ := hv.shape
  rw [length_u8s] at hv ⊢
  obtain ⟨N, hN⟩ : ∃ N, N = bs.length := ⟨_, rfl⟩
  rw [← hN] at hv hN40 ⊢
  have HN := Lib.hid (And.intro hN hN40)
  have HV := Lib.hid (And.intro hv hb)
  have h1 : ¬ (40 : Int) < (N : Int) := by omega
  have hNz : (N : Int) ≤ 40 := by omega
  obtain ⟨q, hq⟩ : ∃ q, q = a % 12 := ⟨_, rfl⟩
  obtain ⟨L, hL⟩ : ∃ L, L = 6 + q := ⟨_, rfl⟩
  have wa : IntKind.i64.wrap (a : Int) = (a : Int) := IntWalk.i64_in _ (by omega)
  have wq : (a : Int).tmod 12 = (q : Int) := by rw [Int.tmod_eq_emod_of_nonneg (by omega), hq]; push_cast; rfl
  have wq2 : (a : Int) % 12 = (q : Int) := by rw [hq]; push_cast; rfl
  have wL : IntKind.i64.wrap (6 + (q : Int)) = (L : Int) := by rw [show 6 + (q : Int) = ((L : Nat) : Int) by omega]; exact IntWalk.i64_in _ (by omega)
  have HL := Lib.hid (show 6 ≤ L ∧ L ≤ 17 from by omega)
  clear hv hb hN hN40 hq hL
  have HS := Lib.hid ((St.of (Ext.refl w)).new (Ext.refl _) (Owns.nil w 3 1) (fun g e => by cases e))
  go_enter Try.func8, Try.ntmps8
  go_wp2_with fail
  clear h1
  go_loopw [5, 6] (fun dv iv wr => PbA bs N w dv iv wr) (fun _ iv _ => N - (intOf iv).toNat)
  case atStart => exact ⟨0, by go_num, Nat.zero_le _, by rw [List.take_zero]; exact HS.out⟩
  case round =>
    obtain ⟨i, rfl, hiN, hp⟩ := hrel
    have HP := Lib.hid hp
    have hil : ((modF bs).take i).length = i := by rw [List.length_take, modF, List.length_map, ← HN.out.1]; omega
    obtain ⟨da, dc, rfl⟩ := hp.shapeI 0 rfl (n := i) hil
    have HI := Lib.hid (show i ≤ N ∧ ((modF bs).take i).length = i from ⟨hiN, hil⟩)
    clear hp hiN hil
    by_cases hlt : i < N
    · have hltz : (i : Int) < (N : Int) := by omega
      obtain ⟨b, o, rfl, c1⟩ := view_bs (HV.out.1.ext HP.out.ext) (i := i) (by rw [← HN.out.1]; exact hlt)
      obtain ⟨x, hx⟩ : ∃ x, x = bs.getD i 0 := ⟨_, rfl⟩
      rw [← hx] at c1
      have hx256 : x < 256 := by
        rw [hx, List.getD, List.getElem?_eq_getElem (show i < bs.length by rw [← HN.out.1]; exact hlt)]
        exact HV.out.2 _ (List.getElem_mem _)
      obtain ⟨f, hf⟩ : ∃ f, f = x % 8 := ⟨_, rfl⟩
      have wf1 : (x : Int).tmod 8 = (f : Int) := by rw [Int.tmod_eq_emod_of_nonneg (by omega), hf]; push_cast; rfl
      have wf2 : (x : Int) % 8 = (f : Int) := by rw [hf]; push_cast; rfl
      have wf3 : IntKind.i64.wrap (f : Int) = (f : Int) := IntWalk.i64_in _ (by omega)
      obtain ⟨i1, hi1⟩ : ∃ i1, i1 = i + 1 := ⟨_, rfl⟩
      have wi : IntKind.i64.wrap ((i : Int) + 1) = (i1 : Int) := by rw [show (i : Int) + 1 = ((i1 : Nat) : Int) by omega]; exact IntWalk.i64_in _ (by omega)
      have HX := Lib.hid (show i1 = i + 1 ∧ i < N ∧ f = bs.getD i 0 % 8 from ⟨hi1, hlt, by rw [hf, hx]⟩)
      have hi40 : i < 40 := by omega
      clear hx hx256 hf hi1 hlt
      go_wp2_with (at_builtin; go_must (refine wpList_append_own_at _ rfl (.tmp 29) (.tmp 36) 23 rfl 0 3 i0 (.int .i64 0) 1 8 Try.underlying23 ki ki0 ki1 ki2 rfl (by decide) _ i (i64n ((modF bs).take i)) rfl ((HP.out.rowI 0 rfl HI.out.2).alloc _) ⟨wr.heap.size, 0, none⟩ 1 1 [_] rfl rfl (cell_one_new _ _ _) (by simp [Value.oneCell']) (by unfold maxLen; omega) (by omega) (Nat.zero_le _) ?_))
      intro v' w6 hown' hgrow _ hat
      have s6 := HP.out.snocI 0 rfl HI.out.2.symm hown' hgrow hat
      have HS6 := Lib.hid (show St w w6 [tO 3 v' (i64n ((modF bs).take i ++ [f]))] from s6)
      clear s6 hown' hgrow hat c1 hi40
      go_wp2_with fail
      exact ⟨⟨i1, rfl, by have := HX.out; omega, by rw [HX.out.1, modF_take (by rw [← HN.out.1]; exact HX.out.2.1), ← HX.out.2.2]; exact HS6.out⟩, by simp [intOf]; have := HX.out; omega⟩
    · have hltz : ¬ (i : Int) < (N : Int) := by omega
      obtain rfl : i = N := by have := HI.out.1; omega
      clear hlt
      obtain ⟨F, hF⟩ : ∃ F, F = modF bs := ⟨_, rfl⟩
      have hFl : F.length = i := by rw [hF, modF, List.length_map, HN.out.1]
      have h7 : ∀ s, F.getD s 0 ≤ 7 := fun s => by rw [hF, modF_get]; omega
      have hs1 := HP.out
      rw [List.take_of_length_le (by rw [modF, List.length_map, HN.out.1]; exact Nat.le_refl _), ← hF] at hs1
      have HS1 := Lib.hid (show St w wr [tO 3 (.slice da i dc) (i64n F)] from hs1)
      obtain ⟨P, hP⟩ := ord_exists F
      have hPl : P.length ≤ 40 := by
        rw [ord_len hP]
        exact Nat.le_trans (List.length_filter_le _ _) (by rw [hFl]; exact HN.out.2)
      have h64 : 64 ≤ 2 ^ L := Nat.le_trans (by decide) (Nat.pow_le_pow_right (by decide) HL.out.1)
      have HF := Lib.hid (show F.length = i ∧ (∀ s, F.getD s 0 ≤ 7) ∧ IsOrd F P ∧ P.length ≤ 2 ^ L from ⟨hFl, h7, hP, by omega⟩)
      have hlen := lim_len (.slice da i dc) F P L wr (hs1.viewL 0 rfl) (by have := HL.out; omega) HL.out.2 (by rw [hFl]; have := HN.out; omega) (fun x hx => by
        obtain ⟨j, hj, rfl⟩ := List.getElem_of_mem hx
        have := h7 j
        rw [List.getD, List.getElem?_eq_getElem hj] at this
        exact Nat.le_trans this (by decide)) hP (by omega)
      have hgood := lensP_good hP (i := L - 1) (by have := HL.out; omega) (by rw [show L - 1 + 1 = L by have := HL.out; omega]; omega) (by rw [hFl]; have := HN.out; omega)
      have hle := lensP_le F P (L - 1)
      have hll := lensP_len F P (L - 1)
      obtain ⟨ls, hls⟩ : ∃ ls, ls = lensP F P (L - 1) := ⟨_, rfl⟩
      rw [← hls] at hlen hgood hle hll
      have HLS := Lib.hid (show ls.length = i ∧ (∀ s, s < i → (0 < ls.getD s 0 ↔ 0 < F.getD s 0)) ∧ Good ls from ⟨by rw [hll, hFl], fun s hs => hgood.1 s (by rw [hFl]; exact hs), fun b hb => by have := hle b hb; have := HL.out; omega, by rw [hll, hFl]; have := HN.out; omega, hgood.2⟩)
      have HLEN := Lib.hid hlen
      clear hF hFl h7 hs1 hP hPl h64 hlen hgood hle hll hls
      go_wp2_with fail
      clear wa wq wq2 wL
      refine Calls.mono HLEN.out ?_
      rintro e w2 ⟨ov, rfl, hbo⟩
      obtain ⟨og, b1, b2, b3⟩ := hbo
      have s2 := HS1.out.new b3 (by rw [length_u8s]; exact b1) b2
      have HS2 := Lib.hid (show St w w2 [tO 3 (.slice da i dc) (i64n F), oB ov ls] from s2)
      obtain ⟨oa, oc, rfl⟩ := s2.shapeB 1 rfl (n := i) HLS.out.1
      have hvl := s2.viewL 1 rfl
      have HNEW := Lib.hid (s2.newT (.slice oa i oc) ls (s2.view 1 rfl rfl) hvl (fun b o n c e h0 => view_block hvl h0 b o n c e) (by rw [HLS.out.1]; have := HN.out; omega) ((good_iff ls).1 HLS.out.2.2))
      clear s2 hvl b1 b2 b3 HLEN
      go_wp2_with fail
      refine Calls.mono HNEW.out ?_
      rintro e w3 ⟨T, rfl, s3⟩
      have s4 := s3.msb_neww
      obtain ⟨A, hA⟩ : ∃ A, A = w3.heap.size := ⟨_, rfl⟩
      rw [← hA] at s4
      have HA := Lib.hid hA
      obtain ⟨fv, hfv⟩ : ∃ fv, fv = Value.slice da i dc := ⟨_, rfl⟩
      obtain ⟨lv, hlv⟩ : ∃ lv, lv = Value.slice oa i oc := ⟨_, rfl⟩
      have HS4 := Lib.hid (show St w _ [tO 3 fv (i64n F), oB lv ls, tT T ls, mW A (rowsD ls (symsR F 0))] from by rw [hfv, hlv]; exact s4)
      have HFV := Lib.hid (And.intro hfv hlv)
      clear hA s3 s4 HNEW hfv hlv
      go_wp2_with fail
      rw [← HA.out]
      go_loopw [12, 13] (fun nv iv wr => PbP F ls i T A fv lv w nv iv wr) (fun _ iv _ => i - (intOf iv).toNat)
      case atStart => exact ⟨0, by go_num, Nat.zero_le _, by simp [symsR, rowsD], HS4.out⟩
      case round =>
        obtain ⟨j, rfl, hj, rfl, hp⟩ := hrel
        have HPP := Lib.hid hp
        have hRl := rowsD_len HLS.out.2.2 (symsR F j)
        have hSl := symsR_len HF.out.2.1 j
        obtain ⟨R, hR⟩ : ∃ R, R = (rowsD ls (symsR F j)).length := ⟨_, rfl⟩
        rw [← hR]
        have HR := Lib.hid (show R = (rowsD ls (symsR F j)).length ∧ R ≤ 5600 ∧ j ≤ i from ⟨hR, by have := HN.out; omega, hj⟩)
        clear hp hRl hSl hR hj
        by_cases hlt : j < i
        · have hltz : (j : Int) < (i : Int) := by omega
          obtain ⟨f, hf⟩ : ∃ f, f = F.getD j 0 := ⟨_, rfl⟩
          obtain ⟨l, hl⟩ : ∃ l, l = ls.getD j 0 := ⟨_, rfl⟩
          obtain ⟨j1, hj1⟩ : ∃ j1, j1 = j + 1 := ⟨_, rfl⟩
          have wj : IntKind.i64.wrap ((j : Int) + 1) = (j1 : Int) := by rw [show (j : Int) + 1 = ((j1 : Nat) : Int) by omega]; exact IntWalk.i64_in _ (by omega)
          have hfl := HLS.out.2.1 j hlt
          have h7 := HF.out.2.1 j
          rw [← hf] at h7
          rw [← hf, ← hl] at hfl
          have hl20 : l ≤ 20 := by
            rw [hl, List.getD, List.getElem?_eq_getElem (show j < ls.length by rw [HLS.out.1]; exact hlt)]
            exact HLS.out.2.2.1 _ (List.getElem_mem _)
          have HJ := Lib.hid (show j < i ∧ f = F.getD j 0 ∧ l = ls.getD j 0 ∧ j1 = j + 1 ∧ (0 < l ↔ 0 < f) ∧ f ≤ 7 ∧ l ≤ 20 from ⟨hlt, hf, hl, hj1, hfl, h7, hl20⟩)
          have wl : IntKind.i64.wrap (l : Int) = (l : Int) := IntWalk.i64_in _ (by omega)
          have HCE := Lib.hid (show ∀ wx Ts, St w wx (tO 3 fv (i64n F) :: oB lv ls :: Ts) → (∃ b o, da = some ⟨b, o, none⟩ ∧ wx.cell? ⟨b, o + j, none⟩ = some (.int .i64 f)) ∧ ∃ b o, oa = some ⟨b, o, none⟩ ∧ wx.cell? ⟨b, o + j, none⟩ = some (.int .u8 l) from fun wx Ts h => by
            have a1 := h.viewL 0 rfl
            have a2 := h.viewL 1 rfl
            rw [HFV.out.1] at a1
            rw [HFV.out.2] at a2
            obtain ⟨b, o, e, c⟩ := view_is a1 (i := j) (by rw [HF.out.1]; exact hlt)
            obtain ⟨b2, o2, e2, c2⟩ := view_bs a2 (i := j) (by rw [HLS.out.1]; exact hlt)
            exact ⟨⟨b, o, e, by rw [hf]; exact c⟩, b2, o2, e2, by rw [hl]; exact c2⟩)
          clear hlt hf hl hj1 hfl h7 hl20
          go_wp2_with fail
          go_loopw [12, 14] (fun nv kv wr => PbQ F ls j f T A fv lv w nv kv wr) (fun _ kv _ => f - (intOf kv).toNat)
          case atStart => exact ⟨0, by go_num, Nat.zero_le _, by rw [symsK_nil, ← HR.out.1], by rw [symsK_nil]; exact HPP.out⟩
          case round =>
            obtain ⟨k, rfl, hk, rfl, hp⟩ := hrel
            have HQ := Lib.hid (And.intro hp hk)
            obtain ⟨⟨b, o, rfl, c1⟩, b2, o2, rfl, c2⟩ := HCE.out _ _ hp
            have hRl := rowsD_len HLS.out.2.2 (symsK F j k)
            have hSl := symsR_len HF.out.2.1 j
            have hKl : (symsK F j k).length = (symsR F j).length + k := by rw [symsK, List.length_append, List.length_replicate]
            obtain ⟨R2, hR2⟩ : ∃ R2, R2 = (rowsD ls (symsK F j k)).length := ⟨_, rfl⟩
            rw [← hR2]
            have hR2b : R2 ≤ 5800 := by have := HN.out; have := HJ.out; omega
            have HR2 := Lib.hid (show R2 = (rowsD ls (symsK F j k)).length ∧ R2 ≤ 5800 from ⟨hR2, hR2b⟩)
            clear hp hk hRl hSl hKl hR2 hR2b
            by_cases hkf : k < f
            · have hkfz : (k : Int) < (f : Int) := by omega
              obtain ⟨k1, hk1⟩ : ∃ k1, k1 = k + 1 := ⟨_, rfl⟩
              obtain ⟨R3, hR3⟩ : ∃ R3, R3 = R2 + l := ⟨_, rfl⟩
              have wk : IntKind.i64.wrap ((k : Int) + 1) = (k1 : Int) := by rw [show (k : Int) + 1 = ((k1 : Nat) : Int) by omega]; exact IntWalk.i64_in _ (by have := HJ.out; omega)
              have wR : IntKind.i64.wrap ((R2 : Int) + (l : Int)) = (R3 : Int) := by rw [show (R2 : Int) + (l : Int) = ((R3 : Nat) : Int) by omega]; exact IntWalk.i64_in _ (by have := HJ.out; have := HR2.out; omega)
              have HK := Lib.hid (show k1 = k + 1 ∧ R3 = R2 + l ∧ k < f from ⟨hk1, hR3, hkf⟩)
              have hbs : bitsL ls j = l := by rw [bitsL, if_pos (by have := HJ.out.1; have := HLS.out.1; omega), Int.toNat_natCast, ← HJ.out.2.2.1]
              have hl0 : 0 < l := HJ.out.2.2.2.2.1.2 (by omega)
              have hE : putErr ls j = 0 := by rw [putErr, if_pos (by omega)]
              have hZ : rowZ ls j = rowOf ls j := by rw [rowZ, if_pos (by omega), Int.toNat_natCast]
              have hPUT := HQ.out.1.msb_put 3 2 rfl rfl (by decide) HLS.out.2.2 (j : Int) (by have := HR2.out; omega)
              rw [hE, hZ] at hPUT
              have hrow : rowsD ls (symsK F j k) ++ rowOf ls j = rowsD ls (symsK F j k1) := by rw [hk1, symsK_succ, rowsD_append, rowsD_one]
              have hrl : R3 = (rowsD ls (symsK F j k1)).length := by rw [← hrow, List.length_append, length_rowOf, ← HJ.out.2.2.1, ← HR2.out.1, hR3]
              have HPUT := Lib.hid hPUT
              have HRW := Lib.hid (And.intro hrow hrl)
              clear hk1 hR3 hkf hbs hl0 hE hZ hPUT hrow hrl
              go_wp2_with fail
              refine Calls.mono HPUT.out ?_
              rintro e w5 ⟨rfl, s5⟩
              have HS5 := Lib.hid (show St w w5 [tO 3 fv (i64n F), oB lv ls, tT T ls, mW A (rowsD ls (symsK F j k1))] from by rw [← HRW.out.1]; exact s5)
              obtain ⟨⟨b', o', e1, c1'⟩, b2', o2', e2, c2'⟩ := HCE.out _ _ HS5.out
              cases e1
              cases e2
              clear s5 c1 c2 HPUT
              go_wp2_with fail
              exact ⟨⟨k1, rfl, by have := HK.out; omega, by rw [HRW.out.2], HS5.out⟩, by simp [intOf]; have := HK.out; omega⟩
            · have hkfz : ¬ (k : Int) < (f : Int) := by omega
              obtain rfl : k = f := by have := HQ.out.2; omega
              have hend : symsK F j k = symsR F j1 := by rw [HJ.out.2.2.2.1, symsR_succ, ← HJ.out.2.1]
              have HEND := Lib.hid hend
              clear hkf hend
              go_wp2_with fail
              exact ⟨⟨j1, rfl, by have := HJ.out; omega, by rw [HR2.out.1, HEND.out], by rw [← HEND.out]; exact HQ.out.1⟩, by simp [intOf]; have := HJ.out; omega⟩
        · have hltz : ¬ (j : Int) < (i : Int) := by omega
          obtain rfl : j = i := by have := HR.out; omega
          clear hlt
          obtain ⟨E, hE⟩ : ∃ E, E = symsR F j := ⟨_, rfl⟩
          have hs5 := HPP.out
          rw [← hE] at hs5
          have HE := Lib.hid (show E = symsR F j ∧ R = (rowsD ls E).length from ⟨hE, by rw [hE]; exact HR.out.1⟩)
          have HS5 := Lib.hid hs5
          have hgb := hs5.msb_bytes 3 rfl (by rw [← HE.out.2]; have := HR.out; omega)
          have HGB := Lib.hid hgb
          clear hE hs5 hgb
          go_wp2_with fail
          refine Calls.mono HGB.out ?_
          rintro e w6 ⟨bv, rfl, s6, _⟩
          have HS6 := Lib.hid (show St w w6 [tO 3 fv (i64n F), oB lv ls, tT T ls, mW A (rowsD ls E), oB bv (packs true (rowsD ls E))] from s6)
          have HNR := Lib.hid (s6.msb_newr _ _ (s6.view 4 rfl rfl) (by rw [length_packs, ← HE.out.2]; have := HR.out; omega))
          have HDM := Lib.hid (show ∀ s k, s < j → k < F.getD s 0 → IsDec (rowsL ls) (ofBits true (packs true (rowsD ls E))) (rowsD ls (symsK F s k)).length s (rowsD ls (symsK F s (k + 1))).length 0 from fun s k h1 h2 => by
            obtain ⟨t, ht⟩ := symsK_more (F := F) h1 h2
            rw [← HE.out.1] at ht
            obtain ⟨q1, q2, q3⟩ := split_at ht
            have h := dec_at HLS.out.2.2 true E [] _ s q1 ⟨by rw [HLS.out.1]; exact h1, (HLS.out.2.1 s h1).2 (by omega)⟩
            rw [q2, q3, ← symsK_succ, List.append_nil] at h
            exact h)
          have HBY := Lib.hid (show (∀ b ∈ packs true (rowsD ls E), b < 256) ∧ (packs true (rowsD ls E)).length ≤ 2 ^ 40 ∧ R ≤ 8 * (packs true (rowsD ls E)).length from ⟨packs_lt _ _, by rw [length_packs, ← HE.out.2]; have := HR.out; omega, by rw [length_packs, ← HE.out.2]; omega⟩)
          have HPRE := Lib.hid (show ∀ s k, s < j → k ≤ F.getD s 0 → (rowsD ls (symsK F s k)).length ≤ R from fun s k h1 h2 => by
            obtain ⟨t, ht⟩ := symsR_more F (s + 1) (j - (s + 1))
            rw [show s + 1 + (j - (s + 1)) = j by omega, ← HE.out.1, symsR_succ, symsK] at ht
            have e2 : List.replicate (F.getD s 0) s = List.replicate k s ++ List.replicate (F.getD s 0 - k) s := by rw [List.replicate_append_replicate, show k + (F.getD s 0 - k) = F.getD s 0 by omega]
            rw [HE.out.2, ht, e2, symsK]
            simp only [rowsD_append, List.length_append]
            omega)
          obtain ⟨by', hby⟩ : ∃ by', by' = packs true (rowsD ls E) := ⟨_, rfl⟩
          rw [← hby] at HS6 HNR HDM HBY
          clear s6 hby HGB
          go_wp2_with fail
          refine Calls.mono HNR.out ?_
          rintro e w7 ⟨X, rfl, s7⟩
          have HS7 := Lib.hid (show St w w7 [tO 3 fv (i64n F), oB lv ls, tT T ls, mW A (rowsD ls E), oB bv by', mR X by' 0] from s7)
          clear s7 HNR
          go_wp2_with fail
          go_loopw [16] (fun iv wr => PbG F ls E by' j T A X fv lv bv w iv wr) (fun iv _ => j - (intOf iv).toNat)
          case atStart => exact ⟨0, by go_num, Nat.zero_le _, by simpa [symsR, rowsD] using HS7.out⟩
          case round =>
            obtain ⟨s, rfl, hs, hp⟩ := hrel
            have HG := Lib.hid (And.intro hp hs)
            clear hp hs
            by_cases hlt : s < j
            · have hltz : (s : Int) < (j : Int) := by omega
              obtain ⟨f, hf⟩ : ∃ f, f = F.getD s 0 := ⟨_, rfl⟩
              obtain ⟨s1, hs1⟩ : ∃ s1, s1 = s + 1 := ⟨_, rfl⟩
              have wj : IntKind.i64.wrap ((s : Int) + 1) = (s1 : Int) := by rw [show (s : Int) + 1 = ((s1 : Nat) : Int) by omega]; exact IntWalk.i64_in _ (by omega)
              have h7 := HF.out.2.1 s
              rw [← hf] at h7
              have HJ := Lib.hid (show s < j ∧ f = F.getD s 0 ∧ s1 = s + 1 ∧ f ≤ 7 from ⟨hlt, hf, hs1, h7⟩)
              have HCE := Lib.hid (show ∀ wx Ts, St w wx (tO 3 fv (i64n F) :: Ts) → (∃ b o, da = some ⟨b, o, none⟩ ∧ wx.cell? ⟨b, o + s, none⟩ = some (.int .i64 f)) from fun wx Ts h => by
                have a1 := h.viewL 0 rfl
                rw [HFV.out.1] at a1
                obtain ⟨b, o, e, c⟩ := view_is a1 (i := s) (by rw [HF.out.1]; exact hlt)
                exact ⟨b, o, e, by rw [hf]; exact c⟩)
              clear hlt hf hs1 h7
              go_wp2_with fail
              go_loopw [17] (fun kv wr => PbH F ls E by' s f T A X fv lv bv w kv wr) (fun kv _ => f - (intOf kv).toNat)
              case atStart => exact ⟨0, by go_num, Nat.zero_le _, by rw [symsK_nil]; exact HG.out.1⟩
              case round =>
                obtain ⟨k, rfl, hk, hp⟩ := hrel
                obtain ⟨b, o, rfl, c1⟩ := HCE.out _ _ hp
                have HH := Lib.hid (And.intro hp hk)
                clear hp hk
                by_cases hkf : k < f
                · have hkfz : (k : Int) < (f : Int) := by omega
                  obtain ⟨k1, hk1⟩ : ∃ k1, k1 = k + 1 := ⟨_, rfl⟩
                  have wk : IntKind.i64.wrap ((k : Int) + 1) = (k1 : Int) := by rw [show (k : Int) + 1 = ((k1 : Nat) : Int) by omega]; exact IntWalk.i64_in _ (by have := HJ.out; omega)
                  have HK := Lib.hid (show k1 = k + 1 ∧ k < f from ⟨hk1, hkf⟩)
                  have hdec := HDM.out s k HJ.out.1 (by rw [← HJ.out.2.1]; exact hkf)
                  rw [← hk1] at hdec
                  have HDEC := Lib.hid hdec
                  have HGET := Lib.hid (HH.out.1.msb_get 5 2 rfl rfl (by decide) HLS.out.2.2 HBY.out.2.1 HBY.out.1 (by have := HPRE.out s k HJ.out.1 (by rw [← HJ.out.2.1]; omega); have := HBY.out.2.2; omega))
                  clear hk1 hkf hdec
                  go_wp2_with fail
                  refine Calls.mono HGET.out ?_
                  rintro e w9 ⟨s', q', er, rfl, hd, s9⟩
                  obtain ⟨rfl, rfl, rfl⟩ := dec_one (rows_pf HLS.out.2.2) hd HDEC.out
                  have HS9 := Lib.hid s9
                  clear s9 hd c1 HGET HDEC
                  go_wp2_with fail
                  exact ⟨⟨k1, rfl, by have := HK.out; omega, HS9.out⟩, by simp [intOf]; have := HK.out; omega⟩
                · have hkfz : ¬ (k : Int) < (f : Int) := by omega
                  obtain rfl : k = f := by have := HH.out.2; omega
                  have HEND := Lib.hid (show symsK F s k = symsR F s1 from by rw [HJ.out.2.2.1, symsR_succ, ← HJ.out.2.1])
                  clear hkf
                  go_wp2_with fail
                  exact ⟨⟨s1, rfl, by have := HJ.out; omega, by rw [← HEND.out]; exact HH.out.1⟩, by simp [intOf]; have := HJ.out; omega⟩
            · have hltz : ¬ (s : Int) < (j : Int) := by omega
              have HLE := Lib.hid (HG.out.1.msb_len 3 rfl)
              rw [← HE.out.2] at HLE
              have hRR : ((R : Int) == (R : Int)) = true := beq_self_eq_true _
              clear hlt
              go_wp2_with fail
              refine Calls.mono HLE.out ?_
              rintro e w10 ⟨rfl, hw⟩
              have HX := Lib.hid (show Ext w w10 from by rw [← hw]; exact HG.out.1.ext)
              clear hw HLE
              go_wp2_with fail
              refine (pre_puts _).mono ?_
              rintro e w13 ⟨rfl, x3⟩
              have HX2 := Lib.hid (HX.out.trans x3)
              clear x3
              go_wp2_with fail
              go_ret
              exact ⟨rfl, HX2.out⟩
set_option maxRecDepth 100000 in
theorem pre_law_best (v : Value) (bs : List Nat) (a : Nat) (w : World) (hv : View w v bs ∧ ViewL w v (u8s bs)) (hb : ∀ b ∈ bs, b < 256) (hbm : bs.length ≤ 140737488351232) (ha : a < 256) :
    Calls Try.prog 8 #[v, .int .u8 a] w fun e w' => e = .returned (.bool true) ∧ Ext w w' := by
  by_cases h40 : bs.length ≤ 40
  · exact pre_law_best_some v bs a w hv.2 hb h40 ha
  · obtain ⟨ao, cap, rfl⟩ := hv.2.shape
    rw [length_u8s]
    have h1 : (40 : Int) < (bs.length : Int) := by omega
    clear hv hb hbm ha h40
    go_enter Try.func8, Try.ntmps8
    go_wp2_with fail
    go_ret
    exact ⟨rfl, Ext.refl w⟩
end Go.Proofs.Ytomnhfcckalkiaa
