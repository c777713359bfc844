/- pressworklaw06.PrefixBack: its walk. -/
import Derived.Test.YtomnhfcckalkiaaPreLawPuts
namespace Go.Proofs.Ytomnhfcckalkiaa
open Go.RowKit
set_option linter.unusedVariables false

/-- the symbols that are meant, and those of them that have words. -/
def symS (n : Nat) (xs : List Int) : List Nat := xs.map fun (x : Int) => (x % (n : Int)).toNat
def didS (L : List Nat) (ms : List Nat) : List Nat := ms.filter fun s => decide (0 < L.getD s 0)
def rowsD (L : List Nat) (D : List Nat) : List Bool := D.flatMap (rowOf L)
theorem symS_get {n : Nat} {xs : List Int} {i : Nat} {x : Int} (h : xs[i]? = some x) : (symS n xs)[i]? = some (x % (n : Int)).toNat := by simp [symS, h]
theorem didS_succ (L ms : List Nat) (i s : Nat) (h : ms[i]? = some s) : didS L (ms.take (i + 1)) = didS L (ms.take i) ++ if 0 < L.getD s 0 then [s] else [] := by
  rw [List.take_add_one, h, didS, List.filter_append]
  by_cases h0 : 0 < L.getD s 0
  · rw [if_pos h0]; simp only [Option.toList_some, List.filter_cons, decide_eq_true h0, if_true, List.filter_nil]; rfl
  · rw [if_neg h0]; simp only [Option.toList_some, List.filter_cons, decide_eq_false h0, Bool.false_eq_true, if_false, List.filter_nil]; rfl
theorem didS_mem {L : List Nat} {ms : List Nat} {s : Nat} (h : s ∈ didS L ms) : s < L.length ∧ 0 < L.getD s 0 := by
  have h0 := of_decide_eq_true (List.mem_filter.1 h).2
  refine ⟨?_, h0⟩
  refine Classical.byContradiction fun hn => ?_
  rw [List.getD, List.getElem?_eq_none (by omega)] at h0
  simp at h0
theorem didS_len (L ms : List Nat) : (didS L ms).length ≤ ms.length := List.length_filter_le _ _
theorem rowsD_len {L : List Nat} (hg : Good L) (D : List Nat) : (rowsD L D).length ≤ 20 * D.length := by
  induction D with
  | nil => simp [rowsD]
  | cons x D ih =>
    have h20 : (rowOf L x).length ≤ 20 := by
      rw [length_rowOf]
      by_cases h : x < L.length
      · rw [List.getD, List.getElem?_eq_getElem h]; exact hg.1 _ (List.getElem_mem _)
      · rw [List.getD, List.getElem?_eq_none (by omega)]; simp
    simp only [rowsD, List.flatMap_cons, List.length_append, List.length_cons] at ih ⊢
    omega
theorem rowsD_append (L D E : List Nat) : rowsD L (D ++ E) = rowsD L D ++ rowsD L E := by simp [rowsD]
theorem rowsD_one (L : List Nat) (s : Nat) : rowsD L [s] = rowOf L s := by simp [rowsD]
/-- what is put stands at the head of the bits. -/
theorem put_head (hi : Bool) (R : List Bool) (be : List Nat) : ∃ t, ofBits hi (packs hi R ++ be) = R ++ t := by
  refine ⟨(ofBits hi (packs hi R)).drop R.length ++ ofBits hi be, ?_⟩
  have h := ofBits_packs hi R
  conv => rhs; rw [← List.append_assoc]
  conv => rhs; lhs; lhs; rw [← h]
  rw [List.take_append_drop]
  simp [ofBits]
theorem dec_at {L : List Nat} (hg : Good L) (hi : Bool) (D be : List Nat) (i s : Nat) (hs : D[i]? = some s) (hD : s < L.length ∧ 0 < L.getD s 0) :
    IsDec (rowsL L) (ofBits hi (packs hi (rowsD L D) ++ be)) (rowsD L (D.take i)).length s ((rowsD L (D.take (i + 1))).length) 0 := by
  obtain ⟨t, ht⟩ := put_head hi (rowsD L D) be
  have hil := getE_lt hs
  have e : D = D.take i ++ (s :: D.drop (i + 1)) := by
    have : s = D[i] := by rw [List.getElem?_eq_getElem hil] at hs; exact (Option.some.inj hs).symm
    rw [this, List.getElem_cons_drop, List.take_append_drop]
  have e2 : rowsD L D = rowsD L (D.take i) ++ (rowOf L s ++ rowsD L (D.drop (i + 1))) := by
    conv => lhs; rw [e]
    simp [rowsD]
  have h0 : rowOf L s ≠ [] := fun e => by have := length_rowOf L s; rw [e, List.length_nil] at this; have := hD.2; omega
  have e3 : (rowsD L (D.take (i + 1))).length = (rowsD L (D.take i)).length + (rowOf L s).length := by
    rw [List.take_add_one, hs, Option.toList_some, rowsD_append, rowsD_one, List.length_append]
  rw [e3]
  exact dec_put (rows_pf hg) (a := rowsD L (D.take i)) (r := rowOf L s) (b := rowsD L (D.drop (i + 1)) ++ t) (by rw [ht, ← List.append_assoc (rowOf L s), ← List.append_assoc (rowsD L (D.take i)), ← e2]) (rowsL_get L s hD.1) h0
theorem St.rowI {w0 w : World} {Ts : List Thing} {v : Value} {l : List Nat} {n : Nat} (h : St w0 w Ts) (j : Nat) (hj : Ts[j]? = some (tO 3 v (i64n l))) (hn : l.length = n) : w.ownsRow 0 3 1 v n (i64n l) := by
  subst hn
  have := h.row j hj; rwa [length_i64n] at this
theorem St.shapeI {w0 w : World} {Ts : List Thing} {v : Value} {l : List Nat} {n : Nat} (h : St w0 w Ts) (j : Nat) (hj : Ts[j]? = some (tO 3 v (i64n l))) (hn : l.length = n) : ∃ ao cap, v = .slice ao n cap := by
  subst hn
  have := h.shape j hj; rwa [length_i64n] at this
theorem St.snocI {w0 w w' : World} {Ts : List Thing} {v v' : Value} {l : List Nat} {y : Nat} {o : Obj} {n : Nat} (h : St w0 w Ts) (j : Nat) (hj : Ts[j]? = some (tO 3 v (i64n l))) (hn : n = l.length) (hown' : w'.ownsRow 0 3 1 v' (n + 1) (i64n l ++ [.int .i64 y]))
    (hgrow : (w.alloc o).grownBy w' v.ownBlock) (hat : v'.ownBlock = v.ownBlock ∨ v'.ownBlock = some (w.heap.size + 1)) : St w0 w' (Ts.set j (tO 3 v' (i64n (l ++ [y])))) := by
  rw [i64n_append]
  exact h.app1 j hj (by rw [length_i64n, hn]) hown' hgrow hat
theorem info_int : (Try.prog.info? 3).map (fun i => (i.zero, i.size, i.bytes)) = some (some (.int .i64 0), 1, 8) := by kernel_rfl
set_option maxHeartbeats 8000000 in
set_option maxRecDepth 100000 in
theorem pre_law_back_some (v : Value) (bs : List Nat) (u : Value) (xs : List Int) (z : Value) (be : List Nat) (w : World) (hv : View w v bs ∧ ViewL w v (u8s bs)) (hu : ViewL w u (kints .u16 xs)) (hx : ∀ x ∈ xs, 0 ≤ x ∧ x < 65536) (hz : ViewL w z (u8s be)) (hbe : ∀ b ∈ be, b < 256) (hbl : bs.length ≤ 60) (hxl : xs.length ≤ 200) (hzl : be.length ≤ 40) :
    Calls Try.prog 7 #[v, u, z] w fun e w' => e = .returned (.bool true) ∧ Ext w w' := by
  obtain ⟨j0, hj, hj0, hj1, hj2⟩ := info_parts info_u8
  obtain ⟨i0, ki, ki0, ki1, ki2⟩ := info_parts info_int
  have hvb := view_block hv.2
  obtain ⟨ao, cap, rfl⟩ := hv.2.shape
  obtain ⟨bo, ucap, rfl⟩ := hu.shape
  obtain ⟨zo, zcap, rfl⟩ := hz.shape
  simp only [length_u8s, length_kints] at *
  have HV := Lib.hid hv
  have HU := Lib.hid hu
  have HZ := Lib.hid hz
  have HX16 := Lib.hid hx
  have HBE := Lib.hid hbe
  have HVB := Lib.hid (show ∀ b o n c, Value.slice ao bs.length cap = .slice (some ⟨b, o, none⟩) n c → 0 < bs.length → b < w.heap.size from fun b o n c e h0 => hvb h0 b o n c e)
  clear hv hu hvb hz hx hbe
  have h1 : ¬ (60 : Int) < (bs.length : Int) := by omega
  have h2 : ¬ (200 : Int) < (xs.length : Int) := by omega
  have h3 : ¬ (40 : Int) < (be.length : Int) := by omega
  go_enter Try.func7, Try.ntmps7
  go_wp2_with fail
  refine (pre_new _ bs _ HV.out.1 HV.out.2 HVB.out (by omega)).mono ?_
  rintro e w1 (⟨he, rfl, x1⟩ | ⟨he, T, og, og2, m, rfl, t1, n1, x1⟩)
  · have heb : (errW bs != 0) = true := bne_iff_ne.2 he
    have hei : ¬ errW bs = 0 := he
    have HX := Lib.hid x1
    clear he x1
    go_wp2_with fail
    refine (pre_puts _).mono ?_
    rintro e w3 ⟨rfl, x3⟩
    have HX := Lib.hid (HX.out.trans x3)
    clear x3
    go_wp2_with fail
    go_ret
    exact ⟨rfl, HX.out⟩
  · have HG := Lib.hid ((good_iff bs).2 he)
    have s1 := (St.of (Ext.refl w)).tab t1 n1 x1
    clear t1 n1 x1
    by_cases hb0 : bs.length = 0
    · have hb0i : (bs.length : Int) = 0 := by omega
      have HX := Lib.hid s1.ext
      clear s1 he
      go_wp2_with fail
      refine (pre_puts _).mono ?_
      rintro e w3 ⟨rfl, x3⟩
      have HX := Lib.hid (HX.out.trans x3)
      clear x3
      go_wp2_with fail
      go_ret
      exact ⟨rfl, HX.out⟩
    · have hb0i : ¬ (bs.length : Int) = 0 := by omega
      have hb0b : ((bs.length : Int) == 0) = false := beq_eq_false_iff_ne.2 hb0i
      obtain ⟨vb, vo, rfl, _, _⟩ := viewL_cells HV.out.2 (by rw [length_u8s]; omega)
      have s3 := s1.lsb_neww.msb_neww.new (Ext.refl _) (Owns.nil _ 3 1) (fun g e => by cases e)
      rw [World.size_alloc] at s3
      obtain ⟨A, hA⟩ : ∃ A, A = w1.heap.size := ⟨_, rfl⟩
      have HA := Lib.hid hA
      rw [← hA] at s3
      have HS := Lib.hid (show St w _ [tT T bs, lW A [], mW (A + 1) [], tO 3 (.slice none 0 0) (i64n [])] from s3)
      clear s1 s3 hA he
      go_wp2_with fail
      rw [← HA.out]
      clear HA
      go_loopw [11, 12, 13] (fun dv nv iv wr => ∃ i : Nat, iv = .int .i64 i ∧ i ≤ xs.length ∧ nv = .int .i64 (rowsD bs (didS bs ((symS bs.length xs).take i))).length ∧ St w wr [tT T bs, lW A (rowsD bs (didS bs ((symS bs.length xs).take i))), mW (A + 1) (rowsD bs (didS bs ((symS bs.length xs).take i))), tO 3 dv (i64n (didS bs ((symS bs.length xs).take i)))]) (fun _ _ iv _ => xs.length - (intOf iv).toNat)
      case atStart => exact ⟨0, rfl, Nat.zero_le _, rfl, HS.out⟩
      case round =>
        obtain ⟨i, rfl, hi2, rfl, hp⟩ := hrel
        have hRl := rowsD_len HG.out (didS bs ((symS bs.length xs).take i))
        have hDl := didS_len bs ((symS bs.length xs).take i)
        rw [List.length_take] at hDl
        by_cases hin : i < xs.length
        · have hini : (i : Int) < (xs.length : Int) := by omega
          obtain ⟨b, o, rfl, _, hc⟩ := viewL_cells (HU.out.ext hp.ext) (by rw [length_kints]; omega)
          obtain ⟨x, hx⟩ : ∃ x, xs[i]? = some x := ⟨_, List.getElem?_eq_getElem hin⟩
          have hx16 := HX16.out x (List.mem_of_getElem? hx)
          have cX := hc i (.int .u16 x) (by simp [kints, hx])
          obtain ⟨s, hs⟩ : ∃ s : Nat, (s : Int) = x % (bs.length : Int) := ⟨(x % (bs.length : Int)).toNat, by have := Int.emod_nonneg x hb0i; omega⟩
          have hst := didS_succ bs _ i s (by rw [symS_get hx, ← hs, Int.toNat_natCast])
          have hsl : s < bs.length := by have := Int.emod_lt_of_pos x (show (0 : Int) < bs.length by omega); omega
          have k5 : x.tmod (bs.length : Int) = (s : Int) := by rw [Int.tmod_eq_emod_of_nonneg hx16.1, hs]
          generalize hR : didS bs ((symS bs.length xs).take i) = E at *
          clear hR
          have hEb : E.length ≤ 200 := by omega
          obtain ⟨R, hR⟩ : ∃ R, R = rowsD bs E := ⟨_, rfl⟩
          rw [← hR] at hp hRl
          rw [← hR]
          have HR := Lib.hid hR
          have HST := Lib.hid hst
          have HX := Lib.hid hx
          have HP := Lib.hid hp
          have HSS := Lib.hid hs
          have hsi : (s : Int) < (bs.length : Int) := by omega
          have cB := viewL_at (HV.out.2.ext hp.ext) (getElem?_u8s bs s hsl)
          clear hc hx hst hp hs hR
          obtain ⟨n, hn⟩ : ∃ n, bs.getD s 0 = n := ⟨_, rfl⟩
          have hbs : bitsL bs s = n := by rw [bitsL, if_pos (by omega), Int.toNat_natCast, hn]
          rw [hn] at cB
          rw [hn] at HST
          have hn20 : n ≤ 20 := hbs ▸ bitsL_le HG.out s
          have hrl : (rowOf bs s).length = n := by rw [length_rowOf, hn]
          by_cases hn0 : 0 < n
          · have hE : putErr bs s = 0 := by rw [putErr, if_pos (by omega)]
            have hZ : rowZ bs s = rowOf bs s := by rw [rowZ, if_pos (by omega), Int.toNat_natCast]
            rw [if_pos hn0] at HST
            have HE := Lib.hid hE
            have HZR := Lib.hid hZ
            have HRL := Lib.hid hrl
            have HCB := Lib.hid (getElem?_u8s bs s hsl)
            rw [hn] at HCB
            have hn0i : (0 : Int) < (n : Int) := by omega
            clear hE hZ hrl hbs hn
            go_wp2_with fail
            clear cX cB k5
            refine (HP.out.lsb_put 1 0 rfl rfl (by decide) HG.out s (by omega)).mono ?_
            rw [HE.out, HZR.out]
            rintro e w4 ⟨rfl, s4⟩
            have HS := Lib.hid (show St w w4 [tT T bs, lW A (R ++ rowOf bs s), mW (A + 1) R, tO 3 u11 (i64n E)] from s4)
            clear s4
            go_wp2_with fail
            refine (HS.out.msb_put 2 0 rfl rfl (by decide) HG.out s (by omega)).mono ?_
            rw [HE.out, HZR.out]
            rintro e w5 ⟨rfl, s4⟩
            have HS := Lib.hid (show St w w5 [tT T bs, lW A (R ++ rowOf bs s), mW (A + 1) (R ++ rowOf bs s), tO 3 u11 (i64n E)] from s4)
            have cB := viewL_at (HV.out.2.ext HS.out.ext) HCB.out
            clear s4
            go_wp2_with (at_builtin; go_must (refine wpList_append_own_at _ rfl (.tmp 83) (.tmp 85) 23 rfl 0 3 i0 (.int .i64 0) 1 8 Try.underlying23 ki ki0 ki1 ki2 rfl (by decide) _ E.length (i64n E) rfl ((HS.out.rowI 3 rfl rfl).alloc _) ⟨w5.heap.size, 0, none⟩ 1 1 [_] rfl rfl (cell_one_new _ _ _) (by simp [Value.oneCell']) (by unfold maxLen; omega) (by omega) (Nat.zero_le _) ?_))
            intro v' w6 hown' hgrow _ hat
            have s6 := HS.out.snocI 3 rfl rfl hown' hgrow hat
            have HS := Lib.hid (show St w w6 [tT T bs, lW A (R ++ rowOf bs s), mW (A + 1) (R ++ rowOf bs s), tO 3 v' (i64n (E ++ [s]))] from s6)
            clear s6 hown' hgrow hat cB
            have cB := viewL_at (HV.out.2.ext HS.out.ext) HCB.out
            go_wp2_with fail
            go_roundw
            case rel => exact ⟨i + 1, by go_num, by omega, by rw [HST.out, rowsD_append, rowsD_one, ← HR.out, List.length_append, HRL.out]; go_num, by rw [HST.out, rowsD_append, rowsD_one, ← HR.out]; exact HS.out⟩
            case measure => simp [intOf]; omega
          · have hE : putErr bs s = 5 := by rw [putErr, if_neg (by omega)]
            have hZ : rowZ bs s = [] := by rw [rowZ, if_neg (by omega)]
            rw [if_neg hn0, List.append_nil] at HST
            obtain rfl : n = 0 := by omega
            have HE := Lib.hid hE
            have HZR := Lib.hid hZ
            have HCB := Lib.hid (getElem?_u8s bs s hsl)
            rw [hn] at HCB
            clear hE hZ hrl hbs hn
            go_wp2_with fail
            clear cX cB k5
            refine (HP.out.lsb_put 1 0 rfl rfl (by decide) HG.out s (by omega)).mono ?_
            rw [HE.out, HZR.out, List.append_nil]
            rintro e w4 ⟨rfl, s4⟩
            have HS := Lib.hid (show St w w4 [tT T bs, lW A R, mW (A + 1) R, tO 3 u11 (i64n E)] from s4)
            clear s4
            go_wp2_with fail
            refine (HS.out.msb_put 2 0 rfl rfl (by decide) HG.out s (by omega)).mono ?_
            rw [HE.out, HZR.out, List.append_nil]
            rintro e w5 ⟨rfl, s4⟩
            have HS := Lib.hid (show St w w5 [tT T bs, lW A R, mW (A + 1) R, tO 3 u11 (i64n E)] from s4)
            have cB := viewL_at (HV.out.2.ext HS.out.ext) HCB.out
            clear s4
            go_wp2_with fail
            go_roundw
            case rel => exact ⟨i + 1, by go_num, by omega, by rw [HST.out, ← HR.out], by rw [HST.out, ← HR.out]; exact HS.out⟩
            case measure => simp [intOf]; omega
        · obtain rfl : i = xs.length := by omega
          rw [show (symS bs.length xs).take xs.length = symS bs.length xs from List.take_of_length_le (by simp [symS])] at hp hRl hDl
          rw [show (symS bs.length xs).take xs.length = symS bs.length xs from List.take_of_length_le (by simp [symS])]
          have hmem : ∀ s ∈ didS bs (symS bs.length xs), s < bs.length ∧ 0 < bs.getD s 0 := fun s h => didS_mem h
          generalize didS bs (symS bs.length xs) = E at *
          obtain ⟨R, hR⟩ : ∃ R, R = rowsD bs E := ⟨_, rfl⟩
          rw [← hR] at hp hRl
          rw [← hR]
          have HR := Lib.hid hR
          have HS := Lib.hid hp
          have HMEM := Lib.hid hmem
          have hRb : R.length ≤ 4000 := by omega
          clear hp hR hmem
          go_wp2_with fail
          refine (HS.out.lsb_bytes 1 rfl (by omega)).mono ?_
          rintro e w3 ⟨v3, rfl, s3, _⟩
          have HS := Lib.hid s3
          clear s3
          have hlp := length_packs false R
          go_wp2_with (at_builtin; go_must (refine wpList_append_view _ rfl (.tmp 94) (.tmp 95) 22 rfl 0 5 j0 (.int .u8 0) 1 Try.underlying22 hj hj0 hj1 hj2 rfl _ (packs false R).length (u8s (packs false R)) rfl (HS.out.rowB 4 rfl rfl) _ (u8s be) rfl (HZ.out.ext HS.out.ext) (u8s_one _) (by rw [length_u8s]; unfold maxLen; omega) (by rw [length_u8s]; omega) (Nat.zero_le _) ?_))
          intro v4 w4 hown' hgrow hat
          have s4 := HS.out.growB 4 rfl (length_packs false R) hown' hgrow hat
          have HS := Lib.hid (show St w w4 [tT T bs, lW A R, mW (A + 1) R, tO 3 u11 (i64n E), oB v4 (packs false R ++ be)] from s4)
          clear s4 hown' hgrow hat
          go_wp2_with fail
          refine (HS.out.lsb_newr _ _ (HS.out.view 4 rfl rfl) (by rw [List.length_append]; omega)).mono ?_
          rintro e w5 ⟨X, rfl, s5⟩
          have HS := Lib.hid (show St w w5 [tT T bs, lW A R, mW (A + 1) R, tO 3 u11 (i64n E), oB v4 (packs false R ++ be), lR X (packs false R ++ be) 0] from s5)
          clear s5
          go_wp2_with fail
          refine (HS.out.msb_bytes 2 rfl (by omega)).mono ?_
          rintro e w6 ⟨v6, rfl, s3, _⟩
          have HS := Lib.hid s3
          clear s3
          have hlp2 := length_packs true R
          go_wp2_with (at_builtin; go_must (refine wpList_append_view _ rfl (.tmp 98) (.tmp 99) 22 rfl 0 5 j0 (.int .u8 0) 1 Try.underlying22 hj hj0 hj1 hj2 rfl _ (packs true R).length (u8s (packs true R)) rfl (HS.out.rowB 6 rfl rfl) _ (u8s be) rfl (HZ.out.ext HS.out.ext) (u8s_one _) (by rw [length_u8s]; unfold maxLen; omega) (by rw [length_u8s]; omega) (Nat.zero_le _) ?_))
          intro v7 w7 hown' hgrow hat
          have s4 := HS.out.growB 6 rfl (length_packs true R) hown' hgrow hat
          have HS := Lib.hid (show St w w7 [tT T bs, lW A R, mW (A + 1) R, tO 3 u11 (i64n E), oB v4 (packs false R ++ be), lR X (packs false R ++ be) 0, oB v7 (packs true R ++ be)] from s4)
          clear s4 hown' hgrow hat
          go_wp2_with fail
          refine (HS.out.msb_newr _ _ (HS.out.view 6 rfl rfl) (by rw [List.length_append]; omega)).mono ?_
          rintro e w8 ⟨Y, rfl, s5⟩
          have HS := Lib.hid (show St w w8 [tT T bs, lW A R, mW (A + 1) R, tO 3 u11 (i64n E), oB v4 (packs false R ++ be), lR X (packs false R ++ be) 0, oB v7 (packs true R ++ be), mR Y (packs true R ++ be) 0] from s5)
          obtain ⟨ea, ecap, rfl⟩ := HS.out.shapeI 3 rfl (n := E.length) rfl
          clear s5
          have hlb : (packs false R ++ be).length ≤ 1000 := by rw [List.length_append]; omega
          have hlb2 : (packs true R ++ be).length ≤ 1000 := by rw [List.length_append]; omega
          have HB1 := Lib.hid (show ∀ b ∈ packs false R ++ be, b < 256 from fun b hb => (List.mem_append.1 hb).elim (packs_lt _ _ b) (HBE.out b))
          have HB2 := Lib.hid (show ∀ b ∈ packs true R ++ be, b < 256 from fun b hb => (List.mem_append.1 hb).elim (packs_lt _ _ b) (HBE.out b))
          have HP8 := Lib.hid (show ∀ i, (rowsD bs (E.take i)).length ≤ R.length from fun i => by
            rw [HR.out]
            have : rowsD bs E = rowsD bs (E.take i) ++ rowsD bs (E.drop i) := by rw [← rowsD_append, List.take_append_drop]
            rw [this, List.length_append]; omega)
          have HL1 := Lib.hid (show R.length ≤ 8 * (packs false R ++ be).length by rw [List.length_append]; omega)
          have HL2 := Lib.hid (show R.length ≤ 8 * (packs true R ++ be).length by rw [List.length_append]; omega)
          have HDL := Lib.hid (show ∀ i s, E[i]? = some s → IsDec (rowsL bs) (ofBits false (packs false R ++ be)) (rowsD bs (E.take i)).length s ((rowsD bs (E.take (i + 1))).length) 0 from fun i s h => by rw [HR.out]; exact dec_at HG.out false E be i s h (HMEM.out s (List.mem_of_getElem? h)))
          have HDM := Lib.hid (show ∀ i s, E[i]? = some s → IsDec (rowsL bs) (ofBits true (packs true R ++ be)) (rowsD bs (E.take i)).length s ((rowsD bs (E.take (i + 1))).length) 0 from fun i s h => by rw [HR.out]; exact dec_at HG.out true E be i s h (HMEM.out s (List.mem_of_getElem? h)))
          clear hlp hlp2
          generalize packs false R ++ be = b1 at *
          generalize packs true R ++ be = b2 at *
          go_wp2_with fail
          go_loopw [18] (fun iv wr => ∃ i : Nat, iv = .int .i64 i ∧ i ≤ E.length ∧ St w wr [tT T bs, lW A R, mW (A + 1) R, tO 3 (.slice ea E.length ecap) (i64n E), oB v4 b1, lR X b1 (rowsD bs (E.take i)).length, oB v7 b2, mR Y b2 (rowsD bs (E.take i)).length]) (fun iv _ => E.length - (intOf iv).toNat)
          case atStart => exact ⟨0, rfl, Nat.zero_le _, HS.out⟩
          case round =>
            obtain ⟨i, rfl, hi3, hp⟩ := hrel
            have HP := Lib.hid hp
            clear hp
            by_cases hie : i < E.length
            · have hiei : (i : Int) < (E.length : Int) := by omega
              obtain ⟨s, hs⟩ : ∃ s, E[i]? = some s := ⟨_, List.getElem?_eq_getElem hie⟩
              have HES := Lib.hid hs
              have HCE := Lib.hid (show (i64n E)[i]? = some (.int .i64 s) by simp [i64n, hs])
              clear hs
              go_wp2_with fail
              refine (HP.out.lsb_get 5 0 rfl rfl (by decide) HG.out (by omega) HB1.out (by have := HP8.out i; have := HL1.out; omega)).mono ?_
              rintro e w9 ⟨s', q, er, rfl, hd, s9⟩
              obtain ⟨rfl, rfl, rfl⟩ := dec_one (rows_pf HG.out) hd (HDL.out i s HES.out)
              have HS := Lib.hid s9
              clear s9 hd
              go_wp2_with fail
              refine (HS.out.msb_get 7 0 rfl rfl (by decide) HG.out (by omega) HB2.out (by have := HP8.out i; have := HL2.out; omega)).mono ?_
              rintro e w10 ⟨s', q, er, rfl, hd, s9⟩
              obtain ⟨rfl, rfl, rfl⟩ := dec_one (rows_pf HG.out) hd (HDM.out i _ HES.out)
              have HS := Lib.hid s9
              obtain ⟨eg, eo, e, _, _⟩ := viewL_cells (s9.viewL 3 rfl) (by rw [length_i64n]; omega)
              cases e
              have cE := viewL_at (s9.viewL 3 rfl) HCE.out
              clear s9 hd
              go_wp2_with fail
              go_roundw
              case rel => exact ⟨i + 1, by go_num, by omega, HS.out⟩
              case measure => simp [intOf]; omega
            · obtain rfl : i = E.length := by omega
              rw [List.take_length, ← HR.out] at HP
              go_wp2_with fail
              refine (HP.out.lsb_at 5 rfl).mono ?_
              rintro e w9 ⟨rfl, hw⟩
              have HS := Lib.hid (hw ▸ HP.out)
              clear hw
              go_wp2_with fail
              refine (HS.out.msb_at 7 rfl).mono ?_
              rintro e w10 ⟨rfl, hw⟩
              have HS := Lib.hid (hw ▸ HS.out)
              clear hw
              go_wp2_with fail
              refine (HS.out.lsb_len 1 rfl).mono ?_
              rintro e w11 ⟨rfl, hw⟩
              have HS := Lib.hid (hw ▸ HS.out)
              clear hw
              go_wp2_with fail
              refine (HS.out.msb_len 2 rfl).mono ?_
              rintro e w12 ⟨rfl, hw⟩
              have HS := Lib.hid (hw ▸ HS.out)
              clear hw
              go_wp2_with fail
              refine (pre_puts _).mono ?_
              rintro e w13 ⟨rfl, x3⟩
              have HX := Lib.hid (HS.out.ext.trans x3)
              clear x3
              go_wp2_with fail
              go_ret
              exact ⟨rfl, HX.out⟩
set_option maxRecDepth 100000 in
theorem pre_law_back (v : Value) (bs : List Nat) (u : Value) (xs : List Int) (z : Value) (be : List Nat) (w : World) (hv : View w v bs ∧ ViewL w v (u8s bs)) (hb : ∀ b ∈ bs, b < 256) (hbm : bs.length ≤ 140737488351232) (hu : ViewL w u (kints .u16 xs) ∧ xs.length ≤ 140737488351232) (hw : ∀ x ∈ xs, (Lit.int .u16 x).wf = true) (hz : View w z be ∧ ViewL w z (u8s be)) (hbe : ∀ b ∈ be, b < 256) (hzm : be.length ≤ 140737488351232) :
    Calls Try.prog 7 #[v, u, z] w fun e w' => e = .returned (.bool true) ∧ Ext w w' := by
  by_cases hs : bs.length ≤ 60 ∧ xs.length ≤ 200 ∧ be.length ≤ 40
  · exact pre_law_back_some v bs u xs z be w hv hu.1 (fun x hx => by have := hw x hx; simp [Lit.wf, IntKind.min, IntKind.max, IntKind.signed, IntKind.bits] at this; omega) hz.2 hbe hs.1 hs.2.1 hs.2.2
  · obtain ⟨ao, cap, rfl⟩ := hv.2.shape
    obtain ⟨bo, ucap, rfl⟩ := hu.1.shape
    obtain ⟨zo, zcap, rfl⟩ := hz.2.shape
    simp only [length_u8s, length_kints] at *
    clear hv hb hu hw hz hbe
    by_cases h1 : 60 < bs.length
    · have h1 : (60 : Int) < (bs.length : Int) := by omega
      go_enter Try.func7, Try.ntmps7
      go_wp2_with fail
      go_ret
      exact ⟨rfl, Ext.refl w⟩
    · have h1 : ¬ (60 : Int) < (bs.length : Int) := by omega
      by_cases h2 : 200 < xs.length
      · have h2 : (200 : Int) < (xs.length : Int) := by omega
        go_enter Try.func7, Try.ntmps7
        go_wp2_with fail
        go_ret
        exact ⟨rfl, Ext.refl w⟩
      · have h2 : ¬ (200 : Int) < (xs.length : Int) := by omega
        have h3 : (40 : Int) < (be.length : Int) := by omega
        go_enter Try.func7, Try.ntmps7
        go_wp2_with fail
        go_ret
        exact ⟨rfl, Ext.refl w⟩
end Go.Proofs.Ytomnhfcckalkiaa
