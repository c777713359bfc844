/- pressworklaw07.RepeatJoins: its walk. -/
import Derived.Test.YtclnmddlcjgfbaaRepLawBack
namespace Go.Proofs.Ytclnmddlcjgfbaa
open Go.RowKit
set_option linter.unusedVariables false

theorem strOf_size (bs : List Nat) : (strOf bs).size = bs.length := by simp [strOf, ByteArray.size]
theorem strOf_append (a b : List Nat) : strOf (a ++ b) = strOf a ++ strOf b := by
  apply ByteArray.ext
  simp [strOf]
/-- signs that are owned are appended, nil too. -/
theorem wpList_append_signs {P : Program} (w : World) {ops : Array Oper} {rest : List Oper} {o : Oper} {a : Act} {Q : Exit → Act → World → Prop} (hgd : o.guard = none) (s x : Operand) (t : TypeId)
    (ho : o.op = .call { callee := .builtin .append, args := #[s, x], argTypes := #[t, t] })
    (base : Nat) (e : TypeId) (i : TypeInfo) (z : Value) (bytes : Nat) (ht : P.underlying t = some (.slice e)) (hi : P.info? e = some i) (hz : i.zero = some z)
    (hsize : i.size = 2) (hby : i.bytes = bytes) (hzs : z.cells.size = 2)
    (v : Value) (n : Nat) (xs : List Value) (hs : a.eval s = v) (hown : w.ownsRow base e 2 v n xs)
    (xv : Value) (og : Option Nat) (l : List (Nat × Nat)) (e' : TypeId) (hx : a.eval x = xv) (hv : Owns w e' 2 xv og l.length (scells l))
    (h63 : n + l.length ≤ maxLen) (hbytes : (n + l.length) * bytes ≤ 140737488355328) (hbase : base ≤ w.heap.size)
    (h : ∀ v' w', w'.ownsRow base e 2 v' (n + l.length) (xs ++ scells l) → w.grownBy w' v.ownBlock → (v'.ownBlock = v.ownBlock ∨ v'.ownBlock = some w.heap.size) → wpList P ops Q rest (a.put o.dst v') w') :
    wpList P ops Q (o :: rest) a w := by
  rcases hv.form with ⟨_, rfl, h0, h1⟩ | ⟨g, cap, cur, rfl, rfl, _⟩
  · refine wpList_append_own_none hgd s x t ho base e i 2 ht hi v n xs hs hown hx ?_
    rw [h0, h1] at h
    exact h v w (by simpa using hown) ⟨rfl, rfl, rfl, Nat.le_refl _, fun _ _ _ => rfl⟩ (Or.inl rfl)
  · refine wpList_append_own_at w hgd s x t ho base e i z 2 bytes ht hi hz hsize hby hzs (by decide) v n xs hs hown ⟨g, 0, none⟩ l.length cap (scells l) hx (length_scells l) (hv.1.cells (g := g) rfl) ?_ h63 hbytes hbase (fun v' w' k1 k2 _ k4 => h v' w' k1 k2 k4)
    intro u hu
    obtain ⟨q, _, hq⟩ := List.mem_flatMap.1 hu
    rcases List.mem_cons.1 hq with rfl | hq
    · rfl
    · rcases List.mem_cons.1 hq with rfl | hq
      · rfl
      · cases hq
theorem RO.two {e : TypeId} {w w1 w2 : World} {l m : List (Nat × Nat)} {ov v' : Value} (h : RO e w l ov w1) (hown' : w2.ownsRow 0 e 2 v' (l.length + m.length) (scells l ++ scells m))
    (hgrow : w1.grownBy w2 ov.ownBlock) (hat : v'.ownBlock = ov.ownBlock ∨ v'.ownBlock = some w1.heap.size) : RO e w (l ++ m) v' w2 := by
  obtain ⟨og, h1, h2, h3⟩ := h
  refine ⟨v'.ownBlock, ⟨by rw [scells_append, List.length_append]; exact hown', rfl⟩, fun g e => ?_, Touch.grown h3 hgrow (fun i e => Or.inr (h2 i (by rw [← h1.2]; exact e)))⟩
  rcases hat with hat | hat
  · rw [hat, h1.2] at e; exact h2 g e
  · rw [hat] at e; cases e; exact h3.size
theorem RO.empty (w w1 : World) (o : Obj) (e : TypeId) (hx : Ext w w1) : RO e w [] (.slice (some ⟨w1.heap.size, 0, none⟩) 0 0) (w1.alloc (.cells #[] e)) :=
  ⟨some w1.heap.size, ⟨World.ownsRow_made w1 #[] 0 (Nat.zero_le _) (by decide) rfl, rfl⟩, fun g e => by cases e; exact hx.size, hx.alloc _⟩
theorem packR_len (bs : List Nat) : (packR bs).1.length ≤ bs.length := by
  rw [packR]
  split
  · rename_i h; exact len_pack _ bs (Nat.le_refl _) h
  · simp
theorem packR_no {bs : List Nat} (h : okLens bs = false) : packR bs = ([], 5) := by rw [packR, h]; rfl
theorem packR_ok {bs : List Nat} (h : okLens bs = true) : packR bs = (packL bs, 0) := by rw [packR, h]; rfl

set_option maxHeartbeats 2000000 in
set_option maxRecDepth 100000 in
theorem rep_joins_some (av bv : Value) (a b : List Nat) (w : World) (hav : View w av a) (hbv : View w bv b) (hal : ViewL w av (u8s a)) (hbl : ViewL w bv (u8s b)) (ha256 : ∀ x ∈ a, x < 256) (hb256 : ∀ x ∈ b, x < 256) (ha : a.length ≤ 500) (hb : b.length ≤ 500) :
    Calls Try.prog 7 #[av, bv] w fun e w' => e = .returned (.bool true) ∧ Ext w w' := by
  obtain ⟨i0, hi, hz0, hz1, hz2⟩ := info_parts rep_infoS
  obtain ⟨ao, acap, rfl⟩ := hav.shape
  obtain ⟨bo, bcap, rfl⟩ := hbv.shape
  have h1 : ¬ (500 : Int) < (a.length : Int) := by omega
  have h2 : ¬ (500 : Int) < (b.length : Int) := by omega
  have HAV := Lib.hid hav
  have HBV := Lib.hid hbv
  have HAL := Lib.hid hal
  have HBL := Lib.hid hbl
  have HA := Lib.hid ha256
  have HB := Lib.hid hb256
  clear hav hbv hal hbl ha256 hb256
  go_enter Try.func7, Try.ntmps7
  go_wp2_with fail
  refine (rep_pack _ a _ HAL.out HA.out (by omega)).mono ?_
  rintro e w1 ⟨s, rfl, hs⟩
  obtain ⟨sa, scap, rfl⟩ := hs.viewS.shape
  have HS := Lib.hid hs
  clear hs
  go_wp2_with fail
  refine (rep_pack _ b _ (HBL.out.ext HS.out.toExt) HB.out (by omega)).mono ?_
  rintro e w2 ⟨t, rfl, ht⟩
  obtain ⟨ta, tcap, rfl⟩ := ht.viewS.shape
  have HT := Lib.hid ht
  clear ht
  cases hoa : okLens a with
  | false =>
    have HP := Lib.hid (packR_no hoa)
    have HX2 := Lib.hid (HS.out.toExt.trans HT.out.toExt)
    rw [HP.out]
    clear hoa
    simp only
    go_wp2_with fail
    refine (rep_packs _).mono ?_
    rintro e w6 ⟨rfl, hx6⟩
    have HX6 := Lib.hid (HX2.out.trans hx6)
    clear hx6
    go_wp2_with fail
    go_ret
    exact ⟨rfl, HX6.out⟩
  | true =>
    cases hob : okLens b with
    | false =>
      have HP := Lib.hid (packR_no hob)
      have HQ := Lib.hid (packR_ok hoa)
      have HX2 := Lib.hid (HS.out.toExt.trans HT.out.toExt)
      rw [HP.out, HQ.out]
      clear hoa hob
      simp only
      go_wp2_with fail
      refine (rep_packs _).mono ?_
      rintro e w6 ⟨rfl, hx6⟩
      have HX6 := Lib.hid (HX2.out.trans hx6)
      clear hx6
      go_wp2_with fail
      go_ret
      exact ⟨rfl, HX6.out⟩
    | true =>
      have hla := len_pack _ a (Nat.le_refl _) hoa
      have hlb := len_pack _ b (Nat.le_refl _) hob
      have hj := unpR_join a b hoa hob
      have hall : (packL a ++ packL b).all okSign = true := by rw [List.all_append, ok_pack _ a (Nat.le_refl _) hoa, ok_pack _ b (Nat.le_refl _) hob]; rfl
      have hpa := packR_ok hoa
      have hpb := packR_ok hob
      rw [hpa] at HS ⊢
      rw [hpb] at HT ⊢
      simp only at HS HT ⊢
      have HJ := Lib.hid hj
      have HALL := Lib.hid hall
      have HX2 := Lib.hid (HS.out.toExt.trans HT.out.toExt)
      obtain ⟨os, hs1, _, _⟩ := HS.out
      have HS1 := Lib.hid (hs1.ext' HT.out.toExt)
      obtain ⟨ot, ht1, _, _⟩ := HT.out
      have HT1 := Lib.hid ht1
      generalize packL a = pa at *
      generalize packL b = pb at *
      clear hoa hob hj hall hpa hpb hs1 ht1
      go_wp2_with (at_builtin; go_must (refine wpList_append_signs _ rfl (.tmp 37) (.tmp 38) 23 rfl 0 31 i0 (.agg #[.int .u8 0, .int .u8 0]) 2 Try.underlying23 hi hz0 hz1 hz2 rfl (.slice (some ⟨w2.heap.size, 0, none⟩) 0 0) 0 [] rfl (World.ownsRow_made w2 #[] 0 (Nat.zero_le _) (by decide) rfl) _ os pa 31 rfl (HS1.out.ext' ((Ext.refl w2).alloc _)) (by unfold maxLen; omega) (by omega) (Nat.zero_le _) ?_))
      intro v1 w3 hown3 hgrow3 hat3
      have hr3 := RO.two (RO.empty w w2 default 31 HX2.out) (l := []) (m := pa) (by rw [show scells [] = [] from rfl, List.nil_append]; simpa using hown3) hgrow3 (by simpa using hat3)
      rw [List.nil_append] at hr3
      have HR3 := Lib.hid hr3
      have HT3 := Lib.hid (HT1.out.ext' (Touch.grown ((Ext.refl w2).alloc _) hgrow3 (fun k e => Or.inr (by cases e; exact Nat.le_refl _))))
      have HV3 := Lib.hid (Touch.grown ((Ext.refl w2).alloc (.cells #[] 31)) hgrow3 (fun k e => Or.inr (by cases e; exact Nat.le_refl _)) : Ext w2 w3)
      clear hown3 hgrow3 hat3 hr3
      go_wp2_with (at_builtin; go_must (refine wpList_append_signs _ rfl (.tmp 39) (.tmp 40) 23 rfl 0 31 i0 (.agg #[.int .u8 0, .int .u8 0]) 2 Try.underlying23 hi hz0 hz1 hz2 rfl _ pa.length (scells pa) rfl HR3.out.choose_spec.1.1 _ ot pb 31 rfl HT3.out (by unfold maxLen; omega) (by omega) (Nat.zero_le _) ?_))
      intro v2 w4 hown4 hgrow4 hat4
      have hr4 := RO.two HR3.out hown4 hgrow4 hat4
      obtain ⟨va, vcap, rfl⟩ := hr4.viewS.shape
      have hv4 := hr4.viewS
      simp only [List.length_append] at hv4
      have HV4 := Lib.hid hv4
      have HX4 := Lib.hid hr4.toExt
      clear hown4 hgrow4 hat4 hr4 hv4
      have k1 : wrap64 ((a.length : Int) + (b.length : Int)) = (a.length : Int) + (b.length : Int) := by rw [wrap64]; omega
      go_wp2_with fail
      refine (rep_unpack _ (pa ++ pb) _ _ HV4.out (ok256 HALL.out) (by rw [List.length_append]; omega) (by omega) (by omega)).mono ?_
      rw [HJ.out]
      rintro e w5 ⟨u, rfl, hu⟩
      have hx5 := HX4.out.trans hu.toExt
      have hs1 := run_string_view (P := Try.prog) 22 9 5 hu.view Try.underlying22 Try.underlying5 Try.underlying9
      have hs2 := run_string_view (P := Try.prog) 22 9 5 (HAV.out.ext hx5) Try.underlying22 Try.underlying5 Try.underlying9
      have hs3 := run_string_view (P := Try.prog) 22 9 5 (HBV.out.ext hx5) Try.underlying22 Try.underlying5 Try.underlying9
      obtain ⟨ua, ucap, rfl⟩ := hu.view.shape
      rw [List.length_append] at hs1
      have HX5 := Lib.hid hx5
      clear hu hx5
      have hsz : ¬ 9223372036854775807 < (strOf a).size + (strOf b).size := by rw [strOf_size, strOf_size]; omega
      have heq : (strOf (a ++ b)).toList = (strOf a ++ strOf b).toList := by rw [strOf_append]
      have heq2 : ((strOf (a ++ b)).toList == (strOf a ++ strOf b).toList) = true := by rw [heq]; simp
      simp only
      go_wp2_with fail
      refine (rep_packs _).mono ?_
      rintro e w6 ⟨rfl, hx6⟩
      have HX6 := Lib.hid (HX5.out.trans hx6)
      clear hx6 hs1 hs2 hs3
      go_wp2_with fail
      go_ret
      exact ⟨rfl, HX6.out⟩
theorem rep_joins_long (av bv : Value) (a b : List Nat) (w : World) (hal : ViewL w av (u8s a)) (hbl : ViewL w bv (u8s b)) (ham : a.length ≤ 2 ^ 50) (hbm : b.length ≤ 2 ^ 50) (h : 500 < a.length ∨ 500 < b.length) :
    Calls Try.prog 7 #[av, bv] w fun e w' => e = .returned (.bool true) ∧ Ext w w' := by
  obtain ⟨ao, acap, rfl⟩ := hal.shape
  obtain ⟨bo, bcap, rfl⟩ := hbl.shape
  rw [length_u8s, length_u8s]
  clear hal hbl
  by_cases h5 : 500 < a.length
  · have h1 : (500 : Int) < (a.length : Int) := by omega
    clear h
    go_enter Try.func7, Try.ntmps7
    go_wp2_with fail
    go_ret
    exact ⟨rfl, Ext.refl _⟩
  · have h1 : ¬ (500 : Int) < (a.length : Int) := by omega
    have h2 : (500 : Int) < (b.length : Int) := by omega
    clear h
    go_enter Try.func7, Try.ntmps7
    go_wp2_with fail
    go_ret
    exact ⟨rfl, Ext.refl _⟩
theorem rep_law_joins (av : Value) (a : List Nat) (bv : Value) (b : List Nat) (w : World) (ha : View w av a ∧ ViewL w av (u8s a)) (ha256 : ∀ x ∈ a, x < 256) (ham : a.length ≤ 140737488351232) (hb : View w bv b ∧ ViewL w bv (u8s b)) (hb256 : ∀ x ∈ b, x < 256) (hbm : b.length ≤ 140737488351232) :
    Calls Try.prog 7 #[av, bv] w fun e w' => e = .returned (.bool true) ∧ Ext w w' := by
  by_cases h : 500 < a.length ∨ 500 < b.length
  · exact rep_joins_long av bv a b w ha.2 hb.2 (by omega) (by omega) h
  · exact rep_joins_some av bv a b w ha.1 hb.1 ha.2 hb.2 ha256 hb256 (by omega) (by omega)
end Go.Proofs.Ytclnmddlcjgfbaa
