/- pressworklaw23.PickBack: its walk. -/
import Derived.Test.YteabjmebnbaonaaPickSame
import Derived.Test.YteabjmebnbaonaaPickBackLaw
import Derived.Test.YteabjmebnbaonaaMsbRefBits
import Derived.Test.YteabjmebnbaonaaPickRefGet
namespace Go.Proofs.Yteabjmebnbaonaa
open Go.RowKit
set_option linter.unusedVariables false

def hasL (bs : List Nat) (k : Nat) : List Bool := (List.range 256).map fun c => decide (c ∈ bs.take k)
theorem hasL_len (bs : List Nat) (k : Nat) : (hasL bs k).length = 256 := by simp [hasL]
theorem hasL_set (bs : List Nat) (k x : Nat) (hx : bs[k]? = some x) : (hasL bs k).set x true = hasL bs (k + 1) := by
  have hk := (List.getElem?_eq_some_iff.1 hx).1
  have ht : bs.take (k + 1) = bs.take k ++ [x] := by rw [List.take_add_one, hx]; rfl
  apply List.ext_getElem
  · simp [hasL]
  · intro i h1 h2
    rw [List.getElem_set]
    simp only [hasL, List.getElem_map, List.getElem_range, ht, List.mem_append, List.mem_singleton]
    by_cases e : x = i
    · simp [e]
    · rw [if_neg e]
      have : ¬ i = x := fun h => e h.symm
      simp [this]
theorem hasL_all (bs : List Nat) (c : Nat) (hc : c < 256) : (hasL bs bs.length)[c]? = some (decide (c ∈ bs)) := by
  simp [hasL, hc]
theorem view_take {w : World} {g n cap m : Nat} {P : List Nat} (h : View w (.slice (some ⟨g, 0, none⟩) n cap) P) (hm : m ≤ P.length) : View w (.slice (some ⟨g, 0, none⟩) m cap) (P.take m) := by
  rcases h with ⟨h, _⟩ | ⟨a, cap', e, hc⟩
  · cases h
  · cases e
    refine Or.inr ⟨_, cap, by rw [List.length_take]; congr 1; omega, fun j u hu => hc j u ?_⟩
    simp only [u8s, List.map_take] at hu ⊢
    rw [List.getElem?_take] at hu
    split at hu
    · exact hu
    · cases hu
theorem pick_put_empty (B : Nat) (og : Option Nat) (l : List Bool) (ao : Option Addr) {cap : Nat} (w : World) (hw : IsW 30 true w B og l) (hl : l.length ≤ 2 ^ 20) :
    Calls Try.prog 17 #[.pointer (some ⟨B, 0, none⟩), .slice ao 0 cap] w fun e w' => e = .returned (.int .i64 5) ∧ Ext w w' := by
  refine (callsIn_wide (n := 9)).1 ?_
  refine callsIn_of_wp_marks Try.func17 rfl trivial ?_ rfl
  simp only [Try.ntmps17, List.size_toArray, List.length_cons, List.length_nil, Nat.reduceAdd, Nat.reduceSub, Array.replicate_succ, Array.replicate_zero, List.push_toArray, List.append_toArray, List.nil_append, List.cons_append]
  gi_wp2_with fail
  repeat (refine ⟨trivial, ?_⟩; gi_wp2_with fail)
  exact ⟨_, results_tmp rfl _ _ _, rfl, (Ext.refl w).alloc _⟩
theorem div_facts (x c : Nat) (hx : x < 256) (hc : c < 256) : wrap64 (x : Int) = (x : Int) ∧ ∃ q r : Nat, q = x / 16 ∧ r = c / 16 ∧ (x : Int) / 16 = (q : Int) ∧ (c : Int) / 16 = (r : Int) ∧ IntKind.i64.wrap (q : Int) = (q : Int) ∧ IntKind.i64.wrap (r : Int) = (r : Int) :=
  ⟨by rw [wrap64]; omega, x / 16, c / 16, rfl, rfl, by omega, by omega, IntWalk.i64_in _ (by omega), IntWalk.i64_in _ (by omega)⟩
theorem len_facts (U : List Nat) (h : 0 < U.length) (h2 : U.length ≤ 256) : ¬ (U.length : Int) = 0 ∧ ((U.length : Int) == 0) = false ∧ (1 : Int) ≤ (U.length : Int) ∧ ((U.length : Int) - 1).toNat = U.length - 1 ∧ IntKind.i64.wrap ((U.length : Int) - 1) = (U.length : Int) - 1 ∧ (0 : Int) ≤ (U.length : Int) - 1 ∧ (U.length : Int) - 1 < (U.length : Int) :=
  ⟨by omega, by rw [beq_eq_false_iff_ne]; omega, by omega, by omega, IntWalk.i64_in _ (by omega), by omega, by omega⟩
set_option maxHeartbeats 4000000 in
set_option maxRecDepth 100000 in
theorem pick_back_some (v0 v1 : Value) (bs be : List Nat) (w : World) (hv : View w v0 bs ∧ ViewL w v0 (u8s bs)) (hb : ∀ b ∈ bs, b < 256) (hbl : bs.length ≤ 2000) (hv1 : View w v1 be ∧ ViewL w v1 (u8s be)) (hb1 : ∀ b ∈ be, b < 256) (hbl1 : be.length ≤ 40) :
    Calls Try.prog 7 #[v0, v1] w fun e w' => e = .returned (.bool true) ∧ Ext w w' := by
  obtain ⟨i0, hi, hz0, hz1, hz2⟩ := info_parts msb_infoB
  obtain ⟨j0, hj, hj0, hj1, hj2⟩ := info_parts info_u8
  obtain ⟨ao, cap, rfl⟩ := hv.2.shape
  obtain ⟨ae, cape, rfl⟩ := hv1.2.shape
  rw [length_u8s] at hv
  rw [length_u8s] at hv1
  rw [length_u8s, length_u8s]
  have HV := Lib.hid hv
  have HB := Lib.hid hb
  have HV1 := Lib.hid hv1
  have HB1 := Lib.hid hb1
  clear hv hb hv1 hb1
  have h1 : decide ((2000 : Int) < (bs.length : Int)) = false := decide_eq_false (by omega)
  have h2 : decide ((40 : Int) < (be.length : Int)) = false := decide_eq_false (by omega)
  have h3 : ¬ (2000 : Int) < (bs.length : Int) := by omega
  have h4 : ¬ (40 : Int) < (be.length : Int) := by omega
  go_enter Try.func7, Try.ntmps7
  go_wp2_with (at_make; go_must (refine wpList_make_full _ rfl (.const (.int .i64 256)) (.const (.int .i64 256)) 37 rfl w.heap.size 4 i0 (.bool false) 1 Try.underlying37 hi hz0 hz1 .i64 .i64 256 256 256 rfl rfl rfl rfl (by rw [hz2]; omega) (by unfold maxLen; omega) (Nat.le_refl _) ?_))
  intro w1 hown1 hgrow1
  have ho1 : Owns w1 4 1 (.slice (some ⟨w.heap.size, 0, none⟩) 256 256) (some w.heap.size) 256 (bls (hasL bs 0)) := by
    refine ⟨?_, rfl⟩
    have e : (madeCells #[Value.bool false] 256).toList = bls (hasL bs 0) := by rw [made_one]; simp [bls, hasL]; rfl
    rw [← e]; exact ownsRow_zero hown1
  have x1 : Ext w w1 := (Touch.refl _ w).grown hgrow1 (fun k e => by cases e)
  have HO1 := Lib.hid ho1
  have HX1 := Lib.hid x1
  clear hown1 hgrow1 ho1 x1
  go_wp2_with fail
  go_loopw [6] (fun iv wr => ∃ k : Nat, iv = .int .i64 k ∧ k ≤ bs.length ∧ Owns wr 4 1 (.slice (some ⟨w.heap.size, 0, none⟩) 256 256) (some w.heap.size) 256 (bls (hasL bs k)) ∧ Ext w wr) (fun iv _ => bs.length - (intOf iv).toNat)
  case atStart => exact ⟨0, rfl, Nat.zero_le _, HO1.out, HX1.out⟩
  case round =>
    obtain ⟨k, rfl, hk, ho, hx⟩ := hrel
    have HO := Lib.hid ho
    have HX := Lib.hid hx
    clear ho hx
    by_cases hlt : k < bs.length
    · have hlti : (k : Int) < (bs.length : Int) := by omega
      obtain ⟨b, off, rfl, _, hc⟩ := viewL_cells (HV.out.2.ext HX.out) (by rw [length_u8s]; omega)
      obtain ⟨x, hx⟩ : ∃ x, bs[k]? = some x := ⟨_, List.getElem?_eq_getElem hlt⟩
      have c1 := hc k (.int .u8 x) (by simp [u8s, hx])
      have hx256 := HB.out x (List.mem_of_getElem? hx)
      have hxi : (x : Int) < 256 := by omega
      have hxt : (x : Int).toNat = x := by omega
      have hrl := hasL_len bs k
      have hck := HO.out.cell x (.bool ((hasL bs k)[x]'(by omega))) (by simp [bls, hrl, hx256])
      have hfr := HO.out.free x
      have hset := HO.out.set x (.bool true) hx256
      have hse : (bls (hasL bs k)).set x (.bool true) = bls (hasL bs (k + 1)) := by rw [← hasL_set bs k x hx]; simp [bls, List.map_set]
      rw [hse] at hset
      have HST := Lib.hid hset
      clear hset hse hc hx
      go_wp2_with fail
      clear hck hfr hxi hxt hrl c1
      go_wp2_with fail
      go_roundw
      case rel => exact ⟨k + 1, by go_num, by omega, HST.out.keep (S := fun _ => False) ⟨rfl, rfl, rfl, Nat.le_refl _, fun _ _ _ => rfl⟩ (fun _ _ f => f), (HX.out.mono (T := fun _ => False) (fun _ _ f => f)).setCell (Or.inr (Nat.le_refl _)) _⟩
      case measure => simp [intOf]; omega
    · obtain rfl : k = bs.length := by omega
      obtain ⟨W2, hW2⟩ : ∃ W2, W2 = wr := ⟨_, rfl⟩
      rw [← hW2] at HO HX ⊢
      clear hW2
      go_wp2_with fail
      go_loopw [7, 8, 9] (fun uv gv cv wi => ∃ c : Nat, cv = .int .i64 c ∧ c ≤ 256 ∧ gv = .int .i64 (grpC bs c) ∧ BO W2 (useL bs c) uv wi) (fun _ _ cv _ => 256 - (intOf cv).toNat)
      case atStart => exact ⟨0, rfl, Nat.zero_le _, rfl, none, Owns.nil _ _ _, fun g e => (by cases e), Ext.refl _⟩
      case round =>
        obtain ⟨c, rfl, hc, rfl, hbo⟩ := hrel
        have hgl := grpC_le bs c
        by_cases hc256 : c < 256
        · have hci : (c : Int) < 256 := by omega
          have k2 : (c : Int).toNat = c := by omega
          have k3 : (0 : Int) ≤ (c : Int) := by omega
          have hcell := (HO.out.ext' hbo.toExt).cell c (.bool (decide (c ∈ bs))) (by simp [bls, hasL_all bs c hc256])
          have hus := useL_succ bs c
          have hgs : grpC bs (c + 1) = grpC bs c + if c ∈ bs ∧ lastG bs c ≠ some (c / 16) then 1 else 0 := rfl
          have hul := useL_len bs c
          have hlg : lastG bs c = (useL bs c).getLast?.map (· / 16) := rfl
          have hub : ∀ b ∈ useL bs c, b < c := fun b hb => ((useL_mem bs c b).1 hb).1
          generalize useL bs c = U at *
          obtain ⟨au, capu, rfl⟩ := hbo.viewL.shape
          rw [length_u8s] at *
          have HBO := Lib.hid hbo
          have HUS := Lib.hid hus
          have HGS := Lib.hid hgs
          clear hbo hus hgs
          by_cases hin : c ∈ bs
          · rw [show decide (c ∈ bs) = true by simpa using hin] at hcell
            have k4 : IntKind.u8.wrap (c : Int) = (c : Int) := IntWalk.u8_in _ (by omega)
            rw [if_pos hin] at HUS
            have HIN := Lib.hid hin
            clear hin
            by_cases hU : U = []
            · have hU0 : (U.length : Int) = 0 := by rw [hU]; rfl
              have HN := Lib.hid (show grpC bs (c + 1) = grpC bs c + 1 by rw [HGS.out, if_pos ⟨HIN.out, by rw [hlg, hU]; simp⟩])
              clear hlg hub
              subst hU
              go_wp2_with (at_builtin; go_must (refine wpList_append_own_at _ rfl (.tmp 64) (.tmp 67) 22 rfl 0 5 j0 (.int .u8 0) 1 1 Try.underlying22 hj hj0 hj1 hj2 rfl (by decide) _ ([] : List Nat).length (u8s ([] : List Nat)) rfl (HBO.out.choose_spec.1.1.alloc _) ⟨wr.heap.size, 0, none⟩ 1 1 [.int .u8 c] rfl rfl (cell_one_new _ _ _) (by simp [Value.oneCell']) (by unfold maxLen; simp) (by simp) (Nat.zero_le _) ?_))
              intro v' w3 hown' hgrow _ hat
              have hf := bo_snoc HBO.out hown' hgrow hat
              rw [← HUS.out] at hf
              have HF := Lib.hid hf
              clear hf hown' hgrow hat k2 k3 k4
              go_wp2_with fail
              go_roundw
              case rel => exact ⟨c + 1, by go_num, by omega, by rw [HN.out]; go_num, HF.out⟩
              case measure => simp [intOf]; omega
            · obtain ⟨x, hx⟩ : ∃ x, U.getLast? = some x := by
                cases h : U.getLast? with
                | none => exact absurd (List.getLast?_eq_none_iff.1 h) hU
                | some x => exact ⟨x, rfl⟩
              have hx2 : U[U.length - 1]? = some x := by rw [← List.getLast?_eq_getElem?]; exact hx
              have hU1 : 0 < U.length := List.length_pos_iff.2 hU
              obtain ⟨b, off, rfl, _, hcu⟩ := viewL_cells HBO.out.viewL (by rw [length_u8s]; omega)
              have c1 := hcu (U.length - 1) (.int .u8 x) (by simp [u8s, hx2])
              have hxb := hub x (List.mem_of_getLast? hx)
              rw [hx] at hlg
              obtain ⟨-, q, r, hq, hr, k7, k8, k9, k10⟩ := div_facts x c (by omega) hc256
              obtain ⟨hU2, hU3, hU4, hU5, hU6, hU7, hU8⟩ := len_facts U hU1 (by omega)
              have HQ := Lib.hid hq
              have HR := Lib.hid hr
              have HLG := Lib.hid hlg
              clear hcu hx hx2 hub hlg hq hr hU
              by_cases hqr : q = r
              · have hqb : ((q : Int) != (r : Int)) = false := by rw [hqr]; simp
                have hqi : (q : Int) = (r : Int) := by rw [hqr]
                have HN := Lib.hid (show grpC bs (c + 1) = grpC bs c by rw [HGS.out, if_neg (fun h => h.2 (by rw [HLG.out, ← HR.out, ← hqr, HQ.out]; rfl))]; rfl)
                clear hqr
                go_wp2_with (at_builtin; go_must (refine wpList_append_own_at _ rfl (.tmp 64) (.tmp 67) 22 rfl 0 5 j0 (.int .u8 0) 1 1 Try.underlying22 hj hj0 hj1 hj2 rfl (by decide) _ U.length (u8s U) rfl (HBO.out.choose_spec.1.1.alloc _) ⟨wr.heap.size, 0, none⟩ 1 1 [.int .u8 c] rfl rfl (cell_one_new _ _ _) (by simp [Value.oneCell']) (by unfold maxLen; omega) (by omega) (Nat.zero_le _) ?_))
                intro v' w3 hown' hgrow _ hat
                have hf := bo_snoc HBO.out hown' hgrow hat
                rw [← HUS.out] at hf
                have HF := Lib.hid hf
                clear hf hown' hgrow hat k2 k3 k4 k7 k8 k9 k10 c1 hU2 hU3 hU4 hU5 hU6 hU7 hU8 hqb hqi
                go_wp2_with fail
                go_roundw
                case rel => exact ⟨c + 1, by go_num, by omega, by rw [HN.out], HF.out⟩
                case measure => simp [intOf]; omega
              · have hqb : ((q : Int) != (r : Int)) = true := by rw [bne_iff_ne]; exact fun h => hqr (Int.ofNat.inj h)
                have hqi : ¬ (q : Int) = (r : Int) := fun h => hqr (Int.ofNat.inj h)
                have HN := Lib.hid (show grpC bs (c + 1) = grpC bs c + 1 by rw [HGS.out, if_pos ⟨HIN.out, by rw [HLG.out]; simp only [Option.map_some, ne_eq, Option.some.injEq]; rw [← HQ.out, ← HR.out]; exact hqr⟩])
                clear hqr
                go_wp2_with (at_builtin; go_must (refine wpList_append_own_at _ rfl (.tmp 64) (.tmp 67) 22 rfl 0 5 j0 (.int .u8 0) 1 1 Try.underlying22 hj hj0 hj1 hj2 rfl (by decide) _ U.length (u8s U) rfl (HBO.out.choose_spec.1.1.alloc _) ⟨wr.heap.size, 0, none⟩ 1 1 [.int .u8 c] rfl rfl (cell_one_new _ _ _) (by simp [Value.oneCell']) (by unfold maxLen; omega) (by omega) (Nat.zero_le _) ?_))
                intro v' w3 hown' hgrow _ hat
                have hf := bo_snoc HBO.out hown' hgrow hat
                rw [← HUS.out] at hf
                have HF := Lib.hid hf
                clear hf hown' hgrow hat k2 k3 k4 k7 k8 k9 k10 c1 hU2 hU3 hU4 hU5 hU6 hU7 hU8 hqb hqi
                go_wp2_with fail
                go_roundw
                case rel => exact ⟨c + 1, by go_num, by omega, by rw [HN.out]; go_num, HF.out⟩
                case measure => simp [intOf]; omega
          · rw [show decide (c ∈ bs) = false by simpa using hin] at hcell
            have hn : grpC bs (c + 1) = grpC bs c := by rw [HGS.out, if_neg (fun h => hin h.1)]; rfl
            have HN := Lib.hid hn
            rw [if_neg hin, List.append_nil] at HUS
            clear hn hin
            go_wp2_with fail
            clear hcell k2 k3
            go_wp2_with fail
            go_roundw
            case rel => exact ⟨c + 1, by go_num, by omega, by rw [HN.out], by rw [HUS.out]; exact HBO.out⟩
            case measure => simp [intOf]; omega
        · obtain rfl : c = 256 := by omega
          have hL := put_groups bs
          have hGle := grpC_le bs 256
          have hUl := useL_len bs 256
          have hUp := useL_pair bs 256
          have hUb : ∀ b ∈ useL bs 256, b < 256 := fun b hb => ((useL_mem bs 256 b).1 hb).1
          generalize grpC bs 256 = G at *
          generalize useL bs 256 = U at *
          obtain ⟨au, capu, rfl⟩ := hbo.viewL.shape
          rw [length_u8s] at *
          have HXW := Lib.hid (HX.out.trans hbo.toExt)
          have HVU := Lib.hid hbo.view
          have HVU2 := Lib.hid hbo.viewL
          clear hbo HO hgl
          have x23 : Ext wr (wr.alloc (.cells #[.slice none 0 0, .int .i64 0] 30)) := (Ext.refl wr).alloc _
          have X23 := Lib.hid x23
          by_cases hU : U = []
          · subst hU
            have hnr : ¬ RisesP [] := fun h => Nat.lt_irrefl _ h.1
            clear hL hGle hUl hUp hUb
            have HAU := Lib.hid (show ∀ b o n c, Value.slice au ([] : List Nat).length capu = .slice (some ⟨b, o, none⟩) n c → True from fun _ _ _ _ _ => trivial)
            go_wp2_with fail
            refine (pick_put_empty wr.heap.size none [] _ _ (pick_zero wr) (by decide)).mono ?_
            rintro e w3 ⟨rfl, x3⟩
            have HX3 := Lib.hid ((HXW.out.trans X23.out).trans x3)
            have HA3 := Lib.hid ((pick_zero wr).ext x3)
            clear x3 x23
            go_wp2_with fail
            refine (msb_len wr.heap.size none [] _ HA3.out).mono ?_
            rintro e w4 ⟨rfl, rfl⟩
            go_wp2_with fail
            refine (pick_picks _).mono ?_
            rintro e w5 ⟨rfl, x5⟩
            have HX5 := Lib.hid (HX3.out.trans x5)
            clear x5
            go_wp2_with fail
            go_ret
            exact ⟨rfl, HX5.out⟩
          · have hri := (rises_pair U).2 ⟨hU, hUp⟩
            have hU1 : 0 < U.length := List.length_pos_iff.2 hU
            have hU0 : ¬ (U.length : Int) = 0 := by omega
            have hgo := view_block HVU2.out hU1
            obtain ⟨P, hP⟩ : ∃ P, P = packs true (putOf U) := ⟨_, rfl⟩
            have hPl : P.length = 2 + 2 * G := by rw [hP, length_packs, hL]; omega
            have hPb : ∀ b ∈ P, b < 256 := by rw [hP]; exact packs_lt true _
            have g1 : pickGet (rbit true (P ++ be)) (8 * (P ++ be).length) 0 = (U, (putOf U).length, 0) := by
              have := get_put U hUp hU hUb (rbit true (P ++ be)) (8 * (P ++ be).length) 0 (by rw [List.length_append, hPl, hL]; omega) (fun i hi => by rw [Nat.zero_add, hP]; exact rbit_app _ _ i hi)
              rwa [Nat.zero_add] at this
            obtain ⟨m, hm⟩ : ∃ m, m = 2 * G + 1 := ⟨_, rfl⟩
            have htl : (P.take m).length = m := by rw [List.length_take, hPl]; omega
            have g2 : (pickGet (rbit true (P.take m)) (8 * (P.take m).length) 0).2.2 = 2 := by
              rw [htl]
              exact get_cut U hUp hU hUb (rbit true (P.take m)) (8 * m) (by rw [hL]; omega) (fun i hi => by rw [hP]; exact rbit_take _ m i hi)
            have HP := Lib.hid hP
            have HPB := Lib.hid hPb
            have HG1 := Lib.hid g1
            have HG2 := Lib.hid g2
            have HTL := Lib.hid htl
            have HPL := Lib.hid hPl
            have HLL := Lib.hid hL
            have HM := Lib.hid hm
            clear hUp hUb hP hPb g1 g2 htl hU hPl hm hL
            go_wp2_with fail
            refine (pick_put_ok wr.heap.size none [] _ U _ (pick_zero wr) (HVU2.out.ext x23) (fun b off n c e h => by have := hgo b off n c e; rcases h with h | h; omega; cases h) (by decide) (by omega) hri).mono ?_
            rintro e w3 ⟨rfl, og3, a3, n3, t3⟩
            rw [List.nil_append] at a3
            have x3 : Ext wr w3 := x23.touch t3 (fun i hi h => fp_new wr none (Near.refl _ _) i hi h)
            have HX3 := Lib.hid (HXW.out.trans x3)
            have HV3 := Lib.hid (HVU.out.ext x3)
            have HA3 := Lib.hid a3
            clear t3 n3 x3 a3 hgo x23
            go_wp2_with fail
            refine (msb_bytes wr.heap.size og3 _ _ HA3.out (by rw [HLL.out]; omega)).mono ?_
            rw [← HP.out]
            rintro e w4 ⟨v4, og4, rfl, o4, g4, x4⟩
            obtain ⟨a4, cap4, rfl⟩ := o4.shape
            have HX4 := Lib.hid (HX3.out.trans x4)
            have HV4 := Lib.hid (HV3.out.ext x4)
            have HA4 := Lib.hid (HA3.out.ext x4)
            have hP0 : ¬ (P.length : Int) = 0 := by have := HPL.out; omega
            clear o4 g4 x4
            go_wp2_with fail
            refine (msb_bytes wr.heap.size og3 _ _ HA4.out (by rw [HLL.out]; omega)).mono ?_
            rw [← HP.out]
            rintro e w5 ⟨v5, og5, rfl, o5, g5, x5⟩
            obtain ⟨a5, cap5, rfl⟩ := o5.shape
            have HX5 := Lib.hid (HX4.out.trans x5)
            have HV5 := Lib.hid (HV4.out.ext x5)
            have HA5 := Lib.hid (HA4.out.ext x5)
            have H45 := Lib.hid (show Ext w4 w5 from x5)
            have hPle : P.length ≤ 600 := by have := HPL.out; omega
            clear x5
            go_wp2_with (at_builtin; go_must (refine wpList_append_view _ rfl (.tmp 86) (.tmp 87) 22 rfl 0 5 j0 (.int .u8 0) 1 Try.underlying22 hj hj0 hj1 hj2 rfl (.slice a5 P.length cap5) P.length (u8s P) rfl o5.1 _ (u8s be) rfl (HV1.out.2.ext HX5.out) (u8s_one be) (by rw [length_u8s]; unfold maxLen; omega) (by rw [length_u8s]; omega) (Nat.zero_le _) ?_))
            intro v6 w6 hown6 hgrow6 hat6
            have ho6 : Owns w6 5 1 v6 v6.ownBlock (P ++ be).length (u8s (P ++ be)) := ⟨by rw [length_u8s] at hown6; rw [u8s_append, List.length_append]; exact hown6, rfl⟩
            have t6 : Touch (fun k => og5 = some k) w5 w6 := Touch.grown (Touch.refl _ _) hgrow6 (fun k e => Or.inl (by rw [← o5.2]; exact e))
            have x46 : Ext w4 w6 := H45.out.touch t6 (fun i hi e => by have := g5 i e; omega)
            have HX6 := Lib.hid (HX4.out.trans x46)
            have HV6 := Lib.hid (HV4.out.ext x46)
            have HA6 := Lib.hid (HA4.out.ext x46)
            have HVC := Lib.hid ho6.view
            have hcl : (P ++ be).length ≤ 700 := by rw [List.length_append]; omega
            obtain ⟨C, hC⟩ : ∃ C, C = P ++ be := ⟨_, rfl⟩
            rw [← hC] at HVC HG1 hcl
            have hCb : ∀ b ∈ C, b < 256 := by
              rw [hC]; intro b hb
              rcases List.mem_append.1 hb with h | h
              · exact HPB.out b h
              · exact HB1.out b h
            have HCB := Lib.hid hCb
            clear hown6 hgrow6 hat6 ho6 t6 x46 o5 g5 hC hCb
            go_wp2_with fail
            refine (msb_new _ C _ HVC.out (by omega)).mono ?_
            rintro e w7 ⟨B7, og7, rfl, r7, hB7, hg7, x7⟩
            have HX7' := Lib.hid (show Ext w6 w7 from x7)
            have HR7 := Lib.hid r7
            clear x7 r7 hg7
            go_wp2_with fail
            refine (pick_get B7 og7 C 0 _ HR7.out (by omega) HCB.out (by omega)).mono ?_
            rw [HG1.out]
            rintro e w8 ⟨v8, rfl, pg8⟩
            have HR8 := Lib.hid pg8.choose_spec.2.2.1
            obtain ⟨x8, vw8, _, a8, cap8, hvv⟩ := newget hB7 HX7'.out pg8
            have HX8 := Lib.hid (HX6.out.trans x8)
            have HV8 := Lib.hid (HV6.out.ext x8)
            have HA8 := Lib.hid (HA6.out.ext x8)
            have HC8 := Lib.hid vw8
            clear x8 vw8 pg8 hvv hB7
            go_wp2_with fail
            refine (msb_bytes wr.heap.size og3 _ _ HA8.out (by rw [HLL.out]; omega)).mono ?_
            rw [← HP.out]
            rintro e w9 ⟨v9, og9, rfl, o9, g9, x9⟩
            obtain ⟨gg9, cap9, rfl, rfl⟩ := o9.some (by have := HPL.out; omega)
            have hcap9 : P.length ≤ cap9 := by
              rcases o9.form with ⟨h, _⟩ | ⟨g', cap', cur, h1, h2, h3, h4, h5, h6, h7⟩
              · cases h
              · cases h2; exact h4
            have HV9 := Lib.hid (show View w9 _ P from o9.view)
            have HX9 := Lib.hid (HX8.out.trans x9)
            have HA9 := Lib.hid (HA8.out.ext x9)
            have HU9 := Lib.hid (HV8.out.ext x9)
            have HC9 := Lib.hid (HC8.out.ext x9)
            have HR9 := Lib.hid (HR8.out.ext x9)
            clear o9 g9 x9
            go_wp2_with fail
            refine (msb_bytes wr.heap.size og3 _ _ HA9.out (by rw [HLL.out]; omega)).mono ?_
            rw [← HP.out]
            rintro e w10 ⟨v10, og10, rfl, o10, g10, x10⟩
            obtain ⟨a10, cap10, rfl⟩ := o10.shape
            have HV10 := Lib.hid (HV9.out.ext x10)
            have HX10 := Lib.hid (HX9.out.trans x10)
            have HA10 := Lib.hid (HA9.out.ext x10)
            have HU10 := Lib.hid (HU9.out.ext x10)
            have HC10 := Lib.hid (HC9.out.ext x10)
            have HR10 := Lib.hid (HR9.out.ext x10)
            have hPm : (P.length : Int) - 1 = (m : Int) := by have := HPL.out; have := HM.out; omega
            have hm1 : IntKind.i64.wrap (m : Int) = (m : Int) := by have := HM.out; exact IntWalk.i64_in _ (by omega)
            have hm2 : m ≤ cap9 := by have := HPL.out; have := HM.out; omega
            have hm3 : (m : Int) ≤ (cap9 : Int) := by omega
            have hm4 : (m : Int).toNat = m := by omega
            have hm5 : (0 : Int) ≤ (m : Int) := by omega
            clear o10 g10 x10
            go_wp2_with fail
            refine (msb_new _ (P.take m) _ (view_take HV10.out (by have := HPL.out; have := HM.out; omega)) (by rw [HTL.out]; omega)).mono ?_
            rintro e w11 ⟨B11, og11, rfl, r11, hB11, hg11, x11⟩
            have HX11' := Lib.hid (show Ext w10 w11 from x11)
            have HR11 := Lib.hid r11
            clear x11 r11 hg11 hPm hm1 hm2 hm3 hm4 hm5
            go_wp2_with fail
            refine (pick_get B11 og11 (P.take m) 0 _ HR11.out (by rw [HTL.out]; have := HPL.out; have := HM.out; omega) (fun b hb => HPB.out b (List.mem_of_mem_take hb)) (by omega)).mono ?_
            rw [HG2.out]
            generalize (pickGet (rbit true (P.take m)) (8 * (P.take m).length) 0) = RR
            obtain ⟨ro, rp, re⟩ := RR
            rintro e w12 ⟨v12, rfl, pg12⟩
            obtain ⟨x12, _, _, a12, cap12, hvv⟩ := newget hB11 HX11'.out pg12
            have HX12 := Lib.hid (HX10.out.trans x12)
            have HA12 := Lib.hid (HA10.out.ext x12)
            have HR12 := Lib.hid (HR10.out.ext x12)
            have hs1 := run_string_view (P := Try.prog) 22 9 5 (HC10.out.ext x12) Try.underlying22 Try.underlying5 Try.underlying9
            have hs2 := run_string_view (P := Try.prog) 22 9 5 (HU10.out.ext x12) Try.underlying22 Try.underlying5 Try.underlying9
            have hq : ((strOf U).toList == (strOf U).toList) = true := by simp
            clear x12 pg12 hvv hB11
            go_wp2_with fail
            refine (msb_len wr.heap.size og3 _ _ HA12.out).mono ?_
            rintro e w13 ⟨rfl, rfl⟩
            obtain ⟨T, hT⟩ : ∃ T, T = 16 * G := ⟨_, rfl⟩
            obtain ⟨L, hL⟩ : ∃ L, L = (putOf U).length := ⟨_, rfl⟩
            have t1 : 16 * (G : Int) = (T : Int) := by omega
            have t2 : 16 + (T : Int) = (L : Int) := by rw [hL, HLL.out]; omega
            have t3 : IntKind.i64.wrap (T : Int) = (T : Int) := IntWalk.i64_in _ (by omega)
            have t4 : IntKind.i64.wrap (L : Int) = (L : Int) := IntWalk.i64_in _ (by omega)
            rw [← hL] at HR12 ⊢
            have HLX := Lib.hid hL
            clear hT hL
            go_wp2_with fail
            refine (msb_at B7 og7 C L _ HR12.out).mono ?_
            rintro e w14 ⟨rfl, rfl⟩
            clear t1 t2 t3 t4
            go_wp2_with fail
            refine (msb_len wr.heap.size og3 _ _ HA12.out).mono ?_
            rw [← HLX.out]
            rintro e w15 ⟨rfl, rfl⟩
            go_wp2_with fail
            refine (pick_picks _).mono ?_
            rintro e w16 ⟨rfl, x16⟩
            have HX16 := Lib.hid (HX12.out.trans x16)
            clear x16
            go_wp2_with fail
            go_ret
            exact ⟨rfl, HX16.out⟩
end Go.Proofs.Yteabjmebnbaonaa
