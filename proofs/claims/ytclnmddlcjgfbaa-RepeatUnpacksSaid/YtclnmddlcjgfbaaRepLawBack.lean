/- pressworklaw07.RepeatBack: its walk. -/
import Derived.Test.YtclnmddlcjgfbaaRepPacks
namespace Go.Proofs.Ytclnmddlcjgfbaa
open Go.RowKit
set_option linter.unusedVariables false

theorem ok256 {l : List (Nat × Nat)} (h : l.all okSign = true) : ∀ s ∈ l, s.1 < 256 ∧ s.2 < 256 := by
  intro s hs
  have h1 := List.all_eq_true.1 h s hs
  simp only [okSign, Bool.and_eq_true, decide_eq_true_eq] at h1
  have h2 : 2 ^ bitsOfCode s.1 ≤ 2 ^ 7 := by
    refine Nat.pow_le_pow_right (by omega) ?_
    unfold bitsOfCode
    (repeat' split) <;> omega
  omega
theorem okLens_mod (bs : List Nat) : okLens (bs.map (· % 16)) = true := by
  rw [okLens, List.all_eq_true]
  intro x hx
  obtain ⟨y, _, rfl⟩ := List.mem_map.1 hx
  simp; omega
theorem okLens_256 {l : List Nat} (h : okLens l = true) : ∀ b ∈ l, b < 256 := by
  intro b hb
  have := List.all_eq_true.1 h b hb
  simp at this; omega
theorem map_mod_succ (bs : List Nat) (k x : Nat) (h : bs[k]? = some x) : (bs.take (k + 1)).map (· % 16) = (bs.take k).map (· % 16) ++ [x % 16] := by
  obtain ⟨hk, rfl⟩ := List.getElem?_eq_some_iff.1 h
  rw [List.take_succ_eq_append_getElem hk, List.map_append]; rfl
/-- one byte more. -/
theorem bo_snoc {w w1 w2 : World} {acc : List Nat} {ov v' : Value} {y : Nat} {o : Obj} (h : BO w acc ov w1) (hown' : w2.ownsRow 0 5 1 v' (acc.length + 1) (u8s acc ++ [.int .u8 y]))
    (hgrow : (w1.alloc o).grownBy w2 ov.ownBlock) (hat : v'.ownBlock = ov.ownBlock ∨ v'.ownBlock = some (w1.heap.size + 1)) : BO w (acc ++ [y]) v' w2 :=
  bo_app (ns := [y]) (h.ext ((Ext.refl w1).alloc o)) rfl hown' hgrow (by simpa using hat)

set_option maxHeartbeats 2000000 in
set_option maxRecDepth 100000 in
theorem rep_back_some (v : Value) (bs : List Nat) (n : Int) (w : World) (hb : ViewL w v (u8s bs)) (h256 : ∀ b ∈ bs, b < 256) (hbl : bs.length ≤ 2000) (hn1 : -9223372036854775808 ≤ n) (hn2 : n ≤ 9223372036854775807) :
    Calls Try.prog 5 #[v, .int .i64 n] w fun e w' => e = .returned (.bool true) ∧ Ext w w' := by
  obtain ⟨i0, hi, hz0, hz1, hz2⟩ := info_parts info_u8
  obtain ⟨bo, bcap, rfl⟩ := hb.shape
  rw [length_u8s] at *
  have h1 : ¬ (2000 : Int) < (bs.length : Int) := by omega
  have HB := Lib.hid hb
  have H256 := Lib.hid h256
  clear hb h256
  go_enter Try.func5, Try.ntmps5
  go_wp2_with fail
  go_loopw [5, 6] (fun ov iv wr => ∃ k : Nat, iv = .int .i64 k ∧ k ≤ bs.length ∧ BO w ((bs.take k).map (· % 16)) ov wr) (fun _ iv _ => bs.length - (intOf iv).toNat)
  case atStart => exact ⟨0, rfl, Nat.zero_le _, none, Owns.nil _ _ _, fun g e => (by cases e), Ext.refl _⟩
  case round =>
    obtain ⟨k, rfl, hk, hbo⟩ := hrel
    by_cases hlt : k < bs.length
    · have hlti : (k : Int) < (bs.length : Int) := by omega
      obtain ⟨b, o, rfl, hc⟩ := viewL_cells HB.out (by rw [length_u8s]; omega)
      obtain ⟨x, hxk⟩ : ∃ x, bs[k]? = some x := ⟨_, List.getElem?_eq_getElem hlt⟩
      have hcx := cell_touch hbo.toExt (hc k (.int .u8 x) (by simp [u8s, hxk])) (fun f => f)
      have hx256 := H256.out x (List.mem_of_getElem? hxk)
      have hsucc := map_mod_succ bs k x hxk
      obtain ⟨acc, hacc⟩ : ∃ acc, acc = (bs.take k).map (· % 16) := ⟨_, rfl⟩
      have hal : acc.length ≤ 2000 := by rw [hacc, List.length_map]; have := List.length_take_le k bs; omega
      rw [← hacc] at hsucc hbo
      obtain ⟨y, hy⟩ : ∃ y, y = x % 16 := ⟨_, rfl⟩
      rw [← hy] at hsucc
      have k5 : (x : Int).tmod 16 = (y : Int) := by rw [Int.tmod_eq_emod_of_nonneg (by omega)]; omega
      have k6 : IntKind.u8.wrap (y : Int) = (y : Int) := IntWalk.u8_in _ (by omega)
      have HS := Lib.hid hsucc
      have HBO := Lib.hid hbo
      clear hc hxk hsucc hacc hy hbo
      go_wp2_with (at_builtin; go_must (refine wpList_append_own_at _ rfl (.tmp 22) (.tmp 28) 22 rfl 0 5 i0 (.int .u8 0) 1 1 Try.underlying22 hi hz0 hz1 hz2 rfl (by decide) _ acc.length (u8s acc) rfl (HBO.out.choose_spec.1.1.alloc _) ⟨wr.heap.size, 0, none⟩ 1 1 [.int .u8 y] rfl rfl (cell_one_new _ _ _) (by simp [Value.oneCell']) (by unfold maxLen; omega) (by omega) (Nat.zero_le _) ?_))
      intro v' w1 hown' hgrow _ hat
      have hf := bo_snoc HBO.out hown' hgrow hat
      rw [← HS.out] at hf
      have HF := Lib.hid hf
      clear hf hown' hgrow hat
      go_wp2_with fail
      go_roundw
      case rel => exact ⟨k + 1, by go_num, by omega, HF.out⟩
      case measure => simp [intOf]; omega
    · obtain rfl : k = bs.length := by omega
      rw [List.take_length] at hbo
      have hok := okLens_mod bs
      have hLl : (bs.map (· % 16)).length = bs.length := List.length_map ..
      generalize bs.map (· % 16) = L at hbo hok hLl
      have hLb : L.length ≤ 2000 := by omega
      have hpk : packR L = (packL L, 0) := by rw [packR, if_pos hok]
      have hall := ok_pack _ L (Nat.le_refl _) hok
      have hpl := len_pack _ L (Nat.le_refl _) hok
      have hu1 := unpR_pack L hok (L.length : Int)
      rw [if_pos rfl] at hu1
      have hu2 := unpR_pack L hok n
      obtain ⟨la, lcap, rfl⟩ := hbo.view.shape
      have HOK := Lib.hid hok
      have HBO := Lib.hid hbo
      have HPK := Lib.hid hpk
      have HALL := Lib.hid hall
      have HU1 := Lib.hid hu1
      have HU2 := Lib.hid hu2
      clear hok hbo hpk hall hu1 hu2 hLl
      go_wp2_with fail
      refine (rep_pack _ L _ HBO.out.viewL (okLens_256 HOK.out) (by omega)).mono ?_
      rw [HPK.out]
      rintro e w2 ⟨s, rfl, hs⟩
      obtain ⟨sa, scap, rfl⟩ := hs.viewS.shape
      have HS := Lib.hid hs
      clear hs
      simp only at HS ⊢
      go_wp2_with fail
      refine (rep_unpack _ (packL L) _ _ HS.out.viewS (ok256 HALL.out) (by omega) (by omega) (by omega)).mono ?_
      rw [HU1.out]
      rintro e w3 ⟨u, rfl, hu⟩
      obtain ⟨ua, ucap, rfl⟩ := hu.view.shape
      have HU := Lib.hid hu
      clear hu
      simp only at HU ⊢
      go_wp2_with fail
      refine (rep_unpack _ (packL L) n _ (HS.out.viewS.ext HU.out.toExt) (ok256 HALL.out) (by omega) hn1 hn2).mono ?_
      rw [HU2.out]
      rintro e w4 ⟨g, rfl, hg⟩
      have hx4 := hg.toExt
      have HX4 := Lib.hid (HBO.out.toExt.trans (HS.out.toExt.trans (HU.out.toExt.trans hx4)))
      have hs1 := run_string_view (P := Try.prog) 22 9 5 (HU.out.view.ext hx4) Try.underlying22 Try.underlying5 Try.underlying9
      have hs2 := run_string_view (P := Try.prog) 22 9 5 (HBO.out.view.ext (HS.out.toExt.trans (HU.out.toExt.trans hx4))) Try.underlying22 Try.underlying5 Try.underlying9
      have he : ((strOf L).toList == (strOf L).toList) = true := by simp
      have hle : ((packL L).length : Int) ≤ (L.length : Int) := by omega
      clear hg hx4
      by_cases hn : (L.length : Int) = n
      · subst hn
        rw [if_pos rfl]
        simp only
        go_wp2_with fail
        refine (rep_packs _).mono ?_
        rintro e w6 ⟨rfl, hx6⟩
        have HX6 := Lib.hid (HX4.out.trans hx6)
        clear hx6 hs1 hs2
        go_wp2_with fail
        go_ret
        exact ⟨rfl, HX6.out⟩
      · rw [if_neg hn]
        have hne : (n == (L.length : Int)) = false := by rw [beq_eq_false_iff_ne]; omega
        simp only
        go_wp2_with fail
        refine (rep_packs _).mono ?_
        rintro e w6 ⟨rfl, hx6⟩
        have HX6 := Lib.hid (HX4.out.trans hx6)
        clear hx6 hs1 hs2
        go_wp2_with fail
        go_ret
        exact ⟨rfl, HX6.out⟩
theorem rep_back_long (v : Value) (bs : List Nat) (n : Int) (w : World) (hb : ViewL w v (u8s bs)) (hbm : bs.length ≤ 2 ^ 50) (hbl : 2000 < bs.length) :
    Calls Try.prog 5 #[v, .int .i64 n] w fun e w' => e = .returned (.bool true) ∧ Ext w w' := by
  obtain ⟨bo, bcap, rfl⟩ := hb.shape
  rw [length_u8s]
  clear hb
  have h1 : (2000 : Int) < (bs.length : Int) := by omega
  go_enter Try.func5, Try.ntmps5
  go_wp2_with fail
  go_ret
  exact ⟨rfl, Ext.refl _⟩
theorem rep_law_back (v : Value) (bs : List Nat) (n : Int) (w : World) (hb : View w v bs ∧ ViewL w v (u8s bs)) (h256 : ∀ b ∈ bs, b < 256) (hbm : bs.length ≤ 140737488351232) (hn : -9223372036854775808 ≤ n ∧ n ≤ 9223372036854775807) :
    Calls Try.prog 5 #[v, .int .i64 n] w fun e w' => e = .returned (.bool true) ∧ Ext w w' := by
  by_cases h : bs.length ≤ 2000
  · exact rep_back_some v bs n w hb.2 h256 h hn.1 hn.2
  · exact rep_back_long v bs n w hb.2 (by omega) (by omega)
end Go.Proofs.Ytclnmddlcjgfbaa
