/- The document's Same; the law's long: their walks. -/
import Derived.Test.YtmhkjcoidjpocaaFrmTail
import Derived.Test.YtmhkjcoidjpocaaFrmGetLaw
namespace Go.Proofs.Ytmhkjcoidjpocaa
open Go.RowKit
set_option linter.unusedVariables false
set_option linter.unusedSimpArgs false

instance : DecidableEq Hd := fun a b => decidable_of_iff (a.text = b.text ∧ a.time = b.time ∧ a.xfl = b.xfl ∧ a.os = b.os ∧ a.extra = b.extra ∧ a.name.data = b.name.data ∧ a.comment.data = b.comment.data ∧ a.has = b.has ∧ a.sum = b.sum) (by
  constructor
  · rintro ⟨h1, h2, h3, h4, h5, h6, h7, h8, h9⟩
    obtain ⟨_, _, _, _, _, ⟨_⟩, ⟨_⟩, _, _⟩ := a
    obtain ⟨_, _, _, _, _, ⟨_⟩, ⟨_⟩, _, _⟩ := b
    simp_all
  · rintro rfl; simp)
theorem ba_data {x y : ByteArray} (h : x.data.toList = y.data.toList) : x = y := by
  cases x; cases y
  simp at h
  rw [h]
theorem ba_list {x y : ByteArray} (h : x.toList = y.toList) : x = y := by
  rw [ByteArray.toList_eq, ByteArray.toList_eq] at h
  exact ba_data h
set_option maxHeartbeats 8000000 in
theorem frm_same (a b : Hd) (ao bo : Option Addr) (ac bc : Nat) (w : World) (ha : ViewL w (.slice ao a.extra.length ac) (u8s a.extra)) (hb : ViewL w (.slice bo b.extra.length bc) (u8s b.extra)) (oka : HOk a) (okb : HOk b) :
    Calls Try.prog 13 #[.agg (hcells a (.slice ao a.extra.length ac)), .agg (hcells b (.slice bo b.extra.length bc))] w fun e w' => e = .returned (.bool (decide (a = b))) ∧ Ext w w' := by
  have hx : Ext w ((w.alloc (.cells (hcells a (.slice ao a.extra.length ac)) 25)).alloc (.cells (hcells b (.slice bo b.extra.length bc)) 25)) := ((Ext.refl w).alloc _).alloc _
  have hs1 := run_string_view (P := Try.prog) 23 9 5 (viewL_view8 (ha.ext hx)) Try.underlying23 Try.underlying5 Try.underlying9
  have hs2 := run_string_view (P := Try.prog) 23 9 5 (viewL_view8 (hb.ext hx)) Try.underlying23 Try.underlying5 Try.underlying9
  have oa := oka.extra
  have ob := okb.extra
  clear oka okb ha hb
  obtain ⟨a1, a2, a3, a4, a5, a6, a7, a8, a9⟩ := a
  obtain ⟨b1, b2, b3, b4, b5, b6, b7, b8, b9⟩ := b
  simp only [hcells] at *
  by_cases hn : a1 = b1
  case neg =>
    have k1 : (a1 == b1) = false := by simp [hn]
    have k2 : ¬ a1 = b1 := hn
    have HX := Lib.hid hx
    have HN := Lib.hid hn
    clear hx oa ob hn
    go_enter Try.func13, Try.ntmps13
    go_wp2_with fail
    go_ret
    exact ⟨by rw [decide_eq_false (fun e => HN.out (by injection e))]; rfl, HX.out⟩
  subst hn
  by_cases hn : a2 = b2
  case neg =>
    have k1 : ((a2 : Int) == (b2 : Int)) = false := by simp; omega
    have k2 : ¬ (a2 : Int) = (b2 : Int) := by omega
    have HX := Lib.hid hx
    have HN := Lib.hid hn
    clear hx oa ob hn
    go_enter Try.func13, Try.ntmps13
    go_wp2_with fail
    go_ret
    exact ⟨by rw [decide_eq_false (fun e => HN.out (by injection e))]; rfl, HX.out⟩
  subst hn
  by_cases hn : a3 = b3
  case neg =>
    have k1 : ((a3 : Int) == (b3 : Int)) = false := by simp; omega
    have k2 : ¬ (a3 : Int) = (b3 : Int) := by omega
    have HX := Lib.hid hx
    have HN := Lib.hid hn
    clear hx oa ob hn
    go_enter Try.func13, Try.ntmps13
    go_wp2_with fail
    go_ret
    exact ⟨by rw [decide_eq_false (fun e => HN.out (by injection e))]; rfl, HX.out⟩
  subst hn
  by_cases hn : a4 = b4
  case neg =>
    have k1 : ((a4 : Int) == (b4 : Int)) = false := by simp; omega
    have k2 : ¬ (a4 : Int) = (b4 : Int) := by omega
    have HX := Lib.hid hx
    have HN := Lib.hid hn
    clear hx oa ob hn
    go_enter Try.func13, Try.ntmps13
    go_wp2_with fail
    go_ret
    exact ⟨by rw [decide_eq_false (fun e => HN.out (by injection e))]; rfl, HX.out⟩
  subst hn
  by_cases hn : a5 = b5
  case neg =>
    have k1 : ((strOf a5).toList == (strOf b5).toList) = false := by rw [str_eq oa ob]; exact decide_eq_false hn
    have k2 : ¬ (strOf a5).toList = (strOf b5).toList := by simpa using k1
    have HX := Lib.hid hx
    have HN := Lib.hid hn
    clear hx oa ob hn
    go_enter Try.func13, Try.ntmps13
    go_wp2_with fail
    go_ret
    exact ⟨by rw [decide_eq_false (fun e => HN.out (by injection e))]; rfl, HX.out⟩
  subst hn
  by_cases hn : a6 = b6
  case neg =>
    have k2 : ¬ a6.toList = b6.toList := fun e => hn (ba_list e)
    have k1 : (a6.toList == b6.toList) = false := by simpa using k2
    have k3 : ¬ a6.data.toList = b6.data.toList := fun e => hn (ba_data e)
    have k4 : (a6.data.toList == b6.data.toList) = false := by simpa using k3
    have HX := Lib.hid hx
    have HN := Lib.hid hn
    clear hx oa ob hn
    go_enter Try.func13, Try.ntmps13
    go_wp2_with fail
    go_ret
    exact ⟨by rw [decide_eq_false (fun e => HN.out (by injection e))]; rfl, HX.out⟩
  subst hn
  by_cases hn : a7 = b7
  case neg =>
    have k2 : ¬ a7.toList = b7.toList := fun e => hn (ba_list e)
    have k1 : (a7.toList == b7.toList) = false := by simpa using k2
    have k3 : ¬ a7.data.toList = b7.data.toList := fun e => hn (ba_data e)
    have k4 : (a7.data.toList == b7.data.toList) = false := by simpa using k3
    have HX := Lib.hid hx
    have HN := Lib.hid hn
    clear hx oa ob hn
    go_enter Try.func13, Try.ntmps13
    go_wp2_with fail
    go_ret
    exact ⟨by rw [decide_eq_false (fun e => HN.out (by injection e))]; rfl, HX.out⟩
  subst hn
  by_cases hn : a8 = b8
  case neg =>
    have k1 : ((a8 : Int) == (b8 : Int)) = false := by simp; omega
    have k2 : ¬ (a8 : Int) = (b8 : Int) := by omega
    have HX := Lib.hid hx
    have HN := Lib.hid hn
    clear hx oa ob hn
    go_enter Try.func13, Try.ntmps13
    go_wp2_with fail
    go_ret
    exact ⟨by rw [decide_eq_false (fun e => HN.out (by injection e))]; rfl, HX.out⟩
  subst hn
  by_cases hn : a9 = b9
  case neg =>
    have k1 : (a9 == b9) = false := by simp [hn]
    have k2 : ¬ a9 = b9 := hn
    have HX := Lib.hid hx
    have HN := Lib.hid hn
    clear hx oa ob hn
    go_enter Try.func13, Try.ntmps13
    go_wp2_with fail
    go_ret
    exact ⟨by rw [decide_eq_false (fun e => HN.out (by injection e))]; rfl, HX.out⟩
  subst hn
  have HX := Lib.hid hx
  clear hx oa ob
  go_enter Try.func13, Try.ntmps13
  go_wp2_with fail
  go_ret
  exact ⟨by simp, HX.out⟩
end Go.Proofs.Ytmhkjcoidjpocaa
