/- pressworkref11.May: its walk. -/
import Derived.Test.YtmhkjcoidjpocaaFrmHead
namespace Go.Proofs.Ytmhkjcoidjpocaa
open Go.RowKit
set_option linter.unusedVariables false

theorem size_zero (s : ByteArray) : s.size = 0 ↔ s.toList = [] := by
  rw [ByteArray.toList_eq, ← length_sb, sb, List.length_map]
  constructor
  · intro h; exact List.eq_nil_of_length_eq_zero h
  · intro h; rw [h]; rfl
theorem mayH_key (h : Hd) (e0 : h.has ≤ 7) (e1 : h.extra.length ≤ 65535) (hn : 0 ∉ sb h.name) (hc : 0 ∉ sb h.comment) :
    decide (MayH h) = ((decide ((h.has : Int) % 2 = 1) || decide ((h.extra.length : Int) = 0)) && (decide ((h.has : Int) / 2 % 2 = 1) || decide (h.name.toList = [])) && (decide ((h.has : Int) / 4 = 1) || decide (h.comment.toList = []))) := by
  have k1 := size_zero h.name
  have k2 := size_zero h.comment
  have i1 : ((h.has : Int) % 2 = 1) ↔ h.has % 2 = 1 := by omega
  have i2 : ((h.has : Int) / 2 % 2 = 1) ↔ h.has / 2 % 2 = 1 := by omega
  have i3 : ((h.has : Int) / 4 = 1) ↔ h.has / 4 % 2 = 1 := by omega
  have i4 : ((h.extra.length : Int) = 0) ↔ h.extra.length = 0 := by omega
  simp only [i1, i2, i3, i4, ← k1, ← k2]
  rw [← Bool.decide_or, ← Bool.decide_or, ← Bool.decide_or, ← Bool.decide_and, ← Bool.decide_and]
  apply decide_eq_decide.2
  constructor
  · rintro ⟨_, _, a, b, c, _⟩; exact ⟨⟨a, b⟩, c⟩
  · rintro ⟨⟨a, b⟩, c⟩; exact ⟨by omega, e1, a, b, c, hn, hc⟩
set_option maxHeartbeats 8000000 in
set_option maxRecDepth 100000 in
theorem frm_ref_may (h : Hd) (eo : Option Addr) (ecap : Nat) (w : World) (hsz : h.extra.length ≤ 2 ^ 40 ∧ h.name.size ≤ 2 ^ 40 ∧ h.comment.size ≤ 2 ^ 40 ∧ h.has < 256) :
    Calls Try.prog 17 #[.agg (hcells h (.slice eo h.extra.length ecap))] w fun e w' => e = .returned (.bool (decide (MayH h))) ∧ Ext w w' := by
  obtain ⟨N, hN⟩ : ∃ N, N = h.extra.length := ⟨_, rfl⟩
  rw [← hN]
  have hx : Ext w (w.alloc (.cells (hcells h (.slice eo N ecap)) 25)) := (Ext.refl w).alloc _
  have hb : IsBox (w.alloc (.cells (hcells h (.slice eo N ecap)) 25)) w.heap.size h (.slice eo N ecap) := heap_alloc_new _ _
  have q4 : (w.alloc (.cells (hcells h (.slice eo N ecap)) 25)).cell? ⟨w.heap.size, 4, none⟩ = some (.slice eo N ecap) := hb.cell 4
  have q5 : (w.alloc (.cells (hcells h (.slice eo N ecap)) 25)).cell? ⟨w.heap.size, 5, none⟩ = some (.string h.name) := hb.cell 5
  have q6 : (w.alloc (.cells (hcells h (.slice eo N ecap)) 25)).cell? ⟨w.heap.size, 6, none⟩ = some (.string h.comment) := hb.cell 6
  have q7 : (w.alloc (.cells (hcells h (.slice eo N ecap)) 25)).cell? ⟨w.heap.size, 7, none⟩ = some (.int .u8 h.has) := hb.cell 7
  obtain ⟨W, hW⟩ : ∃ W, W = w.alloc (.cells (hcells h (.slice eo N ecap)) 25) := ⟨_, rfl⟩
  have HW := Lib.hid hW
  clear hW
  have HX := Lib.hid hx
  clear hx hb
  have HN := Lib.hid hN
  clear hN
  have LF := Lib.hid (fun (k : ¬ MayH h) => (decide_eq_false k : decide (MayH h) = false))
  go_enter Try.func17, Try.ntmps17
  go_wp2_with fail
  · rename_i a0 a1
    rw [← HW.out] at q4 q5 q6 q7 HX ⊢
    refine (frm_word h.name _ hsz.2.1).mono ?_
    by_cases hn : 0 ∉ sb h.name
    · rw [decide_eq_true hn]
      rintro e w' ⟨rfl, rfl⟩
      go_wp2_with fail
      refine (frm_word h.comment _ hsz.2.2.1).mono ?_
      by_cases hc : 0 ∉ sb h.comment
      · rw [decide_eq_true hc]
        rintro e w' ⟨rfl, rfl⟩
        have KEY := Lib.hid (mayH_key h (by omega) (by have := HN.out; omega) hn hc)
        rw [← HN.out] at KEY
        clear hn hc
        go_wp2_with fail
        all_goals go_ret
        all_goals refine ⟨congrArg (fun b => Ending.returned (Value.bool b)) (?_ : _ = decide (MayH h)), HX.out⟩
        all_goals rw [KEY.out]
        all_goals clear KEY LF HX q4 q5 q6 q7 hsz HN HW
        all_goals simp_all
        all_goals (rw [show ((h.has : Int) / 4 == 1) = false from beq_eq_false_iff_ne.2 (by assumption)]; cases h.comment.toList <;> simp)
      · rw [decide_eq_false hc]
        rintro e w' ⟨rfl, rfl⟩
        have HD := Lib.hid (LF.out (fun k => hc k.2.2.2.2.2.2))
        clear hn hc
        go_wp2_with fail
        go_ret
        exact ⟨by rw [HD.out]; rfl, HX.out⟩
    · rw [decide_eq_false hn]
      rintro e w' ⟨rfl, rfl⟩
      have HD := Lib.hid (LF.out (fun k => hn k.2.2.2.2.2.1))
      clear hn
      go_wp2_with fail
      go_ret
      exact ⟨by rw [HD.out]; rfl, HX.out⟩
  · rename_i a0 a1
    have HD := Lib.hid (LF.out (fun k => by have := k.2.1; have := HN.out; omega))
    go_ret
    exact ⟨by rw [HD.out]; rfl, HX.out⟩
  · rename_i a0
    have HD := Lib.hid (LF.out (fun k => by have := k.1; omega))
    go_ret
    exact ⟨by rw [HD.out]; rfl, HX.out⟩
end Go.Proofs.Ytmhkjcoidjpocaa
