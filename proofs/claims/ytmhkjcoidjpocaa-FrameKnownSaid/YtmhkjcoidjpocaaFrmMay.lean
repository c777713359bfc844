/- frame.may, pressworkref11.May: their walks (written by gen_frmmay.py). -/
import Derived.Test.YtmhkjcoidjpocaaFrmHead
namespace Go.Proofs.Ytmhkjcoidjpocaa
open Go.RowKit
set_option linter.unusedVariables false

theorem and_one_all : ∀ x : Fin 8, ∀ b : Fin 3, bits .and .u8 ((x.val : Nat) : Int) (2 ^ b.val : Nat) = ((x.val / 2 ^ b.val % 2 * 2 ^ b.val : Nat) : Int) := by decide +kernel
theorem and_bit (x k : Nat) (hx : x < 8) (hk : k < 3) : bits .and .u8 (x : Int) ((2 ^ k : Nat) : Int) = ((x / 2 ^ k % 2 * 2 ^ k : Nat) : Int) := and_one_all ⟨x, hx⟩ ⟨k, hk⟩
theorem has_bit (x k n : Nat) : decide (((x / 2 ^ k % 2 * 2 ^ k : Nat) : Int) ≠ 0 ∨ n = 0) = decide (x / 2 ^ k % 2 = 1 ∨ n = 0) := by
  apply decide_eq_decide.2
  have hp := Nat.two_pow_pos k
  rcases Nat.mod_two_eq_zero_or_one (x / 2 ^ k) with h | h
  · rw [h, Nat.zero_mul]; simp
  · rw [h, Nat.one_mul]
    exact ⟨fun _ => Or.inl rfl, fun _ => Or.inl (by omega)⟩
/-- one of the three: has it the field, or is that empty? -/
theorem frm_may_bit (k n : Nat) (B : Nat) (h : Hd) (ev : Value) (w : World) (hb : IsBox w B h ev) (hx : h.has < 8) (hk : k < 3) :
    Calls Try.prog 37 #[.int .u8 (2 ^ k : Nat), .int .i64 n, .pointer (some ⟨B, 0, none⟩)] w fun e w' => e = .returned (.bool (decide (h.has / 2 ^ k % 2 = 1 ∨ n = 0))) ∧ w = w' := by
  have := frm_may1 (2 ^ k) n _ B h ev w hb (and_bit h.has k hx hk)
  rwa [has_bit] at this
theorem ext_box {w : World} {h : Hd} {ev : Value} : IsBox (w.alloc (.cells (hcells h ev) 25)) w.heap.size h ev := heap_alloc_new _ _
set_option maxHeartbeats 8000000 in
set_option maxRecDepth 100000 in
theorem frm_may (h : Hd) (eo : Option Addr) (ecap : Nat) (w : World) (hsz : h.extra.length ≤ 2 ^ 40 ∧ h.name.size ≤ 2 ^ 40 ∧ h.comment.size ≤ 2 ^ 40 ∧ h.has < 256) :
    Calls Try.prog 21 #[.agg (hcells h (.slice eo h.extra.length ecap))] w fun e w' => e = .returned (.bool (decide (MayH h))) ∧ Ext w w' := by
  have hx : Ext w (w.alloc (.cells (hcells h (.slice eo h.extra.length ecap)) 25)) := (Ext.refl w).alloc _
  have hb : IsBox (w.alloc (.cells (hcells h (.slice eo h.extra.length ecap)) 25)) w.heap.size h (.slice eo h.extra.length ecap) := ext_box
  have q4 : (w.alloc (.cells (hcells h (.slice eo h.extra.length ecap)) 25)).cell? ⟨w.heap.size, 4, none⟩ = some (.slice eo h.extra.length ecap) := hb.cell 4
  have q5 : (w.alloc (.cells (hcells h (.slice eo h.extra.length ecap)) 25)).cell? ⟨w.heap.size, 5, none⟩ = some (.string h.name) := hb.cell 5
  have q6 : (w.alloc (.cells (hcells h (.slice eo h.extra.length ecap)) 25)).cell? ⟨w.heap.size, 6, none⟩ = some (.string h.comment) := hb.cell 6
  have q7 : (w.alloc (.cells (hcells h (.slice eo h.extra.length ecap)) 25)).cell? ⟨w.heap.size, 7, none⟩ = some (.int .u8 h.has) := hb.cell 7
  have HX := Lib.hid hx
  have HB := Lib.hid hb
  clear hx hb
  by_cases a0 : h.has < 8
  · by_cases a1 : h.extra.length ≤ 65535
    · by_cases c0 : h.has % 2 = 1 ∨ h.extra.length = 0
      · by_cases c1 : h.has / 2 % 2 = 1 ∨ h.name.size = 0
        · by_cases c2 : h.has / 4 % 2 = 1 ∨ h.comment.size = 0
          · by_cases c3 : 0 ∉ sb (h.name ++ h.comment)
            · have HD := Lib.hid (show decide (MayH h) = true from decide_eq_true (⟨a0, a1, c0, c1, c2, fun k => c3 (by rw [sb_append]; exact List.mem_append.2 (Or.inl k)), fun k => c3 (by rw [sb_append]; exact List.mem_append.2 (Or.inr k))⟩))
              have e0 : (h.has : Int) < 8 := by omega
              have e1 : (h.extra.length : Int) ≤ 65535 := by omega
              go_enter Try.func21, Try.ntmps21
              go_wp2_with fail
              refine (frm_may_bit 0 _ _ h _ _ HB.out (by omega) (by decide)).mono ?_
              rw [show decide (h.has / 2 ^ 0 % 2 = 1 ∨ h.extra.length = 0) = true from decide_eq_true (by simpa using c0)]
              rintro e w' ⟨rfl, rfl⟩
              go_wp2_with fail
              refine (frm_may_bit 1 _ _ h _ _ HB.out (by omega) (by decide)).mono ?_
              rw [show decide (h.has / 2 ^ 1 % 2 = 1 ∨ h.name.size = 0) = true from decide_eq_true (by simpa using c1)]
              rintro e w' ⟨rfl, rfl⟩
              go_wp2_with fail
              refine (frm_may_bit 2 _ _ h _ _ HB.out (by omega) (by decide)).mono ?_
              rw [show decide (h.has / 2 ^ 2 % 2 = 1 ∨ h.comment.size = 0) = true from decide_eq_true (by simpa using c2)]
              rintro e w' ⟨rfl, rfl⟩
              go_wp2_with fail
              refine (frm_contains _ _).mono ?_
              rw [show decide (0 ∈ sb (h.name ++ h.comment)) = false from decide_eq_false c3]
              rintro e w' ⟨rfl, rfl⟩
              go_wp2_with fail
              go_ret
              exact ⟨by rw [HD.out]; rfl, HX.out⟩
            · have HD := Lib.hid (show decide (MayH h) = false from decide_eq_false (fun k => c3 (by rw [sb_append]; rw [List.mem_append]; rintro (q | q); exact k.2.2.2.2.2.1 q; exact k.2.2.2.2.2.2 q)))
              have e0 : (h.has : Int) < 8 := by omega
              have e1 : (h.extra.length : Int) ≤ 65535 := by omega
              go_enter Try.func21, Try.ntmps21
              go_wp2_with fail
              refine (frm_may_bit 0 _ _ h _ _ HB.out (by omega) (by decide)).mono ?_
              rw [show decide (h.has / 2 ^ 0 % 2 = 1 ∨ h.extra.length = 0) = true from decide_eq_true (by simpa using c0)]
              rintro e w' ⟨rfl, rfl⟩
              go_wp2_with fail
              refine (frm_may_bit 1 _ _ h _ _ HB.out (by omega) (by decide)).mono ?_
              rw [show decide (h.has / 2 ^ 1 % 2 = 1 ∨ h.name.size = 0) = true from decide_eq_true (by simpa using c1)]
              rintro e w' ⟨rfl, rfl⟩
              go_wp2_with fail
              refine (frm_may_bit 2 _ _ h _ _ HB.out (by omega) (by decide)).mono ?_
              rw [show decide (h.has / 2 ^ 2 % 2 = 1 ∨ h.comment.size = 0) = true from decide_eq_true (by simpa using c2)]
              rintro e w' ⟨rfl, rfl⟩
              go_wp2_with fail
              refine (frm_contains _ _).mono ?_
              rw [show decide (0 ∈ sb (h.name ++ h.comment)) = true from decide_eq_true (by simpa using c3)]
              rintro e w' ⟨rfl, rfl⟩
              go_wp2_with fail
              go_ret
              exact ⟨by rw [HD.out]; rfl, HX.out⟩
          · have HD := Lib.hid (show decide (MayH h) = false from decide_eq_false (fun k => c2 k.2.2.2.2.1))
            have e0 : (h.has : Int) < 8 := by omega
            have e1 : (h.extra.length : Int) ≤ 65535 := by omega
            go_enter Try.func21, Try.ntmps21
            go_wp2_with fail
            refine (frm_may_bit 0 _ _ h _ _ HB.out (by omega) (by decide)).mono ?_
            rw [show decide (h.has / 2 ^ 0 % 2 = 1 ∨ h.extra.length = 0) = true from decide_eq_true (by simpa using c0)]
            rintro e w' ⟨rfl, rfl⟩
            go_wp2_with fail
            refine (frm_may_bit 1 _ _ h _ _ HB.out (by omega) (by decide)).mono ?_
            rw [show decide (h.has / 2 ^ 1 % 2 = 1 ∨ h.name.size = 0) = true from decide_eq_true (by simpa using c1)]
            rintro e w' ⟨rfl, rfl⟩
            go_wp2_with fail
            refine (frm_may_bit 2 _ _ h _ _ HB.out (by omega) (by decide)).mono ?_
            rw [show decide (h.has / 2 ^ 2 % 2 = 1 ∨ h.comment.size = 0) = false from decide_eq_false (by simpa using c2)]
            rintro e w' ⟨rfl, rfl⟩
            go_wp2_with fail
            go_ret
            exact ⟨by rw [HD.out]; rfl, HX.out⟩
        · have HD := Lib.hid (show decide (MayH h) = false from decide_eq_false (fun k => c1 k.2.2.2.1))
          have e0 : (h.has : Int) < 8 := by omega
          have e1 : (h.extra.length : Int) ≤ 65535 := by omega
          go_enter Try.func21, Try.ntmps21
          go_wp2_with fail
          refine (frm_may_bit 0 _ _ h _ _ HB.out (by omega) (by decide)).mono ?_
          rw [show decide (h.has / 2 ^ 0 % 2 = 1 ∨ h.extra.length = 0) = true from decide_eq_true (by simpa using c0)]
          rintro e w' ⟨rfl, rfl⟩
          go_wp2_with fail
          refine (frm_may_bit 1 _ _ h _ _ HB.out (by omega) (by decide)).mono ?_
          rw [show decide (h.has / 2 ^ 1 % 2 = 1 ∨ h.name.size = 0) = false from decide_eq_false (by simpa using c1)]
          rintro e w' ⟨rfl, rfl⟩
          go_wp2_with fail
          go_ret
          exact ⟨by rw [HD.out]; rfl, HX.out⟩
      · have HD := Lib.hid (show decide (MayH h) = false from decide_eq_false (fun k => c0 k.2.2.1))
        have e0 : (h.has : Int) < 8 := by omega
        have e1 : (h.extra.length : Int) ≤ 65535 := by omega
        go_enter Try.func21, Try.ntmps21
        go_wp2_with fail
        refine (frm_may_bit 0 _ _ h _ _ HB.out (by omega) (by decide)).mono ?_
        rw [show decide (h.has / 2 ^ 0 % 2 = 1 ∨ h.extra.length = 0) = false from decide_eq_false (by simpa using c0)]
        rintro e w' ⟨rfl, rfl⟩
        go_wp2_with fail
        go_ret
        exact ⟨by rw [HD.out]; rfl, HX.out⟩
    · have HD := Lib.hid (show decide (MayH h) = false from decide_eq_false (fun k => a1 k.2.1))
      have e0 : (h.has : Int) < 8 := by omega
      have e1 : ¬ (h.extra.length : Int) ≤ 65535 := by omega
      go_enter Try.func21, Try.ntmps21
      go_wp2_with fail
      go_ret
      exact ⟨by rw [HD.out]; rfl, HX.out⟩
  · have HD := Lib.hid (show decide (MayH h) = false from decide_eq_false (fun k => a0 k.1))
    have e0 : ¬ (h.has : Int) < 8 := by omega
    go_enter Try.func21, Try.ntmps21
    go_wp2_with fail
    go_ret
    exact ⟨by rw [HD.out]; rfl, HX.out⟩
end Go.Proofs.Ytmhkjcoidjpocaa
