/- The law's long: its walk. -/
import Derived.Test.YtmhkjcoidjpocaaFrmTail
import Derived.Test.YtmhkjcoidjpocaaFrmGetLaw
namespace Go.Proofs.Ytmhkjcoidjpocaa
open Go.RowKit
set_option linter.unusedVariables false
set_option linter.unusedSimpArgs false

def longB (h : Hd) : Bool := decide (1000 < h.extra.length ∧ h.extra.length ≤ 65535 ∨ 70000 < h.extra.length ∨ 1000 < h.name.size ∨ 1000 < h.comment.size)
set_option maxHeartbeats 4000000 in
theorem frm_long (h : Hd) (eo : Option Addr) (ec : Nat) (w : World) :
    Calls Try.prog 10 #[.agg (hcells h (.slice eo h.extra.length ec))] w fun e w' => e = .returned (.bool (longB h)) ∧ Ext w w' := by
  have HX := Lib.hid ((Ext.refl w).alloc (.cells (hcells h (.slice eo h.extra.length ec)) 25))
  simp only [hcells] at *
  obtain ⟨LB, hLB⟩ : ∃ b, b = longB h := ⟨_, rfl⟩
  rw [← hLB]
  have HLB := Lib.hid hLB
  clear hLB
  by_cases h1 : 1000 < h.extra.length
  all_goals
    have h1i := h1
    go_enter Try.func10, Try.ntmps10
    go_wp2_with fail
    all_goals
      go_ret
      refine ⟨?_, HX.out⟩
      show Ending.returned (Value.bool _) = Ending.returned (Value.bool _)
      rw [HLB.out]
      unfold longB
      congr 2
      rw [Bool.eq_iff_iff]
      simp only [Bool.or_eq_true, decide_eq_true_eq, true_iff, false_iff, Bool.false_eq_true]
      omega
end Go.Proofs.Ytmhkjcoidjpocaa
