/- pressworklaw01.LsbBack: whatever acts. -/
import Derived.Test.YtnmibfdpaamlgaaLsbBackWalk
namespace Go.Proofs.Ytnmibfdpaamlgaa
open Go.RowKit

theorem lsb_back_many (v : Value) (l : List ActV) (w : World) (hv : ViewA w v l) (hl : 200 < l.length) (hm : l.length ≤ maxLen) :
    Calls Try.prog 11 #[v] w fun e w' => e = .returned (.bool true) ∧ Ext w w' := by
  obtain ⟨ao, cap, rfl, _⟩ := hv
  unfold maxLen at hm
  have hl2 : (200 : Int) < (l.length : Int) := by omega
  go_enter Try.func11, Try.ntmps11
  go_wp2_with fail
  go_ret
  exact ⟨rfl, Ext.refl _⟩
theorem lsb_back (v : Value) (l : List ActV) (w : World) (hv : ViewA w v l) (hm : l.length ≤ maxLen) :
    Calls Try.prog 11 #[v] w fun e w' => e = .returned (.bool true) ∧ Ext w w' := by
  by_cases h : 200 < l.length
  · exact lsb_back_many v l w hv h hm
  · exact lsb_back_some v l w hv (by omega)
end Go.Proofs.Ytnmibfdpaamlgaa
