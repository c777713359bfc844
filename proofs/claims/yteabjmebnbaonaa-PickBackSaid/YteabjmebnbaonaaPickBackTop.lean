/- pressworklaw23.PickBack at whatever input. -/
import Derived.Test.YteabjmebnbaonaaPickBack
namespace Go.Proofs.Yteabjmebnbaonaa
open Go.RowKit
set_option linter.unusedVariables false

theorem pick_back (v0 : Value) (bs : List Nat) (v1 : Value) (be : List Nat) (w : World) (hv : View w v0 bs ∧ ViewL w v0 (u8s bs)) (hb : ∀ b ∈ bs, b < 256) (hbm : bs.length ≤ 140737488351232) (hv1 : View w v1 be ∧ ViewL w v1 (u8s be)) (hb1 : ∀ b ∈ be, b < 256) (hbm1 : be.length ≤ 140737488351232) :
    Calls Try.prog 7 #[v0, v1] w fun e w' => e = .returned (.bool true) ∧ Ext w w' := by
  by_cases h1 : 2000 < bs.length
  · obtain ⟨ao, cap, rfl⟩ := hv.2.shape
    obtain ⟨ae, cape, rfl⟩ := hv1.2.shape
    rw [length_u8s, length_u8s]
    clear hv hb hv1 hb1
    have h2 : (2000 : Int) < (bs.length : Int) := by omega
    go_enter Try.func7, Try.ntmps7
    go_wp2_with fail
    go_ret
    exact ⟨rfl, Ext.refl w⟩
  · by_cases h3 : 40 < be.length
    · obtain ⟨ao, cap, rfl⟩ := hv.2.shape
      obtain ⟨ae, cape, rfl⟩ := hv1.2.shape
      rw [length_u8s, length_u8s]
      clear hv hb hv1 hb1
      have h2 : decide ((2000 : Int) < (bs.length : Int)) = false := decide_eq_false (by omega)
      have h4 : (40 : Int) < (be.length : Int) := by omega
      go_enter Try.func7, Try.ntmps7
      go_wp2_with fail
      go_ret
      exact ⟨rfl, Ext.refl w⟩
    · exact pick_back_some v0 v1 bs be w hv hb (by omega) hv1 hb1 (by omega)
end Go.Proofs.Yteabjmebnbaonaa
