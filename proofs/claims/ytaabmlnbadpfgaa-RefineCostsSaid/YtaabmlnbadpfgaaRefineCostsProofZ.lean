/-
  RefineCosts: THE STATEMENT: whatever the input, the law answers true, and each argument reads as it did. Conditions: none but the form's own.
-/
import Derived.Test.YtaabmlnbadpfgaaLaw
import Derived.Test.YtaabmlnbadpfgaaRefLawCostsZ
import Derived.Test.YtaabmlnbadpfgaaOpenIZ
import Derived.Test.YtaabmlnbadpfgaaOpenRZ
namespace Go.Proofs.Ytaabmlnbadpfgaa.refineCosts
open Go.ChangeShapes Go.WideShapes Go.ChangeAt Go.RowKit
set_option linter.unusedVariables false

theorem par : (Try.f3.params.toList.all fun t => Try.prog.readableRec t && decide (t < Try.prog.types.size)) = true := by kernel_rfl
set_option maxRecDepth 100000 in
theorem lifted (os : Os) (started : os.Started) (H : Type) (enc : TypeId × Value → H) :
    ReturnsInHanded {} Try.checked os 3 .any (Rows.refineCostsSpec.pre6 enc Try.prog Try.f3 Rows.refineCostsRow.domain false) (Rows.refineCostsSpec.post enc Try.prog Try.f3 false true false false) := by
  refine returnsInHanded_of_change_sized (C := Try.checked) own started (by kernel_rfl) Try.func3
    (ChangeSpec.witness6 (enc := enc) (C := Try.checked) false ⟨#[], #[.slice none 0 0, .slice none 0 0, .slice none 0 0], []⟩ 8 (by kernel_rfl) (by kernel_rfl) (by kernel_rfl) (by kernel_rfl)) ?_
  intro W base args ds gs before hval0 hW hcnd hsz0 _
  have hval : ∀ (j : Nat) t v, Try.f3.params[j]? = some t → args[j]? = some v → Value.okWide Try.prog W .any base t v := hval0
  have hsz : (DataW.weightsEach Try.prog (Try.f3.params.toList ++ Rows.refineCostsSpec.plain.varTypes Try.prog) (ds ++ gs)).all (· ≤ reachBytes) = true := hsz0
  clear hsz0
  have hW' := hW
  obtain ⟨p, q, hA0, hV, rfl, hfz, hnd⟩ := hW
  have hA : DataW.TrodAll enc Try.prog W 0 (fun _ => true) true Try.f3.params.toList args.toList ds p := hA0
  rw [Try.params3] at hA hval hsz
  obtain ⟨v0, vs0, d0, ds0, p0, q0, hargs, rfl, rfl, h0, r0⟩ := trodAll_cons hA
  obtain ⟨v1, vs1, d1, ds1, p1, q1, rfl, rfl, rfl, h1, r1⟩ := trodAll_cons r0
  obtain ⟨v2, vs2, d2, ds2, p2, q2, rfl, rfl, rfl, h2, r2⟩ := trodAll_cons r1
  obtain ⟨rfl, rfl, rfl⟩ := trodAll_nil r2
  obtain rfl : args = #[v0, v1, v2] := by cases args; simp_all
  obtain ⟨rfl, rfl⟩ := trodVars_none hV
  have hpar : ∀ t ∈ Try.f3.params.toList, Try.prog.readableRec t = true ∧ t < Try.prog.types.size := fun t ht => by have := List.all_eq_true.1 par t ht; simpa using this
  obtain ⟨Ls0, x0, y0, z0⟩ := open_rows W (hval 0 22 v0 rfl rfl) h0
  obtain ⟨xs1, x1, y1⟩ := open_intl W (hval 1 23 v1 rfl rfl) h1 (fun el sp hd => sized_slice hsz (j := 1) (t := 23) (e := 3) rfl (by rw [hd]; rfl) Try.underlying23)
  obtain ⟨xs2, x2, y2⟩ := open_intl W (hval 2 23 v2 rfl rfl) h2 (fun el sp hd => sized_slice hsz (j := 2) (t := 23) (e := 3) rfl (by rw [hd]; rfl) Try.underlying23)
  refine (ref_law_costs v0 Ls0 v1 xs1 v2 xs2 W x0 y0 z0 x1 y1 x2 y2).mono fun e W' ⟨he, hx⟩ => ?_
  subst he
  exact ⟨_, rfl, law_post rfl rfl hpar rfl hW' hx⟩

theorem over : Rows.refineCostsRow.holds Try.pinned (OpenSpec.ofChange Rows.refineCostsSpec) :=
  OpenClaim.holds_of_wide 3 Try.f3 rfl rfl rfl rfl rfl rfl rfl ⟨rfl, rfl, rfl, rfl, rfl⟩ rfl rfl rfl rfl rfl (by kernel_rfl) Try.func3 (by kernel_rfl)
    (of_decide_eq_true (by kernel_rfl)) (by unfold Func.isWrapper; first | (rw [if_pos (by decide +kernel)]; kernel_rfl) | (rw [if_neg (by decide +kernel)]; exact ⟨rfl, rfl⟩))
    (fun os started H enc _ => lifted os started H enc)

theorem proved : Rows.RefineCostsSaid := over
end Go.Proofs.Ytaabmlnbadpfgaa.refineCosts
