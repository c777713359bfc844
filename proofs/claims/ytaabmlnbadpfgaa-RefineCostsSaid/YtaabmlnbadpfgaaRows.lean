/-
  No cell of these rows narrows 'for every input' (looked for: loops, veiled, ifaces, maps, wideKeys, modest, calm, conditions, laid).
  DERIVED. THE GIVEN ROWS OF THIS SEAT. 4 by the template 'for every input the law returns true; each argument reads behind the call as it read before'; 0 by the template 'total and deterministic' (their statements: YtaabmlnbadpfgaaTotals.lean).
  GIVEN WITH THE SEED: the statements are not yours to turn. If you find one false, say at which input.
  Laid BY PROGRAM, IN A SANDBOX (cutbox-rows.mjs): the forced cells as the released guide's own fill.sh prints them over the translation 9b222b70e6dfbda7… (all of the seat's roots in one cut). By AI agents, Wed Nov 11 2026. No macro, syntax, notation, axiom, sorry.
-/
import Derived.Test.YtaabmlnbadpfgaaChecked
import GoSem.Claim
import GoSem.ClaimJoined
import GoSem.ClaimMapViews
import Derived.JoinedTies
import Derived.KernelRfl
namespace Go.Proofs.Ytaabmlnbadpfgaa
/- THE CELL 'sum', in the pinned program and in every row, IS THE sha256 OF THE DUMP (.gsa) THAT YtaabmlnbadpfgaaProg.lean LOADS. Nothing in Lean hashes anything: it is a label: what it is worth is what the hold of that sum in a sandbox is worth. -/
noncomputable def Try.pinned : Pinned := { name := "ytaabmlnbadpfgaa", sum := "9b222b70e6dfbda76d1ed4085c54b75ea37cc87311a510169ae06bd7c9b6ed6e", checked := Try.checked }
namespace Rows
def none {H : Type} : Left H := { results := [], args := [] }

/-- 'pressworklaw25.RefineCosts': WHATEVER THE INPUT: true; the input reads as it did. -/
def refineCostsSpec : ChangeSpec := { name := "refineCosts", fn := fun _ => fun
  | [d1, d2, d3] => { results := [.lit (.bool true)], args := [d1, d2, d3] }
  | _ => none }
def refineCostsRow : OpenClaim := { program := "ytaabmlnbadpfgaa", sum := "9b222b70e6dfbda76d1ed4085c54b75ea37cc87311a510169ae06bd7c9b6ed6e", func := "presswork/pressworklaw25.RefineCosts", spec := "refineCosts", unfollowed := true, recurses := true, apart := false }
def RefineCostsSaid : Prop := refineCostsRow.holds Try.pinned (OpenSpec.ofChange refineCostsSpec)

/-- ITS FALSE NEIGHBOUR: 'it returns false'. Refute it at one input. -/
def refineCostsWrong : ChangeSpec := { name := "refineCosts", fn := fun _ => fun
  | [d1, d2, d3] => { results := [.lit (.bool false)], args := [d1, d2, d3] }
  | _ => none }
def RefineCostsWrongFalsely : Prop := refineCostsRow.holds Try.pinned (OpenSpec.ofChange refineCostsWrong)

/-- 'pressworklaw25.RefineChooses': WHATEVER THE INPUT: true; the input reads as it did. -/
def refineChoosesSpec : ChangeSpec := { name := "refineChooses", fn := fun _ => fun
  | [d1, d2] => { results := [.lit (.bool true)], args := [d1, d2] }
  | _ => none }
def refineChoosesRow : OpenClaim := { program := "ytaabmlnbadpfgaa", sum := "9b222b70e6dfbda76d1ed4085c54b75ea37cc87311a510169ae06bd7c9b6ed6e", func := "presswork/pressworklaw25.RefineChooses", spec := "refineChooses", unfollowed := true, recurses := true, apart := false }
def RefineChoosesSaid : Prop := refineChoosesRow.holds Try.pinned (OpenSpec.ofChange refineChoosesSpec)

/-- ITS FALSE NEIGHBOUR: 'it returns false'. Refute it at one input. -/
def refineChoosesWrong : ChangeSpec := { name := "refineChooses", fn := fun _ => fun
  | [d1, d2] => { results := [.lit (.bool false)], args := [d1, d2] }
  | _ => none }
def RefineChoosesWrongFalsely : Prop := refineChoosesRow.holds Try.pinned (OpenSpec.ofChange refineChoosesWrong)

/-- 'pressworklaw25.RefineCodes': WHATEVER THE INPUT: true; the input reads as it did. -/
def refineCodesSpec : ChangeSpec := { name := "refineCodes", fn := fun _ => fun
  | [d1, d2] => { results := [.lit (.bool true)], args := [d1, d2] }
  | _ => none }
def refineCodesRow : OpenClaim := { program := "ytaabmlnbadpfgaa", sum := "9b222b70e6dfbda76d1ed4085c54b75ea37cc87311a510169ae06bd7c9b6ed6e", func := "presswork/pressworklaw25.RefineCodes", spec := "refineCodes", unfollowed := true, recurses := true, apart := false }
def RefineCodesSaid : Prop := refineCodesRow.holds Try.pinned (OpenSpec.ofChange refineCodesSpec)

/-- ITS FALSE NEIGHBOUR: 'it returns false'. Refute it at one input. -/
def refineCodesWrong : ChangeSpec := { name := "refineCodes", fn := fun _ => fun
  | [d1, d2] => { results := [.lit (.bool false)], args := [d1, d2] }
  | _ => none }
def RefineCodesWrongFalsely : Prop := refineCodesRow.holds Try.pinned (OpenSpec.ofChange refineCodesWrong)

/-- 'pressworklaw25.RefineKnown': WHATEVER THE INPUT: true; the input reads as it did. -/
def refineKnownSpec : ChangeSpec := { name := "refineKnown", fn := fun _ => fun
  | [] => { results := [.lit (.bool true)], args := [] }
  | _ => none }
def refineKnownRow : OpenClaim := { program := "ytaabmlnbadpfgaa", sum := "9b222b70e6dfbda76d1ed4085c54b75ea37cc87311a510169ae06bd7c9b6ed6e", func := "presswork/pressworklaw25.RefineKnown", spec := "refineKnown", unfollowed := true, recurses := true, apart := false }
def RefineKnownSaid : Prop := refineKnownRow.holds Try.pinned (OpenSpec.ofChange refineKnownSpec)

/-- ITS FALSE NEIGHBOUR: 'it returns false'. Refute it at one input. -/
def refineKnownWrong : ChangeSpec := { name := "refineKnown", fn := fun _ => fun
  | [] => { results := [.lit (.bool false)], args := [] }
  | _ => none }
def RefineKnownWrongFalsely : Prop := refineKnownRow.holds Try.pinned (OpenSpec.ofChange refineKnownWrong)

/- THE SECOND FORM. 'bulk': how many values and letters a reading holds, each counted each time it is reached (what is shared counts as often as it is met; a slice's spare places count too). A statement '..UptoSaid' is the law's where the arguments, and the package variables that the reading takes, are together of bulk at most 1048576: NARROWER than '..Said'. Prove '..Said' where nothing that the law and all that it calls make is longer than what came in: it says more and counts as full. Else prove '..UptoSaid'. A law counts once. -/
mutual
def uptoBulk {H : Type} : DataW H → Nat
  | .lit (.string bytes) => bytes.length + 1
  | .lit _ => 1
  | .nil => 1
  | .ptr d => uptoBulk d + 1
  | .slice elems spare => uptoBulkAll elems + uptoBulkAll spare + 1
  | .agg parts => uptoBulkAll parts + 1
  | .iface _ d => uptoBulk d + 1
  | .map entries => uptoBulkEntries entries + 1
  | .held _ => 1
def uptoBulkAll {H : Type} : List (DataW H) → Nat
  | [] => 0
  | d :: r => uptoBulk d + uptoBulkAll r
def uptoBulkEntries {H : Type} : List (Lit × DataW H) → Nat
  | [] => 0
  | x :: r => uptoBulkEntry x + uptoBulkEntries r
def uptoBulkEntry {H : Type} : Lit × DataW H → Nat
  | (.string bytes, d) => bytes.length + uptoBulk d + 1
  | (_, d) => uptoBulk d + 1
 end
def uptoSmall : (H : Type) → List (DataW H) → Bool := fun _ ds => decide (uptoBulkAll ds ≤ 1048576)
def OpenSpec.upto (s : _root_.Go.ChangeSpec) : _root_.Go.OpenSpec := { _root_.Go.OpenSpec.ofChange s with cond := some uptoSmall }

/-- 'pressworklaw25.RefineCosts', WHERE WHAT IT READS IS OF BULK AT MOST 1048576: true; the input reads as it did. -/
def refineCostsUptoRow : OpenClaim := { program := "ytaabmlnbadpfgaa", sum := "9b222b70e6dfbda76d1ed4085c54b75ea37cc87311a510169ae06bd7c9b6ed6e", func := "presswork/pressworklaw25.RefineCosts", spec := "refineCosts", unfollowed := true, recurses := true, apart := false, narrowed := true }
def RefineCostsUptoSaid : Prop := refineCostsUptoRow.holds Try.pinned (OpenSpec.upto refineCostsSpec)

/-- 'pressworklaw25.RefineChooses', WHERE WHAT IT READS IS OF BULK AT MOST 1048576: true; the input reads as it did. -/
def refineChoosesUptoRow : OpenClaim := { program := "ytaabmlnbadpfgaa", sum := "9b222b70e6dfbda76d1ed4085c54b75ea37cc87311a510169ae06bd7c9b6ed6e", func := "presswork/pressworklaw25.RefineChooses", spec := "refineChooses", unfollowed := true, recurses := true, apart := false, narrowed := true }
def RefineChoosesUptoSaid : Prop := refineChoosesUptoRow.holds Try.pinned (OpenSpec.upto refineChoosesSpec)

/-- 'pressworklaw25.RefineCodes', WHERE WHAT IT READS IS OF BULK AT MOST 1048576: true; the input reads as it did. -/
def refineCodesUptoRow : OpenClaim := { program := "ytaabmlnbadpfgaa", sum := "9b222b70e6dfbda76d1ed4085c54b75ea37cc87311a510169ae06bd7c9b6ed6e", func := "presswork/pressworklaw25.RefineCodes", spec := "refineCodes", unfollowed := true, recurses := true, apart := false, narrowed := true }
def RefineCodesUptoSaid : Prop := refineCodesUptoRow.holds Try.pinned (OpenSpec.upto refineCodesSpec)

/-- 'pressworklaw25.RefineKnown', WHERE WHAT IT READS IS OF BULK AT MOST 1048576: true; the input reads as it did. -/
def refineKnownUptoRow : OpenClaim := { program := "ytaabmlnbadpfgaa", sum := "9b222b70e6dfbda76d1ed4085c54b75ea37cc87311a510169ae06bd7c9b6ed6e", func := "presswork/pressworklaw25.RefineKnown", spec := "refineKnown", unfollowed := true, recurses := true, apart := false, narrowed := true }
def RefineKnownUptoSaid : Prop := refineKnownUptoRow.holds Try.pinned (OpenSpec.upto refineKnownSpec)

end Rows
end Go.Proofs.Ytaabmlnbadpfgaa
