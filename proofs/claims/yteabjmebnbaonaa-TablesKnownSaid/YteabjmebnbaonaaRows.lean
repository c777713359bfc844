/-
  No cell of these rows narrows 'for every input' (looked for: loops, veiled, ifaces, maps, wideKeys, modest, calm, conditions, laid).
  DERIVED. THE GIVEN ROWS OF THIS SEAT. 11 by the template 'for every input the law returns true; each argument reads behind the call as it read before'; 0 by the template 'total and deterministic' (their statements: YteabjmebnbaonaaTotals.lean).
  GIVEN WITH THE SEED: the statements are not yours to turn. If you find one false, say at which input.
  Laid BY PROGRAM, IN A SANDBOX (cutbox-rows.mjs): the forced cells as the released guide's own fill.sh prints them over the translation f3449f2c07b59d3e… (all of the seat's roots in one cut). By AI agents, Wed Nov 11 2026. No macro, syntax, notation, axiom, sorry.
-/
import Derived.Test.YteabjmebnbaonaaChecked
import GoSem.Claim
import GoSem.ClaimJoined
import GoSem.ClaimMapViews
import Derived.JoinedTies
import Derived.KernelRfl
namespace Go.Proofs.Yteabjmebnbaonaa
/- THE CELL 'sum', in the pinned program and in every row, IS THE sha256 OF THE DUMP (.gsa) THAT YteabjmebnbaonaaProg.lean LOADS. Nothing in Lean hashes anything: it is a label: what it is worth is what the hold of that sum in a sandbox is worth. -/
noncomputable def Try.pinned : Pinned := { name := "yteabjmebnbaonaa", sum := "f3449f2c07b59d3e52da16c00379e160130a2fba62f73b41a341cfca729c9be2", checked := Try.checked }
namespace Rows
def none {H : Type} : Left H := { results := [], args := [] }

/-- 'pressworklaw23.PickSame': WHATEVER THE INPUT: true; the input reads as it did. -/
def pickSameSpec : ChangeSpec := { name := "pickSame", fn := fun _ => fun
  | [d] => { results := [.lit (.bool true)], args := [d] }
  | _ => none }
def pickSameRow : OpenClaim := { program := "yteabjmebnbaonaa", sum := "f3449f2c07b59d3e52da16c00379e160130a2fba62f73b41a341cfca729c9be2", func := "presswork/pressworklaw23.PickSame", spec := "pickSame", unfollowed := true, recurses := true, apart := false }
def PickSameSaid : Prop := pickSameRow.holds Try.pinned (OpenSpec.ofChange pickSameSpec)

/-- ITS FALSE NEIGHBOUR: 'it returns false'. Refute it at one input. -/
def pickSameWrong : ChangeSpec := { name := "pickSame", fn := fun _ => fun
  | [d] => { results := [.lit (.bool false)], args := [d] }
  | _ => none }
def PickSameWrongFalsely : Prop := pickSameRow.holds Try.pinned (OpenSpec.ofChange pickSameWrong)

/-- 'pressworklaw23.PickPuts': WHATEVER THE INPUT: true; the input reads as it did. -/
def pickPutsSpec : ChangeSpec := { name := "pickPuts", fn := fun _ => fun
  | [d1, d2] => { results := [.lit (.bool true)], args := [d1, d2] }
  | _ => none }
def pickPutsRow : OpenClaim := { program := "yteabjmebnbaonaa", sum := "f3449f2c07b59d3e52da16c00379e160130a2fba62f73b41a341cfca729c9be2", func := "presswork/pressworklaw23.PickPuts", spec := "pickPuts", unfollowed := true, recurses := true, apart := false }
def PickPutsSaid : Prop := pickPutsRow.holds Try.pinned (OpenSpec.ofChange pickPutsSpec)

/-- ITS FALSE NEIGHBOUR: 'it returns false'. Refute it at one input. -/
def pickPutsWrong : ChangeSpec := { name := "pickPuts", fn := fun _ => fun
  | [d1, d2] => { results := [.lit (.bool false)], args := [d1, d2] }
  | _ => none }
def PickPutsWrongFalsely : Prop := pickPutsRow.holds Try.pinned (OpenSpec.ofChange pickPutsWrong)

/-- 'pressworklaw23.PickGets': WHATEVER THE INPUT: true; the input reads as it did. -/
def pickGetsSpec : ChangeSpec := { name := "pickGets", fn := fun _ => fun
  | [d1, d2] => { results := [.lit (.bool true)], args := [d1, d2] }
  | _ => none }
def pickGetsRow : OpenClaim := { program := "yteabjmebnbaonaa", sum := "f3449f2c07b59d3e52da16c00379e160130a2fba62f73b41a341cfca729c9be2", func := "presswork/pressworklaw23.PickGets", spec := "pickGets", unfollowed := true, recurses := true, apart := false }
def PickGetsSaid : Prop := pickGetsRow.holds Try.pinned (OpenSpec.ofChange pickGetsSpec)

/-- ITS FALSE NEIGHBOUR: 'it returns false'. Refute it at one input. -/
def pickGetsWrong : ChangeSpec := { name := "pickGets", fn := fun _ => fun
  | [d1, d2] => { results := [.lit (.bool false)], args := [d1, d2] }
  | _ => none }
def PickGetsWrongFalsely : Prop := pickGetsRow.holds Try.pinned (OpenSpec.ofChange pickGetsWrong)

/-- 'pressworklaw23.PickKnown': WHATEVER THE INPUT: true; the input reads as it did. -/
def pickKnownSpec : ChangeSpec := { name := "pickKnown", fn := fun _ => fun
  | [] => { results := [.lit (.bool true)], args := [] }
  | _ => none }
def pickKnownRow : OpenClaim := { program := "yteabjmebnbaonaa", sum := "f3449f2c07b59d3e52da16c00379e160130a2fba62f73b41a341cfca729c9be2", func := "presswork/pressworklaw23.PickKnown", spec := "pickKnown", unfollowed := true, recurses := true, apart := false }
def PickKnownSaid : Prop := pickKnownRow.holds Try.pinned (OpenSpec.ofChange pickKnownSpec)

/-- ITS FALSE NEIGHBOUR: 'it returns false'. Refute it at one input. -/
def pickKnownWrong : ChangeSpec := { name := "pickKnown", fn := fun _ => fun
  | [] => { results := [.lit (.bool false)], args := [] }
  | _ => none }
def PickKnownWrongFalsely : Prop := pickKnownRow.holds Try.pinned (OpenSpec.ofChange pickKnownWrong)

/-- 'pressworklaw23.PickBack': WHATEVER THE INPUT: true; the input reads as it did. -/
def pickBackSpec : ChangeSpec := { name := "pickBack", fn := fun _ => fun
  | [d1, d2] => { results := [.lit (.bool true)], args := [d1, d2] }
  | _ => none }
def pickBackRow : OpenClaim := { program := "yteabjmebnbaonaa", sum := "f3449f2c07b59d3e52da16c00379e160130a2fba62f73b41a341cfca729c9be2", func := "presswork/pressworklaw23.PickBack", spec := "pickBack", unfollowed := true, recurses := true, apart := false }
def PickBackSaid : Prop := pickBackRow.holds Try.pinned (OpenSpec.ofChange pickBackSpec)

/-- ITS FALSE NEIGHBOUR: 'it returns false'. Refute it at one input. -/
def pickBackWrong : ChangeSpec := { name := "pickBack", fn := fun _ => fun
  | [d1, d2] => { results := [.lit (.bool false)], args := [d1, d2] }
  | _ => none }
def PickBackWrongFalsely : Prop := pickBackRow.holds Try.pinned (OpenSpec.ofChange pickBackWrong)

/-- 'pressworklaw24.TablesPuts': WHATEVER THE INPUT: true; the input reads as it did. -/
def tablesPutsSpec : ChangeSpec := { name := "tablesPuts", fn := fun _ => fun
  | [d1, d2, d3] => { results := [.lit (.bool true)], args := [d1, d2, d3] }
  | _ => none }
def tablesPutsRow : OpenClaim := { program := "yteabjmebnbaonaa", sum := "f3449f2c07b59d3e52da16c00379e160130a2fba62f73b41a341cfca729c9be2", func := "presswork/pressworklaw24.TablesPuts", spec := "tablesPuts", unfollowed := true, recurses := true, apart := false }
def TablesPutsSaid : Prop := tablesPutsRow.holds Try.pinned (OpenSpec.ofChange tablesPutsSpec)

/-- ITS FALSE NEIGHBOUR: 'it returns false'. Refute it at one input. -/
def tablesPutsWrong : ChangeSpec := { name := "tablesPuts", fn := fun _ => fun
  | [d1, d2, d3] => { results := [.lit (.bool false)], args := [d1, d2, d3] }
  | _ => none }
def TablesPutsWrongFalsely : Prop := tablesPutsRow.holds Try.pinned (OpenSpec.ofChange tablesPutsWrong)

/-- 'pressworklaw24.TablesSizes': WHATEVER THE INPUT: true; the input reads as it did. -/
def tablesSizesSpec : ChangeSpec := { name := "tablesSizes", fn := fun _ => fun
  | [d1, d2] => { results := [.lit (.bool true)], args := [d1, d2] }
  | _ => none }
def tablesSizesRow : OpenClaim := { program := "yteabjmebnbaonaa", sum := "f3449f2c07b59d3e52da16c00379e160130a2fba62f73b41a341cfca729c9be2", func := "presswork/pressworklaw24.TablesSizes", spec := "tablesSizes", unfollowed := true, recurses := true, apart := false }
def TablesSizesSaid : Prop := tablesSizesRow.holds Try.pinned (OpenSpec.ofChange tablesSizesSpec)

/-- ITS FALSE NEIGHBOUR: 'it returns false'. Refute it at one input. -/
def tablesSizesWrong : ChangeSpec := { name := "tablesSizes", fn := fun _ => fun
  | [d1, d2] => { results := [.lit (.bool false)], args := [d1, d2] }
  | _ => none }
def TablesSizesWrongFalsely : Prop := tablesSizesRow.holds Try.pinned (OpenSpec.ofChange tablesSizesWrong)

/-- 'pressworklaw24.TablesKnown': WHATEVER THE INPUT: true; the input reads as it did. -/
def tablesKnownSpec : ChangeSpec := { name := "tablesKnown", fn := fun _ => fun
  | [] => { results := [.lit (.bool true)], args := [] }
  | _ => none }
def tablesKnownRow : OpenClaim := { program := "yteabjmebnbaonaa", sum := "f3449f2c07b59d3e52da16c00379e160130a2fba62f73b41a341cfca729c9be2", func := "presswork/pressworklaw24.TablesKnown", spec := "tablesKnown", unfollowed := true, recurses := true, apart := false }
def TablesKnownSaid : Prop := tablesKnownRow.holds Try.pinned (OpenSpec.ofChange tablesKnownSpec)

/-- ITS FALSE NEIGHBOUR: 'it returns false'. Refute it at one input. -/
def tablesKnownWrong : ChangeSpec := { name := "tablesKnown", fn := fun _ => fun
  | [] => { results := [.lit (.bool false)], args := [] }
  | _ => none }
def TablesKnownWrongFalsely : Prop := tablesKnownRow.holds Try.pinned (OpenSpec.ofChange tablesKnownWrong)

/-- 'pressworklaw24.TablesGets': WHATEVER THE INPUT: true; the input reads as it did. -/
def tablesGetsSpec : ChangeSpec := { name := "tablesGets", fn := fun _ => fun
  | [d1, d2, d3, d4] => { results := [.lit (.bool true)], args := [d1, d2, d3, d4] }
  | _ => none }
def tablesGetsRow : OpenClaim := { program := "yteabjmebnbaonaa", sum := "f3449f2c07b59d3e52da16c00379e160130a2fba62f73b41a341cfca729c9be2", func := "presswork/pressworklaw24.TablesGets", spec := "tablesGets", unfollowed := true, recurses := true, apart := false }
def TablesGetsSaid : Prop := tablesGetsRow.holds Try.pinned (OpenSpec.ofChange tablesGetsSpec)

/-- ITS FALSE NEIGHBOUR: 'it returns false'. Refute it at one input. -/
def tablesGetsWrong : ChangeSpec := { name := "tablesGets", fn := fun _ => fun
  | [d1, d2, d3, d4] => { results := [.lit (.bool false)], args := [d1, d2, d3, d4] }
  | _ => none }
def TablesGetsWrongFalsely : Prop := tablesGetsRow.holds Try.pinned (OpenSpec.ofChange tablesGetsWrong)

/-- 'pressworklaw24.TablesBack': WHATEVER THE INPUT: true; the input reads as it did. -/
def tablesBackSpec : ChangeSpec := { name := "tablesBack", fn := fun _ => fun
  | [d1, d2, d3, d4] => { results := [.lit (.bool true)], args := [d1, d2, d3, d4] }
  | _ => none }
def tablesBackRow : OpenClaim := { program := "yteabjmebnbaonaa", sum := "f3449f2c07b59d3e52da16c00379e160130a2fba62f73b41a341cfca729c9be2", func := "presswork/pressworklaw24.TablesBack", spec := "tablesBack", unfollowed := true, recurses := true, apart := false }
def TablesBackSaid : Prop := tablesBackRow.holds Try.pinned (OpenSpec.ofChange tablesBackSpec)

/-- ITS FALSE NEIGHBOUR: 'it returns false'. Refute it at one input. -/
def tablesBackWrong : ChangeSpec := { name := "tablesBack", fn := fun _ => fun
  | [d1, d2, d3, d4] => { results := [.lit (.bool false)], args := [d1, d2, d3, d4] }
  | _ => none }
def TablesBackWrongFalsely : Prop := tablesBackRow.holds Try.pinned (OpenSpec.ofChange tablesBackWrong)

/-- 'pressworklaw24.TablesSame': WHATEVER THE INPUT: true; the input reads as it did. -/
def tablesSameSpec : ChangeSpec := { name := "tablesSame", fn := fun _ => fun
  | [d1, d2, d3] => { results := [.lit (.bool true)], args := [d1, d2, d3] }
  | _ => none }
def tablesSameRow : OpenClaim := { program := "yteabjmebnbaonaa", sum := "f3449f2c07b59d3e52da16c00379e160130a2fba62f73b41a341cfca729c9be2", func := "presswork/pressworklaw24.TablesSame", spec := "tablesSame", unfollowed := true, recurses := true, apart := false }
def TablesSameSaid : Prop := tablesSameRow.holds Try.pinned (OpenSpec.ofChange tablesSameSpec)

/-- ITS FALSE NEIGHBOUR: 'it returns false'. Refute it at one input. -/
def tablesSameWrong : ChangeSpec := { name := "tablesSame", fn := fun _ => fun
  | [d1, d2, d3] => { results := [.lit (.bool false)], args := [d1, d2, d3] }
  | _ => none }
def TablesSameWrongFalsely : Prop := tablesSameRow.holds Try.pinned (OpenSpec.ofChange tablesSameWrong)

/- THE SECOND FORM. 'bulk': how many values and letters a reading holds, each counted each time it is reached (what is shared counts as often as it is met; a slice's spare places count too). A statement '..UptoSaid' is the law's where the arguments, and the package variables that the reading takes, are together of bulk at most 1048576: NARROWER than '..Said'. Prove '..Said' where nothing that the law and all that it calls make is longer than what came in: it says more and counts as full. Else prove '..UptoSaid'. A law counts once. -/
mutual
def uptoBulk {H : Type} : DataW H → Nat
  | .lit (.string bytes) => bytes.length + 1
  | .lit _ => 1
  | .nil => 1
  | .ptr d => uptoBulk d + 1
  | .slice elems spare => uptoBulkAll elems + uptoBulkAll spare + 1
  | .agg parts => uptoBulkAll parts + 1
  | .iface _ d => uptoBulk d + 1
  | .map entries => uptoBulkEntries entries + 1
  | .held _ => 1
def uptoBulkAll {H : Type} : List (DataW H) → Nat
  | [] => 0
  | d :: r => uptoBulk d + uptoBulkAll r
def uptoBulkEntries {H : Type} : List (Lit × DataW H) → Nat
  | [] => 0
  | x :: r => uptoBulkEntry x + uptoBulkEntries r
def uptoBulkEntry {H : Type} : Lit × DataW H → Nat
  | (.string bytes, d) => bytes.length + uptoBulk d + 1
  | (_, d) => uptoBulk d + 1
 end
def uptoSmall : (H : Type) → List (DataW H) → Bool := fun _ ds => decide (uptoBulkAll ds ≤ 1048576)
def OpenSpec.upto (s : _root_.Go.ChangeSpec) : _root_.Go.OpenSpec := { _root_.Go.OpenSpec.ofChange s with cond := some uptoSmall }

/-- 'pressworklaw23.PickSame', WHERE WHAT IT READS IS OF BULK AT MOST 1048576: true; the input reads as it did. -/
def pickSameUptoRow : OpenClaim := { program := "yteabjmebnbaonaa", sum := "f3449f2c07b59d3e52da16c00379e160130a2fba62f73b41a341cfca729c9be2", func := "presswork/pressworklaw23.PickSame", spec := "pickSame", unfollowed := true, recurses := true, apart := false, narrowed := true }
def PickSameUptoSaid : Prop := pickSameUptoRow.holds Try.pinned (OpenSpec.upto pickSameSpec)

/-- 'pressworklaw23.PickPuts', WHERE WHAT IT READS IS OF BULK AT MOST 1048576: true; the input reads as it did. -/
def pickPutsUptoRow : OpenClaim := { program := "yteabjmebnbaonaa", sum := "f3449f2c07b59d3e52da16c00379e160130a2fba62f73b41a341cfca729c9be2", func := "presswork/pressworklaw23.PickPuts", spec := "pickPuts", unfollowed := true, recurses := true, apart := false, narrowed := true }
def PickPutsUptoSaid : Prop := pickPutsUptoRow.holds Try.pinned (OpenSpec.upto pickPutsSpec)

/-- 'pressworklaw23.PickGets', WHERE WHAT IT READS IS OF BULK AT MOST 1048576: true; the input reads as it did. -/
def pickGetsUptoRow : OpenClaim := { program := "yteabjmebnbaonaa", sum := "f3449f2c07b59d3e52da16c00379e160130a2fba62f73b41a341cfca729c9be2", func := "presswork/pressworklaw23.PickGets", spec := "pickGets", unfollowed := true, recurses := true, apart := false, narrowed := true }
def PickGetsUptoSaid : Prop := pickGetsUptoRow.holds Try.pinned (OpenSpec.upto pickGetsSpec)

/-- 'pressworklaw23.PickKnown', WHERE WHAT IT READS IS OF BULK AT MOST 1048576: true; the input reads as it did. -/
def pickKnownUptoRow : OpenClaim := { program := "yteabjmebnbaonaa", sum := "f3449f2c07b59d3e52da16c00379e160130a2fba62f73b41a341cfca729c9be2", func := "presswork/pressworklaw23.PickKnown", spec := "pickKnown", unfollowed := true, recurses := true, apart := false, narrowed := true }
def PickKnownUptoSaid : Prop := pickKnownUptoRow.holds Try.pinned (OpenSpec.upto pickKnownSpec)

/-- 'pressworklaw23.PickBack', WHERE WHAT IT READS IS OF BULK AT MOST 1048576: true; the input reads as it did. -/
def pickBackUptoRow : OpenClaim := { program := "yteabjmebnbaonaa", sum := "f3449f2c07b59d3e52da16c00379e160130a2fba62f73b41a341cfca729c9be2", func := "presswork/pressworklaw23.PickBack", spec := "pickBack", unfollowed := true, recurses := true, apart := false, narrowed := true }
def PickBackUptoSaid : Prop := pickBackUptoRow.holds Try.pinned (OpenSpec.upto pickBackSpec)

/-- 'pressworklaw24.TablesPuts', WHERE WHAT IT READS IS OF BULK AT MOST 1048576: true; the input reads as it did. -/
def tablesPutsUptoRow : OpenClaim := { program := "yteabjmebnbaonaa", sum := "f3449f2c07b59d3e52da16c00379e160130a2fba62f73b41a341cfca729c9be2", func := "presswork/pressworklaw24.TablesPuts", spec := "tablesPuts", unfollowed := true, recurses := true, apart := false, narrowed := true }
def TablesPutsUptoSaid : Prop := tablesPutsUptoRow.holds Try.pinned (OpenSpec.upto tablesPutsSpec)

/-- 'pressworklaw24.TablesSizes', WHERE WHAT IT READS IS OF BULK AT MOST 1048576: true; the input reads as it did. -/
def tablesSizesUptoRow : OpenClaim := { program := "yteabjmebnbaonaa", sum := "f3449f2c07b59d3e52da16c00379e160130a2fba62f73b41a341cfca729c9be2", func := "presswork/pressworklaw24.TablesSizes", spec := "tablesSizes", unfollowed := true, recurses := true, apart := false, narrowed := true }
def TablesSizesUptoSaid : Prop := tablesSizesUptoRow.holds Try.pinned (OpenSpec.upto tablesSizesSpec)

/-- 'pressworklaw24.TablesKnown', WHERE WHAT IT READS IS OF BULK AT MOST 1048576: true; the input reads as it did. -/
def tablesKnownUptoRow : OpenClaim := { program := "yteabjmebnbaonaa", sum := "f3449f2c07b59d3e52da16c00379e160130a2fba62f73b41a341cfca729c9be2", func := "presswork/pressworklaw24.TablesKnown", spec := "tablesKnown", unfollowed := true, recurses := true, apart := false, narrowed := true }
def TablesKnownUptoSaid : Prop := tablesKnownUptoRow.holds Try.pinned (OpenSpec.upto tablesKnownSpec)

/-- 'pressworklaw24.TablesGets', WHERE WHAT IT READS IS OF BULK AT MOST 1048576: true; the input reads as it did. -/
def tablesGetsUptoRow : OpenClaim := { program := "yteabjmebnbaonaa", sum := "f3449f2c07b59d3e52da16c00379e160130a2fba62f73b41a341cfca729c9be2", func := "presswork/pressworklaw24.TablesGets", spec := "tablesGets", unfollowed := true, recurses := true, apart := false, narrowed := true }
def TablesGetsUptoSaid : Prop := tablesGetsUptoRow.holds Try.pinned (OpenSpec.upto tablesGetsSpec)

/-- 'pressworklaw24.TablesBack', WHERE WHAT IT READS IS OF BULK AT MOST 1048576: true; the input reads as it did. -/
def tablesBackUptoRow : OpenClaim := { program := "yteabjmebnbaonaa", sum := "f3449f2c07b59d3e52da16c00379e160130a2fba62f73b41a341cfca729c9be2", func := "presswork/pressworklaw24.TablesBack", spec := "tablesBack", unfollowed := true, recurses := true, apart := false, narrowed := true }
def TablesBackUptoSaid : Prop := tablesBackUptoRow.holds Try.pinned (OpenSpec.upto tablesBackSpec)

/-- 'pressworklaw24.TablesSame', WHERE WHAT IT READS IS OF BULK AT MOST 1048576: true; the input reads as it did. -/
def tablesSameUptoRow : OpenClaim := { program := "yteabjmebnbaonaa", sum := "f3449f2c07b59d3e52da16c00379e160130a2fba62f73b41a341cfca729c9be2", func := "presswork/pressworklaw24.TablesSame", spec := "tablesSame", unfollowed := true, recurses := true, apart := false, narrowed := true }
def TablesSameUptoSaid : Prop := tablesSameUptoRow.holds Try.pinned (OpenSpec.upto tablesSameSpec)

end Rows
end Go.Proofs.Yteabjmebnbaonaa
