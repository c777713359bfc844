/-
  No cell of these rows narrows 'for every input' (looked for: loops, veiled, ifaces, maps, wideKeys, modest, calm, conditions, laid).
  DERIVED. THE GIVEN ROWS OF THIS SEAT. 14 by the template 'for every input the law returns true; each argument reads behind the call as it read before'; 0 by the template 'total and deterministic' (their statements: YtnmibfdpaamlgaaTotals.lean).
  GIVEN WITH THE SEED: the statements are not yours to turn. If you find one false, say at which input.
  Laid BY PROGRAM, IN A SANDBOX (cutbox-rows.mjs): the forced cells as the released guide's own fill.sh prints them over the translation 9682d80766cc9d00… (all of the seat's roots in one cut). By AI agents, Wed Nov 11 2026. No macro, syntax, notation, axiom, sorry.
-/
import Derived.Test.YtnmibfdpaamlgaaChecked
import GoSem.Claim
import GoSem.ClaimJoined
import GoSem.ClaimMapViews
import Derived.JoinedTies
import Derived.KernelRfl
namespace Go.Proofs.Ytnmibfdpaamlgaa
/- THE CELL 'sum', in the pinned program and in every row, IS THE sha256 OF THE DUMP (.gsa) THAT YtnmibfdpaamlgaaProg.lean LOADS. Nothing in Lean hashes anything: it is a label: what it is worth is what the hold of that sum in a sandbox is worth. -/
noncomputable def Try.pinned : Pinned := { name := "ytnmibfdpaamlgaa", sum := "9682d80766cc9d00f07b574736fb50bad1580669e310f3a5b6c2586b3b169e84", checked := Try.checked }
namespace Rows
def none {H : Type} : Left H := { results := [], args := [] }

/-- 'pressworklaw01.LsbSplit': WHATEVER THE INPUT: true; the input reads as it did. -/
def lsbSplitSpec : ChangeSpec := { name := "lsbSplit", fn := fun _ => fun
  | [d1, d2, d3, d4] => { results := [.lit (.bool true)], args := [d1, d2, d3, d4] }
  | _ => none }
def lsbSplitRow : OpenClaim := { program := "ytnmibfdpaamlgaa", sum := "9682d80766cc9d00f07b574736fb50bad1580669e310f3a5b6c2586b3b169e84", func := "presswork/pressworklaw01.LsbSplit", spec := "lsbSplit", unfollowed := true, recurses := true, apart := false }
def LsbSplitSaid : Prop := lsbSplitRow.holds Try.pinned (OpenSpec.ofChange lsbSplitSpec)

/-- ITS FALSE NEIGHBOUR: 'it returns false'. Refute it at one input. -/
def lsbSplitWrong : ChangeSpec := { name := "lsbSplit", fn := fun _ => fun
  | [d1, d2, d3, d4] => { results := [.lit (.bool false)], args := [d1, d2, d3, d4] }
  | _ => none }
def LsbSplitWrongFalsely : Prop := lsbSplitRow.holds Try.pinned (OpenSpec.ofChange lsbSplitWrong)

/-- 'pressworklaw02.MsbSplit': WHATEVER THE INPUT: true; the input reads as it did. -/
def msbSplitSpec : ChangeSpec := { name := "msbSplit", fn := fun _ => fun
  | [d1, d2, d3, d4] => { results := [.lit (.bool true)], args := [d1, d2, d3, d4] }
  | _ => none }
def msbSplitRow : OpenClaim := { program := "ytnmibfdpaamlgaa", sum := "9682d80766cc9d00f07b574736fb50bad1580669e310f3a5b6c2586b3b169e84", func := "presswork/pressworklaw02.MsbSplit", spec := "msbSplit", unfollowed := true, recurses := true, apart := false }
def MsbSplitSaid : Prop := msbSplitRow.holds Try.pinned (OpenSpec.ofChange msbSplitSpec)

/-- ITS FALSE NEIGHBOUR: 'it returns false'. Refute it at one input. -/
def msbSplitWrong : ChangeSpec := { name := "msbSplit", fn := fun _ => fun
  | [d1, d2, d3, d4] => { results := [.lit (.bool false)], args := [d1, d2, d3, d4] }
  | _ => none }
def MsbSplitWrongFalsely : Prop := msbSplitRow.holds Try.pinned (OpenSpec.ofChange msbSplitWrong)

/-- 'pressworklaw01.LsbReads': WHATEVER THE INPUT: true; the input reads as it did. -/
def lsbReadsSpec : ChangeSpec := { name := "lsbReads", fn := fun _ => fun
  | [d1, d2] => { results := [.lit (.bool true)], args := [d1, d2] }
  | _ => none }
def lsbReadsRow : OpenClaim := { program := "ytnmibfdpaamlgaa", sum := "9682d80766cc9d00f07b574736fb50bad1580669e310f3a5b6c2586b3b169e84", func := "presswork/pressworklaw01.LsbReads", spec := "lsbReads", unfollowed := true, recurses := true, apart := false }
def LsbReadsSaid : Prop := lsbReadsRow.holds Try.pinned (OpenSpec.ofChange lsbReadsSpec)

/-- ITS FALSE NEIGHBOUR: 'it returns false'. Refute it at one input. -/
def lsbReadsWrong : ChangeSpec := { name := "lsbReads", fn := fun _ => fun
  | [d1, d2] => { results := [.lit (.bool false)], args := [d1, d2] }
  | _ => none }
def LsbReadsWrongFalsely : Prop := lsbReadsRow.holds Try.pinned (OpenSpec.ofChange lsbReadsWrong)

/-- 'pressworklaw02.MsbReads': WHATEVER THE INPUT: true; the input reads as it did. -/
def msbReadsSpec : ChangeSpec := { name := "msbReads", fn := fun _ => fun
  | [d1, d2] => { results := [.lit (.bool true)], args := [d1, d2] }
  | _ => none }
def msbReadsRow : OpenClaim := { program := "ytnmibfdpaamlgaa", sum := "9682d80766cc9d00f07b574736fb50bad1580669e310f3a5b6c2586b3b169e84", func := "presswork/pressworklaw02.MsbReads", spec := "msbReads", unfollowed := true, recurses := true, apart := false }
def MsbReadsSaid : Prop := msbReadsRow.holds Try.pinned (OpenSpec.ofChange msbReadsSpec)

/-- ITS FALSE NEIGHBOUR: 'it returns false'. Refute it at one input. -/
def msbReadsWrong : ChangeSpec := { name := "msbReads", fn := fun _ => fun
  | [d1, d2] => { results := [.lit (.bool false)], args := [d1, d2] }
  | _ => none }
def MsbReadsWrongFalsely : Prop := msbReadsRow.holds Try.pinned (OpenSpec.ofChange msbReadsWrong)

/-- 'pressworklaw01.LsbKnown': WHATEVER THE INPUT: true; the input reads as it did. -/
def lsbKnownSpec : ChangeSpec := { name := "lsbKnown", fn := fun _ => fun
  | [] => { results := [.lit (.bool true)], args := [] }
  | _ => none }
def lsbKnownRow : OpenClaim := { program := "ytnmibfdpaamlgaa", sum := "9682d80766cc9d00f07b574736fb50bad1580669e310f3a5b6c2586b3b169e84", func := "presswork/pressworklaw01.LsbKnown", spec := "lsbKnown", unfollowed := true, recurses := true, apart := false }
def LsbKnownSaid : Prop := lsbKnownRow.holds Try.pinned (OpenSpec.ofChange lsbKnownSpec)

/-- ITS FALSE NEIGHBOUR: 'it returns false'. Refute it at one input. -/
def lsbKnownWrong : ChangeSpec := { name := "lsbKnown", fn := fun _ => fun
  | [] => { results := [.lit (.bool false)], args := [] }
  | _ => none }
def LsbKnownWrongFalsely : Prop := lsbKnownRow.holds Try.pinned (OpenSpec.ofChange lsbKnownWrong)

/-- 'pressworklaw02.MsbKnown': WHATEVER THE INPUT: true; the input reads as it did. -/
def msbKnownSpec : ChangeSpec := { name := "msbKnown", fn := fun _ => fun
  | [] => { results := [.lit (.bool true)], args := [] }
  | _ => none }
def msbKnownRow : OpenClaim := { program := "ytnmibfdpaamlgaa", sum := "9682d80766cc9d00f07b574736fb50bad1580669e310f3a5b6c2586b3b169e84", func := "presswork/pressworklaw02.MsbKnown", spec := "msbKnown", unfollowed := true, recurses := true, apart := false }
def MsbKnownSaid : Prop := msbKnownRow.holds Try.pinned (OpenSpec.ofChange msbKnownSpec)

/-- ITS FALSE NEIGHBOUR: 'it returns false'. Refute it at one input. -/
def msbKnownWrong : ChangeSpec := { name := "msbKnown", fn := fun _ => fun
  | [] => { results := [.lit (.bool false)], args := [] }
  | _ => none }
def MsbKnownWrongFalsely : Prop := msbKnownRow.holds Try.pinned (OpenSpec.ofChange msbKnownWrong)

/-- 'pressworklaw01.LsbAdds': WHATEVER THE INPUT: true; the input reads as it did. -/
def lsbAddsSpec : ChangeSpec := { name := "lsbAdds", fn := fun _ => fun
  | [d1, d2] => { results := [.lit (.bool true)], args := [d1, d2] }
  | _ => none }
def lsbAddsRow : OpenClaim := { program := "ytnmibfdpaamlgaa", sum := "9682d80766cc9d00f07b574736fb50bad1580669e310f3a5b6c2586b3b169e84", func := "presswork/pressworklaw01.LsbAdds", spec := "lsbAdds", unfollowed := true, recurses := true, apart := false }
def LsbAddsSaid : Prop := lsbAddsRow.holds Try.pinned (OpenSpec.ofChange lsbAddsSpec)

/-- ITS FALSE NEIGHBOUR: 'it returns false'. Refute it at one input. -/
def lsbAddsWrong : ChangeSpec := { name := "lsbAdds", fn := fun _ => fun
  | [d1, d2] => { results := [.lit (.bool false)], args := [d1, d2] }
  | _ => none }
def LsbAddsWrongFalsely : Prop := lsbAddsRow.holds Try.pinned (OpenSpec.ofChange lsbAddsWrong)

/-- 'pressworklaw02.MsbAdds': WHATEVER THE INPUT: true; the input reads as it did. -/
def msbAddsSpec : ChangeSpec := { name := "msbAdds", fn := fun _ => fun
  | [d1, d2] => { results := [.lit (.bool true)], args := [d1, d2] }
  | _ => none }
def msbAddsRow : OpenClaim := { program := "ytnmibfdpaamlgaa", sum := "9682d80766cc9d00f07b574736fb50bad1580669e310f3a5b6c2586b3b169e84", func := "presswork/pressworklaw02.MsbAdds", spec := "msbAdds", unfollowed := true, recurses := true, apart := false }
def MsbAddsSaid : Prop := msbAddsRow.holds Try.pinned (OpenSpec.ofChange msbAddsSpec)

/-- ITS FALSE NEIGHBOUR: 'it returns false'. Refute it at one input. -/
def msbAddsWrong : ChangeSpec := { name := "msbAdds", fn := fun _ => fun
  | [d1, d2] => { results := [.lit (.bool false)], args := [d1, d2] }
  | _ => none }
def MsbAddsWrongFalsely : Prop := msbAddsRow.holds Try.pinned (OpenSpec.ofChange msbAddsWrong)

/-- 'pressworklaw01.LsbBack': WHATEVER THE INPUT: true; the input reads as it did. -/
def lsbBackSpec : ChangeSpec := { name := "lsbBack", fn := fun _ => fun
  | [d] => { results := [.lit (.bool true)], args := [d] }
  | _ => none }
def lsbBackRow : OpenClaim := { program := "ytnmibfdpaamlgaa", sum := "9682d80766cc9d00f07b574736fb50bad1580669e310f3a5b6c2586b3b169e84", func := "presswork/pressworklaw01.LsbBack", spec := "lsbBack", unfollowed := true, recurses := true, apart := false }
def LsbBackSaid : Prop := lsbBackRow.holds Try.pinned (OpenSpec.ofChange lsbBackSpec)

/-- ITS FALSE NEIGHBOUR: 'it returns false'. Refute it at one input. -/
def lsbBackWrong : ChangeSpec := { name := "lsbBack", fn := fun _ => fun
  | [d] => { results := [.lit (.bool false)], args := [d] }
  | _ => none }
def LsbBackWrongFalsely : Prop := lsbBackRow.holds Try.pinned (OpenSpec.ofChange lsbBackWrong)

/-- 'pressworklaw02.MsbBack': WHATEVER THE INPUT: true; the input reads as it did. -/
def msbBackSpec : ChangeSpec := { name := "msbBack", fn := fun _ => fun
  | [d] => { results := [.lit (.bool true)], args := [d] }
  | _ => none }
def msbBackRow : OpenClaim := { program := "ytnmibfdpaamlgaa", sum := "9682d80766cc9d00f07b574736fb50bad1580669e310f3a5b6c2586b3b169e84", func := "presswork/pressworklaw02.MsbBack", spec := "msbBack", unfollowed := true, recurses := true, apart := false }
def MsbBackSaid : Prop := msbBackRow.holds Try.pinned (OpenSpec.ofChange msbBackSpec)

/-- ITS FALSE NEIGHBOUR: 'it returns false'. Refute it at one input. -/
def msbBackWrong : ChangeSpec := { name := "msbBack", fn := fun _ => fun
  | [d] => { results := [.lit (.bool false)], args := [d] }
  | _ => none }
def MsbBackWrongFalsely : Prop := msbBackRow.holds Try.pinned (OpenSpec.ofChange msbBackWrong)

/-- 'pressworklaw01.LsbWrites': WHATEVER THE INPUT: true; the input reads as it did. -/
def lsbWritesSpec : ChangeSpec := { name := "lsbWrites", fn := fun _ => fun
  | [d] => { results := [.lit (.bool true)], args := [d] }
  | _ => none }
def lsbWritesRow : OpenClaim := { program := "ytnmibfdpaamlgaa", sum := "9682d80766cc9d00f07b574736fb50bad1580669e310f3a5b6c2586b3b169e84", func := "presswork/pressworklaw01.LsbWrites", spec := "lsbWrites", unfollowed := true, recurses := true, apart := false }
def LsbWritesSaid : Prop := lsbWritesRow.holds Try.pinned (OpenSpec.ofChange lsbWritesSpec)

/-- ITS FALSE NEIGHBOUR: 'it returns false'. Refute it at one input. -/
def lsbWritesWrong : ChangeSpec := { name := "lsbWrites", fn := fun _ => fun
  | [d] => { results := [.lit (.bool false)], args := [d] }
  | _ => none }
def LsbWritesWrongFalsely : Prop := lsbWritesRow.holds Try.pinned (OpenSpec.ofChange lsbWritesWrong)

/-- 'pressworklaw02.MsbWrites': WHATEVER THE INPUT: true; the input reads as it did. -/
def msbWritesSpec : ChangeSpec := { name := "msbWrites", fn := fun _ => fun
  | [d] => { results := [.lit (.bool true)], args := [d] }
  | _ => none }
def msbWritesRow : OpenClaim := { program := "ytnmibfdpaamlgaa", sum := "9682d80766cc9d00f07b574736fb50bad1580669e310f3a5b6c2586b3b169e84", func := "presswork/pressworklaw02.MsbWrites", spec := "msbWrites", unfollowed := true, recurses := true, apart := false }
def MsbWritesSaid : Prop := msbWritesRow.holds Try.pinned (OpenSpec.ofChange msbWritesSpec)

/-- ITS FALSE NEIGHBOUR: 'it returns false'. Refute it at one input. -/
def msbWritesWrong : ChangeSpec := { name := "msbWrites", fn := fun _ => fun
  | [d] => { results := [.lit (.bool false)], args := [d] }
  | _ => none }
def MsbWritesWrongFalsely : Prop := msbWritesRow.holds Try.pinned (OpenSpec.ofChange msbWritesWrong)

/-- 'pressworklaw01.LsbNil': WHATEVER THE INPUT: true; the input reads as it did. -/
def lsbNilSpec : ChangeSpec := { name := "lsbNil", fn := fun _ => fun
  | [d1, d2] => { results := [.lit (.bool true)], args := [d1, d2] }
  | _ => none }
def lsbNilRow : OpenClaim := { program := "ytnmibfdpaamlgaa", sum := "9682d80766cc9d00f07b574736fb50bad1580669e310f3a5b6c2586b3b169e84", func := "presswork/pressworklaw01.LsbNil", spec := "lsbNil", unfollowed := true, recurses := true, apart := false }
def LsbNilSaid : Prop := lsbNilRow.holds Try.pinned (OpenSpec.ofChange lsbNilSpec)

/-- ITS FALSE NEIGHBOUR: 'it returns false'. Refute it at one input. -/
def lsbNilWrong : ChangeSpec := { name := "lsbNil", fn := fun _ => fun
  | [d1, d2] => { results := [.lit (.bool false)], args := [d1, d2] }
  | _ => none }
def LsbNilWrongFalsely : Prop := lsbNilRow.holds Try.pinned (OpenSpec.ofChange lsbNilWrong)

/-- 'pressworklaw02.MsbNil': WHATEVER THE INPUT: true; the input reads as it did. -/
def msbNilSpec : ChangeSpec := { name := "msbNil", fn := fun _ => fun
  | [d1, d2] => { results := [.lit (.bool true)], args := [d1, d2] }
  | _ => none }
def msbNilRow : OpenClaim := { program := "ytnmibfdpaamlgaa", sum := "9682d80766cc9d00f07b574736fb50bad1580669e310f3a5b6c2586b3b169e84", func := "presswork/pressworklaw02.MsbNil", spec := "msbNil", unfollowed := true, recurses := true, apart := false }
def MsbNilSaid : Prop := msbNilRow.holds Try.pinned (OpenSpec.ofChange msbNilSpec)

/-- ITS FALSE NEIGHBOUR: 'it returns false'. Refute it at one input. -/
def msbNilWrong : ChangeSpec := { name := "msbNil", fn := fun _ => fun
  | [d1, d2] => { results := [.lit (.bool false)], args := [d1, d2] }
  | _ => none }
def MsbNilWrongFalsely : Prop := msbNilRow.holds Try.pinned (OpenSpec.ofChange msbNilWrong)

/- THE SECOND FORM. 'bulk': how many values and letters a reading holds, each counted each time it is reached (what is shared counts as often as it is met; a slice's spare places count too). A statement '..UptoSaid' is the law's where the arguments, and the package variables that the reading takes, are together of bulk at most 1048576: NARROWER than '..Said'. Prove '..Said' where nothing that the law and all that it calls make is longer than what came in: it says more and counts as full. Else prove '..UptoSaid'. A law counts once. -/
mutual
def uptoBulk {H : Type} : DataW H → Nat
  | .lit (.string bytes) => bytes.length + 1
  | .lit _ => 1
  | .nil => 1
  | .ptr d => uptoBulk d + 1
  | .slice elems spare => uptoBulkAll elems + uptoBulkAll spare + 1
  | .agg parts => uptoBulkAll parts + 1
  | .iface _ d => uptoBulk d + 1
  | .map entries => uptoBulkEntries entries + 1
  | .held _ => 1
def uptoBulkAll {H : Type} : List (DataW H) → Nat
  | [] => 0
  | d :: r => uptoBulk d + uptoBulkAll r
def uptoBulkEntries {H : Type} : List (Lit × DataW H) → Nat
  | [] => 0
  | x :: r => uptoBulkEntry x + uptoBulkEntries r
def uptoBulkEntry {H : Type} : Lit × DataW H → Nat
  | (.string bytes, d) => bytes.length + uptoBulk d + 1
  | (_, d) => uptoBulk d + 1
 end
def uptoSmall : (H : Type) → List (DataW H) → Bool := fun _ ds => decide (uptoBulkAll ds ≤ 1048576)
def OpenSpec.upto (s : _root_.Go.ChangeSpec) : _root_.Go.OpenSpec := { _root_.Go.OpenSpec.ofChange s with cond := some uptoSmall }

/-- 'pressworklaw01.LsbSplit', WHERE WHAT IT READS IS OF BULK AT MOST 1048576: true; the input reads as it did. -/
def lsbSplitUptoRow : OpenClaim := { program := "ytnmibfdpaamlgaa", sum := "9682d80766cc9d00f07b574736fb50bad1580669e310f3a5b6c2586b3b169e84", func := "presswork/pressworklaw01.LsbSplit", spec := "lsbSplit", unfollowed := true, recurses := true, apart := false, narrowed := true }
def LsbSplitUptoSaid : Prop := lsbSplitUptoRow.holds Try.pinned (OpenSpec.upto lsbSplitSpec)

/-- 'pressworklaw02.MsbSplit', WHERE WHAT IT READS IS OF BULK AT MOST 1048576: true; the input reads as it did. -/
def msbSplitUptoRow : OpenClaim := { program := "ytnmibfdpaamlgaa", sum := "9682d80766cc9d00f07b574736fb50bad1580669e310f3a5b6c2586b3b169e84", func := "presswork/pressworklaw02.MsbSplit", spec := "msbSplit", unfollowed := true, recurses := true, apart := false, narrowed := true }
def MsbSplitUptoSaid : Prop := msbSplitUptoRow.holds Try.pinned (OpenSpec.upto msbSplitSpec)

/-- 'pressworklaw01.LsbReads', WHERE WHAT IT READS IS OF BULK AT MOST 1048576: true; the input reads as it did. -/
def lsbReadsUptoRow : OpenClaim := { program := "ytnmibfdpaamlgaa", sum := "9682d80766cc9d00f07b574736fb50bad1580669e310f3a5b6c2586b3b169e84", func := "presswork/pressworklaw01.LsbReads", spec := "lsbReads", unfollowed := true, recurses := true, apart := false, narrowed := true }
def LsbReadsUptoSaid : Prop := lsbReadsUptoRow.holds Try.pinned (OpenSpec.upto lsbReadsSpec)

/-- 'pressworklaw02.MsbReads', WHERE WHAT IT READS IS OF BULK AT MOST 1048576: true; the input reads as it did. -/
def msbReadsUptoRow : OpenClaim := { program := "ytnmibfdpaamlgaa", sum := "9682d80766cc9d00f07b574736fb50bad1580669e310f3a5b6c2586b3b169e84", func := "presswork/pressworklaw02.MsbReads", spec := "msbReads", unfollowed := true, recurses := true, apart := false, narrowed := true }
def MsbReadsUptoSaid : Prop := msbReadsUptoRow.holds Try.pinned (OpenSpec.upto msbReadsSpec)

/-- 'pressworklaw01.LsbKnown', WHERE WHAT IT READS IS OF BULK AT MOST 1048576: true; the input reads as it did. -/
def lsbKnownUptoRow : OpenClaim := { program := "ytnmibfdpaamlgaa", sum := "9682d80766cc9d00f07b574736fb50bad1580669e310f3a5b6c2586b3b169e84", func := "presswork/pressworklaw01.LsbKnown", spec := "lsbKnown", unfollowed := true, recurses := true, apart := false, narrowed := true }
def LsbKnownUptoSaid : Prop := lsbKnownUptoRow.holds Try.pinned (OpenSpec.upto lsbKnownSpec)

/-- 'pressworklaw02.MsbKnown', WHERE WHAT IT READS IS OF BULK AT MOST 1048576: true; the input reads as it did. -/
def msbKnownUptoRow : OpenClaim := { program := "ytnmibfdpaamlgaa", sum := "9682d80766cc9d00f07b574736fb50bad1580669e310f3a5b6c2586b3b169e84", func := "presswork/pressworklaw02.MsbKnown", spec := "msbKnown", unfollowed := true, recurses := true, apart := false, narrowed := true }
def MsbKnownUptoSaid : Prop := msbKnownUptoRow.holds Try.pinned (OpenSpec.upto msbKnownSpec)

/-- 'pressworklaw01.LsbAdds', WHERE WHAT IT READS IS OF BULK AT MOST 1048576: true; the input reads as it did. -/
def lsbAddsUptoRow : OpenClaim := { program := "ytnmibfdpaamlgaa", sum := "9682d80766cc9d00f07b574736fb50bad1580669e310f3a5b6c2586b3b169e84", func := "presswork/pressworklaw01.LsbAdds", spec := "lsbAdds", unfollowed := true, recurses := true, apart := false, narrowed := true }
def LsbAddsUptoSaid : Prop := lsbAddsUptoRow.holds Try.pinned (OpenSpec.upto lsbAddsSpec)

/-- 'pressworklaw02.MsbAdds', WHERE WHAT IT READS IS OF BULK AT MOST 1048576: true; the input reads as it did. -/
def msbAddsUptoRow : OpenClaim := { program := "ytnmibfdpaamlgaa", sum := "9682d80766cc9d00f07b574736fb50bad1580669e310f3a5b6c2586b3b169e84", func := "presswork/pressworklaw02.MsbAdds", spec := "msbAdds", unfollowed := true, recurses := true, apart := false, narrowed := true }
def MsbAddsUptoSaid : Prop := msbAddsUptoRow.holds Try.pinned (OpenSpec.upto msbAddsSpec)

/-- 'pressworklaw01.LsbBack', WHERE WHAT IT READS IS OF BULK AT MOST 1048576: true; the input reads as it did. -/
def lsbBackUptoRow : OpenClaim := { program := "ytnmibfdpaamlgaa", sum := "9682d80766cc9d00f07b574736fb50bad1580669e310f3a5b6c2586b3b169e84", func := "presswork/pressworklaw01.LsbBack", spec := "lsbBack", unfollowed := true, recurses := true, apart := false, narrowed := true }
def LsbBackUptoSaid : Prop := lsbBackUptoRow.holds Try.pinned (OpenSpec.upto lsbBackSpec)

/-- 'pressworklaw02.MsbBack', WHERE WHAT IT READS IS OF BULK AT MOST 1048576: true; the input reads as it did. -/
def msbBackUptoRow : OpenClaim := { program := "ytnmibfdpaamlgaa", sum := "9682d80766cc9d00f07b574736fb50bad1580669e310f3a5b6c2586b3b169e84", func := "presswork/pressworklaw02.MsbBack", spec := "msbBack", unfollowed := true, recurses := true, apart := false, narrowed := true }
def MsbBackUptoSaid : Prop := msbBackUptoRow.holds Try.pinned (OpenSpec.upto msbBackSpec)

/-- 'pressworklaw01.LsbWrites', WHERE WHAT IT READS IS OF BULK AT MOST 1048576: true; the input reads as it did. -/
def lsbWritesUptoRow : OpenClaim := { program := "ytnmibfdpaamlgaa", sum := "9682d80766cc9d00f07b574736fb50bad1580669e310f3a5b6c2586b3b169e84", func := "presswork/pressworklaw01.LsbWrites", spec := "lsbWrites", unfollowed := true, recurses := true, apart := false, narrowed := true }
def LsbWritesUptoSaid : Prop := lsbWritesUptoRow.holds Try.pinned (OpenSpec.upto lsbWritesSpec)

/-- 'pressworklaw02.MsbWrites', WHERE WHAT IT READS IS OF BULK AT MOST 1048576: true; the input reads as it did. -/
def msbWritesUptoRow : OpenClaim := { program := "ytnmibfdpaamlgaa", sum := "9682d80766cc9d00f07b574736fb50bad1580669e310f3a5b6c2586b3b169e84", func := "presswork/pressworklaw02.MsbWrites", spec := "msbWrites", unfollowed := true, recurses := true, apart := false, narrowed := true }
def MsbWritesUptoSaid : Prop := msbWritesUptoRow.holds Try.pinned (OpenSpec.upto msbWritesSpec)

/-- 'pressworklaw01.LsbNil', WHERE WHAT IT READS IS OF BULK AT MOST 1048576: true; the input reads as it did. -/
def lsbNilUptoRow : OpenClaim := { program := "ytnmibfdpaamlgaa", sum := "9682d80766cc9d00f07b574736fb50bad1580669e310f3a5b6c2586b3b169e84", func := "presswork/pressworklaw01.LsbNil", spec := "lsbNil", unfollowed := true, recurses := true, apart := false, narrowed := true }
def LsbNilUptoSaid : Prop := lsbNilUptoRow.holds Try.pinned (OpenSpec.upto lsbNilSpec)

/-- 'pressworklaw02.MsbNil', WHERE WHAT IT READS IS OF BULK AT MOST 1048576: true; the input reads as it did. -/
def msbNilUptoRow : OpenClaim := { program := "ytnmibfdpaamlgaa", sum := "9682d80766cc9d00f07b574736fb50bad1580669e310f3a5b6c2586b3b169e84", func := "presswork/pressworklaw02.MsbNil", spec := "msbNil", unfollowed := true, recurses := true, apart := false, narrowed := true }
def MsbNilUptoSaid : Prop := msbNilUptoRow.holds Try.pinned (OpenSpec.upto msbNilSpec)

end Rows
end Go.Proofs.Ytnmibfdpaamlgaa
