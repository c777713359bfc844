/-
  No cell of these rows narrows 'for every input' (looked for: loops, veiled, ifaces, maps, wideKeys, modest, calm, conditions, laid).
  DERIVED. THE GIVEN ROWS OF THIS SEAT. 7 by the template 'for every input the law returns true; each argument reads behind the call as it read before'; 0 by the template 'total and deterministic' (their statements: YtblbggdglndiiaaTotals.lean).
  GIVEN WITH THE SEED: the statements are not yours to turn. If you find one false, say at which input.
  Laid BY PROGRAM, IN A SANDBOX (cutbox-rows.mjs): the forced cells as the released guide's own fill.sh prints them over the translation 7d34dd07921beef8… (all of the seat's roots in one cut). By AI agents, Wed Nov 11 2026. No macro, syntax, notation, axiom, sorry.
-/
import Derived.Test.YtblbggdglndiiaaChecked
import GoSem.Claim
import GoSem.ClaimJoined
import GoSem.ClaimMapViews
import Derived.JoinedTies
import Derived.KernelRfl
namespace Go.Proofs.Ytblbggdglndiiaa
/- THE CELL 'sum', in the pinned program and in every row, IS THE sha256 OF THE DUMP (.gsa) THAT YtblbggdglndiiaaProg.lean LOADS. Nothing in Lean hashes anything: it is a label: what it is worth is what the hold of that sum in a sandbox is worth. -/
noncomputable def Try.pinned : Pinned := { name := "ytblbggdglndiiaa", sum := "7d34dd07921beef8d78a54eeb302e5e30e1aee37487567538f1105b20869f401", checked := Try.checked }
namespace Rows
def none {H : Type} : Left H := { results := [], args := [] }

/-- 'pressworklaw05.LimitFree': WHATEVER THE INPUT: true; the input reads as it did. -/
def limitFreeSpec : ChangeSpec := { name := "limitFree", fn := fun _ => fun
  | [d] => { results := [.lit (.bool true)], args := [d] }
  | _ => none }
def limitFreeRow : OpenClaim := { program := "ytblbggdglndiiaa", sum := "7d34dd07921beef8d78a54eeb302e5e30e1aee37487567538f1105b20869f401", func := "presswork/pressworklaw05.LimitFree", spec := "limitFree", unfollowed := true, recurses := true, apart := false }
def LimitFreeSaid : Prop := limitFreeRow.holds Try.pinned (OpenSpec.ofChange limitFreeSpec)

/-- ITS FALSE NEIGHBOUR: 'it returns false'. Refute it at one input. -/
def limitFreeWrong : ChangeSpec := { name := "limitFree", fn := fun _ => fun
  | [d] => { results := [.lit (.bool false)], args := [d] }
  | _ => none }
def LimitFreeWrongFalsely : Prop := limitFreeRow.holds Try.pinned (OpenSpec.ofChange limitFreeWrong)

/-- 'pressworklaw05.LimitFall': WHATEVER THE INPUT: true; the input reads as it did. -/
def limitFallSpec : ChangeSpec := { name := "limitFall", fn := fun _ => fun
  | [d1, d2, d3] => { results := [.lit (.bool true)], args := [d1, d2, d3] }
  | _ => none }
def limitFallRow : OpenClaim := { program := "ytblbggdglndiiaa", sum := "7d34dd07921beef8d78a54eeb302e5e30e1aee37487567538f1105b20869f401", func := "presswork/pressworklaw05.LimitFall", spec := "limitFall", unfollowed := true, recurses := true, apart := false }
def LimitFallSaid : Prop := limitFallRow.holds Try.pinned (OpenSpec.ofChange limitFallSpec)

/-- ITS FALSE NEIGHBOUR: 'it returns false'. Refute it at one input. -/
def limitFallWrong : ChangeSpec := { name := "limitFall", fn := fun _ => fun
  | [d1, d2, d3] => { results := [.lit (.bool false)], args := [d1, d2, d3] }
  | _ => none }
def LimitFallWrongFalsely : Prop := limitFallRow.holds Try.pinned (OpenSpec.ofChange limitFallWrong)

/-- 'pressworklaw05.LimitGrows': WHATEVER THE INPUT: true; the input reads as it did. -/
def limitGrowsSpec : ChangeSpec := { name := "limitGrows", fn := fun _ => fun
  | [d1, d2, d3, d4] => { results := [.lit (.bool true)], args := [d1, d2, d3, d4] }
  | _ => none }
def limitGrowsRow : OpenClaim := { program := "ytblbggdglndiiaa", sum := "7d34dd07921beef8d78a54eeb302e5e30e1aee37487567538f1105b20869f401", func := "presswork/pressworklaw05.LimitGrows", spec := "limitGrows", unfollowed := true, recurses := true, apart := false }
def LimitGrowsSaid : Prop := limitGrowsRow.holds Try.pinned (OpenSpec.ofChange limitGrowsSpec)

/-- ITS FALSE NEIGHBOUR: 'it returns false'. Refute it at one input. -/
def limitGrowsWrong : ChangeSpec := { name := "limitGrows", fn := fun _ => fun
  | [d1, d2, d3, d4] => { results := [.lit (.bool false)], args := [d1, d2, d3, d4] }
  | _ => none }
def LimitGrowsWrongFalsely : Prop := limitGrowsRow.holds Try.pinned (OpenSpec.ofChange limitGrowsWrong)

/-- 'pressworklaw05.LimitTight': WHATEVER THE INPUT: true; the input reads as it did. -/
def limitTightSpec : ChangeSpec := { name := "limitTight", fn := fun _ => fun
  | [d1, d2] => { results := [.lit (.bool true)], args := [d1, d2] }
  | _ => none }
def limitTightRow : OpenClaim := { program := "ytblbggdglndiiaa", sum := "7d34dd07921beef8d78a54eeb302e5e30e1aee37487567538f1105b20869f401", func := "presswork/pressworklaw05.LimitTight", spec := "limitTight", unfollowed := true, recurses := true, apart := false }
def LimitTightSaid : Prop := limitTightRow.holds Try.pinned (OpenSpec.ofChange limitTightSpec)

/-- ITS FALSE NEIGHBOUR: 'it returns false'. Refute it at one input. -/
def limitTightWrong : ChangeSpec := { name := "limitTight", fn := fun _ => fun
  | [d1, d2] => { results := [.lit (.bool false)], args := [d1, d2] }
  | _ => none }
def LimitTightWrongFalsely : Prop := limitTightRow.holds Try.pinned (OpenSpec.ofChange limitTightWrong)

/-- 'pressworklaw05.LimitKnown': WHATEVER THE INPUT: true; the input reads as it did. -/
def limitKnownSpec : ChangeSpec := { name := "limitKnown", fn := fun _ => fun
  | [] => { results := [.lit (.bool true)], args := [] }
  | _ => none }
def limitKnownRow : OpenClaim := { program := "ytblbggdglndiiaa", sum := "7d34dd07921beef8d78a54eeb302e5e30e1aee37487567538f1105b20869f401", func := "presswork/pressworklaw05.LimitKnown", spec := "limitKnown", unfollowed := true, recurses := true, apart := false }
def LimitKnownSaid : Prop := limitKnownRow.holds Try.pinned (OpenSpec.ofChange limitKnownSpec)

/-- ITS FALSE NEIGHBOUR: 'it returns false'. Refute it at one input. -/
def limitKnownWrong : ChangeSpec := { name := "limitKnown", fn := fun _ => fun
  | [] => { results := [.lit (.bool false)], args := [] }
  | _ => none }
def LimitKnownWrongFalsely : Prop := limitKnownRow.holds Try.pinned (OpenSpec.ofChange limitKnownWrong)

/-- 'pressworklaw05.LimitAsks': WHATEVER THE INPUT: true; the input reads as it did. -/
def limitAsksSpec : ChangeSpec := { name := "limitAsks", fn := fun _ => fun
  | [d1, d2] => { results := [.lit (.bool true)], args := [d1, d2] }
  | _ => none }
def limitAsksRow : OpenClaim := { program := "ytblbggdglndiiaa", sum := "7d34dd07921beef8d78a54eeb302e5e30e1aee37487567538f1105b20869f401", func := "presswork/pressworklaw05.LimitAsks", spec := "limitAsks", unfollowed := true, recurses := true, apart := false }
def LimitAsksSaid : Prop := limitAsksRow.holds Try.pinned (OpenSpec.ofChange limitAsksSpec)

/-- ITS FALSE NEIGHBOUR: 'it returns false'. Refute it at one input. -/
def limitAsksWrong : ChangeSpec := { name := "limitAsks", fn := fun _ => fun
  | [d1, d2] => { results := [.lit (.bool false)], args := [d1, d2] }
  | _ => none }
def LimitAsksWrongFalsely : Prop := limitAsksRow.holds Try.pinned (OpenSpec.ofChange limitAsksWrong)

/-- 'pressworklaw05.LimitBest': WHATEVER THE INPUT: true; the input reads as it did. -/
def limitBestSpec : ChangeSpec := { name := "limitBest", fn := fun _ => fun
  | [d1, d2, d3] => { results := [.lit (.bool true)], args := [d1, d2, d3] }
  | _ => none }
def limitBestRow : OpenClaim := { program := "ytblbggdglndiiaa", sum := "7d34dd07921beef8d78a54eeb302e5e30e1aee37487567538f1105b20869f401", func := "presswork/pressworklaw05.LimitBest", spec := "limitBest", unfollowed := true, recurses := true, apart := false }
def LimitBestSaid : Prop := limitBestRow.holds Try.pinned (OpenSpec.ofChange limitBestSpec)

/-- ITS FALSE NEIGHBOUR: 'it returns false'. Refute it at one input. -/
def limitBestWrong : ChangeSpec := { name := "limitBest", fn := fun _ => fun
  | [d1, d2, d3] => { results := [.lit (.bool false)], args := [d1, d2, d3] }
  | _ => none }
def LimitBestWrongFalsely : Prop := limitBestRow.holds Try.pinned (OpenSpec.ofChange limitBestWrong)

/- THE SECOND FORM. 'bulk': how many values and letters a reading holds, each counted each time it is reached (what is shared counts as often as it is met; a slice's spare places count too). A statement '..UptoSaid' is the law's where the arguments, and the package variables that the reading takes, are together of bulk at most 1048576: NARROWER than '..Said'. Prove '..Said' where nothing that the law and all that it calls make is longer than what came in: it says more and counts as full. Else prove '..UptoSaid'. A law counts once. -/
mutual
def uptoBulk {H : Type} : DataW H → Nat
  | .lit (.string bytes) => bytes.length + 1
  | .lit _ => 1
  | .nil => 1
  | .ptr d => uptoBulk d + 1
  | .slice elems spare => uptoBulkAll elems + uptoBulkAll spare + 1
  | .agg parts => uptoBulkAll parts + 1
  | .iface _ d => uptoBulk d + 1
  | .map entries => uptoBulkEntries entries + 1
  | .held _ => 1
def uptoBulkAll {H : Type} : List (DataW H) → Nat
  | [] => 0
  | d :: r => uptoBulk d + uptoBulkAll r
def uptoBulkEntries {H : Type} : List (Lit × DataW H) → Nat
  | [] => 0
  | x :: r => uptoBulkEntry x + uptoBulkEntries r
def uptoBulkEntry {H : Type} : Lit × DataW H → Nat
  | (.string bytes, d) => bytes.length + uptoBulk d + 1
  | (_, d) => uptoBulk d + 1
 end
def uptoSmall : (H : Type) → List (DataW H) → Bool := fun _ ds => decide (uptoBulkAll ds ≤ 1048576)
def OpenSpec.upto (s : _root_.Go.ChangeSpec) : _root_.Go.OpenSpec := { _root_.Go.OpenSpec.ofChange s with cond := some uptoSmall }

/-- 'pressworklaw05.LimitFree', WHERE WHAT IT READS IS OF BULK AT MOST 1048576: true; the input reads as it did. -/
def limitFreeUptoRow : OpenClaim := { program := "ytblbggdglndiiaa", sum := "7d34dd07921beef8d78a54eeb302e5e30e1aee37487567538f1105b20869f401", func := "presswork/pressworklaw05.LimitFree", spec := "limitFree", unfollowed := true, recurses := true, apart := false, narrowed := true }
def LimitFreeUptoSaid : Prop := limitFreeUptoRow.holds Try.pinned (OpenSpec.upto limitFreeSpec)

/-- 'pressworklaw05.LimitFall', WHERE WHAT IT READS IS OF BULK AT MOST 1048576: true; the input reads as it did. -/
def limitFallUptoRow : OpenClaim := { program := "ytblbggdglndiiaa", sum := "7d34dd07921beef8d78a54eeb302e5e30e1aee37487567538f1105b20869f401", func := "presswork/pressworklaw05.LimitFall", spec := "limitFall", unfollowed := true, recurses := true, apart := false, narrowed := true }
def LimitFallUptoSaid : Prop := limitFallUptoRow.holds Try.pinned (OpenSpec.upto limitFallSpec)

/-- 'pressworklaw05.LimitGrows', WHERE WHAT IT READS IS OF BULK AT MOST 1048576: true; the input reads as it did. -/
def limitGrowsUptoRow : OpenClaim := { program := "ytblbggdglndiiaa", sum := "7d34dd07921beef8d78a54eeb302e5e30e1aee37487567538f1105b20869f401", func := "presswork/pressworklaw05.LimitGrows", spec := "limitGrows", unfollowed := true, recurses := true, apart := false, narrowed := true }
def LimitGrowsUptoSaid : Prop := limitGrowsUptoRow.holds Try.pinned (OpenSpec.upto limitGrowsSpec)

/-- 'pressworklaw05.LimitTight', WHERE WHAT IT READS IS OF BULK AT MOST 1048576: true; the input reads as it did. -/
def limitTightUptoRow : OpenClaim := { program := "ytblbggdglndiiaa", sum := "7d34dd07921beef8d78a54eeb302e5e30e1aee37487567538f1105b20869f401", func := "presswork/pressworklaw05.LimitTight", spec := "limitTight", unfollowed := true, recurses := true, apart := false, narrowed := true }
def LimitTightUptoSaid : Prop := limitTightUptoRow.holds Try.pinned (OpenSpec.upto limitTightSpec)

/-- 'pressworklaw05.LimitKnown', WHERE WHAT IT READS IS OF BULK AT MOST 1048576: true; the input reads as it did. -/
def limitKnownUptoRow : OpenClaim := { program := "ytblbggdglndiiaa", sum := "7d34dd07921beef8d78a54eeb302e5e30e1aee37487567538f1105b20869f401", func := "presswork/pressworklaw05.LimitKnown", spec := "limitKnown", unfollowed := true, recurses := true, apart := false, narrowed := true }
def LimitKnownUptoSaid : Prop := limitKnownUptoRow.holds Try.pinned (OpenSpec.upto limitKnownSpec)

/-- 'pressworklaw05.LimitAsks', WHERE WHAT IT READS IS OF BULK AT MOST 1048576: true; the input reads as it did. -/
def limitAsksUptoRow : OpenClaim := { program := "ytblbggdglndiiaa", sum := "7d34dd07921beef8d78a54eeb302e5e30e1aee37487567538f1105b20869f401", func := "presswork/pressworklaw05.LimitAsks", spec := "limitAsks", unfollowed := true, recurses := true, apart := false, narrowed := true }
def LimitAsksUptoSaid : Prop := limitAsksUptoRow.holds Try.pinned (OpenSpec.upto limitAsksSpec)

/-- 'pressworklaw05.LimitBest', WHERE WHAT IT READS IS OF BULK AT MOST 1048576: true; the input reads as it did. -/
def limitBestUptoRow : OpenClaim := { program := "ytblbggdglndiiaa", sum := "7d34dd07921beef8d78a54eeb302e5e30e1aee37487567538f1105b20869f401", func := "presswork/pressworklaw05.LimitBest", spec := "limitBest", unfollowed := true, recurses := true, apart := false, narrowed := true }
def LimitBestUptoSaid : Prop := limitBestUptoRow.holds Try.pinned (OpenSpec.upto limitBestSpec)

end Rows
end Go.Proofs.Ytblbggdglndiiaa
