/-
  No cell of these rows narrows 'for every input' (looked for: loops, veiled, ifaces, maps, wideKeys, modest, calm, conditions, laid).
  DERIVED. THE GIVEN ROWS OF THIS SEAT. 3 by the template 'for every input the law returns true; each argument reads behind the call as it read before'; 0 by the template 'total and deterministic' (their statements: YtbbcphloafmldaaGreatTotals.lean).
  GIVEN WITH THE SEED: the statements are not yours to turn. If you find one false, say at which input.
  Laid BY PROGRAM, IN A SANDBOX (cutbox-rows.mjs): the forced cells as the released guide's own fill.sh prints them over the translation 7884509d3f89cbc0… (all of the seat's roots in one cut). By AI agents, Wed Nov 11 2026. No macro, syntax, notation, axiom, sorry.
-/
import Derived.Test.YtbbcphloafmldaaGreatChecked
import GoSem.Claim
import GoSem.ClaimJoined
import GoSem.ClaimMapViews
import Derived.JoinedTies
import Derived.KernelRfl
namespace Go.Proofs.YtbbcphloafmldaaGreat
/- THE CELL 'sum', in the pinned program and in every row, IS THE sha256 OF THE DUMP (.gsa) THAT YtbbcphloafmldaaGreatProg.lean LOADS. Nothing in Lean hashes anything: it is a label: what it is worth is what the hold of that sum in a sandbox is worth. -/
noncomputable def Tryz.pinned : Pinned := { name := "ytbbcphloafmldaagreat", sum := "7884509d3f89cbc036147d497270a1e1c715fcc2c7afaa1ef168a3d5960c83e3", checked := Tryz.checked }
namespace Rows
def none {H : Type} : Left H := { results := [], args := [] }

/-- 'pressworklaw12.GunzipReads': WHATEVER THE INPUT: true; the input reads as it did. -/
def gunzipReadsSpec : ChangeSpec := { name := "gunzipReads", fn := fun _ => fun
  | [d1, d2] => { results := [.lit (.bool true)], args := [d1, d2] }
  | _ => none }
def gunzipReadsRow : OpenClaim := { program := "ytbbcphloafmldaagreat", sum := "7884509d3f89cbc036147d497270a1e1c715fcc2c7afaa1ef168a3d5960c83e3", func := "presswork/pressworklaw12.GunzipReads", spec := "gunzipReads", inPlace := ["internal/bytealg.IndexByte"], unfollowed := true, recurses := true, plainKeys := false, apart := false }
def GunzipReadsSaid : Prop := gunzipReadsRow.holds Tryz.pinned (OpenSpec.ofChange gunzipReadsSpec)

/-- ITS FALSE NEIGHBOUR: 'it returns false'. Refute it at one input. -/
def gunzipReadsWrong : ChangeSpec := { name := "gunzipReads", fn := fun _ => fun
  | [d1, d2] => { results := [.lit (.bool false)], args := [d1, d2] }
  | _ => none }
def GunzipReadsWrongFalsely : Prop := gunzipReadsRow.holds Tryz.pinned (OpenSpec.ofChange gunzipReadsWrong)

/-- 'pressworklaw12.GunzipStored': WHATEVER THE INPUT: true; the input reads as it did. -/
def gunzipStoredSpec : ChangeSpec := { name := "gunzipStored", fn := fun _ => fun
  | [d1, d2, d3] => { results := [.lit (.bool true)], args := [d1, d2, d3] }
  | _ => none }
def gunzipStoredRow : OpenClaim := { program := "ytbbcphloafmldaagreat", sum := "7884509d3f89cbc036147d497270a1e1c715fcc2c7afaa1ef168a3d5960c83e3", func := "presswork/pressworklaw12.GunzipStored", spec := "gunzipStored", inPlace := ["internal/bytealg.IndexByte", "internal/bytealg.IndexByteString", "internal/bytealg.IndexString"], unfollowed := true, recurses := true, named := ["internal/bytealg.MaxLen"], plainKeys := false, apart := false }
def GunzipStoredSaid : Prop := gunzipStoredRow.holds Tryz.pinned (OpenSpec.ofChange gunzipStoredSpec)

/-- ITS FALSE NEIGHBOUR: 'it returns false'. Refute it at one input. -/
def gunzipStoredWrong : ChangeSpec := { name := "gunzipStored", fn := fun _ => fun
  | [d1, d2, d3] => { results := [.lit (.bool false)], args := [d1, d2, d3] }
  | _ => none }
def GunzipStoredWrongFalsely : Prop := gunzipStoredRow.holds Tryz.pinned (OpenSpec.ofChange gunzipStoredWrong)

/-- 'pressworklaw12.GunzipHeads': WHATEVER THE INPUT: true; the input reads as it did. -/
def gunzipHeadsSpec : ChangeSpec := { name := "gunzipHeads", fn := fun _ => fun
  | [d1, d2, d3] => { results := [.lit (.bool true)], args := [d1, d2, d3] }
  | _ => none }
def gunzipHeadsRow : OpenClaim := { program := "ytbbcphloafmldaagreat", sum := "7884509d3f89cbc036147d497270a1e1c715fcc2c7afaa1ef168a3d5960c83e3", func := "presswork/pressworklaw12.GunzipHeads", spec := "gunzipHeads", inPlace := ["internal/bytealg.IndexByteString", "internal/bytealg.IndexString", "internal/bytealg.IndexByte"], unfollowed := true, recurses := true, named := ["internal/bytealg.MaxLen"], plainKeys := false, apart := false }
def GunzipHeadsSaid : Prop := gunzipHeadsRow.holds Tryz.pinned (OpenSpec.ofChange gunzipHeadsSpec)

/-- ITS FALSE NEIGHBOUR: 'it returns false'. Refute it at one input. -/
def gunzipHeadsWrong : ChangeSpec := { name := "gunzipHeads", fn := fun _ => fun
  | [d1, d2, d3] => { results := [.lit (.bool false)], args := [d1, d2, d3] }
  | _ => none }
def GunzipHeadsWrongFalsely : Prop := gunzipHeadsRow.holds Tryz.pinned (OpenSpec.ofChange gunzipHeadsWrong)

/- THE SECOND FORM. 'bulk': how many values and letters a reading holds, each counted each time it is reached (what is shared counts as often as it is met; a slice's spare places count too). A statement '..UptoSaid' is the law's where the arguments, and the package variables that the reading takes, are together of bulk at most 1048576: NARROWER than '..Said'. Prove '..Said' where nothing that the law and all that it calls make is longer than what came in: it says more and counts as full. Else prove '..UptoSaid'. A law counts once. -/
mutual
def uptoBulk {H : Type} : DataW H → Nat
  | .lit (.string bytes) => bytes.length + 1
  | .lit _ => 1
  | .nil => 1
  | .ptr d => uptoBulk d + 1
  | .slice elems spare => uptoBulkAll elems + uptoBulkAll spare + 1
  | .agg parts => uptoBulkAll parts + 1
  | .iface _ d => uptoBulk d + 1
  | .map entries => uptoBulkEntries entries + 1
  | .held _ => 1
def uptoBulkAll {H : Type} : List (DataW H) → Nat
  | [] => 0
  | d :: r => uptoBulk d + uptoBulkAll r
def uptoBulkEntries {H : Type} : List (Lit × DataW H) → Nat
  | [] => 0
  | x :: r => uptoBulkEntry x + uptoBulkEntries r
def uptoBulkEntry {H : Type} : Lit × DataW H → Nat
  | (.string bytes, d) => bytes.length + uptoBulk d + 1
  | (_, d) => uptoBulk d + 1
 end
def uptoSmall : (H : Type) → List (DataW H) → Bool := fun _ ds => decide (uptoBulkAll ds ≤ 1048576)
def OpenSpec.upto (s : _root_.Go.ChangeSpec) : _root_.Go.OpenSpec := { _root_.Go.OpenSpec.ofChange s with cond := some uptoSmall }

/-- 'pressworklaw12.GunzipReads', WHERE WHAT IT READS IS OF BULK AT MOST 1048576: true; the input reads as it did. -/
def gunzipReadsUptoRow : OpenClaim := { program := "ytbbcphloafmldaagreat", sum := "7884509d3f89cbc036147d497270a1e1c715fcc2c7afaa1ef168a3d5960c83e3", func := "presswork/pressworklaw12.GunzipReads", spec := "gunzipReads", inPlace := ["internal/bytealg.IndexByte"], unfollowed := true, recurses := true, plainKeys := false, apart := false, narrowed := true }
def GunzipReadsUptoSaid : Prop := gunzipReadsUptoRow.holds Tryz.pinned (OpenSpec.upto gunzipReadsSpec)

/-- 'pressworklaw12.GunzipStored', WHERE WHAT IT READS IS OF BULK AT MOST 1048576: true; the input reads as it did. -/
def gunzipStoredUptoRow : OpenClaim := { program := "ytbbcphloafmldaagreat", sum := "7884509d3f89cbc036147d497270a1e1c715fcc2c7afaa1ef168a3d5960c83e3", func := "presswork/pressworklaw12.GunzipStored", spec := "gunzipStored", inPlace := ["internal/bytealg.IndexByte", "internal/bytealg.IndexByteString", "internal/bytealg.IndexString"], unfollowed := true, recurses := true, named := ["internal/bytealg.MaxLen"], plainKeys := false, apart := false, narrowed := true }
def GunzipStoredUptoSaid : Prop := gunzipStoredUptoRow.holds Tryz.pinned (OpenSpec.upto gunzipStoredSpec)

/-- 'pressworklaw12.GunzipHeads', WHERE WHAT IT READS IS OF BULK AT MOST 1048576: true; the input reads as it did. -/
def gunzipHeadsUptoRow : OpenClaim := { program := "ytbbcphloafmldaagreat", sum := "7884509d3f89cbc036147d497270a1e1c715fcc2c7afaa1ef168a3d5960c83e3", func := "presswork/pressworklaw12.GunzipHeads", spec := "gunzipHeads", inPlace := ["internal/bytealg.IndexByteString", "internal/bytealg.IndexString", "internal/bytealg.IndexByte"], unfollowed := true, recurses := true, named := ["internal/bytealg.MaxLen"], plainKeys := false, apart := false, narrowed := true }
def GunzipHeadsUptoSaid : Prop := gunzipHeadsUptoRow.holds Tryz.pinned (OpenSpec.upto gunzipHeadsSpec)

end Rows
end Go.Proofs.YtbbcphloafmldaaGreat
