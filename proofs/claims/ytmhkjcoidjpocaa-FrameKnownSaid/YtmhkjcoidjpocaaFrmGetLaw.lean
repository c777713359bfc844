/- What a head's reading yields: plain. -/
import Derived.Test.YtmhkjcoidjpocaaFrmSum
namespace Go.Proofs.Ytmhkjcoidjpocaa
set_option linter.unusedVariables false

def fz (bs : List Nat) (p : Nat) : Option Nat := if fzI (bs.drop p) = -1 then none else some (fzI (bs.drop p)).toNat
def stX (bs : List Nat) (f : Nat) (s : Hd × Nat) : Option (Hd × Nat) :=
  if f / 4 % 2 = 1 then (if s.2 + 2 + exL bs s.2 ≤ bs.length then some ({ s.1 with has := s.1.has + 1, extra := exB bs s.2 }, s.2 + 2 + exL bs s.2) else none) else some s
def stN (bs : List Nat) (f : Nat) (s : Hd × Nat) : Option (Hd × Nat) :=
  if f / 8 % 2 = 1 then (fz bs s.2).map fun z => ({ s.1 with has := s.1.has + 2, name := strOf ((bs.drop s.2).take z) }, s.2 + (z + 1)) else some s
def stC (bs : List Nat) (f : Nat) (s : Hd × Nat) : Option (Hd × Nat) :=
  if f / 16 % 2 = 1 then (fz bs s.2).map fun z => ({ s.1 with has := s.1.has + 4, comment := strOf ((bs.drop s.2).take z) }, s.2 + (z + 1)) else some s
def stS (bs : List Nat) (f : Nat) (s : Hd × Nat) : Option (Hd × Nat × Bool) :=
  if f / 2 % 2 = 1 then (if s.2 + 2 ≤ bs.length then some ({ s.1 with sum := true }, s.2 + 2, decide (exL bs s.2 ≠ crcL (bs.take s.2) % 65536)) else none) else some (s.1, s.2, false)
def hd0 (bs : List Nat) : Hd := { text := decide (bs.getD 3 0 % 2 = 1), time := valL ((bs.drop 4).take 4), xfl := bs.getD 8 0, os := bs.getD 9 0, extra := [], name := ⟨#[]⟩, comment := ⟨#[]⟩, has := 0, sum := false }
def getH (bs : List Nat) : Option (Hd × Nat × Bool) :=
  if 10 ≤ bs.length ∧ bs.take 3 = [31, 139, 8] ∧ bs.getD 3 0 < 32 then
    (stX bs (bs.getD 3 0) (hd0 bs, 10)).bind fun s => (stN bs (bs.getD 3 0) s).bind fun s => (stC bs (bs.getD 3 0) s).bind fun s => stS bs (bs.getD 3 0) s
  else none
end Go.Proofs.Ytmhkjcoidjpocaa
