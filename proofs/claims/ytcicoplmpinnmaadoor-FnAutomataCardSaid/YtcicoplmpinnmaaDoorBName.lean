/-
  Contracts of NamedRule (program and reference), and the walk of the law on it. No conditions.
-/
import Derived.Test.YtcicoplmpinnmaaDoorBLaws1
namespace Go.Proofs.YtcicoplmpinnmaaDoor
open Go.RowKit

def morse : List UInt8 := [109, 111, 114, 115, 101]
def chair : List UInt8 := [99, 104, 97, 105, 114]
def cross : List UInt8 := [99, 114, 111, 115, 115]
def rMorse : List (List UInt8) := [[97, 98, 98, 97], [98, 97, 97, 98]]
def rChair : List (List UInt8) := [[97, 98, 99, 97], [97, 98, 100, 98], [100, 99, 99, 98], [100, 100, 99, 97]]
def rCross : List (List UInt8) := [[97, 98, 98, 98], [97, 97, 97, 97]]
def namedRule (l : List UInt8) : List (List UInt8) × Bool :=
  if l == morse then (rMorse, true) else if l == chair then (rChair, true) else if l == cross then (rCross, true) else ([], false)
theorem namedRule_len (l : List UInt8) : (namedRule l).1.length ≤ 4096 := by
  unfold namedRule
  split
  · decide
  · split
    · decide
    · split <;> decide



end Go.Proofs.YtcicoplmpinnmaaDoor
