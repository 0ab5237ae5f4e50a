/-
  Contracts of NamedRule (program and reference), and the walk of the law on it. No conditions.
-/
import Derived.Test.YtbaleboljcoigaaBLaws1
namespace Go.Proofs.Ytbaleboljcoigaa
open Go.RowKit

def morse : List UInt8 := [109, 111, 114, 115, 101]
def chair : List UInt8 := [99, 104, 97, 105, 114]
def cross : List UInt8 := [99, 114, 111, 115, 115]
def rMorse : List (List UInt8) := [[97, 98, 98, 97], [98, 97, 97, 98]]
def rChair : List (List UInt8) := [[97, 98, 99, 97], [97, 98, 100, 98], [100, 99, 99, 98], [100, 100, 99, 97]]
def rCross : List (List UInt8) := [[97, 98, 98, 98], [97, 97, 97, 97]]
def namedRule (l : List UInt8) : List (List UInt8) × Bool :=
  if l == morse then (rMorse, true) else if l == chair then (rChair, true) else if l == cross then (rCross, true) else ([], false)
theorem namedRule_len (l : List UInt8) : (namedRule l).1.length ≤ 4096 := by
  unfold namedRule
  split
  · decide
  · split
    · decide
    · split <;> decide


set_option maxHeartbeats 800000 in
theorem cNamedS (l : List UInt8) (w : World) (_hl : l.length ≤ 1048576) : Calls Try.prog 63 #[.string ⟨l.toArray⟩] w (RetSB 9 w (namedRule l).1 (namedRule l).2) := by
  cases h1 : (l == [109, 111, 114, 115, 101])
  case true =>
    have HE := Lib.hid (show (rMorse, true) = namedRule l by rw [namedRule, show (l == morse) = true from h1]; rfl)
    go_enter Try.func63, Try.ntmps63
    go_wp2
    go_ret2
    rw [← HE.out]
    exact ⟨_, _, _, rfl, Own.made (Below.refl _ _) _ (svs rMorse) (by decide)⟩
  case false =>
  cases h2 : (l == [99, 104, 97, 105, 114])
  case true =>
    have HE := Lib.hid (show (rChair, true) = namedRule l by rw [namedRule, show (l == morse) = false from h1, show (l == chair) = true from h2]; rfl)
    go_enter Try.func63, Try.ntmps63
    go_wp2
    go_ret2
    rw [← HE.out]
    exact ⟨_, _, _, rfl, Own.made (Below.refl _ _) _ (svs rChair) (by decide)⟩
  case false =>
  cases h3 : (l == [99, 114, 111, 115, 115])
  case true =>
    have HE := Lib.hid (show (rCross, true) = namedRule l by rw [namedRule, show (l == morse) = false from h1, show (l == chair) = false from h2, show (l == cross) = true from h3]; rfl)
    go_enter Try.func63, Try.ntmps63
    go_wp2
    go_ret2
    rw [← HE.out]
    exact ⟨_, _, _, rfl, Own.made (Below.refl _ _) _ (svs rCross) (by decide)⟩
  case false =>
    have HE := Lib.hid (show ([], false) = namedRule l by rw [namedRule, show (l == morse) = false from h1, show (l == chair) = false from h2, show (l == cross) = false from h3]; rfl)
    go_enter Try.func63, Try.ntmps63
    go_wp2
    go_ret2
    rw [← HE.out]
    exact ⟨_, _, _, rfl, Own.nil (Below.refl _ _) _⟩

end Go.Proofs.Ytbaleboljcoigaa
