/-
  Contracts of NamedRule (program and reference), and the walk of the law on it. No conditions.
-/
import Derived.Test.YtcepjfadgdpbmaaBLaws1
namespace Go.Proofs.Ytcepjfadgdpbmaa
open Go.RowKit

def morse : List UInt8 := [109, 111, 114, 115, 101]
def chair : List UInt8 := [99, 104, 97, 105, 114]
def cross : List UInt8 := [99, 114, 111, 115, 115]
def rMorse : List (List UInt8) := [[97, 98, 98, 97], [98, 97, 97, 98]]
def rChair : List (List UInt8) := [[97, 98, 99, 97], [97, 98, 100, 98], [100, 99, 99, 98], [100, 100, 99, 97]]
def rCross : List (List UInt8) := [[97, 98, 98, 98], [97, 97, 97, 97]]
def namedRule (l : List UInt8) : List (List UInt8) × Bool :=
  if l == morse then (rMorse, true) else if l == chair then (rChair, true) else if l == cross then (rCross, true) else ([], false)
theorem namedRule_len (l : List UInt8) : (namedRule l).1.length ≤ 4096 := by
  unfold namedRule
  split
  · decide
  · split
    · decide
    · split <;> decide

set_option maxHeartbeats 800000 in
theorem cNamedI (l : List UInt8) (w : World) (_hl : l.length ≤ 1048576) : Calls Try.prog 23 #[.string ⟨l.toArray⟩] w (RetSB 9 w (namedRule l).1 (namedRule l).2) := by
  cases h1 : (l == [109, 111, 114, 115, 101])
  case true =>
    have HE := Lib.hid (show (rMorse, true) = namedRule l by rw [namedRule, show (l == morse) = true from h1]; rfl)
    go_enter Try.func23, Try.ntmps23
    go_wp2
    go_ret2
    rw [← HE.out]
    exact ⟨_, _, _, rfl, Own.made (Below.refl _ _) _ (svs rMorse) (by decide)⟩
  case false =>
  cases h2 : (l == [99, 104, 97, 105, 114])
  case true =>
    have HE := Lib.hid (show (rChair, true) = namedRule l by rw [namedRule, show (l == morse) = false from h1, show (l == chair) = true from h2]; rfl)
    go_enter Try.func23, Try.ntmps23
    go_wp2
    go_ret2
    rw [← HE.out]
    exact ⟨_, _, _, rfl, Own.made (Below.refl _ _) _ (svs rChair) (by decide)⟩
  case false =>
  cases h3 : (l == [99, 114, 111, 115, 115])
  case true =>
    have HE := Lib.hid (show (rCross, true) = namedRule l by rw [namedRule, show (l == morse) = false from h1, show (l == chair) = false from h2, show (l == cross) = true from h3]; rfl)
    go_enter Try.func23, Try.ntmps23
    go_wp2
    go_ret2
    rw [← HE.out]
    exact ⟨_, _, _, rfl, Own.made (Below.refl _ _) _ (svs rCross) (by decide)⟩
  case false =>
    have HE := Lib.hid (show ([], false) = namedRule l by rw [namedRule, show (l == morse) = false from h1, show (l == chair) = false from h2, show (l == cross) = false from h3]; rfl)
    go_enter Try.func23, Try.ntmps23
    go_wp2
    go_ret2
    rw [← HE.out]
    exact ⟨_, _, _, rfl, Own.nil (Below.refl _ _) _⟩

set_option maxHeartbeats 800000 in
theorem cNamedS (l : List UInt8) (w : World) (_hl : l.length ≤ 1048576) : Calls Try.prog 22 #[.string ⟨l.toArray⟩] w (RetSB 9 w (namedRule l).1 (namedRule l).2) := by
  cases h1 : (l == [109, 111, 114, 115, 101])
  case true =>
    have HE := Lib.hid (show (rMorse, true) = namedRule l by rw [namedRule, show (l == morse) = true from h1]; rfl)
    go_enter Try.func22, Try.ntmps22
    go_wp2
    go_ret2
    rw [← HE.out]
    exact ⟨_, _, _, rfl, Own.made (Below.refl _ _) _ (svs rMorse) (by decide)⟩
  case false =>
  cases h2 : (l == [99, 104, 97, 105, 114])
  case true =>
    have HE := Lib.hid (show (rChair, true) = namedRule l by rw [namedRule, show (l == morse) = false from h1, show (l == chair) = true from h2]; rfl)
    go_enter Try.func22, Try.ntmps22
    go_wp2
    go_ret2
    rw [← HE.out]
    exact ⟨_, _, _, rfl, Own.made (Below.refl _ _) _ (svs rChair) (by decide)⟩
  case false =>
  cases h3 : (l == [99, 114, 111, 115, 115])
  case true =>
    have HE := Lib.hid (show (rCross, true) = namedRule l by rw [namedRule, show (l == morse) = false from h1, show (l == chair) = false from h2, show (l == cross) = true from h3]; rfl)
    go_enter Try.func22, Try.ntmps22
    go_wp2
    go_ret2
    rw [← HE.out]
    exact ⟨_, _, _, rfl, Own.made (Below.refl _ _) _ (svs rCross) (by decide)⟩
  case false =>
    have HE := Lib.hid (show ([], false) = namedRule l by rw [namedRule, show (l == morse) = false from h1, show (l == chair) = false from h2, show (l == cross) = false from h3]; rfl)
    go_enter Try.func22, Try.ntmps22
    go_wp2
    go_ret2
    rw [← HE.out]
    exact ⟨_, _, _, rfl, Own.nil (Below.refl _ _) _⟩

set_option maxRecDepth 100000 in
set_option maxHeartbeats 2000000 in
theorem walk_FnExactNamedRule (l0 : List UInt8) (w : World) (h0 : StrArg l0) : Calls Try.prog 5 #[.string ⟨l0.toArray⟩] w fun e w' => e = .returned (.bool true) ∧ Below w.heap.size w w' := by
  unfold StrArg at h0
  by_cases hbig0 : l0.length ≤ 1048576
  case neg =>
    go_enter Try.func5, Try.ntmps5
    go_wp2_with fail
    go_ret
    exact ⟨rfl, Below.refl _ _⟩
  case pos =>
  go_enter Try.func5, Try.ntmps5
  have M0 := Mem.start w
  go_wp2_with fail
  refine (cNamedS _ _ hbig0).mono ?_
  rintro e w1 ⟨Gw, kw, dw, rfl, o1⟩
  have hkw : kw ≤ 1048576 := by have h1 := o1.len; have h2 := (namedRule_len l0); simp only [svs, List.length_map] at h1; omega
  have M1 := M0.add o1
  clear M0
  clear o1
  go_wp2_with fail
  refine (cNamedI _ _ hbig0).mono ?_
  rintro e w2 ⟨Gg, kg, dg, rfl, o2⟩
  obtain rfl : kw = kg := by have h1 := M1.rd0.1; have h2 := o2.len; omega
  have M2 := M1.add o2
  clear M1
  clear o2
  go_wp2_with fail
  refine (eqStringS_same _ _ _ _ _ _ _ _ _ M2.rd0 M2.rd1 (Nat.le_refl _) (Nat.le_refl _) (by omega)).mono ?_
  rintro e w3 ⟨rfl, hb3⟩
  have M3 := M2.later hb3
  clear M2
  clear hb3
  go_wp2_with fail
  refine (markStringS_any _ _ _ _ _ _ _ _ M3.row0 (by omega) (by omega) (by omega)).mono ?_
  rintro e w4 ⟨rfl, o4, g4⟩
  have M4 := M3.mark0 o4 g4
  clear M3
  clear o4 g4
  go_wp2_with fail
  refine (heldStringS_any _ _ _ _ _ _ M4.rd0 (Nat.le_refl _) (by omega) (by omega) (by omega)).mono ?_
  rintro e w5 ⟨rfl, hb5⟩
  have M5 := M4.later hb5
  clear M4
  clear hb5
  go_wp2_with fail
  refine (cNamedI _ _ hbig0).mono ?_
  rintro e w6 ⟨Gh, kh, dh, rfl, o6⟩
  obtain rfl : kw = kh := by have h1 := M5.rd1.1; have h2 := o6.len; omega
  have M6 := M5.add o6
  clear M5
  clear o6
  go_wp2_with fail
  refine (eqStringS_same _ _ _ _ _ _ _ _ _ M6.rd0 M6.rd2 (Nat.le_refl _) (Nat.le_refl _) (by omega)).mono ?_
  rintro e w7 ⟨rfl, hb7⟩
  have M7 := M6.later hb7
  clear M6
  clear hb7
  go_wp2_with fail
  refine (heldStringS_any _ _ _ _ _ _ M7.rd1 (Nat.le_refl _) (by omega) (by omega) (by omega)).mono ?_
  rintro e w8 ⟨rfl, hb8⟩
  have M8 := M7.later hb8
  clear M7
  clear hb8
  go_wp2_with fail
  go_ret
  exact ⟨rfl, M8.bel⟩
end Go.Proofs.Ytcepjfadgdpbmaa
