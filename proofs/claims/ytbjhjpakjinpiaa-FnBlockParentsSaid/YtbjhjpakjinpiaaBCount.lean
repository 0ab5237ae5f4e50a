/-
  Contract of the reference's CountParts. No conditions.
-/
import Derived.Test.YtbjhjpakjinpiaaBPart
import Derived.Test.YtbjhjpakjinpiaaJoin
import Derived.Test.YtbjhjpakjinpiaaSet
namespace Go.Proofs.Ytbjhjpakjinpiaa
open Go.RowKit

def keyP (p : List (List UInt8)) (w h y x : Nat) : List UInt8 := Lib.join (part p x y w h) [47]
def insRow (p : List (List UInt8)) (w h y : Nat) : Nat → List (List UInt8) → List (List UInt8)
  | 0, s => s
  | x + 1, s => insS (keyP p w h y x) (insRow p w h y x s)
def insAll (p : List (List UInt8)) (w h : Nat) : Nat → List (List UInt8)
  | 0 => []
  | y + 1 => insRow p w h y (wd p + 1 - w) (insAll p w h y)
theorem srt_row {p : List (List UInt8)} {w h y : Nat} {s : List (List UInt8)} (hs : Srt s) : ∀ x, Srt (insRow p w h y x s)
  | 0 => hs
  | x + 1 => srt_insS _ (srt_row hs x)
theorem srt_all {p : List (List UInt8)} {w h : Nat} : ∀ y, Srt (insAll p w h y)
  | 0 => List.Pairwise.nil
  | y + 1 => srt_row (srt_all y) _
theorem len_le {x : List UInt8} {l : List (List UInt8)} (h : Srt l) : (insS x l).length ≤ l.length + 1 := by rw [len_insS x h]; split <;> omega
theorem len_row {p : List (List UInt8)} {w h y : Nat} {s : List (List UInt8)} (hs : Srt s) : ∀ x, (insRow p w h y x s).length ≤ s.length + x
  | 0 => by simp [insRow]
  | x + 1 => by have h1 := len_row (p := p) (w := w) (h := h) (y := y) hs x; have h2 := len_le (x := keyP p w h y x) (srt_row (p := p) (w := w) (h := h) (y := y) hs x); show (insS _ _).length ≤ _; omega
theorem len_all {p : List (List UInt8)} {w h : Nat} (hw : wd p ≤ 32) (h1 : 1 ≤ w) : ∀ y, (insAll p w h y).length ≤ 32 * y
  | 0 => by simp [insAll]
  | y + 1 => by
    have h1 := len_all (p := p) (w := w) (h := h) hw h1 y
    have h2 := len_row (p := p) (w := w) (h := h) (y := y) (srt_all (p := p) (w := w) (h := h) y) (wd p + 1 - w)
    show (insRow _ _ _ _ _ _).length ≤ _
    omega
def countParts (p : List (List UInt8)) (w h : Int) : Int :=
  if pOk p && (wi w 1 32 && wi h 1 32) then ((insAll p w.toNat h.toNat (p.length + 1 - h.toNat)).length : Int) else -1
theorem part_lens {p : List (List UInt8)} (h : pOk p = true) (x y w hh : Nat) : ∀ s ∈ part p x y w hh, s.length ≤ 32 := by
  intro s hs
  obtain ⟨r, hr, rfl⟩ := List.mem_map.1 hs
  have := pOk_row h (List.mem_of_mem_drop (List.mem_of_mem_take hr))
  simp; omega

theorem key_len {p : List (List UInt8)} (hp : pOk p = true) {x y w h : Nat} : (keyP p w h y x).length ≤ 2048 := by
  have h1 := join_bound (ss := part p x y w h) [47] (m := 32) (part_lens hp x y w h)
  have h2 : (part p x y w h).length ≤ 32 := by have := pOk_len hp; simp [part]; omega
  exact Nat.le_trans h1 (Nat.le_trans (Nat.mul_le_mul (show [47].length + 32 ≤ 33 by simp) h2) (by decide))
end Go.Proofs.Ytbjhjpakjinpiaa
