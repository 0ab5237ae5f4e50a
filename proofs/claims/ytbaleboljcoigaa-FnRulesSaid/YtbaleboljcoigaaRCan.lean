/-
  CanRepeat in plain Lean: the rows reached step by step against the recursive search. No conditions.
-/
import Derived.Test.YtbaleboljcoigaaRObs
namespace Go.Proofs.Ytbaleboljcoigaa
open Go.RowKit

/-- the last letter of a row and its first -/
def wrapP (p : Nat) (s : List UInt8) : List UInt8 := [s.getD (p - 1) 0, s.getD 0 0]
def rowsR (r : Pch) (p : Nat) : Pch := (rowsN r p).filter fun s => decide (wrapP p s ∈ r)
def cyc (rows q : Pch) (start : List UInt8) : List UInt8 → Nat → Bool
  | u, 0 => decide (u = start)
  | u, n + 1 => rows.any fun t => stand q u t && cyc rows q start t n
def reach (rows q : Pch) (first : List UInt8) : Nat → Pch
  | 0 => [first]
  | j + 1 => rows.filter fun t => (reach rows q first j).any fun u => stand q u t
theorem reach_step (rows q : Pch) (first start : List UInt8) (j n : Nat) :
    (∃ u, u ∈ reach rows q first (j + 1) ∧ cyc rows q start u n = true) ↔ (∃ u, u ∈ reach rows q first j ∧ cyc rows q start u (n + 1) = true) := by
  constructor
  · rintro ⟨u, hu, hc⟩
    obtain ⟨h1, h2⟩ := List.mem_filter.1 hu
    obtain ⟨v, hv, hs⟩ := List.any_eq_true.1 h2
    exact ⟨v, hv, by rw [cyc]; exact List.any_eq_true.2 ⟨u, h1, by rw [hs, hc]; rfl⟩⟩
  · rintro ⟨v, hv, hc⟩
    rw [cyc] at hc
    obtain ⟨t, ht, h2⟩ := List.any_eq_true.1 hc
    simp only [Bool.and_eq_true] at h2
    exact ⟨t, List.mem_filter.2 ⟨ht, List.any_eq_true.2 ⟨v, hv, h2.1⟩⟩, h2.2⟩
theorem reach_all (rows q : Pch) (first start : List UInt8) : ∀ (j n : Nat),
    (∃ u, u ∈ reach rows q first j ∧ cyc rows q start u n = true) ↔ cyc rows q start first (n + j) = true
  | 0, n => by simp [reach]
  | j + 1, n => by rw [reach_step, reach_all rows q first start j (n + 1), show n + 1 + j = n + (j + 1) by omega]
theorem reach_cyc (rows q : Pch) (first : List UInt8) (p : Nat) : decide (first ∈ reach rows q first p) = cyc rows q first first p := by
  have h := reach_all rows q first first p 0
  rw [Nat.zero_add] at h
  have h2 : (∃ u, u ∈ reach rows q first p ∧ cyc rows q first u 0 = true) ↔ first ∈ reach rows q first p := by
    constructor
    · rintro ⟨u, hu, hc⟩
      simp only [cyc, decide_eq_true_eq] at hc
      exact hc ▸ hu
    · intro hf; exact ⟨first, hf, by simp [cyc]⟩
  rw [h2] at h
  by_cases hc : cyc rows q first first p = true
  · rw [hc]; exact decide_eq_true (h.2 hc)
  · rw [Bool.eq_false_iff.2 hc]; exact decide_eq_false (fun hf => hc (h.1 hf))
def canOk (r q : Pch) (p : Int) : Bool := rulesOk r q && wi p 1 3
def canRep (r q : Pch) (p : Int) : Bool := canOk r q p && (rowsR r p.toNat).any fun s => cyc (rowsR r p.toNat) q s s p.toNat
theorem reach_row {rows q : Pch} {first x : List UInt8} {j : Nat} (hf : first ∈ rows) (h : x ∈ reach rows q first j) : x ∈ rows := by
  cases j with
  | zero => simp only [reach, List.mem_singleton] at h; rwa [h]
  | succ j => exact (List.mem_filter.1 h).1
theorem reach_len (rows q : Pch) (first : List UInt8) (j : Nat) : (reach rows q first j).length ≤ rows.length + 1 := by
  cases j with
  | zero => simp [reach]
  | succ j => exact Nat.le_trans (List.length_filter_le _ _) (by omega)
end Go.Proofs.Ytbaleboljcoigaa
