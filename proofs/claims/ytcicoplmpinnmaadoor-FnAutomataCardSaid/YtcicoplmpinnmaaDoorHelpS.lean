/-
  Contracts of the laws' own helpers on slices of strings: sizes, copy, equality of equals, marks. No conditions beyond small lengths.
-/
import Derived.Test.YtcicoplmpinnmaaDoorRowW
import Derived.Test.YtcicoplmpinnmaaDoorBytes
import Derived.Deep.RegionHeld3
namespace Go.Proofs.YtcicoplmpinnmaaDoor
open Go.RowKit

theorem infoS : (Tryd.prog.info? 9).map (fun i => (i.zero, i.size, i.bytes)) = some (some (.string ⟨#[]⟩), 1, 16) := by kernel_rfl

/-- what a size test leaves: less than nothing, or all is small -/
def Sized (ss : List (List UInt8)) (left r : Int) : Prop := r < 0 ∨ (0 ≤ r ∧ r + (ss.length : Int) ≤ left ∧ (ss.length : Int) ≤ left ∧ ∀ s ∈ ss, (s.length : Int) ≤ left)




/-! ## marks -/
/-- the digits of a number -/
def dgF : Nat → Nat → List UInt8
  | 0, _ => []
  | f + 1, k => if k = 0 then [] else dgF f (k / 10) ++ [UInt8.ofNat (48 + k % 10)]
def dg (k : Nat) : List UInt8 := dgF k k
def mt (k : Int) : List UInt8 := 109 :: dg k.toNat
theorem dgF_more : ∀ (f g k : Nat), k ≤ f → k ≤ g → dgF f k = dgF g k
  | 0, 0, _, _, _ => rfl
  | 0, g + 1, k, h, _ => by obtain rfl : k = 0 := by omega
                            simp [dgF]
  | f + 1, 0, k, _, h => by obtain rfl : k = 0 := by omega
                            simp [dgF]
  | f + 1, g + 1, k, h1, h2 => by
    simp only [dgF]
    split
    · rfl
    · rw [dgF_more f g (k / 10) (by omega) (by omega)]
theorem dg_step {k : Nat} (h : 0 < k) : dg k = dg (k / 10) ++ [UInt8.ofNat (48 + k % 10)] := by
  unfold dg
  obtain ⟨f, rfl⟩ : ∃ f, k = f + 1 := ⟨k - 1, by omega⟩
  simp only [dgF]
  rw [if_neg (by omega), dgF_more f ((f + 1) / 10) ((f + 1) / 10) (by omega) (by omega)]
theorem dg_len : ∀ k : Nat, (dg k).length ≤ k := by
  have h : ∀ f k, (dgF f k).length ≤ f := by
    intro f
    induction f with
    | zero => intro k; simp [dgF]
    | succ f ih =>
      intro k
      simp only [dgF]
      split
      · simp
      · have := ih (k / 10); simp; omega
  intro k; exact h k k
theorem dg_round {k j : Nat} {out : List UInt8} (hj : 0 < j) (h : dg k = dg j ++ out) : dg k = dg (j / 10) ++ (UInt8.ofNat (48 + j % 10) :: out) := by
  rw [h, dg_step hj, List.append_assoc]; rfl
theorem dg_nat (j : Nat) : ((UInt8.ofNat (48 + j % 10)).toNat : Int) = 48 + (j : Int) % 10 := by simp; omega


def mtS (k : Int) (n : Nat) : List (List UInt8) := (List.range n).map fun i : Nat => mt (k + (i : Int))
theorem mtS_len (k : Int) (n : Nat) : (mtS k n).length = n := by simp [mtS]
theorem mtS_get (k : Int) {n i : Nat} (h : i < n) : (mtS k n)[i]'(by rw [mtS_len]; exact h) = mt (k + (i : Int)) := by simp [mtS]


end Go.Proofs.YtcicoplmpinnmaaDoor
