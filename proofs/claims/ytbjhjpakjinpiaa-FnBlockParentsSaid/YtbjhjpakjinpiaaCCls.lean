/-
  Contracts of classOf, ClassOf, ClassWord and their reference twins. No conditions beyond the bounds that the callers pay.
-/
import Derived.Test.YtbjhjpakjinpiaaCOne
namespace Go.Proofs.Ytbjhjpakjinpiaa
open Go.RowKit

/-- the sum of the digits of n, with fuel -/
def dsF : Nat → Nat → Nat → Nat
  | 0, _, _ => 0
  | f + 1, b, n => n % b + dsF f b (n / b)
def ds (b n : Nat) : Nat := dsF n b n
def cls (b n : Nat) : Nat := ds b n % b
def clsI (b n : Int) : Int := (cls b.toNat n.toNat : Nat)

theorem dsF_zero (f b : Nat) : dsF f b 0 = 0 := by
  induction f with
  | zero => rfl
  | succ f ih => simp [dsF, ih]
theorem dsF_more {b : Nat} (hb : 2 ≤ b) : ∀ (f g n : Nat), n ≤ f → n ≤ g → dsF f b n = dsF g b n
  | 0, g, n, hf, _ => by obtain rfl : n = 0 := by omega
                         rw [dsF_zero, dsF_zero]
  | f + 1, 0, n, _, hg => by obtain rfl : n = 0 := by omega
                             rw [dsF_zero, dsF_zero]
  | f + 1, g + 1, n, hf, hg => by
    rcases Nat.eq_zero_or_pos n with rfl | hn
    · rw [dsF_zero, dsF_zero]
    · have hlt : n / b < n := Nat.div_lt_self hn (by omega)
      simp only [dsF]
      rw [dsF_more hb f g (n / b) (by omega) (by omega)]
theorem ds_step {b n : Nat} (hb : 2 ≤ b) (hn : 0 < n) : ds b n = n % b + ds b (n / b) := by
  unfold ds
  have hlt : n / b < n := Nat.div_lt_self hn (by omega)
  have hq : 0 ≤ n / b := Nat.zero_le _
  rw [dsF_more hb n (n / b + 1 + n) n (by omega) (by generalize n / b = q at *; omega), show n / b + 1 + n = (n / b + n) + 1 from by omega]
  simp only [dsF]
  rw [dsF_more hb (n / b + n) (n / b) (n / b) (by omega) (by omega)]
theorem ds_zero (b : Nat) : ds b 0 = 0 := rfl
theorem dsF_le {b : Nat} (hb : 2 ≤ b) : ∀ f n, dsF f b n ≤ n
  | 0, n => Nat.zero_le _
  | f + 1, n => by
    have h := dsF_le hb f (n / b)
    have h2 := Nat.div_add_mod n b
    have h3 : n / b ≤ b * (n / b) := Nat.le_mul_of_pos_left _ (by omega)
    simp only [dsF]; omega
theorem ds_le {b : Nat} (hb : 2 ≤ b) (n : Nat) : ds b n ≤ n := dsF_le hb n n
theorem cls_lt {b : Nat} (hb : 2 ≤ b) (n : Nat) : cls b n < b := Nat.mod_lt _ (by omega)

theorem cls_round {b m s n : Nat} (hb : 2 ≤ b) (hm : 0 < m) (h : s + ds b m = ds b n) : s + m % b + ds b (m / b) = ds b n := by
  have := ds_step hb hm; omega
theorem cls_end {b s n : Nat} {m : Nat} (hm : ¬ 0 < m) (h : s + ds b m = ds b n) : ((s : Int) % (b : Int)) = (cls b n : Nat) := by
  obtain rfl : m = 0 := by omega
  rw [ds_zero] at h
  unfold cls
  rw [← h]; simp



theorem clsI_bd {n b : Int} (hb : 2 ≤ b) : 0 ≤ clsI b n ∧ clsI b n < b := by
  have := cls_lt (b := b.toNat) (by omega) n.toNat
  unfold clsI; omega

/-- what ClassOf returns -/
def clsOf (n b : Int) : Int := if wi n 0 1000000000000 && wi b 2 4 then clsI b n else -1




end Go.Proofs.Ytbjhjpakjinpiaa
