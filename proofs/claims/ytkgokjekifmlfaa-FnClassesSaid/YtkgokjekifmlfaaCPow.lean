/-
  Contracts of power and ShiftSum (program and reference), and the walk of the law on ShiftSum. No conditions.
-/
import Derived.Test.YtkgokjekifmlfaaCNext
namespace Go.Proofs.Ytkgokjekifmlfaa
open Go.RowKit

def pw (b n : Nat) : Nat := b ^ n
theorem pw_succ (b n : Nat) : pw b (n + 1) = pw b n * b := Nat.pow_succ b n
theorem pw_zero (b : Nat) : pw b 0 = 1 := rfl
theorem pw_mono {b c m n : Nat} (hb : 1 ≤ c) (h : b ≤ c) (hm : m ≤ n) : pw b m ≤ pw c n := Nat.le_trans (Nat.pow_le_pow_left h m) (Nat.pow_le_pow_right hb hm)
theorem int_mul_bd {x y M : Nat} (h : x * y ≤ M) : (0 : Int) ≤ (x : Int) * (y : Int) ∧ (x : Int) * (y : Int) ≤ (M : Int) := by
  rw [← Int.natCast_mul]; omega
theorem int_mul_eq {x y z : Nat} (h : z = x * y) : (x : Int) * (y : Int) = (z : Int) := by rw [h, Int.natCast_mul]

set_option maxHeartbeats 400000 in
theorem ipower_nat (b n : Nat) (hn : n ≤ 1000) (hbd : ∀ j, j < n → pw b j * b ≤ 4611686018427387903) (w : World) :
    Calls Try.prog 19 #[.int .i64 (b : Int), .int .i64 (n : Int)] w fun e w' => e = .returned (.int .i64 (pw b n : Nat)) ∧ w = w' := by
  have HB := Lib.hid hbd
  clear hbd
  go_enter Try.func19, Try.ntmps19
  go_wp2
  go_loop [7, 5] (fun i out => ∃ k : Nat, k ≤ n ∧ i = .int .i64 k ∧ out = .int .i64 (pw b k : Nat)) (fun i _ => n - (intOf i).toNat)
  case atStart => exact ⟨0, Nat.zero_le _, rfl, rfl⟩
  case round =>
    obtain ⟨k, hk, rfl, rfl⟩ := hrel
    by_cases hlt : k < n
    · obtain ⟨h1, h2⟩ := int_mul_bd (HB.out k hlt)
      have HP := Lib.hid (int_mul_eq (pw_succ b k))
      go_wp2
      go_round
      case rel => exact ⟨k + 1, by omega, by go_num, by rw [HP.out]⟩
      case measure => simp [intOf]; omega
    · obtain rfl : k = n := by omega
      go_wp2
      go_ret
      exact ⟨rfl, rfl⟩


theorem pw_bd {b c n M : Nat} (hc : 1 ≤ c) (h : b ≤ c) (hM : pw c n ≤ M) : ∀ j, j < n → pw b j * b ≤ M := fun j hj => by
  rw [← pw_succ]; exact Nat.le_trans (pw_mono hc h hj) hM
theorem pw46 {b k : Nat} (hb : b ≤ 4) (hk : k ≤ 6) : pw b k ≤ 4096 := pw_mono (c := 4) (n := 6) (by omega) hb hk

/-- sum of n + b * class of n, over the first k numbers -/
def shf (b : Nat) : Nat → Nat
  | 0 => 0
  | k + 1 => shf b k + (k + b * cls b k)
theorem shf_le {b : Nat} (hb : 2 ≤ b) (hb2 : b ≤ 4) : ∀ k, k ≤ 4096 → shf b k ≤ k * 5000
  | 0, _ => by simp [shf]
  | k + 1, hk => by
    have h1 := shf_le hb hb2 k (by omega)
    have h2 := cls_lt hb k
    have h3 : b * cls b k ≤ 4 * 4 := Nat.mul_le_mul hb2 (by omega)
    simp only [shf]; omega
def shiftSum (k b : Int) : Int := if wi k 1 6 && wi b 2 4 then (shf b.toNat (pw b.toNat k.toNat) : Nat) else -1

theorem shf_round (b k : Nat) : (shf b k : Int) + ((k : Int) + (b : Int) * (cls b k : Int)) = ((shf b (k + 1) : Nat) : Int) := by
  simp only [shf]; omega
theorem shf_round' (b k : Nat) : (shf b k : Int) + (k : Int) + (b : Int) * (cls b k : Int) = ((shf b (k + 1) : Nat) : Int) := by
  rw [← shf_round]; omega

set_option maxHeartbeats 400000 in
theorem iShift_any (k b : Int) (w : World) : Calls Try.prog 12 #[.int .i64 k, .int .i64 b] w fun e w' => e = .returned (.int .i64 (shiftSum k b)) ∧ w = w' := by
  cases h1 : wi k 1 6 <;> cases h2 : wi b 2 4
  case true.true =>
    have hb := wi_yes h1
    have hb' := wi_yes h2
    obtain ⟨k, rfl⟩ := Int.eq_ofNat_of_zero_le (show 0 ≤ k by omega)
    obtain ⟨b, rfl⟩ := Int.eq_ofNat_of_zero_le (show 0 ≤ b by omega)
    have HR := Lib.hid (show ((shf b (pw b k) : Nat) : Int) = shiftSum k b by simp [shiftSum, h1, h2])
    have hN := pw46 (b := b) (k := k) (by omega) (by omega)
    have HB := Lib.hid (pw_bd (b := b) (c := 4) (n := k) (M := 4611686018427387903) (by omega) (by omega) (Nat.le_trans (pw46 (by omega) (by omega)) (by omega)))
    go_enter Try.func12, Try.ntmps12
    go_wp2_with (first | (go_at_call 18; refine (within_any _ _ _ _).mono ?_; rintro e w' ⟨rfl, rfl⟩) | (go_at_call 17; refine (isBase_any _ _).mono ?_; rintro e w' ⟨rfl, rfl⟩) | (go_at_call 19; refine (ipower_nat b k (by omega) HB.out _).mono ?_; rintro e w' ⟨rfl, rfl⟩))
    go_loop [18, 5] (fun i s => ∃ m : Nat, m ≤ pw b k ∧ i = .int .i64 m ∧ s = .int .i64 (shf b m : Nat)) (fun i _ => pw b k - (intOf i).toNat)
    case atStart => exact ⟨0, Nat.zero_le _, rfl, rfl⟩
    case round =>
      obtain ⟨m, hm, rfl, rfl⟩ := hrel
      have hs := shf_le (b := b) (by omega) (by omega) m (by omega)
      by_cases hlt : m < pw b k
      · have hc := cls_lt (b := b) (by omega) m
        obtain ⟨g1, g2⟩ := int_mul_bd (Nat.mul_le_mul (show b ≤ 4 by omega) (show cls b m ≤ 4 by omega))
        have HS := Lib.hid (shf_round b m)
        go_wp2_with (go_at_call 20; refine (iclass_nat _ _ (by omega) (by omega) (by omega) _).mono ?_; rintro e w' ⟨rfl, rfl⟩)
        go_round
        case rel => exact ⟨m + 1, by omega, by go_num, by rw [HS.out]⟩
        case measure => simp [intOf]; omega
      · have HE := Lib.hid (show m = pw b k by omega)
        go_wp2
        go_ret
        exact ⟨ret_int (by rw [← HR.out, HE.out]), rfl⟩
  all_goals
    have HR := Lib.hid (show -1 = shiftSum k b by simp [shiftSum, h1, h2])
    go_enter Try.func12, Try.ntmps12
    go_wp2_with (first | (go_at_call 18; refine (within_any _ _ _ _).mono ?_; rintro e w' ⟨rfl, rfl⟩) | (go_at_call 17; refine (isBase_any _ _).mono ?_; rintro e w' ⟨rfl, rfl⟩))
    go_ret
    exact ⟨ret_int HR.out, rfl⟩


end Go.Proofs.Ytkgokjekifmlfaa
