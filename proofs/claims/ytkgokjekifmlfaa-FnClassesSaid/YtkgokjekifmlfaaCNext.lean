/-
  Contracts of NextOfClass (program and reference), and the walk of the law on them. No conditions.
-/
import Derived.Test.YtkgokjekifmlfaaCWord
namespace Go.Proofs.Ytkgokjekifmlfaa
open Go.RowKit

theorem ds_mul {b q r : Nat} (hb : 2 ≤ b) (hr : r < b) : ds b (q * b + r) = r + ds b q := by
  rcases Nat.eq_zero_or_pos (q * b + r) with h | h
  · have hr0 : r = 0 := by omega
    have hq : q * b = 0 := by omega
    have hq0 : q = 0 := by rcases Nat.mul_eq_zero.1 hq with h | h <;> omega
    subst hr0; subst hq0; simp
  · rw [ds_step hb h]
    rw [Nat.mul_comm q b, Nat.mul_add_mod, Nat.mod_eq_of_lt hr, Nat.mul_add_div (by omega), Nat.div_eq_of_lt hr, Nat.add_zero]
theorem cls_mul {b q r : Nat} (hb : 2 ≤ b) (hr : r < b) : cls b (q * b + r) = (r + cls b q) % b := by
  unfold cls; rw [ds_mul hb hr, Nat.add_mod_mod]

theorem cls_there {b c : Nat} (n : Nat) (hb : 2 ≤ b) (hc : c < b) : ∃ j, n < j ∧ j < n + 1 + 2 * b ∧ cls b j = c := by
  have hq := cls_lt hb (n / b + 1)
  have h0 : n / b * b ≤ n := Nat.div_mul_le_self n b
  have h1 : n < n / b * b + b := by have := Nat.div_add_mod n b; have := Nat.mod_lt n (show 0 < b by omega); rw [Nat.mul_comm] ; omega
  have hr : (c + (b - cls b (n / b + 1))) % b < b := Nat.mod_lt _ (by omega)
  refine ⟨(n / b + 1) * b + (c + (b - cls b (n / b + 1))) % b, ?_, ?_, ?_⟩
  · rw [Nat.add_mul]; omega
  · rw [Nat.add_mul]; omega
  · rw [cls_mul hb hr, Nat.mod_add_mod]
    rw [show c + (b - cls b (n / b + 1)) + cls b (n / b + 1) = c + b from by omega, Nat.add_mod_right, Nat.mod_eq_of_lt hc]

/-- the first number from m on of class c, with fuel -/
def nxF : Nat → Nat → Nat → Nat → Nat
  | 0, _, _, m => m
  | f + 1, b, c, m => if cls b m = c then m else nxF f b c (m + 1)
def nx (b n : Nat) : Nat := nxF (2 * b) b (cls b n) (n + 1)

theorem nxF_found {b c m f : Nat} (h : cls b m = c) : nxF f b c m = m := by
  cases f with
  | zero => rfl
  | succ f => simp [nxF, h]
theorem nxF_go {b c m f : Nat} (h : cls b m ≠ c) : nxF (f + 1) b c m = nxF f b c (m + 1) := by simp [nxF, h]
/-- what a search holds at each round's head: the answer is the search's from here on, and there is one within the fuel -/
def Srch (b c N m f : Nat) : Prop := nxF f b c m = N ∧ ∃ j, m ≤ j ∧ j < m + f ∧ cls b j = c
theorem srch_start (b n : Nat) (hb : 2 ≤ b) : Srch b (cls b n) (nx b n) (n + 1) (2 * b) := by
  obtain ⟨j, h1, h2, h3⟩ := cls_there (c := cls b n) n hb (cls_lt hb n)
  exact ⟨rfl, j, by omega, by omega, h3⟩
theorem srch_round {b c N m f : Nat} (h : Srch b c N m f) (hc : cls b m ≠ c) : ∃ g, f = g + 1 ∧ Srch b c N (m + 1) g := by
  obtain ⟨h1, j, h2, h3, h4⟩ := h
  have hne : m ≠ j := by rintro rfl; exact hc h4
  obtain ⟨g, rfl⟩ : ∃ g, f = g + 1 := ⟨f - 1, by omega⟩
  exact ⟨g, rfl, by rw [← h1, nxF_go hc], j, by omega, by omega, h4⟩
theorem srch_end {b c N m f : Nat} (h : Srch b c N m f) (hc : cls b m = c) : m = N := by rw [← h.1, nxF_found hc]
theorem nxF_le (f b c m : Nat) : nxF f b c m ≤ m + f := by
  induction f generalizing m with
  | zero => simp [nxF]
  | succ f ih =>
    simp only [nxF]
    split
    · omega
    · have := ih (m + 1); omega

def nextOf (n b : Int) : Int := if wi n 0 1000000000000 && wi b 2 4 then (nx b.toNat n.toNat : Nat) else -1
theorem clsOf_no {n b : Int} (h : (wi n 0 1000000000000 && wi b 2 4) = false) : clsOf n b = -1 := by simp [clsOf, h]


theorem iClassOf_nat (n b : Nat) (h1 : wi n 0 1000000000000 = true) (h2 : wi b 2 4 = true) (w : World) : Calls Try.prog 7 #[.int .i64 (n : Int), .int .i64 (b : Int)] w fun e w' => e = .returned (.int .i64 (cls b n : Nat)) ∧ w = w' :=
  (iClassOf_any n b w).mono fun e w' ⟨he, hw⟩ => ⟨by rw [he]; simp [clsOf, h1, h2, clsI], hw⟩
theorem iClassOf_no (n b : Int) (h : (wi n 0 1000000000000 && wi b 2 4) = false) (w : World) : Calls Try.prog 7 #[.int .i64 n, .int .i64 b] w fun e w' => e = .returned (.int .i64 (-1)) ∧ w = w' :=
  (iClassOf_any n b w).mono fun e w' ⟨he, hw⟩ => ⟨by rw [he, clsOf_no h], hw⟩

set_option maxHeartbeats 400000 in
theorem iNext_any (n b : Int) (w : World) : Calls Try.prog 9 #[.int .i64 n, .int .i64 b] w fun e w' => e = .returned (.int .i64 (nextOf n b)) ∧ w = w' := by
  cases h0 : (wi n 0 1000000000000 && wi b 2 4)
  case true =>
    have h1 : wi n 0 1000000000000 = true := by simp at h0; exact h0.1
    have h2 : wi b 2 4 = true := by simp at h0; exact h0.2
    have hb := wi_yes h1
    have hb' := wi_yes h2
    obtain ⟨n, rfl⟩ := Int.eq_ofNat_of_zero_le (show 0 ≤ n by omega)
    obtain ⟨b, rfl⟩ := Int.eq_ofNat_of_zero_le (show 0 ≤ b by omega)
    have HR := Lib.hid (show ((nx b n : Nat) : Int) = nextOf n b by simp [nextOf, h1, h2])
    have HS := srch_start b n (by omega)
    have HC1 := iClassOf_nat n b h1 h2
    have HCC := Lib.hid HC1
    clear h0 h1 h2 HC1
    go_enter Try.func9, Try.ntmps9
    go_wp2_with (go_at_call 7; refine (HCC.out _).mono ?_; rintro e w' ⟨rfl, rfl⟩)
    go_loop [0] (fun m => ∃ m' f : Nat, m' + f = n + 1 + 2 * b ∧ m = .int .i64 m' ∧ Srch b (cls b n) (nx b n) m' f) (fun m => n + 1 + 2 * b - (intOf m).toNat)
    case atStart => exact ⟨n + 1, 2 * b, rfl, by go_num, HS⟩
    case round =>
      obtain ⟨m, f, hmf, rfl, hsr⟩ := hrel
      have HMF := Lib.hid hmf
      have hm : m ≤ n + 1 + 2 * b := by omega
      clear hmf HS
      by_cases hc : cls b m = cls b n
      · have HE := Lib.hid (srch_end hsr hc)
        have hbq : (((cls b m : Nat) : Int) != ((cls b n : Nat) : Int)) = false := by simp [hc]
        have HC := Lib.hid hc
        clear hc
        go_wp2_with (go_at_call 20; refine (iclass_nat _ _ (by omega) (by omega) (by omega) _).mono ?_; rintro e w' ⟨rfl, rfl⟩)
        go_ret
        exact ⟨ret_int (by rw [← HR.out, HE.out]), rfl⟩
      · obtain ⟨g, hg, hs2⟩ := srch_round hsr hc
        have hbq : (((cls b m : Nat) : Int) != ((cls b n : Nat) : Int)) = true := by simp; omega
        have hfp : 0 < f := by omega
        have HC := Lib.hid (show m + 1 + g = n + 1 + 2 * b from by have := HMF.out; omega)
        have hml : m < n + 1 + 2 * b := by have := HC.out; omega
        clear hc hg hsr
        go_wp2_with (go_at_call 20; refine (iclass_nat _ _ (by omega) (by omega) (by omega) _).mono ?_; rintro e w' ⟨rfl, rfl⟩)
        go_round
        case rel => exact ⟨m + 1, g, HC.out, by go_num, hs2⟩
        case measure => simp [intOf]; omega
  case false =>
    have HR := Lib.hid (show -1 = nextOf n b by simp [nextOf, h0])
    have HC1 := iClassOf_no n b h0
    have HCC := Lib.hid HC1
    clear HC1
    go_enter Try.func9, Try.ntmps9
    go_wp2_with (go_at_call 7; refine (HCC.out _).mono ?_; rintro e w' ⟨rfl, rfl⟩)
    go_ret
    exact ⟨ret_int HR.out, rfl⟩


end Go.Proofs.Ytkgokjekifmlfaa
