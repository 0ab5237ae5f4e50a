/-
  Contracts of ClassWord (program and reference), and the walk of the law on them. No conditions.
-/
import Derived.Test.YtcicoplmpinnmaaDoorWords
import Derived.Test.YtcicoplmpinnmaaDoorBytes
namespace Go.Proofs.YtcicoplmpinnmaaDoor
section
open Go.RowKit

set_option maxHeartbeats 400000 in
theorem isBase_any (b : Int) (w : World) : Calls Tryd.prog 35 #[.int .i64 b] w fun e w' => e = .returned (.bool (wi b 2 4)) ∧ w = w' := by
  go_enter Tryd.func35, Tryd.ntmps35
  go_wp2_with (go_at_call 21; refine (within_any _ _ _ _).mono ?_; rintro e w' ⟨rfl, rfl⟩)
  go_ret
  exact ⟨rfl, rfl⟩

/-- what RankInClass returns -/
def rank (n b : Int) : Int := if wi n 0 100000 && wi b 2 4 then n / b else -1



end
section
open Go.RowKit

/-- the sum of the digits of n, with fuel -/
def dsF : Nat → Nat → Nat → Nat
  | 0, _, _ => 0
  | f + 1, b, n => n % b + dsF f b (n / b)
def ds (b n : Nat) : Nat := dsF n b n
def cls (b n : Nat) : Nat := ds b n % b
def clsI (b n : Int) : Int := (cls b.toNat n.toNat : Nat)

theorem dsF_zero (f b : Nat) : dsF f b 0 = 0 := by
  induction f with
  | zero => rfl
  | succ f ih => simp [dsF, ih]
theorem dsF_more {b : Nat} (hb : 2 ≤ b) : ∀ (f g n : Nat), n ≤ f → n ≤ g → dsF f b n = dsF g b n
  | 0, g, n, hf, _ => by obtain rfl : n = 0 := by omega
                         rw [dsF_zero, dsF_zero]
  | f + 1, 0, n, _, hg => by obtain rfl : n = 0 := by omega
                             rw [dsF_zero, dsF_zero]
  | f + 1, g + 1, n, hf, hg => by
    rcases Nat.eq_zero_or_pos n with rfl | hn
    · rw [dsF_zero, dsF_zero]
    · have hlt : n / b < n := Nat.div_lt_self hn (by omega)
      simp only [dsF]
      rw [dsF_more hb f g (n / b) (by omega) (by omega)]
theorem ds_step {b n : Nat} (hb : 2 ≤ b) (hn : 0 < n) : ds b n = n % b + ds b (n / b) := by
  unfold ds
  have hlt : n / b < n := Nat.div_lt_self hn (by omega)
  have hq : 0 ≤ n / b := Nat.zero_le _
  rw [dsF_more hb n (n / b + 1 + n) n (by omega) (by generalize n / b = q at *; omega), show n / b + 1 + n = (n / b + n) + 1 from by omega]
  simp only [dsF]
  rw [dsF_more hb (n / b + n) (n / b) (n / b) (by omega) (by omega)]
theorem ds_zero (b : Nat) : ds b 0 = 0 := rfl
theorem dsF_le {b : Nat} (hb : 2 ≤ b) : ∀ f n, dsF f b n ≤ n
  | 0, n => Nat.zero_le _
  | f + 1, n => by
    have h := dsF_le hb f (n / b)
    have h2 := Nat.div_add_mod n b
    have h3 : n / b ≤ b * (n / b) := Nat.le_mul_of_pos_left _ (by omega)
    simp only [dsF]; omega
theorem ds_le {b : Nat} (hb : 2 ≤ b) (n : Nat) : ds b n ≤ n := dsF_le hb n n
theorem cls_lt {b : Nat} (hb : 2 ≤ b) (n : Nat) : cls b n < b := Nat.mod_lt _ (by omega)

theorem cls_round {b m s n : Nat} (hb : 2 ≤ b) (hm : 0 < m) (h : s + ds b m = ds b n) : s + m % b + ds b (m / b) = ds b n := by
  have := ds_step hb hm; omega
theorem cls_end {b s n : Nat} {m : Nat} (hm : ¬ 0 < m) (h : s + ds b m = ds b n) : ((s : Int) % (b : Int)) = (cls b n : Nat) := by
  obtain rfl : m = 0 := by omega
  rw [ds_zero] at h
  unfold cls
  rw [← h]; simp

set_option maxHeartbeats 400000 in
theorem iclass_nat (n b : Nat) (hb : 2 ≤ b) (hb2 : b ≤ 4) (hn : n ≤ 4611686018427387903) (w : World) :
    Calls Tryd.prog 36 #[.int .i64 (n : Int), .int .i64 (b : Int)] w fun e w' => e = .returned (.int .i64 (cls b n : Nat)) ∧ w = w' := by
  have hdl := ds_le hb n
  go_enter Tryd.func36, Tryd.ntmps36
  go_wp2
  go_loop [0, 5] (fun m s => ∃ m' s' : Nat, m' ≤ n ∧ s' + ds b m' = ds b n ∧ m = .int .i64 m' ∧ s = .int .i64 s') (fun m _ => (intOf m).toNat)
  case atStart => exact ⟨n, 0, Nat.le_refl _, by omega, rfl, rfl⟩
  case round =>
    obtain ⟨m, s, hm, hs, rfl, rfl⟩ := hrel
    have HS := Lib.hid hs
    have hsl : s ≤ n := by omega
    clear hs
    by_cases hlt : 0 < m
    · have HR := Lib.hid (cls_round hb hlt HS.out)
      have hd : m / b < m := Nat.div_lt_self hlt (by omega)
      have hmod : m % b < b := Nat.mod_lt _ (by omega)
      have hq0 : (0 : Int) ≤ (m : Int) / (b : Int) := Int.ediv_nonneg (by omega) (by omega)
      have hq1 : (m : Int) / (b : Int) ≤ 4611686018427387903 := by have : ((m / b : Nat) : Int) = (m : Int) / (b : Int) := by simp
                                                                   omega
      go_wp2
      go_round
      case rel => exact ⟨m / b, s + m % b, by omega, HR.out, by go_num, by go_num⟩
      case measure => simp [intOf]; omega
    · have HE := Lib.hid (cls_end hlt HS.out)
      go_wp2
      go_ret
      exact ⟨ret_int HE.out, rfl⟩

theorem iclass_any (n b : Int) (hb : 2 ≤ b) (hb2 : b ≤ 4) (hn0 : 0 ≤ n) (hn : n ≤ 4611686018427387903) (w : World) :
    Calls Tryd.prog 36 #[.int .i64 n, .int .i64 b] w fun e w' => e = .returned (.int .i64 (clsI b n)) ∧ w = w' := by
  obtain ⟨n, rfl⟩ := Int.eq_ofNat_of_zero_le hn0
  obtain ⟨b, rfl⟩ := Int.eq_ofNat_of_zero_le (show 0 ≤ b by omega)
  exact iclass_nat n b (by omega) (by omega) (by omega) w

theorem clsI_bd {n b : Int} (hb : 2 ≤ b) : 0 ≤ clsI b n ∧ clsI b n < b := by
  have := cls_lt (b := b.toNat) (by omega) n.toNat
  unfold clsI; omega

/-- what ClassOf returns -/
def clsOf (n b : Int) : Int := if wi n 0 1000000000000 && wi b 2 4 then clsI b n else -1




end
section
open Go.RowKit

def clsLetter (b i : Nat) : UInt8 := UInt8.ofNat (97 + cls b i)
def classW (b n : Nat) : List UInt8 := (List.range n).map (clsLetter b)
theorem clsLetter_nat {b i : Nat} (hb : 2 ≤ b) (hb2 : b ≤ 4) : ((clsLetter b i).toNat : Int) = 97 + (cls b i : Nat) := by
  have := cls_lt hb i
  simp [clsLetter]; omega
theorem classW_snoc (b n : Nat) : classW b (n + 1) = classW b n ++ [clsLetter b n] := by simp [classW, List.range_succ]
def classWord (b n : Int) : List UInt8 × Bool := if wi b 2 4 && wi n 0 400 then (classW b.toNat n.toNat, true) else ([], false)

set_option maxHeartbeats 400000 in
theorem iClassWord_any (b n : Int) (w : World) : Calls Tryd.prog 17 #[.int .i64 b, .int .i64 n] w fun e w' => e = .returned (.tuple #[.string ⟨(classWord b n).1.toArray⟩, .bool (classWord b n).2]) ∧ Below w.heap.size w w' := by
  cases h1 : wi b 2 4 <;> cases h2 : wi n 0 400
  case true.true =>
    have hb := wi_yes h1
    have hb' := wi_yes h2
    obtain ⟨b, rfl⟩ := Int.eq_ofNat_of_zero_le (show 0 ≤ b by omega)
    obtain ⟨n, rfl⟩ := Int.eq_ofNat_of_zero_le (show 0 ≤ n by omega)
    have HR := Lib.hid (show (classW b n, true) = classWord b n by simp [classWord, h1, h2])
    go_enter Tryd.func17, Tryd.ntmps17
    go_wp2_with (first | (go_at_call 21; refine (within_any _ _ _ _).mono ?_; rintro e w' ⟨rfl, rfl⟩) | (go_at_call 35; refine (isBase_any _ _).mono ?_; rintro e w' ⟨rfl, rfl⟩))
    go_loopw [6, 18] (fun out i wr => ∃ (k : Nat) (A : Option Addr) (c : Nat), k ≤ n ∧ i = .int .i64 k ∧ out = .slice A k c ∧ Own w wr 5 A k c (bvs (classW b k))) (fun _ i _ => n - (intOf i).toNat)
    case atStart => exact ⟨0, _, _, Nat.zero_le _, rfl, rfl, Own.made0 (Below.refl _ _) _⟩
    case round =>
      obtain ⟨k, A, c, hk, rfl, rfl, hown⟩ := hrel
      by_cases hlt : k < n
      · have hc4 := cls_lt (b := b) (by omega) k
        have hidx := fun W => idx_abcd (cls b k) (by omega) (clsLetter b k) rfl W
        have hsn := Lib.hid (classW_snoc b k)
        go_wp2_with (first | (go_at_call 36; refine (iclass_nat _ _ (by omega) (by omega) (by omega) _).mono ?_; rintro e w' ⟨rfl, rfl⟩) | (at_builtin; refine app_one (.tmp 21) (.tmp 26) _ _ _ 1 rfl rfl Tryd.underlying22 infoB rfl rfl hown rfl rfl (by omega) (by omega) ?_; intro A' c' w1 hown1))
        exact ⟨⟨k + 1, A', c', by omega, by go_num, rfl, by rw [hsn.out, bvs_snoc]; exact hown1⟩, by simp [intOf]; omega⟩
      · obtain rfl : k = n := by omega
        have hconv := conv_bytes (P := Tryd.prog) 22 9 5 Tryd.underlying22 Tryd.underlying5 Tryd.underlying9 hown.rd (c := c)
        go_wp2
        go_ret2
        exact ⟨ret_sb HR.out, hown.2⟩
  all_goals
    have HR := Lib.hid (show ([], false) = classWord b n by simp [classWord, h1, h2])
    go_enter Tryd.func17, Tryd.ntmps17
    go_wp2_with (first | (go_at_call 21; refine (within_any _ _ _ _).mono ?_; rintro e w' ⟨rfl, rfl⟩) | (go_at_call 35; refine (isBase_any _ _).mono ?_; rintro e w' ⟨rfl, rfl⟩))
    go_ret2
    exact ⟨ret_sb HR.out, Below.refl _ _⟩



end
end Go.Proofs.YtcicoplmpinnmaaDoor
