/-
  Contracts of MembersOf and PowerSum (program and reference), and the walks of the laws on them. No conditions.
-/
import Derived.Test.YtkgokjekifmlfaaCPow
import Derived.Test.YtkgokjekifmlfaaHelpI
namespace Go.Proofs.Ytkgokjekifmlfaa
open Go.RowKit

/-- the numbers below m of a class -/
def mbs (b cl m : Nat) : List Int := ((List.range m).filter fun i => cls b i == cl).map fun i : Nat => (i : Int)
theorem mbs_yes {b cl m : Nat} (h : cls b m = cl) : mbs b cl (m + 1) = mbs b cl m ++ [(m : Int)] := by
  simp [mbs, List.range_succ, h]
theorem mbs_no {b cl m : Nat} (h : cls b m ≠ cl) : mbs b cl (m + 1) = mbs b cl m := by
  simp [mbs, List.range_succ, h]
theorem mbs_le (b cl m : Nat) : (mbs b cl m).length ≤ m := by
  have := List.length_filter_le (fun i => cls b i == cl) (List.range m)
  simpa [mbs] using this
def membersOf (b k cl : Int) : List Int := if wi b 2 4 && wi k 1 6 && wi cl 0 (b - 1) then mbs b.toNat cl.toNat (pw b.toNat k.toNat) else []

def RetInts (w0 : World) (zs : List Int) (e : Ending) (w' : World) : Prop := ∃ A n c, e = .returned (.slice A n c) ∧ Own w0 w' 3 A n c (ivs zs)

set_option maxHeartbeats 800000 in
theorem iMembers_any (b k cl : Int) (w : World) : Calls Try.prog 5 #[.int .i64 b, .int .i64 k, .int .i64 cl] w (RetInts w (membersOf b k cl)) := by
  cases h1 : wi b 2 4
  case false =>
    have HR := Lib.hid (show [] = membersOf b k cl by simp [membersOf, h1])
    go_enter Try.func5, Try.ntmps5
    go_wp2_with (first | (go_at_call 18; refine (within_any _ _ _ _).mono ?_; rintro e w' ⟨rfl, rfl⟩) | (go_at_call 17; refine (isBase_any _ _).mono ?_; rintro e w' ⟨rfl, rfl⟩))
    go_ret
    exact ⟨_, _, _, rfl, by rw [← HR.out]; exact Own.nil (Below.refl _ _) _⟩
  case true =>
  have hb := wi_yes h1
  obtain ⟨b, rfl⟩ := Int.eq_ofNat_of_zero_le (show 0 ≤ b by omega)
  cases h2 : wi k 1 6
  case false =>
    have HR := Lib.hid (show [] = membersOf b k cl by simp [membersOf, h2])
    go_enter Try.func5, Try.ntmps5
    go_wp2_with (first | (go_at_call 18; refine (within_any _ _ _ _).mono ?_; rintro e w' ⟨rfl, rfl⟩) | (go_at_call 17; refine (isBase_any _ _).mono ?_; rintro e w' ⟨rfl, rfl⟩))
    go_ret
    exact ⟨_, _, _, rfl, by rw [← HR.out]; exact Own.nil (Below.refl _ _) _⟩
  case true =>
  cases h3 : wi cl 0 (b - 1)
  case false =>
    have HR := Lib.hid (show [] = membersOf b k cl by simp [membersOf, h3])
    go_enter Try.func5, Try.ntmps5
    go_wp2_with (first | (go_at_call 18; refine (within_any _ _ _ _).mono ?_; rintro e w' ⟨rfl, rfl⟩) | (go_at_call 17; refine (isBase_any _ _).mono ?_; rintro e w' ⟨rfl, rfl⟩))
    go_ret
    exact ⟨_, _, _, rfl, by rw [← HR.out]; exact Own.nil (Below.refl _ _) _⟩
  case true =>
    have hb' := wi_yes h2
    have hb'' := wi_yes h3
    obtain ⟨k, rfl⟩ := Int.eq_ofNat_of_zero_le (show 0 ≤ k by omega)
    obtain ⟨cl, rfl⟩ := Int.eq_ofNat_of_zero_le (show 0 ≤ cl by omega)
    have HR := Lib.hid (show mbs b cl (pw b k) = membersOf b k cl by simp [membersOf, h1, h2, h3])
    have hN := pw46 (b := b) (k := k) (by omega) (by omega)
    have HB := Lib.hid (pw_bd (b := b) (c := 4) (n := k) (M := 4611686018427387903) (by omega) (by omega) (Nat.le_trans (pw46 (by omega) (by omega)) (by omega)))
    go_enter Try.func5, Try.ntmps5
    go_wp2_with (first | (go_at_call 18; refine (within_any _ _ _ _).mono ?_; rintro e w' ⟨rfl, rfl⟩) | (go_at_call 17; refine (isBase_any _ _).mono ?_; rintro e w' ⟨rfl, rfl⟩) | (go_at_call 19; refine (ipower_nat b k (by omega) HB.out _).mono ?_; rintro e w' ⟨rfl, rfl⟩))
    go_loopw [28, 7] (fun i out wr => ∃ (m : Nat) (A : Option Addr) (n c : Nat), m ≤ pw b k ∧ i = .int .i64 m ∧ out = .slice A n c ∧ Own w wr 3 A n c (ivs (mbs b cl m))) (fun i _ _ => pw b k - (intOf i).toNat)
    case atStart => exact ⟨0, _, _, _, Nat.zero_le _, rfl, rfl, Own.made0 (Below.refl _ _) _⟩
    case round =>
      obtain ⟨m, A, n, c, hm, rfl, rfl, hown⟩ := hrel
      by_cases hlt : m < pw b k
      · have hn : n ≤ m := by have h1 := hown.len; have h2 := mbs_le b cl m; simp [ivs] at h1; omega
        by_cases hc : cls b m = cl
        · have hsn := Lib.hid (mbs_yes hc)
          have hq : (((cls b m : Nat) : Int) == (cl : Int)) = true := by simp [hc]
          clear hc
          go_wp2_with (first | (go_at_call 20; refine (iclass_nat _ _ (by omega) (by omega) (by omega) _).mono ?_; rintro e w' ⟨rfl, rfl⟩) | (at_builtin; refine app_one (.tmp 36) (.tmp 38) _ _ _ 8 rfl rfl Try.underlying24 infoI rfl rfl hown rfl rfl (by omega) (by omega) ?_; intro A' c' w1 hown1))
          exact ⟨⟨m + 1, A', n + 1, c', by omega, by go_num, rfl, by rw [hsn.out, ivs_snoc]; exact hown1⟩, by simp [intOf]; omega⟩
        · have hsn := Lib.hid (mbs_no hc)
          have hq : (((cls b m : Nat) : Int) == (cl : Int)) = false := by simp; omega
          clear hc
          go_wp2_with (first | (go_at_call 20; refine (iclass_nat _ _ (by omega) (by omega) (by omega) _).mono ?_; rintro e w' ⟨rfl, rfl⟩))
          exact ⟨⟨m + 1, A, n, c, by omega, by go_num, rfl, by rw [hsn.out]; exact hown⟩, by simp [intOf]; omega⟩
      · have HE := Lib.hid (show m = pw b k by omega)
        go_wp2
        go_ret
        exact ⟨_, _, _, rfl, by rw [← HR.out, ← HE.out]; exact hown⟩

theorem mbs_bd {b cl m : Nat} : (mbs b cl m).length ≤ m := mbs_le b cl m
theorem membersOf_len (b k cl : Int) : (membersOf b k cl).length ≤ 4096 := by
  unfold membersOf
  split
  · rename_i h
    simp only [Bool.and_eq_true] at h
    have h1 := wi_yes h.1.1
    have h2 := wi_yes h.1.2
    exact Nat.le_trans (mbs_le _ _ _) (pw46 (by omega) (by omega))
  · simp


/-! ## PowerSum -/
def psF (e : Nat) (zs : List Int) : Nat := (zs.map fun z => pw z.toNat e).sum
def psOk (z : Int) : Bool := wi z 0 5000
def powerSum (zs : List Int) (e : Int) : Int := if decide (zs.length ≤ 1100) && wi e 0 3 && zs.all psOk then (psF e.toNat zs : Nat) else -1
theorem pw53 {b k : Nat} (hb : b ≤ 5000) (hk : k ≤ 3) : pw b k ≤ 125000000000 := pw_mono (c := 5000) (n := 3) (by omega) hb hk
theorem psF_snoc (e : Nat) (zs : List Int) {k : Nat} (h : k < zs.length) : psF e (zs.take (k + 1)) = psF e (zs.take k) + pw (zs[k]).toNat e := by
  simp only [psF, take_snoc zs k h, List.map_append, List.sum_append, List.map_cons, List.map_nil, List.sum_cons, List.sum_nil, Nat.add_zero]
theorem psF_le {e : Nat} (he : e ≤ 3) : ∀ zs : List Int, zs.all psOk = true → psF e zs ≤ zs.length * 125000000000
  | [], _ => by simp [psF]
  | z :: r, h => by
    simp only [List.all_cons, Bool.and_eq_true] at h
    have h1 := psF_le he r h.2
    have h2 := wi_yes (show wi z 0 5000 = true from h.1)
    have h3 := pw53 (b := z.toNat) (k := e) (by omega) he
    simp only [psF, List.map_cons, List.sum_cons, List.length_cons] at *
    omega

set_option maxHeartbeats 800000 in
theorem iPowerSum_any (A : Option Addr) (n c B : Nat) (zs : List Int) (x : Int) (w : World) (hr : Rd w B A n (ivs zs)) (hn : n ≤ 1048576) :
    Calls Try.prog 6 #[.slice A n c, .int .i64 x] w fun e w' => e = .returned (.int .i64 (powerSum zs x)) ∧ w = w' := by
  have hlen := Lib.hid hr.lenI
  have HR := Lib.hid hr
  clear hr
  by_cases h1 : n ≤ 1100
  · cases h2 : wi x 0 3
    · have HE := Lib.hid (show -1 = powerSum zs x by simp [powerSum, h2])
      go_enter Try.func6, Try.ntmps6
      go_wp2_with (go_at_call 18; refine (within_any _ _ _ _).mono ?_; rintro e w' ⟨rfl, rfl⟩)
      go_ret
      exact ⟨ret_int HE.out, rfl⟩
    · have hx := wi_yes h2
      obtain ⟨x, rfl⟩ := Int.eq_ofNat_of_zero_le (show 0 ≤ x by omega)
      have HL := Lib.hid (show zs.length ≤ 1100 by have := hlen.out; omega)
      have HX := Lib.hid h2
      go_enter Try.func6, Try.ntmps6
      go_wp2_with (go_at_call 18; refine (within_any _ _ _ _).mono ?_; rintro e w' ⟨rfl, rfl⟩)
      clear h2
      go_loop [18, 5] (fun i s => ∃ k : Nat, k ≤ n ∧ i = .int .i64 k ∧ s = .int .i64 (psF x (zs.take k) : Nat) ∧ (zs.take k).all psOk = true) (fun i _ => n - (intOf i).toNat)
      case atStart => exact ⟨0, Nat.zero_le _, rfl, rfl, rfl⟩
      case round =>
        obtain ⟨k, hk, rfl, rfl, ha⟩ := hrel
        have HA := Lib.hid ha
        have hs := psF_le (e := x) (by omega) _ ha
        have h4 : (zs.take k).length ≤ 1100 := by have := HL.out; rw [List.length_take]; omega
        have hs2 : psF x (zs.take k) ≤ 137500000000000 := Nat.le_trans hs (Nat.le_trans (Nat.mul_le_mul_right _ h4) (by decide))
        clear h4
        clear ha hs
        by_cases hlt : k < n
        · have hkl : k < zs.length := by rw [hlen.out]; exact hlt
          obtain ⟨a, rfl, hab, hcell⟩ := HR.out.int (k := k) hkl
          have HZ := Lib.hid (psF_snoc x zs hkl)
          cases h5 : wi zs[k] 0 5000
          · have HE := Lib.hid (show -1 = powerSum zs x by simp [powerSum, all_bad (p := psOk) hkl h5])
            go_wp2_with (go_at_call 18; refine (within_any _ _ _ _).mono ?_; rintro e w' ⟨rfl, rfl⟩)
            go_ret
            exact ⟨ret_int HE.out, rfl⟩
          · have hz := wi_yes h5
            have HN := Lib.hid (all_snoc (p := psOk) hkl HA.out h5)
            obtain ⟨z, hzz⟩ := Int.eq_ofNat_of_zero_le (show 0 ≤ zs[k] by omega)
            rw [hzz] at hcell hz h5
            have hp := pw53 (b := z) (k := x) (by omega) (by omega)
            have HZ2 := Lib.hid (show ((psF x (zs.take k) : Nat) : Int) + ((pw z x : Nat) : Int) = ((psF x (zs.take (k + 1)) : Nat) : Int) by rw [HZ.out, hzz]; simp)
            clear hzz
            have HB := Lib.hid (pw_bd (b := z) (c := 5000) (n := x) (M := 4611686018427387903) (by omega) (by omega) (Nat.le_trans (pw53 (by omega) (by omega)) (by omega)))
            go_wp2_with (first | (go_at_call 18; refine (within_any _ _ _ _).mono ?_; rintro e w' ⟨rfl, rfl⟩) | (go_at_call 19; refine (ipower_nat z x (by omega) HB.out _).mono ?_; rintro e w' ⟨rfl, rfl⟩))
            go_round
            case rel => exact ⟨k + 1, by omega, by go_num, by rw [HZ2.out], HN.out⟩
            case measure => simp [intOf]; omega
        · have HE := Lib.hid (show ((psF x (zs.take k) : Nat) : Int) = powerSum zs x by
            have hk2 : ¬ k < zs.length := by rw [hlen.out]; exact hlt
            have hall := all_done hk2 HA.out
            have e2 : zs.take k = zs := List.take_of_length_le (by omega)
            simp [powerSum, HL.out, HX.out, hall, e2])
          go_wp2
          go_ret
          exact ⟨ret_int HE.out, rfl⟩
  · have HE := Lib.hid (show -1 = powerSum zs x by have := hlen.out; simp [powerSum]; omega)
    go_enter Try.func6, Try.ntmps6
    go_wp2_with (go_at_call 18; refine (within_any _ _ _ _).mono ?_; rintro e w' ⟨rfl, rfl⟩)
    go_ret
    exact ⟨ret_int HE.out, rfl⟩

end Go.Proofs.Ytkgokjekifmlfaa
