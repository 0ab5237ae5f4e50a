/-
  Contracts of part and PartOf (program and reference), and the walk of the law on PartOf. No conditions.
-/
import Derived.Test.YtbjhjpakjinpiaaBLaws1
namespace Go.Proofs.Ytbjhjpakjinpiaa
open Go.RowKit

def part (p : List (List UInt8)) (x y w h : Nat) : List (List UInt8) := ((p.drop y).take h).map fun r => (r.take (x + w)).drop x
theorem part_len {p : List (List UInt8)} {x y w h : Nat} (hy : y + h ≤ p.length) : (part p x y w h).length = h := by simp [part]; omega
theorem part_snoc (ss : List (List UInt8)) (f : List UInt8 → List UInt8) {k : Nat} (h : k < ss.length) : (ss.map f).take (k + 1) = (ss.map f).take k ++ [f ss[k]] := by
  rw [take_snoc _ k (by simpa using h)]; simp
theorem ret_sb0 {st : TypeId} {w : World} (e : TypeId) : Own w w e none 0 0 (svs []) := Own.nil (Below.refl _ _) e

theorem svs_take (ss : List (List UInt8)) (k : Nat) : (svs ss).take k = svs (ss.take k) := by simp [svs, List.map_take]
theorem svs_drop (ss : List (List UInt8)) (k : Nat) : (svs ss).drop k = svs (ss.drop k) := by simp [svs, List.map_drop]

set_option maxHeartbeats 800000 in
theorem ipart_any (A : Option Addr) (n c : Nat) (p : List (List UInt8)) (x y w h : Nat) (W : World) (hp : SIn W A n c p) (hh : 1 ≤ h) (hy : y + h ≤ n) (hx : x + w ≤ 32) (hrow : ∀ r ∈ p, x + w ≤ r.length) :
    Calls Try.prog 30 #[.slice A n c, .int .i64 (x : Int), .int .i64 (y : Int), .int .i64 (w : Int), .int .i64 (h : Int)] W (RetS 9 W (part p x y w h)) := by
  obtain ⟨hrd, hn, hl, hc⟩ := hp
  have hlen := Lib.hid hrd.lenS
  obtain ⟨a, rfl, hab, _⟩ := hrd.str (k := 0) (by rw [hlen.out]; omega)
  have hcut := ((hrd.drop (k := y)).take (k := h) (by omega))
  rw [svs_drop, svs_take] at hcut
  have HC := Lib.hid hcut
  have HW := Lib.hid hrow
  clear hcut hrow hrd hl
  go_enter Try.func30, Try.ntmps30
  go_wp2
  simp only [Nat.add_sub_cancel_left]
  go_loopw [22, 11] (fun i out wr => ∃ (k : Nat) (A' : Option Addr) (c' : Nat), k ≤ h ∧ i = .int .i64 k ∧ out = .slice A' k c' ∧ Own W wr 9 A' k c' (svs ((part p x y w h).take k))) (fun i _ _ => h - (intOf i).toNat)
  case atStart => exact ⟨0, _, _, Nat.zero_le _, rfl, rfl, Own.made0 (Below.refl _ _) _⟩
  case round =>
    obtain ⟨k, A', c', hk, rfl, rfl, hown⟩ := hrel
    by_cases hlt : k < h
    · have hkl : k < ((p.drop y).take h).length := by simp; have := hlen.out; omega
      obtain ⟨a2, ha2, _, hcell⟩ := (HC.out.below hown.2).str (k := k) hkl
      injection ha2 with ha2
      subst ha2
      have hr := HW.out _ (List.mem_of_mem_drop (List.mem_of_mem_take (List.getElem_mem hkl)))
      have HS := Lib.hid (part_snoc ((p.drop y).take h) (fun r => (r.take (x + w)).drop x) hkl)
      obtain ⟨r, hre⟩ : ∃ r, r = ((p.drop y).take h)[k] := ⟨_, rfl⟩
      rw [← hre] at hcell hr
      have HRE := Lib.hid hre
      clear hre
      go_wp2_with (at_builtin; refine app_one (.tmp 26) (.tmp 33) _ _ _ 16 rfl rfl Try.underlying23 infoS rfl rfl hown rfl rfl (by omega) (by omega) ?_; intro A2 c2 w1 hown1)
      exact ⟨⟨k + 1, A2, c2, by omega, by go_num, rfl, by unfold part; rw [HS.out, svs_snoc, ← HRE.out]; exact hown1⟩, by simp [intOf]; omega⟩
    · have HK := Lib.hid (show (part p x y w h).take k = part p x y w h from List.take_of_length_le (by rw [part_len (by rw [hlen.out]; exact hy)]; omega))
      obtain rfl : k = h := by omega
      go_wp2
      go_ret
      refine ⟨_, _, _, rfl, ?_⟩
      have h2 := hown
      rw [HK.out] at h2
      exact h2

/-! ## PartOf -/
def partOf (p : List (List UInt8)) (x y w h : Int) : List (List UInt8) × Bool :=
  if pOk p && wi x 0 (wd p) && wi y 0 p.length && wi w 1 (wd p - x) && wi h 1 (p.length - y) then (part p x.toNat y.toNat w.toNat h.toNat, true) else ([], false)
theorem partOf_two (p : List (List UInt8)) (x y w h : Int) : (pOk p && wi w 1 (wd p) && wi h 1 p.length && wi x 0 (wd p - w) && wi y 0 (p.length - h)) = (pOk p && wi x 0 (wd p) && wi y 0 p.length && wi w 1 (wd p - x) && wi h 1 (p.length - y)) := by
  rw [Bool.eq_iff_iff]
  simp only [Bool.and_eq_true, wi, decide_eq_true_eq]
  constructor
  · rintro ⟨⟨⟨⟨h1, h2⟩, h3⟩, h4⟩, h5⟩; exact ⟨⟨⟨⟨h1, by omega⟩, by omega⟩, by omega⟩, by omega⟩
  · rintro ⟨⟨⟨⟨h1, h2⟩, h3⟩, h4⟩, h5⟩; exact ⟨⟨⟨⟨h1, by omega⟩, by omega⟩, by omega⟩, by omega⟩
theorem partOf_len (p : List (List UInt8)) (x y w h : Int) : (partOf p x y w h).1.length ≤ 4096 := by
  unfold partOf
  split
  · rename_i hh
    simp only [Bool.and_eq_true] at hh
    have h1 := pOk_len hh.1.1.1.1
    simp [part]; omega
  · simp
theorem part_row {p : List (List UInt8)} (h : pOk p = true) {x w : Nat} (hx : x + w ≤ wd p) : ∀ r ∈ p, x + w ≤ r.length := fun r hr => by
  rw [(pOk_row h hr).2.1]; exact hx

set_option maxHeartbeats 1600000 in
theorem cPartOfI (A : Option Addr) (n c : Nat) (p : List (List UInt8)) (x y w h : Int) (W : World) (hp : SIn W A n c p) :
    Calls Try.prog 13 #[.slice A n c, .int .i64 x, .int .i64 y, .int .i64 w, .int .i64 h] W (RetSB 9 W (partOf p x y w h).1 (partOf p x y w h).2) := by
  have hcon := iPatchOk_any A n c _ p W hp.1 hp.2.1 hp.longs
  have hlen := Lib.hid hp.1.lenS
  cases hok : pOk p
  case false =>
    have HE := Lib.hid (show ([], false) = partOf p x y w h by simp [partOf, hok])
    rw [hok] at hcon
    have HC := Lib.hid hcon
    clear hcon
    go_enter Try.func13, Try.ntmps13
    go_wp2_with (go_at_call 12; refine HC.out.mono ?_; rintro e w' ⟨rfl, rfl⟩)
    go_ret2
    rw [← HE.out]
    exact ⟨_, _, _, rfl, Own.nil (Below.refl _ _) _⟩
  case true =>
  have hpl := pOk_len hok
  have hwd := pOk_wd hok
  have hn32 : n ≤ 32 := by have := hlen.out; omega
  have hn0 : 0 < n := by have := hlen.out; omega
  have HP := Lib.hid hp
  rw [hok] at hcon
  have HC := Lib.hid hcon
  obtain ⟨a, rfl, hab, hc0⟩ := hp.1.str (k := 0) (by omega)
  have hc00 : W.cell? a = some (.string ⟨(p[0]).toArray⟩) := hc0
  have HW0 := Lib.hid (wd_zero (p := p) (by omega))
  rw [HW0.out] at hwd
  have HOK := Lib.hid hok
  clear hcon hok hp hc0
  cases h1 : wi x 0 ((p[0]).length : Int)
  case false =>
    have HE := Lib.hid (show ([], false) = partOf p x y w h by rw [← HW0.out] at h1; simp [partOf, h1])
    go_enter Try.func13, Try.ntmps13
    go_wp2_with (first | (go_at_call 12; refine HC.out.mono ?_; rintro e w' ⟨rfl, rfl⟩) | (go_at_call 29; refine (within_any _ _ _ _).mono ?_; rintro e w' ⟨rfl, rfl⟩))
    go_ret2
    rw [← HE.out]
    exact ⟨_, _, _, rfl, Own.nil (Below.refl _ _) _⟩
  case true =>
  have hb1 := wi_yes h1
  cases h2 : wi y 0 (n : Int)
  case false =>
    have HE := Lib.hid (show ([], false) = partOf p x y w h by rw [← hlen.out] at h2; simp [partOf, h2])
    go_enter Try.func13, Try.ntmps13
    go_wp2_with (first | (go_at_call 12; refine HC.out.mono ?_; rintro e w' ⟨rfl, rfl⟩) | (go_at_call 29; refine (within_any _ _ _ _).mono ?_; rintro e w' ⟨rfl, rfl⟩))
    go_ret2
    rw [← HE.out]
    exact ⟨_, _, _, rfl, Own.nil (Below.refl _ _) _⟩
  case true =>
  have hb2 := wi_yes h2
  cases h3 : wi w 1 (((p[0]).length : Int) - x)
  case false =>
    have HE := Lib.hid (show ([], false) = partOf p x y w h by rw [← HW0.out] at h3; simp [partOf, h3])
    go_enter Try.func13, Try.ntmps13
    go_wp2_with (first | (go_at_call 12; refine HC.out.mono ?_; rintro e w' ⟨rfl, rfl⟩) | (go_at_call 29; refine (within_any _ _ _ _).mono ?_; rintro e w' ⟨rfl, rfl⟩))
    go_ret2
    rw [← HE.out]
    exact ⟨_, _, _, rfl, Own.nil (Below.refl _ _) _⟩
  case true =>
  have hb3 := wi_yes h3
  cases h4 : wi h 1 ((n : Int) - y)
  case false =>
    have HE := Lib.hid (show ([], false) = partOf p x y w h by rw [← hlen.out] at h4; simp [partOf, h4])
    go_enter Try.func13, Try.ntmps13
    go_wp2_with (first | (go_at_call 12; refine HC.out.mono ?_; rintro e w' ⟨rfl, rfl⟩) | (go_at_call 29; refine (within_any _ _ _ _).mono ?_; rintro e w' ⟨rfl, rfl⟩))
    go_ret2
    rw [← HE.out]
    exact ⟨_, _, _, rfl, Own.nil (Below.refl _ _) _⟩
  case true =>
  have hb4 := wi_yes h4
  obtain ⟨x, rfl⟩ := Int.eq_ofNat_of_zero_le (show 0 ≤ x by omega)
  obtain ⟨y, rfl⟩ := Int.eq_ofNat_of_zero_le (show 0 ≤ y by omega)
  obtain ⟨w, rfl⟩ := Int.eq_ofNat_of_zero_le (show 0 ≤ w by omega)
  obtain ⟨h, rfl⟩ := Int.eq_ofNat_of_zero_le (show 0 ≤ h by omega)
  have HE := Lib.hid (show (part p x y w h, true) = partOf p x y w h by
    have e1 := h1; have e2 := h2; have e3 := h3; have e4 := h4
    rw [← HW0.out] at e1 e3
    rw [← hlen.out] at e2 e4
    simp [partOf, HOK.out, e1, e2, e3, e4])
  have HR := Lib.hid (part_row HOK.out (x := x) (w := w) (by rw [HW0.out]; omega))
  go_enter Try.func13, Try.ntmps13
  go_wp2_with (first | (go_at_call 12; refine HC.out.mono ?_; rintro e w' ⟨rfl, rfl⟩) | (go_at_call 29; refine (within_any _ _ _ _).mono ?_; rintro e w' ⟨rfl, rfl⟩) | (go_at_call 30; refine (ipart_any _ _ _ _ _ _ _ _ _ HP.out (by omega) (by omega) (by omega) HR.out).mono ?_; rintro e w1 ⟨A2, n2, c2, rfl, hown⟩))
  go_ret2
  rw [← HE.out]
  exact ⟨_, _, _, rfl, hown⟩
end Go.Proofs.Ytbjhjpakjinpiaa
