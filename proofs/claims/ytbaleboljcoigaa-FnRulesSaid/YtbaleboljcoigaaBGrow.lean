/-
  Contracts of isLetter and GrowBlock (program and reference). No conditions.
-/
import Derived.Test.YtbaleboljcoigaaBApplyS
namespace Go.Proofs.Ytbaleboljcoigaa
open Go.RowKit

def growP (b : List (List UInt8)) (l : List UInt8) : Nat → List (List UInt8)
  | 0 => [l]
  | m + 1 => applyB b (growP b l m)
def letOk (b : List (List UInt8)) (l : List UInt8) : Bool := decide (l.length = 1) && (isW l && hasB b.length l)
def growBlock (b : List (List UInt8)) (l : List UInt8) (z : Int) : List (List UInt8) × Bool := if rOk b && (letOk b l && wi z 0 5) then (growP b l z.toNat, true) else ([], false)

theorem growP_rows {b : List (List UInt8)} {l : List UInt8} (hb : rOk b = true) (hl : letOk b l = true) (m : Nat) :
    (growP b l m).length = 2 ^ m ∧ ∀ r ∈ growP b l m, Fit b r ∧ r.length = 2 ^ m := by
  simp only [letOk, Bool.and_eq_true, decide_eq_true_eq] at hl
  induction m with
  | zero => exact ⟨rfl, fun r hr => by simp [growP] at hr; subst hr; exact ⟨⟨isW_all hl.2.1, hl.2.2⟩, hl.1⟩⟩
  | succ m ih =>
    refine ⟨by show (applyB b _).length = _; rw [applyB_len, ih.1, Nat.pow_succ]; omega, fun r hr => ⟨applyB_fit hb (fun r hr => (ih.2 r hr).1.2) r hr, ?_⟩⟩
    rw [applyB_row (m := 2 ^ m) hb (fun r hr => (ih.2 r hr).1.2) (fun r hr => (ih.2 r hr).2) r hr, Nat.pow_succ]; omega
theorem pow_le5 {m : Nat} (h : m ≤ 5) : 1 ≤ 2 ^ m ∧ 2 ^ m ≤ 32 := ⟨Nat.one_le_two_pow, Nat.le_trans (Nat.pow_le_pow_right (n := 2) (by decide) h) (by decide)⟩
theorem growP_ok {b : List (List UInt8)} {l : List UInt8} (hb : rOk b = true) (hl : letOk b l = true) {m : Nat} (hm : m < 5) : apOk b (growP b l m) = true := by
  have h := growP_rows hb hl m
  have hp := pow_le5 (m := m + 1) (by omega)
  have hp2 := pow_le5 (m := m) (by omega)
  rw [Nat.pow_succ] at hp
  have hwd : wd (growP b l m) = 2 ^ m := by rw [wd_zero (by omega)]; exact (h.2 _ (List.getElem_mem _)).2
  have h1 : pOk (growP b l m) = true := by
    unfold pOk
    rw [h.1, wi_mk (by omega) (by omega), Bool.and_true, List.all_eq_true]
    intro r hr
    have hr2 := h.2 r hr
    refine rowOk_mk ?_ (wi_mk (by omega) (by omega)) (by rw [hwd]; exact hr2.2)
    unfold isW; rw [hr2.1.1]; simp; omega
  have h2 : (growP b l m).all (hasB b.length) = true := by rw [List.all_eq_true]; exact fun r hr => (h.2 r hr).1.2
  unfold apOk
  rw [hb, h1, h2, h.1, hwd]
  simp; omega
theorem growBlock_len (b : List (List UInt8)) (l : List UInt8) (z : Int) : (growBlock b l z).1.length ≤ 4096 := by
  unfold growBlock
  split
  · rename_i h
    simp only [Bool.and_eq_true] at h
    have hz := wi_yes h.2.2
    have h1 := (growP_rows h.1 h.2.1 z.toNat).1
    have h2 := pow_le5 (m := z.toNat) (by omega)
    show (growP b l z.toNat).length ≤ 4096
    omega
  · simp


theorem lens_one {l : List UInt8} (h : l.length ≤ 1048576) : Lens [l] := fun s hs => by simp at hs; subst hs; exact h

set_option maxHeartbeats 1600000 in
theorem cGrowBlockS (A : Option Addr) (n c : Nat) (b : List (List UInt8)) (l : List UInt8) (z : Int) (W : World) (hb : SIn W A n c b) (hl : l.length ≤ 1048576) :
    Calls Try.prog 49 #[.slice A n c, .string ⟨l.toArray⟩, .int .i64 z] W (RetSB 9 W (growBlock b l z).1 (growBlock b l z).2) := by
  have hcb := sRuleOk_any A n c _ b W hb.1 hb.2.1 hb.longs
  have hlenb := Lib.hid hb.1.lenS
  cases hok : rOk b
  case false =>
    have HE := Lib.hid (show ([], false) = growBlock b l z by simp [growBlock, hok])
    rw [hok] at hcb
    have HC := Lib.hid hcb
    clear hcb
    go_enter Try.func49, Try.ntmps49
    go_wp2_with (go_at_call 58; refine HC.out.mono ?_; rintro e w' ⟨rfl, rfl⟩)
    go_ret2
    rw [← HE.out]
    exact ⟨_, _, _, rfl, Own.nil (Below.refl _ _) _⟩
  rw [hok] at hcb
  have HCB := Lib.hid hcb
  clear hcb
  have hbl := rOk_len hok
  have hn4 : n ≤ 4 := by have := hlenb.out; omega
  by_cases h1 : l.length = 1
  case neg =>
    have HE := Lib.hid (show ([], false) = growBlock b l z by simp [growBlock, letOk, h1])
    have h1' : ¬ ((l.length : Int) = 1) := by omega
    go_enter Try.func49, Try.ntmps49
    go_wp2_with (go_at_call 58; refine HCB.out.mono ?_; rintro e w' ⟨rfl, rfl⟩)
    go_ret2
    rw [← HE.out]
    exact ⟨_, _, _, rfl, Own.nil (Below.refl _ _) _⟩
  have hcw := WordOk_any l (by omega) W
  cases hw : isW l
  case false =>
    have HE := Lib.hid (show ([], false) = growBlock b l z by simp [growBlock, letOk, hw])
    rw [hw] at hcw
    have HC := Lib.hid hcw
    clear hcw
    go_enter Try.func49, Try.ntmps49
    go_wp2_with (first | (go_at_call 58; refine HCB.out.mono ?_; rintro e w' ⟨rfl, rfl⟩) | (go_at_call 59; refine HC.out.mono ?_; rintro e w' ⟨rfl, rfl⟩))
    go_ret2
    rw [← HE.out]
    exact ⟨_, _, _, rfl, Own.nil (Below.refl _ _) _⟩
  rw [hw] at hcw
  have HCW := Lib.hid hcw
  clear hcw
  have hch := l03Within_any n (by omega) l (by omega) (isW_all hw) W
  rw [← hlenb.out] at hch
  cases hh : hasB b.length l
  case false =>
    have HE := Lib.hid (show ([], false) = growBlock b l z by simp [growBlock, letOk, hh])
    rw [hh, hlenb.out] at hch
    have HC := Lib.hid hch
    clear hch
    go_enter Try.func49, Try.ntmps49
    go_wp2_with (first | (go_at_call 58; refine HCB.out.mono ?_; rintro e w' ⟨rfl, rfl⟩) | (go_at_call 59; refine HCW.out.mono ?_; rintro e w' ⟨rfl, rfl⟩) | (go_at_call 60; refine HC.out.mono ?_; rintro e w' ⟨rfl, rfl⟩))
    go_ret2
    rw [← HE.out]
    exact ⟨_, _, _, rfl, Own.nil (Below.refl _ _) _⟩
  rw [hh, hlenb.out] at hch
  have HCH := Lib.hid hch
  clear hch
  cases hz : wi z 0 5
  case false =>
    have HE := Lib.hid (show ([], false) = growBlock b l z by simp [growBlock, hz])
    have HC := Lib.hid (l01In_any z 0 5 W)
    rw [hz] at HC
    clear hz
    go_enter Try.func49, Try.ntmps49
    go_wp2_with (first | (go_at_call 58; refine HCB.out.mono ?_; rintro e w' ⟨rfl, rfl⟩) | (go_at_call 59; refine HCW.out.mono ?_; rintro e w' ⟨rfl, rfl⟩) | (go_at_call 60; refine HCH.out.mono ?_; rintro e w' ⟨rfl, rfl⟩) | (go_at_call 61; refine HC.out.mono ?_; rintro e w' ⟨rfl, rfl⟩))
    go_ret2
    rw [← HE.out]
    exact ⟨_, _, _, rfl, Own.nil (Below.refl _ _) _⟩
  have hz2 := wi_yes hz
  obtain ⟨t, rfl⟩ := Int.eq_ofNat_of_zero_le hz2.1
  have ht : t ≤ 5 := by omega
  have hlo : letOk b l = true := by simp [letOk, h1, hw, hh]
  have HE := Lib.hid (show (growP b l t, true) = growBlock b l t by simp [growBlock, hok, hlo, hz])
  have HC := Lib.hid (l01In_any t 0 5 W)
  rw [hz] at HC
  have HOK := Lib.hid hok
  have HLO := Lib.hid hlo
  have HB := Lib.hid hb
  clear hok hlo hb hz hw hh hz2
  go_enter Try.func49, Try.ntmps49
  go_wp2_with (first | (go_at_call 58; refine HCB.out.mono ?_; rintro e w' ⟨rfl, rfl⟩) | (go_at_call 59; refine HCW.out.mono ?_; rintro e w' ⟨rfl, rfl⟩) | (go_at_call 60; refine HCH.out.mono ?_; rintro e w' ⟨rfl, rfl⟩) | (go_at_call 61; refine HC.out.mono ?_; rintro e w' ⟨rfl, rfl⟩))
  go_loopw [9, 8] (fun i p w2 => ∃ (m : Nat) (A' : Option Addr) (k c' : Nat), m ≤ t ∧ i = .int .i64 m ∧ p = .slice A' k c' ∧ Own W w2 9 A' k c' (svs (growP b l m))) (fun i _ _ => t - (intOf i).toNat)
  case atStart => exact ⟨0, _, _, _, Nat.zero_le _, rfl, rfl, Own.made (Below.refl _ _) _ [.string ⟨l.toArray⟩] (by simp)⟩
  case round =>
    clear HCB HCW HCH HC
    obtain ⟨m, A', k, c', hm, rfl, rfl, hown⟩ := hrel
    by_cases hlt : m < t
    · have hg := growP_rows HOK.out HLO.out m
      have hp2 := pow_le5 (m := m) (by omega)
      have hk := hown.rd.lenS
      rw [hg.1] at hk
      have hcap := hown.cap
      have hap := l21Apply_any A n c b A' k c' (growP b l m) wr (HB.out.later hown.2) ⟨hown.rd, by omega, fun r hr => by have := (hg.2 r hr).2; omega, hcap⟩ HOK.out (fun r hr => (hg.2 r hr).1) (fun r hr => by have := (hg.2 r hr).2; omega) (by omega)
      have HAP := Lib.hid hap
      clear hg hap hk hcap hp2
      go_wp2_with (go_at_call 62; refine HAP.out.mono ?_; rintro e w' ⟨A5, n5, c5, rfl, hown5⟩)
      exact ⟨⟨m + 1, A5, n5, c5, by omega, by go_num, rfl, hown5.up hown.2⟩, by simp [intOf]; omega⟩
    · obtain rfl : m = t := by omega
      go_wp2
      go_ret2
      rw [← HE.out]
      exact ⟨_, _, _, rfl, hown⟩
end Go.Proofs.Ytbaleboljcoigaa
