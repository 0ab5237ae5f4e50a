/-
  Contract of the program's GrowBlock. No conditions.
-/
import Derived.Test.YtbjhjpakjinpiaaBGrow
namespace Go.Proofs.Ytbjhjpakjinpiaa
open Go.RowKit

theorem Below.allocd (W : World) (o : Obj) : Below W.heap.size W (W.alloc o) := (Below.refl _ _).alloc (Nat.le_refl _) o

set_option maxHeartbeats 1600000 in
theorem cGrowBlockI (A : Option Addr) (n c : Nat) (b : List (List UInt8)) (l : List UInt8) (z : Int) (W : World) (hb : SIn W A n c b) (hl : l.length ≤ 1048576) :
    Calls Try.prog 15 #[.slice A n c, .string ⟨l.toArray⟩, .int .i64 z] W (RetSB 9 W (growBlock b l z).1 (growBlock b l z).2) := by
  have hcb := iRuleOk_any A n c _ b W hb.1 hb.2.1 hb.longs
  have hlenb := Lib.hid hb.1.lenS
  cases hok : rOk b
  case false =>
    have HE := Lib.hid (show ([], false) = growBlock b l z by simp [growBlock, hok])
    rw [hok] at hcb
    have HC := Lib.hid hcb
    clear hcb
    go_enter Try.func15, Try.ntmps15
    go_wp2_with (go_at_call 23; refine HC.out.mono ?_; rintro e w' ⟨rfl, rfl⟩)
    go_ret2
    rw [← HE.out]
    exact ⟨_, _, _, rfl, Own.nil (Below.refl _ _) _⟩
  rw [hok] at hcb
  have HCB := Lib.hid hcb
  clear hcb
  have hbl := rOk_len hok
  have hn4 : n ≤ 4 := by have := hlenb.out; omega
  have HCZ := Lib.hid (within_any z 0 5 W)
  cases hz : wi z 0 5
  case false =>
    have HE := Lib.hid (show ([], false) = growBlock b l z by simp [growBlock, hz])
    rw [hz] at HCZ
    clear hz
    go_enter Try.func15, Try.ntmps15
    go_wp2_with (first | (go_at_call 23; refine HCB.out.mono ?_; rintro e w' ⟨rfl, rfl⟩) | (go_at_call 29; refine HCZ.out.mono ?_; rintro e w' ⟨rfl, rfl⟩))
    go_ret2
    rw [← HE.out]
    exact ⟨_, _, _, rfl, Own.nil (Below.refl _ _) _⟩
  rw [hz] at HCZ
  have HCL := Lib.hid (isLetter_any l (by omega) W)
  cases hw : (decide (l.length = 1) && isW l)
  case false =>
    have HE := Lib.hid (show ([], false) = growBlock b l z by
      have : letOk b l = false := by unfold letOk; rw [← Bool.and_assoc, hw]; rfl
      simp [growBlock, this])
    rw [hw] at HCL
    clear hw hz
    go_enter Try.func15, Try.ntmps15
    go_wp2_with (first | (go_at_call 23; refine HCB.out.mono ?_; rintro e w' ⟨rfl, rfl⟩) | (go_at_call 29; refine HCZ.out.mono ?_; rintro e w' ⟨rfl, rfl⟩) | (go_at_call 32; refine HCL.out.mono ?_; rintro e w' ⟨rfl, rfl⟩))
    go_ret2
    rw [← HE.out]
    exact ⟨_, _, _, rfl, Own.nil (Below.refl _ _) _⟩
  rw [hw] at HCL
  have hw2 := hw
  simp only [Bool.and_eq_true, decide_eq_true_eq] at hw2
  have hch := haveBlocks_any A n c _ _ 1 1 [l] (W.alloc (.cells #[.string ⟨l.toArray⟩] 9)) (Rd.one W (.string ⟨l.toArray⟩) 9) hb.2.1 (by omega) (fun s hs => by simp at hs; subst hs; exact ⟨isW_all hw2.2, by omega⟩)
  rw [show [l].all (hasB n) = hasB b.length l by rw [hlenb.out]; simp] at hch
  cases hh : hasB b.length l
  case false =>
    have HE := Lib.hid (show ([], false) = growBlock b l z by simp [growBlock, letOk, hh])
    rw [hh] at hch
    have HC := Lib.hid hch
    clear hch hh hw hz hw2
    go_enter Try.func15, Try.ntmps15
    go_wp2_with (first | (go_at_call 23; refine HCB.out.mono ?_; rintro e w' ⟨rfl, rfl⟩) | (go_at_call 29; refine HCZ.out.mono ?_; rintro e w' ⟨rfl, rfl⟩) | (go_at_call 32; refine HCL.out.mono ?_; rintro e w' ⟨rfl, rfl⟩) | (go_at_call 24; refine HC.out.mono ?_; rintro e w' ⟨rfl, rfl⟩))
    go_ret2
    rw [← HE.out]
    exact ⟨_, _, _, rfl, Own.nil (Below.allocd _ _) _⟩
  rw [hh] at hch
  have HCH := Lib.hid hch
  clear hch
  have hz2 := wi_yes hz
  obtain ⟨t, rfl⟩ := Int.eq_ofNat_of_zero_le hz2.1
  have ht : t ≤ 5 := by omega
  have hlo : letOk b l = true := by simp [letOk, hw2.1, hw2.2, hh]
  have HE := Lib.hid (show (growP b l t, true) = growBlock b l t by simp [growBlock, hok, hlo, hz])
  have HOK := Lib.hid hok
  have HLO := Lib.hid hlo
  have HB := Lib.hid hb
  clear hok hlo hb hz hw hh hz2 hw2
  go_enter Try.func15, Try.ntmps15
  go_wp2_with (first | (go_at_call 23; refine HCB.out.mono ?_; rintro e w' ⟨rfl, rfl⟩) | (go_at_call 29; refine HCZ.out.mono ?_; rintro e w' ⟨rfl, rfl⟩) | (go_at_call 32; refine HCL.out.mono ?_; rintro e w' ⟨rfl, rfl⟩) | (go_at_call 24; refine HCH.out.mono ?_; rintro e w' ⟨rfl, rfl⟩))
  go_loopw [33, 8] (fun i p w2 => ∃ (m : Nat) (A' : Option Addr) (k c' : Nat), m ≤ t ∧ i = .int .i64 m ∧ p = .slice A' k c' ∧ Own W w2 9 A' k c' (svs (growP b l m))) (fun i _ _ => t - (intOf i).toNat)
  case atStart =>
    have h := Own.made (w0 := W) (w := W.alloc (.cells #[.string ⟨l.toArray⟩] 9)) (Below.allocd _ _) 9 [.string ⟨l.toArray⟩] (by simp)
    have hs : (W.alloc (.cells #[.string ⟨l.toArray⟩] 9)).heap.size = W.heap.size + 1 := by simp
    rw [hs] at h
    exact ⟨0, _, _, _, Nat.zero_le _, rfl, rfl, h⟩
  case round =>
    clear HCB HCZ HCL HCH
    obtain ⟨m, A', k, c', hm, rfl, rfl, hown⟩ := hrel
    by_cases hlt : m < t
    · have hg := growP_rows HOK.out HLO.out m
      have hp2 := pow_le5 (m := m) (by omega)
      have hk := hown.rd.lenS
      rw [hg.1] at hk
      have hcap := hown.cap
      have hap := cApplyBlocksI A n c b A' k c' (growP b l m) wr (HB.out.later hown.2) ⟨hown.rd, by omega, fun r hr => by have := (hg.2 r hr).2; omega, hcap⟩
      rw [show applyBlocks b (growP b l m) = (growP b l (m + 1), true) by simp only [applyBlocks, growP_ok HOK.out HLO.out (show m < 5 by omega)]; rfl] at hap
      have HAP := Lib.hid hap
      clear hg hap hk hcap hp2
      go_wp2_with (go_at_call 6; refine HAP.out.mono ?_; rintro e w' ⟨A5, n5, c5, rfl, hown5⟩)
      exact ⟨⟨m + 1, A5, n5, c5, by omega, by go_num, rfl, hown5.up hown.2⟩, by simp [intOf]; omega⟩
    · obtain rfl : m = t := by omega
      go_wp2
      go_ret2
      rw [← HE.out]
      exact ⟨_, _, _, rfl, hown⟩
end Go.Proofs.Ytbjhjpakjinpiaa
