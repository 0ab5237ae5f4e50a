/-
  Drawn rules, patches and sizes: contracts of l21Rule, l21Draw, MakeRule, MakePatch, MakeSize. No conditions beyond the code's length.
-/
import Derived.Test.YtcicoplmpinnmaaDoorMkB
import Derived.Test.YtcicoplmpinnmaaDoorBName
namespace Go.Proofs.YtcicoplmpinnmaaDoor
open Go.RowKit

theorem rOk_words {b : List (List UInt8)} {n : Nat} (hn : 1 ≤ n) (hn4 : n ≤ 4) (hb : b.length = n) (h : ∀ s ∈ b, s.length = 4 ∧ wordK n s) : rOk b = true := by
  unfold rOk
  simp only [Bool.and_eq_true]
  refine ⟨List.all_eq_true.2 fun s hs => ?_, wi_mk (by omega) (by omega), List.all_eq_true.2 fun s hs => ?_⟩
  · obtain ⟨h1, h2⟩ := h s hs
    unfold w4 isW
    simp only [Bool.and_eq_true, decide_eq_true_eq]
    refine ⟨⟨List.all_eq_true.2 fun c hc => ?_, by omega⟩, h1⟩
    have := h2 c hc
    simp only [isLet, decide_eq_true_eq]; omega
  · obtain ⟨h1, h2⟩ := h s hs
    unfold hasB
    refine List.all_eq_true.2 fun c hc => ?_
    have := h2 c hc
    simp only [decide_eq_true_eq]; omega
def RuleN (w : World) (g : Nat) (e : Ending) (w' : World) : Prop := ∃ A n c b, e = .returned (.slice A n c) ∧ rOk b = true ∧ GOwn w w' g 9 A n c (svs b)
theorem GOwn.of {w0 w1 w : World} {g : Nat} {e : TypeId} {A : Option Addr} {n c : Nat} {xs : List Value} (ht : TurnG w0 w1 g) (hc : CurAt w1 g) (ho : Own w1 w e A n c xs) : GOwn w0 w g e A n c xs :=
  ⟨less_row ho.1 ht.size, ht.trans (TurnG.of ho.2), hc.later ho.2⟩


def PatK (k : Nat) (p : List (List UInt8)) : Prop := 1 ≤ p.length ∧ p.length ≤ 5 ∧ ∃ m, 1 ≤ m ∧ m ≤ 5 ∧ ∀ r ∈ p, r.length = m ∧ wordK k r
set_option maxHeartbeats 1600000 in
theorem MakeSize_any (A : Option Addr) (n c : Nat) (l : List UInt8) (m lo hi : Nat) (W : World) (hr : Rd W W.heap.size A n (bvs l)) (hn : n ≤ 1048576) (hm : m ≤ 100000) (h1 : lo ≤ hi) (h2 : hi ≤ 90) :
    Calls Tryd.prog 5 #[.slice A n c, .int .i64 (m : Int), .int .i64 (lo : Int), .int .i64 (hi : Int)] W fun e w' => ∃ v : Nat, e = .returned (.int .i64 (v : Int)) ∧ lo ≤ v ∧ v ≤ hi ∧ Below W.heap.size W w' := by
  have HC := Lib.hid (l31New_any A n c l m W hr hn hm)
  clear hr
  go_enter Tryd.func5, Tryd.ntmps5
  go_wp2
  go_loop [10, 9] (fun i t => ∃ k : Nat, lo ≤ k ∧ k ≤ hi ∧ i = .int .i64 k ∧ t = .int .i64 (1 + ((k : Int) - (lo : Int)))) (fun i _ => hi - (intOf i).toNat)
  case atStart => exact ⟨lo, Nat.le_refl _, h1, rfl, by simp⟩
  case round =>
    obtain ⟨k, hk0, hk, rfl, rfl⟩ := hrel
    by_cases hlt : k < hi
    · have hd : decide ((k : Int) < (hi : Int)) = true := by simp; omega
      have hd2 : decide (1 + ((k : Int) - (lo : Int)) < 100) = true := by simp; omega
      go_wp2
      go_round
      case rel => exact ⟨k + 1, by omega, by omega, by go_num, by congr 1 <;> omega⟩
      case measure => simp [intOf]; omega
    · obtain rfl : k = hi := by omega
      have hd : decide ((k : Int) < (k : Int)) = false := by simp
      go_wp2_with fail
      refine HC.out.mono ?_
      rintro e w2 ⟨g, rfl, hg, hcur, hbel⟩
      have HCu := Lib.hid hcur
      have HB := Lib.hid hbel
      clear hcur hbel HC
      go_wp2_with fail
      refine (l01Below_any g (1 + ((k : Int) - (lo : Int))) _ (by omega) HCu.out).mono ?_
      rintro e w3 ⟨v, rfl, hv0, hv1, hv2, hc2, ht2⟩
      have hv5 := hv1 (by omega)
      obtain ⟨v, rfl⟩ := Int.eq_ofNat_of_zero_le hv0
      have HB2 := Lib.hid (below_turn HB.out ht2 hg)
      clear hc2 ht2 hv1 hv2 hd
      go_wp2
      go_loop [12, 11] (fun i t => ∃ j : Nat, j ≤ v ∧ i = .int .i64 ((v : Int) - (j : Int)) ∧ t = .int .i64 ((lo : Int) + (j : Int))) (fun i _ => (intOf i).toNat)
      case atStart => exact ⟨0, Nat.zero_le _, by simp, by simp⟩
      case round =>
        obtain ⟨j, hj, rfl, rfl⟩ := hrel
        by_cases hjv : j < v
        · go_wp2
          go_round
          case rel => exact ⟨j + 1, by omega, by congr 1 <;> omega, by congr 1 <;> omega⟩
          case measure => simp [intOf]; omega
        · obtain rfl : j = v := by omega
          go_wp2
          go_ret
          exact ⟨lo + j, ret_int (by omega), by omega, by omega, HB2.out⟩
end Go.Proofs.YtcicoplmpinnmaaDoor
