/-
  Contracts of isLetter and GrowBlock (program and reference). No conditions.
-/
import Derived.Test.YtbjhjpakjinpiaaBApplyS
namespace Go.Proofs.Ytbjhjpakjinpiaa
open Go.RowKit

def growP (b : List (List UInt8)) (l : List UInt8) : Nat → List (List UInt8)
  | 0 => [l]
  | m + 1 => applyB b (growP b l m)
def letOk (b : List (List UInt8)) (l : List UInt8) : Bool := decide (l.length = 1) && (isW l && hasB b.length l)
def growBlock (b : List (List UInt8)) (l : List UInt8) (z : Int) : List (List UInt8) × Bool := if rOk b && (letOk b l && wi z 0 5) then (growP b l z.toNat, true) else ([], false)

theorem growP_rows {b : List (List UInt8)} {l : List UInt8} (hb : rOk b = true) (hl : letOk b l = true) (m : Nat) :
    (growP b l m).length = 2 ^ m ∧ ∀ r ∈ growP b l m, Fit b r ∧ r.length = 2 ^ m := by
  simp only [letOk, Bool.and_eq_true, decide_eq_true_eq] at hl
  induction m with
  | zero => exact ⟨rfl, fun r hr => by simp [growP] at hr; subst hr; exact ⟨⟨isW_all hl.2.1, hl.2.2⟩, hl.1⟩⟩
  | succ m ih =>
    refine ⟨by show (applyB b _).length = _; rw [applyB_len, ih.1, Nat.pow_succ]; omega, fun r hr => ⟨applyB_fit hb (fun r hr => (ih.2 r hr).1.2) r hr, ?_⟩⟩
    rw [applyB_row (m := 2 ^ m) hb (fun r hr => (ih.2 r hr).1.2) (fun r hr => (ih.2 r hr).2) r hr, Nat.pow_succ]; omega
theorem pow_le5 {m : Nat} (h : m ≤ 5) : 1 ≤ 2 ^ m ∧ 2 ^ m ≤ 32 := ⟨Nat.one_le_two_pow, Nat.le_trans (Nat.pow_le_pow_right (n := 2) (by decide) h) (by decide)⟩
theorem growP_ok {b : List (List UInt8)} {l : List UInt8} (hb : rOk b = true) (hl : letOk b l = true) {m : Nat} (hm : m < 5) : apOk b (growP b l m) = true := by
  have h := growP_rows hb hl m
  have hp := pow_le5 (m := m + 1) (by omega)
  have hp2 := pow_le5 (m := m) (by omega)
  rw [Nat.pow_succ] at hp
  have hwd : wd (growP b l m) = 2 ^ m := by rw [wd_zero (by omega)]; exact (h.2 _ (List.getElem_mem _)).2
  have h1 : pOk (growP b l m) = true := by
    unfold pOk
    rw [h.1, wi_mk (by omega) (by omega), Bool.and_true, List.all_eq_true]
    intro r hr
    have hr2 := h.2 r hr
    refine rowOk_mk ?_ (wi_mk (by omega) (by omega)) (by rw [hwd]; exact hr2.2)
    unfold isW; rw [hr2.1.1]; simp; omega
  have h2 : (growP b l m).all (hasB b.length) = true := by rw [List.all_eq_true]; exact fun r hr => (h.2 r hr).1.2
  unfold apOk
  rw [hb, h1, h2, h.1, hwd]
  simp; omega
theorem growBlock_len (b : List (List UInt8)) (l : List UInt8) (z : Int) : (growBlock b l z).1.length ≤ 4096 := by
  unfold growBlock
  split
  · rename_i h
    simp only [Bool.and_eq_true] at h
    have hz := wi_yes h.2.2
    have h1 := (growP_rows h.1 h.2.1 z.toNat).1
    have h2 := pow_le5 (m := z.toNat) (by omega)
    show (growP b l z.toNat).length ≤ 4096
    omega
  · simp

set_option maxHeartbeats 400000 in
theorem isLetter_any (l : List UInt8) (hl : l.length ≤ 9223372036854775807) (w : World) : Calls Try.prog 32 #[.string ⟨l.toArray⟩] w fun e w' => e = .returned (.bool (decide (l.length = 1) && isW l)) ∧ w = w' := by
  have hc := isWord_any l hl w
  by_cases h1 : l.length = 1
  · have HE := Lib.hid (show isW l = (decide (l.length = 1) && isW l) by simp [h1])
    have HC := Lib.hid hc
    clear hc
    go_enter Try.func32, Try.ntmps32
    go_wp2_with (go_at_call 28; refine HC.out.mono ?_; rintro e w' ⟨rfl, rfl⟩)
    go_ret
    exact ⟨ret_bool HE.out, rfl⟩
  · have HE := Lib.hid (show false = (decide (l.length = 1) && isW l) by simp [h1])
    clear hc
    go_enter Try.func32, Try.ntmps32
    go_wp2
    go_ret
    exact ⟨ret_bool HE.out, rfl⟩

theorem lens_one {l : List UInt8} (h : l.length ≤ 1048576) : Lens [l] := fun s hs => by simp at hs; subst hs; exact h

end Go.Proofs.Ytbjhjpakjinpiaa
