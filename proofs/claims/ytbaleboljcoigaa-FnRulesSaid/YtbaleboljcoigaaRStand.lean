/-
  Contracts of stands (program) and l23Above (reference). Conditions: words of at most 64 letters.
-/
import Derived.Test.YtbaleboljcoigaaRFault
import Derived.Deep.RegionHeld3
import Derived.IntWalk
namespace Go.Proofs.Ytbaleboljcoigaa
open Go.RowKit

def pairAt (u t : List UInt8) (i : Nat) : List UInt8 := [u.getD i 0, t.getD i 0]
def stand (col : Pch) (u t : List UInt8) : Bool := (List.range u.length).all fun i => decide (pairAt u t i ∈ col)
theorem cut1 {u : List UInt8} {i : Nat} (h : i < u.length) : List.drop i (List.take (i + 1) u) = [u.getD i 0] := by
  rw [take_snoc u i h, List.drop_append_of_le_length (by rw [List.length_take]; omega), List.drop_of_length_le (by rw [List.length_take]; omega)]
  simp [List.getD, List.getElem?_eq_getElem h]
theorem range_all_snocR (f : Nat → Bool) (k : Nat) : (List.range (k + 1)).all f = ((List.range k).all f && f k) := by rw [List.range_succ, List.all_append]; simp
theorem range_all_badR {f : Nat → Bool} {k n : Nat} (hk : k < n) (h : f k = false) : (List.range n).all f = false := by
  rw [List.all_eq_false]; exact ⟨k, List.mem_range.2 hk, by simp [h]⟩
theorem bdR (w : World) : Below w.heap.size w w.drew := (Below.refl _ _).drew

theorem contains_is {A : Option Addr} {n c B : Nat} {ss : Pch} {x : List UInt8} {t : Bool} (ht : decide (x ∈ ss) = t) (w : World) (hr : Rd w B A n (svs ss)) (hn : n ≤ 1048576) :
    Calls Try.prog 39 #[.slice A n c, .string ⟨x.toArray⟩] w fun e w' => e = .returned (.bool t) ∧ w = w' := by
  have h := contains_any A n c B ss x w hr hn
  rw [ht] at h
  exact h
set_option maxHeartbeats 800000 in
theorem stands_any (u t : List UInt8) (A : Option Addr) (n c : Nat) (col : Pch) (w : World) (hc : SIn w A n c col) (hu : u.length ≤ 64) (ht : t.length = u.length) :
    Calls Try.prog 32 #[.string ⟨u.toArray⟩, .string ⟨t.toArray⟩, .slice A n c] w fun e w' => e = .returned (.bool (stand col u t)) ∧ Below w.heap.size w w' := by
  have HC := Lib.hid hc
  have hn := hc.2.1
  have HT := Lib.hid ht
  have ht64 : t.length ≤ 64 := by omega
  clear hc ht
  go_enter Try.func32, Try.ntmps32
  go_wp2
  go_loopw [10] (fun i wr => ∃ k : Nat, k ≤ u.length ∧ i = .int .i64 k ∧ ((List.range k).all fun i => decide (pairAt u t i ∈ col)) = true ∧ Below w.heap.size w wr) (fun i _ => u.length - (intOf i).toNat)
  case atStart => exact ⟨0, Nat.zero_le _, rfl, rfl, Below.refl _ _⟩
  case round =>
    obtain ⟨k, hk, rfl, ha, hbel⟩ := hrel
    have HA := Lib.hid ha
    clear ha
    by_cases hlt : k < u.length
    · have hlt2 : k < t.length := by have := HT.out; omega
      have h1 := cut1 hlt
      have h2 := cut1 hlt2
      have HSN := Lib.hid (range_all_snocR (fun i => decide (pairAt u t i ∈ col)) k)
      obtain ⟨x, hx⟩ : ∃ x, x = u.getD k 0 := ⟨_, rfl⟩
      obtain ⟨y, hy⟩ : ∃ y, y = t.getD k 0 := ⟨_, rfl⟩
      have HXY := Lib.hid (show pairAt u t k = [x, y] by rw [hx, hy]; rfl)
      rw [← hx] at h1
      rw [← hy] at h2
      have e1 : IntKind.i64.wrap ((k : Int) + 1) = (k : Int) + 1 := IntWalk.i64_in _ (by omega)
      have e2 : (0 : Int) ≤ (k : Int) + 1 := by omega
      have e3 : ((k : Int) + 1).toNat = k + 1 := by omega
      have e4 : (k : Int) + 1 ≤ (u.length : Int) := by omega
      have e5 : (k : Int) + 1 ≤ (t.length : Int) := by omega
      have e6 : (k : Int) ≤ (k : Int) + 1 := by omega
      have e7 : k + 1 ≤ u.length := by omega
      have e8 : k + 1 ≤ t.length := by omega
      have HQ := Lib.hid (HC.out.later (hbel.trans ((bdR wr).mono hbel.size))).1
      clear hx hy
      cases hin : decide ([x, y] ∈ col)
      · have HIN := Lib.hid hin
        have HE := Lib.hid (show false = stand col u t from (range_all_badR hlt (by rw [HXY.out]; exact hin)).symm)
        clear hin
        go_wp2
        go_region_held3 (fun _ => True) (trivial) ((go_at_call 39; (with_reducible refine (contains_is HIN.out _ HQ.out hn).mono ?_); rintro e w' ⟨rfl, rfl⟩))
        go_wp2
        go_ret
        exact ⟨ret_bool HE.out, hbel.trans ((bdR _).mono hbel.size)⟩
      · have HIN := Lib.hid hin
        have HN := Lib.hid (show ((List.range (k + 1)).all fun i => decide (pairAt u t i ∈ col)) = true by rw [HSN.out, HA.out, HXY.out, hin]; rfl)
        clear hin
        go_wp2
        go_region_held3 (fun _ => True) (trivial) ((go_at_call 39; (with_reducible refine (contains_is HIN.out _ HQ.out hn).mono ?_); rintro e w' ⟨rfl, rfl⟩))
        clear e1
        go_wp2
        exact ⟨⟨k + 1, by omega, by go_num, HN.out, hbel.trans ((bdR _).mono hbel.size)⟩, by simp [intOf]; omega⟩
    · have HE := Lib.hid (show true = stand col u t by unfold stand; rw [show u.length = k by omega]; exact HA.out.symm)
      go_wp2
      go_ret
      exact ⟨ret_bool HE.out, hbel⟩
end Go.Proofs.Ytbaleboljcoigaa
