/-
  Contracts of slices.IndexFunc, ContainsFunc and Index over strings, for a predicate that reads and may draw. Conditions: a slice that can be read.
-/
import Derived.Test.YtbaleboljcoigaaRFault
import Derived.Shelf.Abstract
namespace Go.Proofs.Ytbaleboljcoigaa
open Go.RowKit

def idxP (p : List UInt8 → Bool) (l : Pch) : Int := if l.findIdx p < l.length then (l.findIdx p : Nat) else -1
theorem idxP_hit {p : List UInt8 → Bool} {l : Pch} {k : Nat} (hk : k < l.length) (h : p l[k] = true) (hb : ∀ j (hj : j < k), p (l[j]'(by omega)) = false) : idxP p l = (k : Int) := by
  have h1 : l.findIdx p = k := (List.findIdx_eq hk).2 ⟨h, hb⟩
  unfold idxP; rw [h1, if_pos hk]
theorem idxP_none {p : List UInt8 → Bool} {l : Pch} (h : ∀ j (hj : j < l.length), p l[j] = false) : idxP p l = -1 := by
  have h1 : l.findIdx p = l.length := List.findIdx_eq_length.2 (fun x hx => by obtain ⟨i, hi, rfl⟩ := List.getElem_of_mem hx; exact h i hi)
  unfold idxP; rw [h1, if_neg (by omega)]
theorem idxP_any (p : List UInt8 → Bool) (l : Pch) : decide (0 ≤ idxP p l) = l.any p := by
  unfold idxP
  by_cases h : l.findIdx p < l.length
  · rw [if_pos h]
    have h2 : l.any p = true := List.any_eq_true.2 ⟨_, List.getElem_mem h, List.findIdx_getElem (w := h)⟩
    rw [h2]; simp
  · rw [if_neg h]
    have h3 : l.any p = false := by
      rw [List.any_eq_false]
      intro x hx
      have h4 : l.findIdx p = l.length := by have := List.findIdx_le_length (xs := l) (p := p); omega
      simp [List.findIdx_eq_length.1 h4 x hx]
    rw [h3]; rfl

set_option maxHeartbeats 800000 in
theorem indexFunc_any (g : Nat) (lb : Array Value) (eg : ∀ args w, (callFunc g args).run Try.prog w = .ok (.enter g args) w) (A : Option Addr) (n c B : Nat) (ss : Pch) (p : List UInt8 → Bool) (W : World) (hr : Rd W B A n (svs ss)) (hB : B ≤ W.heap.size) (hn : n ≤ 1048576)
    (hp : ∀ w, Below W.heap.size W w → ∀ x ∈ ss, Calls Try.prog g (#[.string ⟨x.toArray⟩] ++ lb) w fun e w' => e = .returned (.bool (p x)) ∧ Below w.heap.size w w') :
    Calls Try.prog 29 #[.slice A n c, .func (.func g) #[] lb] W fun e w' => e = .returned (.int .i64 (idxP p ss)) ∧ Below W.heap.size W w' := by
  have HR := Lib.hid (hr.more hB)
  have HLen := Lib.hid hr.lenS
  have HP := Lib.hid hp
  clear hr hp
  go_enter Try.func29, Try.ntmps29
  go_wp2
  go_loopw [8] (fun i wr => ∃ k : Nat, k ≤ n ∧ i = .int .i64 k ∧ Below W.heap.size W wr ∧ Hid (∀ j (_ : j < k) (hj2 : j < ss.length), p ss[j] = false)) (fun i _ => n - (intOf i).toNat)
  case atStart => exact ⟨0, Nat.zero_le _, rfl, Below.refl _ _, Lib.hid (fun j hj => absurd hj (Nat.not_lt_zero _))⟩
  case round =>
    obtain ⟨k, hk, rfl, hbel, hno⟩ := hrel
    by_cases hlt : k < n
    · have hks : k < ss.length := by rw [HLen.out]; exact hlt
      obtain ⟨a, rfl, hab, hca⟩ := (HR.out.below hbel).str (k := k) hks
      have hcon := HP.out wr hbel ss[k] (List.getElem_mem hks)
      obtain ⟨x, hx⟩ : ∃ x, x = ss[k] := ⟨_, rfl⟩
      rw [← hx] at hca hcon
      have HBel := Lib.hid hbel
      cases hpx : p x
      · rw [hpx] at hcon
        have HC := Lib.hid hcon
        have HN := Lib.hid (show ∀ j (_ : j < k + 1) (hj2 : j < ss.length), p ss[j] = false from fun j hj hj2 => by
          by_cases he : j = k
          · subst he; rw [← hx]; exact hpx
          · exact hno.out j (by omega) hj2)
        clear hcon hpx hx hno hbel
        go_wp2_with (go_at_fn g; refine HC.out.mono ?_; rintro e w2 ⟨rfl, hb2⟩)
        exact ⟨⟨k + 1, by omega, by go_num, HBel.out.trans (hb2.mono HBel.out.size), HN⟩, by simp [intOf]; omega⟩
      · rw [hpx] at hcon
        have HC := Lib.hid hcon
        have HN := Lib.hid (idxP_hit (p := p) hks (by rw [← hx]; exact hpx) (fun j hj => hno.out j hj (by omega)))
        clear hcon hpx hx hno hbel
        go_wp2_with (go_at_fn g; refine HC.out.mono ?_; rintro e w2 ⟨rfl, hb2⟩)
        go_ret
        exact ⟨by (rw [HN.out]; try rfl), HBel.out.trans (hb2.mono HBel.out.size)⟩
    · have HN := Lib.hid (show idxP p ss = -1 from idxP_none (fun j hj => hno.out j (by have := HLen.out; omega) hj))
      have HBel := Lib.hid hbel
      clear hno hbel
      go_wp2
      go_ret
      exact ⟨by (rw [HN.out]; try rfl), HBel.out⟩
set_option maxHeartbeats 800000 in
/-- the first place of a string that lies in the row -/
theorem index_at (A : Option Addr) (n c B : Nat) (ss : Pch) (x : List UInt8) (j : Nat) (w : World) (hr : Rd w B A n (svs ss)) (hn : n ≤ 1048576) (hj : j < ss.length) (hx : ss[j] = x) (hno : ∀ i (hi : i < j), ss[i]'(by omega) ≠ x) :
    Calls Try.prog 31 #[.slice A n c, .string ⟨x.toArray⟩] w fun e w' => e = .returned (.int .i64 (j : Int)) ∧ w = w' := by
  have hlen := Lib.hid hr.lenS
  have HR := Lib.hid hr
  have HX := Lib.hid hx
  have HN := Lib.hid hno
  have hjn : j < n := by have := hr.lenS; omega
  clear hr hx hno
  go_enter Try.func31, Try.ntmps31
  go_wp2
  go_loop [8] (fun i => ∃ k : Nat, k ≤ j ∧ i = .int .i64 k) (fun i => j + 1 - (intOf i).toNat)
  case atStart => exact ⟨0, Nat.zero_le _, rfl⟩
  case round =>
    obtain ⟨k, hk, rfl⟩ := hrel
    have hlt : k < n := by omega
    have hkl : k < ss.length := by rw [hlen.out]; exact hlt
    obtain ⟨a, rfl, hab, hcell⟩ := HR.out.str (k := k) hkl
    by_cases hkj : k = j
    · have HE := Lib.hid (show ss[k] = x by rw [← HX.out]; simp only [hkj])
      have HK := Lib.hid (show (k : Int) = (j : Int) by omega)
      rw [HE.out] at hcell
      have hbe : (x == x) = true := by simp
      clear hkj
      go_wp2
      go_ret
      exact ⟨by (rw [HK.out]; try rfl), rfl⟩
    · have hlt2 : k < j := by omega
      have hne := HN.out k hlt2
      obtain ⟨y, hy⟩ : ∃ y, y = ss[k] := ⟨_, rfl⟩
      rw [← hy] at hcell hne
      have hbe : (x == y) = false := by simp; exact fun h => hne h.symm
      clear hy hne hkj
      go_wp2
      go_round
      case rel => exact ⟨k + 1, by omega, by go_num⟩
      case measure => simp [intOf]; omega
end Go.Proofs.Ytbaleboljcoigaa
