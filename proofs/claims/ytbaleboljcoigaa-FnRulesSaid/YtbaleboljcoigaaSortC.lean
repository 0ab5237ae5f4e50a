/-
  Contracts of slices.Sort and slices.Compact at []string (from the shelf), over a row of words of the call's own. Condition: lengths at most 2^20.
-/
import Derived.Test.YtbaleboljcoigaaSortP
import Derived.Test.YtbaleboljcoigaaShelf
import Derived.Sort.OwnSorted
import Derived.Lib.RowBridge
namespace Go.Proofs.Ytbaleboljcoigaa
open Go.RowKit

theorem row_open {w : World} {base : Nat} {e : TypeId} {A : Option Addr} {n c : Nat} {ss : List (List UInt8)} (h : w.ownsRow base e 1 (.slice A n c) n (svs ss)) (hn : 0 < n) :
    ∃ g cur, A = some ⟨g, 0, none⟩ ∧ base ≤ g ∧ g < w.heap.size ∧ w.heap[g]? = some (.cells cur e (0, 0)) ∧ n ≤ c ∧ c ≤ maxLen ∧ cur.size = c * 1 ∧ cur.toList.take ss.length = ss.map encStr := by
  have hl : ss.length = n := by have := h.1; simpa [svs] using this
  rcases h.2 with ⟨_, h0⟩ | ⟨g, cap, cur, hv, hbase, hb, h1, h2, h3, h4⟩
  · omega
  · injection hv with hA _ hc
    subst hA hc
    refine ⟨g, cur, rfl, hbase, (Array.getElem?_eq_some_iff.1 hb).1, hb, h1, h2, h3, ?_⟩
    rw [hl, ← Nat.mul_one n, h4]
    rfl

theorem sortS_any (A : Option Addr) (n c : Nat) (ss : List (List UInt8)) (w : World) (base : Nat) (h : w.ownsRow base 9 1 (.slice A n c) n (svs ss)) (hn : n ≤ 1048576) :
    Calls Try.prog 46 #[.slice A n c] w fun e w' => e = .returned (.tuple #[]) ∧ w'.ownsRow base 9 1 (.slice A n c) n (svs (sortS ss)) ∧ w.grownBy w' (Value.slice A n c).ownBlock := by
  have hl : ss.length = n := by have := h.1; simpa [svs] using this
  rcases Nat.eq_zero_or_pos n with rfl | hn0
  · obtain rfl : ss = [] := List.eq_nil_of_length_eq_zero hl
    refine (Try.slices_Sort_string_none A c w).mono fun e w' ⟨he, hw⟩ => ?_
    subst hw
    exact ⟨he, by rw [show sortS ([] : List (List UInt8)) = [] from by simp [sortS]]; exact h, World.grownBy.refl _ _⟩
  · obtain ⟨g, cur, rfl, hbase, hg, hb, h1, h2, h3, h4⟩ := row_open h hn0
    have hc := Try.slices_Sort_string g 0 c ss w (Go.holds_of_block hb h4) hg (by omega)
    rw [hl] at hc
    refine hc.mono fun e w' ⟨he, q, os, hw⟩ => ?_
    subst hw
    refine ⟨he, ?_, Go.grownBy_sorted _⟩
    have h5 := Go.ownsRow_sorted (n := q) (os := os) (ts := sortS ss) (ss := ss) (sortS_len ss) hbase hb (by omega) h2 h3
    rw [hl] at h5
    exact h5

theorem row_cut {w : World} {base : Nat} {e : TypeId} {A : Option Addr} {n m c : Nat} {xs : List Value} (h : w.ownsRow base e 1 (.slice A n c) n xs) (hm : m ≤ n) (hA : A ≠ none) : w.ownsRow base e 1 (.slice A m c) m (xs.take m) := by
  have hl : xs.length = n := by have := h.1; simpa using this
  refine ⟨by simp; omega, ?_⟩
  rcases h.2 with ⟨hv, _⟩ | ⟨g, cap, cur, hv, hbase, hb, h1, h2, h3, h4⟩
  · injection hv with hv; exact absurd hv hA
  · injection hv with hA2 _ hc
    subst hA2 hc
    refine Or.inr ⟨g, c, cur, rfl, hbase, hb, by omega, h2, h3, ?_⟩
    rw [← h4, List.take_take, Nat.mul_one, Nat.mul_one, Nat.min_eq_left hm]

open Go.Lib in
theorem compactS_any (A : Option Addr) (n c : Nat) (zs : List (List UInt8)) (w : World) (base : Nat) (h : w.ownsRow base 9 1 (.slice A n c) n (svs zs)) (hn : n ≤ 1048576) :
    Calls Try.prog 47 #[.slice A n c] w fun e w' => e = .returned (.slice A (compact zs).length c) ∧ w'.ownsRow base 9 1 (.slice A (compact zs).length c) (compact zs).length (svs (compact zs)) ∧ w.grownBy w' (Value.slice A n c).ownBlock := by
  have hl : zs.length = n := by have := h.1; simpa [svs] using this
  rcases Nat.eq_zero_or_pos n with rfl | hn0
  · obtain rfl : zs = [] := List.eq_nil_of_length_eq_zero hl
    refine (Try.slices_Compact_string_empty A c w).mono fun e w' ⟨he, hw⟩ => ?_
    subst hw
    exact ⟨he, h, World.grownBy.refl _ _⟩
  · obtain ⟨g, cur, rfl, hbase, hg, hb, h1, h2, h3, h4⟩ := row_open h hn0
    have hcl := compact_length_le zs
    have hc := Try.slices_Compact_string g 0 c zs w (Go.holds_of_block hb h4) (by omega) (by omega)
    rw [hl] at hc
    refine hc.mono fun e w' ⟨he, q, hw⟩ => ?_
    have hw2 : w' = Go.Sort.grow (Go.Sort.putRow encStr (Go.Sort.ahead w q) g 0 (compact zs ++ List.replicate (n - (compact zs).length) []).toArray) #[] := by rw [hw, Go.Sort.grow_empty]
    subst hw2
    refine ⟨he, ?_, Go.grownBy_sorted _⟩
    have h5 := Go.ownsRow_sorted (n := q) (os := #[]) (ts := compact zs ++ List.replicate (n - (compact zs).length) []) (ss := zs) (by simp; omega) hbase hb (by omega) h2 h3
    rw [hl] at h5
    have h6 := row_cut h5 (m := (compact zs).length) (by omega) (by simp)
    have h7 : ((compact zs ++ List.replicate (n - (compact zs).length) []).map encStr).take (compact zs).length = svs (compact zs) := by
      rw [List.map_append, List.take_left' (by simp)]; rfl
    rwa [h7] at h6
end Go.Proofs.Ytbaleboljcoigaa
