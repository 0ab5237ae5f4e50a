/-
  Contracts of the laws' own helpers on slices of slices of numbers: equality of equals, marks. No conditions beyond small lengths.
-/
import Derived.Test.YtcicoplmpinnmaaDoorMemG
import Derived.Test.YtcicoplmpinnmaaDoorHelpI
import Derived.Deep.RegionHeld3
namespace Go.Proofs.YtcicoplmpinnmaaDoor
open Go.RowKit

theorem below_drew1 (w : World) : Below w.heap.size w w.drew := (Below.refl _ _).drew


/-- the rows behind the marks: k, k + 1, .. through all of them -/
def markRs : Int → List Row → List Row
  | _, [] => []
  | k, r :: rs => { r with xs := ivs (mks k r.n) } :: markRs (k + r.n) rs
def totN (rs : List Row) : Nat := (rs.map Row.n).sum
theorem totN_take {rs : List Row} {k : Nat} (hk : k < rs.length) : totN (rs.take (k + 1)) = totN (rs.take k) + rs[k].n := by
  unfold totN; rw [take_snoc rs k hk, List.map_append, List.sum_append]; simp only [List.map_cons, List.map_nil, List.sum_cons, List.sum_nil, Nat.add_zero]
theorem totN_le (rs : List Row) (k : Nat) : totN (rs.take k) ≤ totN rs := by
  have h : totN rs = totN (rs.take k) + totN (rs.drop k) := by unfold totN; rw [← List.sum_append, ← List.map_append, List.take_append_drop]
  omega
theorem totN_cons (z : Int) (r : Row) (rs : List Row) (k : Nat) : z + (r.n : Int) + (totN (rs.take k) : Int) = z + (totN ((r :: rs).take (k + 1)) : Int) := by
  simp only [totN, List.take_succ_cons, List.map_cons, List.sum_cons]; omega
theorem markRs_vals : ∀ (k : Int) (rs : List Row), (markRs k rs).map SVal = rs.map SVal
  | _, [] => rfl
  | k, r :: rs => by simp only [markRs, List.map_cons, markRs_vals (k + r.n) rs]; rfl
theorem markRs_len : ∀ (k : Int) (rs : List Row), (markRs k rs).length = rs.length
  | _, [] => rfl
  | k, r :: rs => by simp [markRs, markRs_len (k + r.n) rs]
theorem markRs_n : ∀ (k : Int) (rs : List Row), (markRs k rs).map Row.n = rs.map Row.n
  | _, [] => rfl
  | k, r :: rs => by simp only [markRs, List.map_cons, markRs_n (k + r.n) rs]
theorem totN_mark (k : Int) (rs : List Row) : totN (markRs k rs) = totN rs := by unfold totN; rw [markRs_n]
theorem markRs_snoc : ∀ (z : Int) (rs : List Row) (k : Nat) (hk : k < rs.length), markRs z (rs.take (k + 1)) = markRs z (rs.take k) ++ [{ rs[k] with xs := ivs (mks (z + totN (rs.take k)) rs[k].n) }]
  | z, [], k, hk => by simp at hk
  | z, r :: rs, 0, _ => by simp [markRs, totN]
  | z, r :: rs, k + 1, hk => by
    have ih := markRs_snoc (z + r.n) rs k (by simpa using hk)
    rw [totN_cons] at ih
    rw [List.take_succ_cons, List.take_succ_cons, markRs, ih]
    rfl
theorem markRs_at : ∀ (z : Int) (rs : List Row) (k : Nat) (hk : k < rs.length), (markRs z rs)[k]'(by rw [markRs_len]; exact hk) = { rs[k] with xs := ivs (mks (z + totN (rs.take k)) rs[k].n) }
  | z, [], k, hk => by simp at hk
  | z, r :: rs, 0, _ => by simp [markRs, totN]
  | z, r :: rs, k + 1, hk => by
    have ih := markRs_at (z + r.n) rs k (by simpa using hk)
    rw [totN_cons] at ih
    simp only [markRs, List.getElem_cons_succ]
    exact ih


end Go.Proofs.YtcicoplmpinnmaaDoor
