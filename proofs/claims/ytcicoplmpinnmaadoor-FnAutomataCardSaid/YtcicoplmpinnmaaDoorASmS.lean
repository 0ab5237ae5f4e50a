/-
  Contract of the reference's SmallAuto. No conditions.
-/
import Derived.Test.YtcicoplmpinnmaaDoorASml
import Derived.Test.YtcicoplmpinnmaaDoorAOf
import Derived.RegionTactic
import Derived.BigRegion
namespace Go.Proofs.YtcicoplmpinnmaaDoor
open Go.RowKit

theorem nvs_ivs (r : List Nat) : nvs r = ivs (r.map fun x : Nat => (x : Int)) := by simp [nvs, ivs]
theorem nvs_one (r : List Nat) : ∀ u ∈ nvs r, u.oneCell' = true := by rw [nvs_ivs]; exact ivs_one _
def smB (b : Int) (zss : Tab) (o : List UInt8) : Int := if aOk b zss o = true then b else 0
def smT (b : Int) (zss : Tab) (o : List UInt8) : Tab := if aOk b zss o = true then smTab zss o b.toNat else []
def smO (b : Int) (zss : Tab) (o : List UInt8) : List UInt8 := if aOk b zss o = true then smOut zss o b.toNat else []
/-- the place that the search has found so far -/
def found (q k : Nat) : Int := if q < k then (q : Int) else -1
theorem found_hit {q k : Nat} (h : q = k) : found q (k + 1) = (k : Int) := by unfold found; rw [if_pos (by omega), h]
theorem found_miss {q k : Nat} (h : q ≠ k) : found q (k + 1) = found q k := by
  unfold found
  by_cases h1 : q < k
  · rw [if_pos h1, if_pos (by omega)]
  · rw [if_neg h1, if_neg (by omega)]
theorem qS_idx {S : List Nat} (hd : S.Nodup) {k : Nat} (hk : k < S.length) {y : Nat} : S[k] = y ↔ gIdx qS S y = k := by
  unfold gIdx qS
  constructor
  · intro h
    refine (List.findIdx_eq hk).2 ⟨by simp [h], fun j hj => ?_⟩
    have := List.pairwise_iff_getElem.1 hd j k (by omega) hk hj
    rw [h] at this
    simpa using this
  · intro h
    have h2 := (List.findIdx_eq hk).1 h
    simpa using h2.1

theorem Mem.nilM {W w : World} {L : List Row} (h : Mem W w L) (e : TypeId) {b : Nat} (hb : b = w.heap.size) : Mem W (w.alloc (.cells #[] e)) (⟨e, some ⟨b, 0, none⟩, 0, 0, []⟩ :: L) := by
  subst hb; exact h.add (Own.made0 (w0 := w) (w := w) (Below.refl _ _) e)
theorem gAdd_get {q : Nat → Nat → Bool} {S : List Nat} (y : Nat) {i : Nat} (h : i < S.length) : (gAdd q S y)[i]? = S[i]? := by
  unfold gAdd
  split
  · rfl
  · rw [List.getElem?_append_left h]
theorem gAdds_get {q : Nat → Nat → Bool} : ∀ (ys : List Nat) {S : List Nat} {i : Nat}, i < S.length → (gAdds q S ys)[i]? = S[i]?
  | [], _, _, _ => rfl
  | y :: ys, S, i, h => by
    show (gAdds q (gAdd q S y) ys)[i]? = _
    rw [gAdds_get ys (Nat.lt_of_lt_of_le h (gAdd_len S y)), gAdd_get y h]
theorem gRows_le {q : Nat → Nat → Bool} {nx : Nat → List Nat} {st : Nat} : ∀ i, (gRows q nx st i).length ≤ i
  | 0 => Nat.le_refl _
  | i + 1 => by
    have h := gRows_le (q := q) (nx := nx) (st := st) i
    show (if i < (gAt q nx st i).length then gRows q nx st i ++ [_] else gRows q nx st i).length ≤ i + 1
    split
    · simp; exact h
    · omega
theorem gRows_row {q : Nat → Nat → Bool} {nx : Nat → List Nat} {st m : Nat} (hn : ∀ s, (nx s).length = m) : ∀ i, ∀ r ∈ gRows q nx st i, r.length = m
  | 0, r, h => by simp [gRows] at h
  | i + 1, r, h => by
    have ih := gRows_row (q := q) (st := st) hn i
    have h2 : r ∈ (if i < (gAt q nx st i).length then gRows q nx st i ++ [gRowS q (gAt q nx st i) (nx ((gAt q nx st i).getD i 0))] else gRows q nx st i) := h
    split at h2
    · rcases List.mem_append.1 h2 with h3 | h3
      · exact ih r h3
      · simp only [List.mem_singleton] at h3
        rw [h3, gRowS_len, hn]
    · exact ih r h2
theorem smT_small (b : Int) (zss : Tab) (o : List UInt8) : (smT b zss o).length ≤ 8 ∧ ∀ z ∈ smT b zss o, z.length ≤ 8 := by
  unfold smT
  split
  · rename_i h
    obtain ⟨bn, rfl, hg, _, _⟩ := aOk_good h
    refine ⟨?_, fun z hz => ?_⟩
    · unfold smTab
      rw [List.length_map]
      have h1 := gRows_le (q := qS) (nx := nxS zss o bn) (st := clN zss o bn 0) zss.length
      have h2 := hg.2.2.2.1
      exact Nat.le_trans h1 h2
    · unfold smTab at hz
      obtain ⟨r, hr, rfl⟩ := List.mem_map.1 hz
      have h1 := gRows_row (q := qS) (nx := nxS zss o bn) (st := clN zss o bn 0) (m := bn) (fun s => nxS_len s) zss.length r hr
      have h2 := hg.2.1
      simp; omega
  · exact ⟨by simp, by simp⟩
end Go.Proofs.YtcicoplmpinnmaaDoor
