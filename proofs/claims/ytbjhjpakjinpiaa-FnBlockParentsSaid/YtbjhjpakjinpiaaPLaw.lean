/-
  Plain words for the parents of patches: the letter of a block, the parent, whether a patch fits, the ancestor. No conditions.
-/
import Derived.Test.YtbjhjpakjinpiaaPat
namespace Go.Proofs.Ytbjhjpakjinpiaa
open Go.RowKit

abbrev Pch := List (List UInt8)
def atP (p : Pch) (u v : Int) : UInt8 := if wi v 0 ((p.length : Int) - 1) && wi u 0 ((wd p : Int) - 1) then (p.getD v.toNat []).getD u.toNat 0 else 32
def blkP (p : Pch) (u v : Int) : List UInt8 := (List.range 4).map fun k : Nat => atP p (u + (k : Int) % 2) (v + (k : Int) / 2)
def ag1 (bl w : List UInt8) (i : Nat) : Bool := bl.getD i 0 == 32 || bl.getD i 0 == w.getD i 0
def agr (bl w : List UInt8) : Bool := (List.range 4).all (ag1 bl w)
def letB (b : Pch) (bl : List UInt8) : Int := if b.findIdx (agr bl) < b.length then (b.findIdx (agr bl) : Int) else -1
def letP (b p : Pch) (u v : Int) : Int := letB b (blkP p u v)

theorem range_all_snoc (f : Nat → Bool) (k : Nat) : (List.range (k + 1)).all f = ((List.range k).all f && f k) := by rw [List.range_succ, List.all_append]; simp
theorem range_map_snoc {α : Type} (f : Nat → α) (k : Nat) : (List.range (k + 1)).map f = (List.range k).map f ++ [f k] := by rw [List.range_succ, List.map_append]; rfl
theorem range_all_bad {f : Nat → Bool} {k n : Nat} (hk : k < n) (h : f k = false) : (List.range n).all f = false := by
  rw [List.all_eq_false]; exact ⟨k, List.mem_range.2 hk, by simp [h]⟩
theorem range_all_of {f : Nat → Bool} {n : Nat} (h : ∀ k, k < n → f k = true) : (List.range n).all f = true := by
  rw [List.all_eq_true]; intro k hk; exact h k (List.mem_range.1 hk)
theorem range_all_at {f : Nat → Bool} {n : Nat} (h : (List.range n).all f = true) {k : Nat} (hk : k < n) : f k = true := List.all_eq_true.1 h k (List.mem_range.2 hk)
theorem blkP_len (p : Pch) (u v : Int) : (blkP p u v).length = 4 := by simp [blkP]
theorem blkP_getD (p : Pch) (u v : Int) {k : Nat} (h : k < 4) : (blkP p u v).getD k 0 = atP p (u + (k : Int) % 2) (v + (k : Int) / 2) := by
  simp [blkP, List.getD, List.getElem?_map, List.getElem?_range h]
theorem letB_yes {b : Pch} {bl : List UInt8} {k : Nat} (hk : k < b.length) (h1 : agr bl b[k] = true) (h2 : ∀ w ∈ b.take k, agr bl w = false) : letB b bl = k := by
  have h : b.findIdx (agr bl) = k := (List.findIdx_eq hk).2 ⟨h1, fun j hj => h2 _ (by rw [List.mem_take_iff_getElem]; exact ⟨j, by omega, rfl⟩)⟩
  unfold letB; rw [h, if_pos hk]
theorem letB_no {b : Pch} {bl : List UInt8} (h : ∀ w ∈ b, agr bl w = false) : letB b bl = -1 := by
  unfold letB
  rw [if_neg]
  intro hlt
  have h1 := List.findIdx_getElem (w := hlt)
  rw [h _ (List.getElem_mem hlt)] at h1
  cases h1
theorem letB_bd (b : Pch) (bl : List UInt8) : -1 ≤ letB b bl ∧ letB b bl < b.length ∨ letB b bl = -1 := by
  unfold letB; split
  · left; constructor <;> omega
  · right; rfl
theorem letP_bd (b p : Pch) (u v : Int) : -1 ≤ letP b p u v ∧ (0 ≤ letP b p u v → letP b p u v < b.length) := by
  rcases letB_bd b (blkP p u v) with h | h
  · exact ⟨h.1, fun _ => h.2⟩
  · refine ⟨by unfold letP; omega, fun h2 => ?_⟩
    unfold letP at h2; omega
theorem atP_out {p : Pch} {u v : Int} (h : (wi v 0 ((p.length : Int) - 1) && wi u 0 ((wd p : Int) - 1)) = false) : atP p u v = 32 := by unfold atP; rw [h]; rfl
theorem atP_in {p : Pch} {u v : Nat} (hv : v < p.length) (hw : wd p = (p[v]).length) (hu : u < (p[v]).length) : atP p (u : Int) (v : Int) = (p[v])[u] := by
  have h1 : wi (v : Int) 0 ((p.length : Int) - 1) = true := wi_mk (by omega) (by omega)
  have h2 : wi (u : Int) 0 ((wd p : Int) - 1) = true := wi_mk (by omega) (by omega)
  unfold atP
  rw [h1, h2]
  simp [List.getD, List.getElem?_eq_getElem hv, List.getElem?_eq_getElem hu]

/-! ## the parent -/
def nC (p : Pch) (x : Nat) : Nat := (wd p - x) / 2
def nR (p : Pch) (y : Nat) : Nat := (p.length - y) / 2
def lcell (b p : Pch) (x : Nat) (v : Int) (i : Nat) : Int := letP b p ((x : Int) + 2 * (i : Int)) v
def prow (b p : Pch) (x : Nat) (v : Int) (j : Nat) : List UInt8 := (List.range j).map fun i : Nat => UInt8.ofNat (97 + (lcell b p x v i).toNat)
def rgood (b p : Pch) (x : Nat) (v : Int) (j : Nat) : Bool := (List.range j).all fun i => decide (0 ≤ lcell b p x v i)
def pgood (b p : Pch) (x y k : Nat) : Bool := (List.range k).all fun i : Nat => rgood b p x ((y : Int) + 2 * (i : Int)) (nC p x)
def prows (b p : Pch) (x y k : Nat) : Pch := (List.range k).map fun i : Nat => prow b p x ((y : Int) + 2 * (i : Int)) (nC p x)
def offOk (x y : Int) : Bool := wi x 0 1 && wi y 0 1
def okP (b p : Pch) (x y : Int) : Bool := rOk b && (pOk p && offOk x y)
def parB (b p : Pch) (x y : Nat) : Bool := decide (y + 2 ≤ p.length) && (decide (x + 2 ≤ wd p) && pgood b p x y (nR p y))
def parentOf (b p : Pch) (x y : Int) : Pch × Bool := if okP b p x y && parB b p x.toNat y.toNat then (prows b p x.toNat y.toNat (nR p y.toNat), true) else ([], false)

theorem prow_len (b p : Pch) (x : Nat) (v : Int) (j : Nat) : (prow b p x v j).length = j := by simp [prow]
theorem prows_len (b p : Pch) (x y k : Nat) : (prows b p x y k).length = k := by simp [prows]
theorem prow_snoc (b p : Pch) (x : Nat) (v : Int) (j : Nat) : prow b p x v (j + 1) = prow b p x v j ++ [UInt8.ofNat (97 + (lcell b p x v j).toNat)] := range_map_snoc _ j
theorem prows_snoc (b p : Pch) (x y k : Nat) : prows b p x y (k + 1) = prows b p x y k ++ [prow b p x ((y : Int) + 2 * (k : Int)) (nC p x)] := range_map_snoc _ k
theorem lcell_lt (b p : Pch) (x : Nat) (v : Int) (i : Nat) (hb : b.length ≤ 4) : (lcell b p x v i).toNat ≤ 3 := by
  have h := letP_bd b p ((x : Int) + 2 * (i : Int)) v
  unfold lcell
  by_cases h0 : 0 ≤ letP b p ((x : Int) + 2 * (i : Int)) v
  · have := h.2 h0; omega
  · omega
theorem prow_let (b p : Pch) (x : Nat) (v : Int) (j : Nat) (hb : b.length ≤ 4) : (prow b p x v j).all isLet = true := by
  rw [List.all_eq_true]
  intro c hc
  obtain ⟨i, _, rfl⟩ := List.mem_map.1 hc
  have := lcell_lt b p x v i hb
  simp only [isLet, decide_eq_true_eq]
  simp; omega
theorem pOk_prows {b p : Pch} {x y : Nat} (hb : b.length ≤ 4) (hp : pOk p = true) : pOk (prows b p x y (nR p y)) = (decide (y + 2 ≤ p.length) && decide (x + 2 ≤ wd p)) := by
  have hl := pOk_len hp
  have hw := pOk_wd hp
  have hlen := prows_len b p x y (nR p y)
  by_cases h1 : y + 2 ≤ p.length
  · have hn : 1 ≤ nR p y ∧ nR p y ≤ 16 := by unfold nR; omega
    have hrow : ∀ l ∈ prows b p x y (nR p y), l.length = nC p x ∧ l.all isLet = true := by
      intro l hl
      obtain ⟨i, _, rfl⟩ := List.mem_map.1 hl
      exact ⟨prow_len _ _ _ _ _, prow_let _ _ _ _ _ hb⟩
    have h0 : 0 < (prows b p x y (nR p y)).length := by omega
    have hwd : wd (prows b p x y (nR p y)) = nC p x := by rw [wd_zero h0]; exact (hrow _ (List.getElem_mem h0)).1
    by_cases h2 : x + 2 ≤ wd p
    · have hn2 : 1 ≤ nC p x ∧ nC p x ≤ 16 := by unfold nC; omega
      have hA : (prows b p x y (nR p y)).all (rowOk (wd (prows b p x y (nR p y)))) = true := by
        rw [List.all_eq_true]
        intro l hl
        have h3 := hrow l hl
        refine rowOk_mk ?_ (wi_mk (by omega) (by omega)) (by rw [hwd]; exact h3.1)
        unfold isW
        rw [h3.2]
        simp; omega
      unfold pOk
      rw [hA, hlen, wi_mk (by omega) (by omega)]
      simp [h1, h2]
    · have hA : (prows b p x y (nR p y)).all (rowOk (wd (prows b p x y (nR p y)))) = false := by
        refine all_bad (p := rowOk (wd (prows b p x y (nR p y)))) h0 ?_
        have h3 := (hrow _ (List.getElem_mem h0)).1
        have hn2 : nC p x = 0 := by unfold nC; omega
        have := wi_not (n := (((prows b p x y (nR p y))[0]).length : Int)) (lo := 1) (hi := 32) (by omega)
        unfold rowOk
        rw [this]; simp
      unfold pOk
      rw [hA]
      simp [h2]
  · have hn : nR p y = 0 := by unfold nR; omega
    have := wi_not (n := ((prows b p x y (nR p y)).length : Int)) (lo := 1) (hi := 32) (by omega)
    unfold pOk
    rw [this]
    simp [h1]
theorem parentOf_ok {b p : Pch} {x y : Int} (h : (parentOf b p x y).2 = true) : okP b p x y = true ∧ parB b p x.toNat y.toNat = true ∧ (parentOf b p x y).1 = prows b p x.toNat y.toNat (nR p y.toNat) := by
  unfold parentOf at h ⊢
  split at h
  · rename_i h2
    simp only [Bool.and_eq_true] at h2
    rw [if_pos (by simp [h2.1, h2.2])]
    exact ⟨h2.1, h2.2, rfl⟩
  · cases h
theorem parentOf_pOk {b p : Pch} {x y : Int} (h : (parentOf b p x y).2 = true) : pOk (parentOf b p x y).1 = true := by
  obtain ⟨h1, h2, h3⟩ := parentOf_ok h
  simp only [okP, parB, Bool.and_eq_true, decide_eq_true_eq] at h1 h2
  rw [h3, pOk_prows (rOk_len h1.1).2 h1.2.1]
  simp [h2.1, h2.2.1]
theorem parentOf_len (b p : Pch) (x y : Int) : (parentOf b p x y).1.length ≤ 4096 := by
  cases h : (parentOf b p x y).2
  · unfold parentOf at h ⊢
    split
    · rename_i h2; rw [if_pos h2] at h; cases h
    · simp
  · have := pOk_len (parentOf_pOk h); omega

/-! ## whether all blocks fit -/
def nU (p : Pch) (x : Nat) : Nat := (wd p + 3 - x) / 2
def nV (p : Pch) (y : Nat) : Nat := (p.length + 3 - y) / 2
def fcell (b p : Pch) (x : Nat) (v : Int) (i : Nat) : Int := letP b p ((x : Int) - 2 + 2 * (i : Int)) v
def fitsRow (b p : Pch) (x : Nat) (v : Int) (k : Nat) : Bool := (List.range k).all fun i => decide (0 ≤ fcell b p x v i)
def fitsAll (b p : Pch) (x y k : Nat) : Bool := (List.range k).all fun i : Nat => fitsRow b p x ((y : Int) - 2 + 2 * (i : Int)) (nU p x)
def fitsAt (b p : Pch) (x y : Int) : Bool := (parentOf b p x y).2 && fitsAll b p x.toNat y.toNat (nV p y.toNat)

/-! ## the ancestor -/
def goes (b p : Pch) : Bool := decide (p.length % 2 = 0) && (decide (wd p % 2 = 0) && (parentOf b p 0 0).2)
def ancF (b : Pch) : Nat → Pch → Pch × Nat
  | 0, p => (p, 0)
  | f + 1, p => if goes b p then ((ancF b f (parentOf b p 0 0).1).1, (ancF b f (parentOf b p 0 0).1).2 + 1) else (p, 0)
def anc (b p : Pch) : Pch × Int := if rOk b && pOk p then ((ancF b 32 p).1, ((ancF b 32 p).2 : Int)) else ([], -1)
theorem goes_len {b p : Pch} (h : goes b p = true) : (parentOf b p 0 0).1.length = p.length / 2 ∧ 2 ≤ p.length := by
  simp only [goes, Bool.and_eq_true, decide_eq_true_eq] at h
  obtain ⟨h1, h2, h3⟩ := parentOf_ok h.2.2
  rw [h3, prows_len]
  simp only [parB, Bool.and_eq_true, decide_eq_true_eq] at h2
  simp [nR] at h2 ⊢
  omega
theorem ancF_pOk (b : Pch) : ∀ (f : Nat) (p : Pch), pOk p = true → pOk (ancF b f p).1 = true
  | 0, _, h => h
  | f + 1, p, h => by
    unfold ancF
    split
    · rename_i hg
      simp only [goes, Bool.and_eq_true] at hg
      exact ancF_pOk b f _ (parentOf_pOk hg.2.2)
    · exact h
theorem ancF_len (b : Pch) : ∀ (f : Nat) (p : Pch), (ancF b f p).2 ≤ f
  | 0, _ => Nat.le_refl _
  | f + 1, p => by
    unfold ancF
    split
    · have := ancF_len b f (parentOf b p 0 0).1; simp; exact this
    · simp
theorem anc_len (b p : Pch) : (anc b p).1.length ≤ 4096 := by
  unfold anc
  split
  · rename_i h
    simp only [Bool.and_eq_true] at h
    have := pOk_len (ancF_pOk b 32 p h.2)
    show (ancF b 32 p).1.length ≤ 4096
    omega
  · simp
end Go.Proofs.Ytbjhjpakjinpiaa
