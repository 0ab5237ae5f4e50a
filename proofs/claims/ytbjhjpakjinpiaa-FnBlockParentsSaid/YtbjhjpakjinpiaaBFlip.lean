/-
  Contracts of flipped and FlipPatch (program), and parts of the reference's. No conditions.
-/
import Derived.Test.YtbjhjpakjinpiaaBLaws1
import Derived.Lib.OthersKept
namespace Go.Proofs.Ytbjhjpakjinpiaa
open Go.RowKit

def colOf (p : List (List UInt8)) (x : Nat) : List UInt8 := p.map fun r => r.getD x 0
def flipP (p : List (List UInt8)) : List (List UInt8) := (List.range (wd p)).map (colOf p)
theorem colOf_snoc (p : List (List UInt8)) (x : Nat) {k : Nat} (h : k < p.length) (hx : x < (p[k]).length) : (colOf p x).take (k + 1) = (colOf p x).take k ++ [(p[k])[x]] := by
  unfold colOf
  rw [take_snoc _ k (by simpa using h)]
  simp [List.getD, List.getElem?_eq_getElem hx]
theorem colOf_len (p : List (List UInt8)) (x : Nat) : (colOf p x).length = p.length := by simp [colOf]
theorem flipP_len (p : List (List UInt8)) : (flipP p).length = wd p := by simp [flipP]
theorem flipP_snoc (p : List (List UInt8)) {x : Nat} (h : x < wd p) : (flipP p).take (x + 1) = (flipP p).take x ++ [colOf p x] := by
  rw [take_snoc _ x (by rw [flipP_len]; exact h)]; simp [flipP]


def flipPatch (p : List (List UInt8)) : List (List UInt8) := if pOk p then flipP p else []
theorem flipPatch_len (p : List (List UInt8)) : (flipPatch p).length ≤ 4096 := by
  unfold flipPatch
  split
  · rename_i h; have := pOk_wd h; rw [flipP_len]; omega
  · simp

/-- an iterator moved on: what is owned stays -/
theorem Own.iterAt {w0 w : World} {e : TypeId} {A : Option Addr} {n c : Nat} {xs : List Value} (h : Own w0 w e A n c xs) {k : Nat} {s : ByteArray} {q : Nat} (hk : w.heap[k]? = some (.stringIter s q)) (hw : w0.heap.size ≤ k) (s' : ByteArray) (q' : Nat) : Own w0 (w.iterAt k s' q') e A n c xs := by
  refine ⟨⟨h.1.1, ?_⟩, Lib.below_iterAt h.2 hw _ _⟩
  rcases h.1.2 with h2 | ⟨g, cap, cur, hv, hg, hh, r⟩
  · exact Or.inl h2
  · refine Or.inr ⟨g, cap, cur, hv, hg, ?_, r⟩
    have hne : g ≠ k := by rintro rfl; rw [hk] at hh; cases hh
    rw [Lib.iterAt_other _ _ _ _ _ hne]
    exact hh
theorem Own.notIter {w0 w : World} {e : TypeId} {A : Option Addr} {n c : Nat} {xs : List Value} (h : Own w0 w e A n c xs) {k : Nat} {s : ByteArray} {q : Nat} (hk : w.heap[k]? = some (.stringIter s q)) : some k ≠ (Value.slice A n c).ownBlock := by
  intro he
  rcases h.1.2 with ⟨hv, _⟩ | ⟨g, cap, cur, hv, hg, hh, r⟩
  · rw [hv] at he; simp [Value.ownBlock] at he
  · rw [hv] at he
    simp [Value.ownBlock] at he
    subst he
    rw [hk] at hh; cases hh
/-- an iterator stands where an append goes on behind a new block -/
theorem iter_kept {w0 w w' : World} {e e2 : TypeId} {A : Option Addr} {n c : Nat} {xs : List Value} {u : Array Value} (h : Own w0 w e A n c xs) {k : Nat} {s : ByteArray} {q : Nat} (hk : w.heap[k]? = some (.stringIter s q)) (hg : (w.alloc (.cells u e2)).grownBy w' (Value.slice A n c).ownBlock) : w'.heap[k]? = some (.stringIter s q) := by
  have hlt : k < w.heap.size := (Array.getElem?_eq_some_iff.1 hk).1
  have h1 : (w.alloc (.cells u e2)).heap[k]? = some (.stringIter s q) := (Below.heap_alloc w _ k hlt).trans hk
  exact (hg.block k (by simp; omega) (h.notIter hk)).trans h1
def lenOf : Value → Nat | .slice _ n _ => n | _ => 0

end Go.Proofs.Ytbjhjpakjinpiaa
