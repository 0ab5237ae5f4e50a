/-
  A variable that a closure has captured: a row of one cell. No conditions.
-/
import Derived.Test.YtcicoplmpinnmaaDoorTwo
import Derived.Test.YtcicoplmpinnmaaDoorRowW
namespace Go.Proofs.YtcicoplmpinnmaaDoor
open Go.RowKit

def CellV (e : TypeId) (b : Nat) (v : Value) : Row := ⟨e, some ⟨b, 0, none⟩, 1, 1, [v]⟩
theorem Mem.cellV {w0 w : World} {rs : List Row} (h : Mem w0 w rs) {e : TypeId} {b : Nat} {v : Value} (hr : CellV e b v ∈ rs) : w.cell? ⟨b, 0, none⟩ = some v := (h.row hr).cellAt 0 (by simp [CellV])
theorem Mem.cellVF {w0 w : World} {rs : List Row} (h : Mem w0 w rs) {e : TypeId} {b : Nat} {v : Value} (hr : CellV e b v ∈ rs) : w.frozen? ⟨b, 0, none⟩ = false := (h.row hr).frozenAt 0
theorem Mem.newV {W w : World} {L : List Row} (h : Mem W w L) (e : TypeId) (v : Value) {b : Nat} (hb : b = w.heap.size) : Mem W (w.alloc (.cells #[v] e)) (CellV e b v :: L) := by
  subst hb; exact h.add (Own.made (w0 := w) (w := w) (Below.refl _ _) e [v] (by simp))
theorem Mem.setV {W w : World} {pre post : List Row} {e : TypeId} {b : Nat} {v : Value} (h : Mem W w (pre ++ CellV e b v :: post)) (u : Value) : Mem W (w.setCell ⟨b, 0, none⟩ u) (pre ++ CellV e b u :: post) := by
  have h1 := World.ownsRow.stored (h.row (r := CellV e b v) (by simp)) 0 u
  exact h.mark (pre := pre) (post := post) (e := e) (xs := [v]) (ys := [u]) h1.1 (Nat.le_refl _) h1.2
end Go.Proofs.YtcicoplmpinnmaaDoor
