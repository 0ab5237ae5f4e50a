/-
  Contracts of the laws' own helpers on automata: size, copy, equality of equals, marks. No conditions beyond small lengths.
-/
import Derived.Test.YtcicoplmpinnmaaDoorAAu
import Derived.Test.YtcicoplmpinnmaaDoorHelpI
import Derived.Test.YtcicoplmpinnmaaDoorHelpII
namespace Go.Proofs.YtcicoplmpinnmaaDoor
open Go.RowKit

def sumL (zss : Tab) : Nat := (zss.map List.length).sum
theorem sumL_take {zss : Tab} {k : Nat} (hk : k < zss.length) : sumL (zss.take (k + 1)) = sumL (zss.take k) + zss[k].length := by
  unfold sumL; rw [take_snoc zss k hk, List.map_append, List.sum_append]; simp
theorem sumL_le : ∀ (zss : Tab), ∀ z ∈ zss, z.length ≤ sumL zss
  | [], z, h => by simp at h
  | y :: l, z, h => by
    have := sumL_le l
    unfold sumL at *
    simp only [List.map_cons, List.sum_cons]
    rcases List.mem_cons.1 h with rfl | h
    · omega
    · have := this z h; omega
/-- a slice of slices of numbers as an argument -/
def GArg (w : World) (A : Option Addr) (n c : Nat) (zss : Tab) : Prop := ∃ rs : List Row, RdG w A n rs ∧ rs.map Row.xs = zss.map ivs ∧ n ≤ c ∧ c ≤ 9223372036854775807 ∧ (∀ z ∈ zss, z.length ≤ 9223372036854775807)
section
variable {w w' : World} {A : Option Addr} {n c : Nat} {zss : Tab}
theorem GArg.later (h : GArg w A n c zss) (hb : Below w.heap.size w w') : GArg w' A n c zss := by
  obtain ⟨rs, h1, h2⟩ := h; exact ⟨rs, h1.later hb, h2⟩
theorem GArg.len (h : GArg w A n c zss) : zss.length = n := by
  obtain ⟨rs, h1, h2, _⟩ := h; rw [← xs_len h2]; exact h1.len
theorem GArg.at (h : GArg w A n c zss) {k : Nat} (hk : k < zss.length) : ∃ a A1 m1 c1, A = some a ∧ a.block < w.heap.size ∧ w.cell? (a.add k) = some (.slice A1 m1 c1) ∧ Rd w w.heap.size A1 m1 (ivs zss[k]) ∧ zss[k].length ≤ 9223372036854775807 := by
  obtain ⟨rs, h1, h2, _, _, h4⟩ := h
  have hk2 : k < rs.length := by rw [xs_len h2]; exact hk
  obtain ⟨a, ha, hab, hc⟩ := h1.cell hk2
  have hr := h1.2 _ (List.getElem_mem hk2)
  rw [xs_at h2 hk2] at hr
  exact ⟨a, _, _, _, ha, hab, hc, hr, h4 _ (List.getElem_mem hk)⟩
theorem GArg.small (h : GArg w A n c zss) (hn : zss.length ≤ 1048576) (hz : sumL zss ≤ 1048576) : GIn w A n c zss := by
  have hl := h.len
  obtain ⟨rs, h1, h2, h3, h4, _⟩ := h
  exact ⟨rs, h1, h2, by omega, fun z hz2 => Nat.le_trans (sumL_le zss z hz2) hz, h3, h4⟩
end
/-- what a size test leaves: less than nothing, or all is small -/
def SizedG (zss : Tab) (left r : Int) : Prop := r < 0 ∨ (0 ≤ r ∧ r + (zss.length : Int) + (sumL zss : Int) = left)
def SizedA (zss : Tab) (o : List UInt8) (left r : Int) : Prop := r < 0 ∨ (0 ≤ r ∧ r + (zss.length : Int) + (sumL zss : Int) + (o.length : Int) = left)

theorem infoG : (Tryd.prog.info? 54).map (fun i => (i.zero, i.size, i.bytes)) = some (some (.slice none 0 0), 1, 24) := by kernel_rfl
theorem GIn.of {w : World} {A : Option Addr} {n c : Nat} {rs : List Row} {zss : Tab} (h : RdG w A n rs) (hx : rs.map Row.xs = zss.map ivs) (hn : n ≤ 1048576) (hz : ∀ z ∈ zss, z.length ≤ 1048576) (hc : n ≤ c) (hm : c ≤ 9223372036854775807) : GIn w A n c zss := ⟨rs, h, hx, hn, hz, hc, hm⟩
/-- an automaton laid in a block of its own -/
def BoxR (t : TypeId) (g : Nat) (b : Int) (A : Option Addr) (n c : Nat) (o : List UInt8) : Row := ⟨t, some ⟨g, 0, none⟩, 3, 3, [.int .i64 b, .slice A n c, .string ⟨o.toArray⟩]⟩
theorem Mem.box {W w : World} {L : List Row} (h : Mem W w L) (t : TypeId) (b : Int) (A : Option Addr) (n c : Nat) (o : List UInt8) : Mem W (w.alloc (.cells #[.int .i64 b, .slice A n c, .string ⟨o.toArray⟩] t)) (BoxR t w.heap.size b A n c o :: L) :=
  h.add (Own.made (w0 := w) (w := w) (Below.refl _ _) t [.int .i64 b, .slice A n c, .string ⟨o.toArray⟩] (by simp))
theorem Mem.boxAt {W w : World} {L : List Row} (h : Mem W w L) {t : TypeId} {g : Nat} {b : Int} {A : Option Addr} {n c : Nat} {o : List UInt8} (hr : BoxR t g b A n c o ∈ L) : BoxAt w g b A n c o :=
  ⟨(h.row hr).cellAt 0 (by simp [BoxR]), (h.row hr).cellAt 1 (by simp [BoxR]), (h.row hr).cellAt 2 (by simp [BoxR])⟩
theorem Mem.boxFree {W w : World} {L : List Row} (h : Mem W w L) {t : TypeId} {g : Nat} {b : Int} {A : Option Addr} {n c : Nat} {o : List UInt8} (hr : BoxR t g b A n c o ∈ L) (j : Nat) : w.frozen? ⟨g, j, none⟩ = false := (h.row hr).frozenAt j
section
variable {W w : World} {pre post : List Row} {t : TypeId} {g : Nat} {b : Int} {A : Option Addr} {n c : Nat} {o : List UInt8}
theorem Mem.box0 (h : Mem W w (pre ++ BoxR t g b A n c o :: post)) (b' : Int) : Mem W (w.setCell ⟨g, 0, none⟩ (.int .i64 b')) (pre ++ BoxR t g b' A n c o :: post) := by
  have h1 := World.ownsRow.stored (h.row (r := BoxR t g b A n c o) (by simp)) 0 (.int .i64 b')
  exact h.mark (pre := pre) (post := post) (ys := [.int .i64 b', .slice A n c, .string ⟨o.toArray⟩]) h1.1 (Nat.le_refl _) h1.2
theorem Mem.box1 (h : Mem W w (pre ++ BoxR t g b A n c o :: post)) (A' : Option Addr) (n' c' : Nat) : Mem W (w.setCell ⟨g, 1, none⟩ (.slice A' n' c')) (pre ++ BoxR t g b A' n' c' o :: post) := by
  have h1 := World.ownsRow.stored (h.row (r := BoxR t g b A n c o) (by simp)) 1 (.slice A' n' c')
  exact h.mark (pre := pre) (post := post) (ys := [.int .i64 b, .slice A' n' c', .string ⟨o.toArray⟩]) h1.1 (Nat.le_refl _) h1.2
theorem Mem.box2 (h : Mem W w (pre ++ BoxR t g b A n c o :: post)) (o' : List UInt8) : Mem W (w.setCell ⟨g, 2, none⟩ (.string ⟨o'.toArray⟩)) (pre ++ BoxR t g b A n c o' :: post) := by
  have h1 := World.ownsRow.stored (h.row (r := BoxR t g b A n c o) (by simp)) 2 (.string ⟨o'.toArray⟩)
  exact h.mark (pre := pre) (post := post) (ys := [.int .i64 b, .slice A n c, .string ⟨o'.toArray⟩]) h1.1 (Nat.le_refl _) h1.2
end
end Go.Proofs.YtcicoplmpinnmaaDoor
