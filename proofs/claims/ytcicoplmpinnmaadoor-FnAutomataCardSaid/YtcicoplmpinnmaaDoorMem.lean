/-
  The rows that a law's call has made, all at once: kept over calls, one more, one rewritten. No conditions.
-/
import Derived.Test.YtcicoplmpinnmaaDoorOwn
namespace Go.Proofs.YtcicoplmpinnmaaDoor
open Go.RowKit

structure Row where
  e : TypeId
  A : Option Addr
  n : Nat
  c : Nat
  xs : List Value
def Row.blk (r : Row) : Option Nat := (Value.slice r.A r.n r.c).ownBlock

def Mem (w0 w : World) (rs : List Row) : Prop :=
  Below w0.heap.size w0 w ∧ (∀ r ∈ rs, w.ownsRow w0.heap.size r.e 1 (.slice r.A r.n r.c) r.n r.xs) ∧ rs.Pairwise (fun r s => r.blk = none ∨ r.blk ≠ s.blk)

theorem own_blk_lt {w : World} {base : Nat} {e : TypeId} {v : Value} {n : Nat} {xs : List Value} (h : w.ownsRow base e 1 v n xs) : ∀ g, v.ownBlock = some g → base ≤ g ∧ g < w.heap.size := h.lt

section
variable {w0 w w' : World} {rs : List Row}
theorem Mem.start (w : World) : Mem w w [] := ⟨Below.refl _ _, by simp, List.Pairwise.nil⟩
theorem Mem.bel (h : Mem w0 w rs) : Below w0.heap.size w0 w := h.1
theorem keep_row {base : Nat} {e : TypeId} {v : Value} {n : Nat} {xs : List Value} (h : w.ownsRow base e 1 v n xs) (hb : Below w.heap.size w w') : w'.ownsRow base e 1 v n xs := by
  refine ⟨h.1, ?_⟩
  rcases h.2 with h2 | ⟨g, cap, cur, hv, hg, hh, r⟩
  · exact Or.inl h2
  · exact Or.inr ⟨g, cap, cur, hv, hg, by rw [hb.block g (Array.getElem?_eq_some_iff.1 hh).1]; exact hh, r⟩
theorem less_row {base base' : Nat} {e : TypeId} {v : Value} {n : Nat} {xs : List Value} (h : w.ownsRow base e 1 v n xs) (hb : base' ≤ base) : w.ownsRow base' e 1 v n xs := by
  refine ⟨h.1, ?_⟩
  rcases h.2 with h2 | ⟨g, cap, cur, hv, hg, r⟩
  · exact Or.inl h2
  · exact Or.inr ⟨g, cap, cur, hv, Nat.le_trans hb hg, r⟩
theorem Mem.later (h : Mem w0 w rs) (hb : Below w.heap.size w w') : Mem w0 w' rs :=
  ⟨h.1.trans (hb.mono h.1.size), fun r hr => keep_row (h.2.1 r hr) hb, h.2.2⟩
theorem Mem.add (h : Mem w0 w rs) {e : TypeId} {A : Option Addr} {n c : Nat} {xs : List Value} (ho : Own w w' e A n c xs) : Mem w0 w' (⟨e, A, n, c, xs⟩ :: rs) := by
  have hb : Below w.heap.size w w' := ho.2
  refine ⟨h.1.trans (hb.mono h.1.size), fun r hr => ?_, List.Pairwise.cons (fun s hs => ?_) h.2.2⟩
  · rcases List.mem_cons.1 hr with rfl | hr
    · exact less_row ho.1 h.1.size
    · exact keep_row (h.2.1 r hr) hb
  · cases hbk : (Row.blk ⟨e, A, n, c, xs⟩) with
    | none => exact Or.inl rfl
    | some g =>
      refine Or.inr fun hc => ?_
      have h1 := (own_blk_lt ho.1 g hbk).1
      have h2 := (own_blk_lt (h.2.1 s hs) g hc.symm).2
      omega
theorem Mem.rd (h : Mem w0 w rs) {r : Row} (hr : r ∈ rs) : Rd w w.heap.size r.A r.n r.xs := Rd.own (h.2.1 r hr)
theorem Mem.row (h : Mem w0 w rs) {r : Row} (hr : r ∈ rs) : w.ownsRow w0.heap.size r.e 1 (.slice r.A r.n r.c) r.n r.xs := h.2.1 r hr
theorem Mem.mark {pre post : List Row} {e : TypeId} {A : Option Addr} {n c : Nat} {xs ys : List Value} (h : Mem w0 w (pre ++ ⟨e, A, n, c, xs⟩ :: post)) {base : Nat}
    (ho : w'.ownsRow base e 1 (.slice A n c) n ys) (hbase : w0.heap.size ≤ base) (hg : w.grownBy w' (Value.slice A n c).ownBlock) : Mem w0 w' (pre ++ ⟨e, A, n, c, ys⟩ :: post) := by
  obtain ⟨h1, h2, h3⟩ := h
  have hme := h2 ⟨e, A, n, c, xs⟩ (by simp)
  have hother : ∀ s, s ∈ pre ∨ s ∈ post → s.blk = none ∨ s.blk ≠ (Value.slice A n c).ownBlock := by
    intro s hs
    rw [List.pairwise_append] at h3
    obtain ⟨_, hq, hc⟩ := h3
    rcases hs with hs | hs
    · exact hc s hs ⟨e, A, n, c, xs⟩ (by simp)
    · have := (List.pairwise_cons.1 hq).1 s hs
      rcases this with h0 | h0
      · cases hsb : s.blk with
        | none => exact Or.inl rfl
        | some g => right; have h0' : (Value.slice A n c).ownBlock = none := h0; rw [h0']; simp
      · exact Or.inr fun hc => h0 hc.symm
  refine ⟨h1.grown hg h1.size (fun k hk => (own_blk_lt hme k hk).1), fun r hr => ?_, ?_⟩
  · have keepIt : ∀ s, s ∈ pre ∨ s ∈ post → w'.ownsRow w0.heap.size s.e 1 (.slice s.A s.n s.c) s.n s.xs := fun s hs =>
      (h2 s (by rcases hs with hs | hs <;> simp [hs])).kept hg (hother s hs)
    rw [List.mem_append, List.mem_cons] at hr
    rcases hr with hr | rfl | hr
    · exact keepIt r (Or.inl hr)
    · exact less_row ho hbase
    · exact keepIt r (Or.inr hr)
  · rw [List.pairwise_append, List.pairwise_cons] at h3 ⊢
    obtain ⟨hp, ⟨hq1, hq⟩, hc⟩ := h3
    refine ⟨hp, ⟨hq1, hq⟩, fun a ha b hb => ?_⟩
    rcases List.mem_cons.1 hb with rfl | hb
    · exact hc a ha ⟨e, A, n, c, xs⟩ (by simp)
    · exact hc a ha b (by simp [hb])
/-- the rows that are no more of use are let go -/
theorem Mem.drop (h : Mem w0 w rs) {rs' : List Row} (hs : rs'.Sublist rs) : Mem w0 w rs' :=
  ⟨h.1, fun r hr => h.2.1 r (hs.subset hr), h.2.2.sublist hs⟩
end
/-! the rows by their places -/
section
variable {w0 w w' : World} {e : TypeId} {A : Option Addr} {n c : Nat} {xs ys : List Value} {rs : List Row}
theorem Mem.rd0 (h : Mem w0 w (⟨e, A, n, c, xs⟩ :: rs)) : Rd w w.heap.size A n xs := h.rd (r := ⟨e, A, n, c, xs⟩) (by simp)
theorem Mem.row0 (h : Mem w0 w (⟨e, A, n, c, xs⟩ :: rs)) : w.ownsRow w0.heap.size e 1 (.slice A n c) n xs := h.row (r := ⟨e, A, n, c, xs⟩) (by simp)
theorem Mem.mark0 (h : Mem w0 w (⟨e, A, n, c, xs⟩ :: rs)) (ho : w'.ownsRow w0.heap.size e 1 (.slice A n c) n ys) (hg : w.grownBy w' (Value.slice A n c).ownBlock) : Mem w0 w' (⟨e, A, n, c, ys⟩ :: rs) := Mem.mark (pre := []) h ho (Nat.le_refl _) hg
theorem Mem.rd1 {r0 : Row} (h : Mem w0 w (r0 :: ⟨e, A, n, c, xs⟩ :: rs)) : Rd w w.heap.size A n xs := h.rd (r := ⟨e, A, n, c, xs⟩) (by simp)
theorem Mem.row1 {r0 : Row} (h : Mem w0 w (r0 :: ⟨e, A, n, c, xs⟩ :: rs)) : w.ownsRow w0.heap.size e 1 (.slice A n c) n xs := h.row (r := ⟨e, A, n, c, xs⟩) (by simp)
theorem Mem.mark1 {r0 : Row} (h : Mem w0 w (r0 :: ⟨e, A, n, c, xs⟩ :: rs)) (ho : w'.ownsRow w0.heap.size e 1 (.slice A n c) n ys) (hg : w.grownBy w' (Value.slice A n c).ownBlock) : Mem w0 w' (r0 :: ⟨e, A, n, c, ys⟩ :: rs) := Mem.mark (pre := [r0]) h ho (Nat.le_refl _) hg
theorem Mem.rd2 {r0 r1 : Row} (h : Mem w0 w (r0 :: r1 :: ⟨e, A, n, c, xs⟩ :: rs)) : Rd w w.heap.size A n xs := h.rd (r := ⟨e, A, n, c, xs⟩) (by simp)
theorem Mem.row2 {r0 r1 : Row} (h : Mem w0 w (r0 :: r1 :: ⟨e, A, n, c, xs⟩ :: rs)) : w.ownsRow w0.heap.size e 1 (.slice A n c) n xs := h.row (r := ⟨e, A, n, c, xs⟩) (by simp)
theorem Mem.mark2 {r0 r1 : Row} (h : Mem w0 w (r0 :: r1 :: ⟨e, A, n, c, xs⟩ :: rs)) (ho : w'.ownsRow w0.heap.size e 1 (.slice A n c) n ys) (hg : w.grownBy w' (Value.slice A n c).ownBlock) : Mem w0 w' (r0 :: r1 :: ⟨e, A, n, c, ys⟩ :: rs) := Mem.mark (pre := [r0, r1]) h ho (Nat.le_refl _) hg
theorem Mem.rd3 {r0 r1 r2 : Row} (h : Mem w0 w (r0 :: r1 :: r2 :: ⟨e, A, n, c, xs⟩ :: rs)) : Rd w w.heap.size A n xs := h.rd (r := ⟨e, A, n, c, xs⟩) (by simp)
theorem Mem.row3 {r0 r1 r2 : Row} (h : Mem w0 w (r0 :: r1 :: r2 :: ⟨e, A, n, c, xs⟩ :: rs)) : w.ownsRow w0.heap.size e 1 (.slice A n c) n xs := h.row (r := ⟨e, A, n, c, xs⟩) (by simp)
theorem Mem.mark3 {r0 r1 r2 : Row} (h : Mem w0 w (r0 :: r1 :: r2 :: ⟨e, A, n, c, xs⟩ :: rs)) (ho : w'.ownsRow w0.heap.size e 1 (.slice A n c) n ys) (hg : w.grownBy w' (Value.slice A n c).ownBlock) : Mem w0 w' (r0 :: r1 :: r2 :: ⟨e, A, n, c, ys⟩ :: rs) := Mem.mark (pre := [r0, r1, r2]) h ho (Nat.le_refl _) hg
theorem Mem.rd4 {r0 r1 r2 r3 : Row} (h : Mem w0 w (r0 :: r1 :: r2 :: r3 :: ⟨e, A, n, c, xs⟩ :: rs)) : Rd w w.heap.size A n xs := h.rd (r := ⟨e, A, n, c, xs⟩) (by simp)
theorem Mem.row4 {r0 r1 r2 r3 : Row} (h : Mem w0 w (r0 :: r1 :: r2 :: r3 :: ⟨e, A, n, c, xs⟩ :: rs)) : w.ownsRow w0.heap.size e 1 (.slice A n c) n xs := h.row (r := ⟨e, A, n, c, xs⟩) (by simp)
theorem Mem.mark4 {r0 r1 r2 r3 : Row} (h : Mem w0 w (r0 :: r1 :: r2 :: r3 :: ⟨e, A, n, c, xs⟩ :: rs)) (ho : w'.ownsRow w0.heap.size e 1 (.slice A n c) n ys) (hg : w.grownBy w' (Value.slice A n c).ownBlock) : Mem w0 w' (r0 :: r1 :: r2 :: r3 :: ⟨e, A, n, c, ys⟩ :: rs) := Mem.mark (pre := [r0, r1, r2, r3]) h ho (Nat.le_refl _) hg
theorem Mem.rd5 {r0 r1 r2 r3 r4 : Row} (h : Mem w0 w (r0 :: r1 :: r2 :: r3 :: r4 :: ⟨e, A, n, c, xs⟩ :: rs)) : Rd w w.heap.size A n xs := h.rd (r := ⟨e, A, n, c, xs⟩) (by simp)
theorem Mem.row5 {r0 r1 r2 r3 r4 : Row} (h : Mem w0 w (r0 :: r1 :: r2 :: r3 :: r4 :: ⟨e, A, n, c, xs⟩ :: rs)) : w.ownsRow w0.heap.size e 1 (.slice A n c) n xs := h.row (r := ⟨e, A, n, c, xs⟩) (by simp)
theorem Mem.mark5 {r0 r1 r2 r3 r4 : Row} (h : Mem w0 w (r0 :: r1 :: r2 :: r3 :: r4 :: ⟨e, A, n, c, xs⟩ :: rs)) (ho : w'.ownsRow w0.heap.size e 1 (.slice A n c) n ys) (hg : w.grownBy w' (Value.slice A n c).ownBlock) : Mem w0 w' (r0 :: r1 :: r2 :: r3 :: r4 :: ⟨e, A, n, c, ys⟩ :: rs) := Mem.mark (pre := [r0, r1, r2, r3, r4]) h ho (Nat.le_refl _) hg
theorem Mem.rd6 {r0 r1 r2 r3 r4 r5 : Row} (h : Mem w0 w (r0 :: r1 :: r2 :: r3 :: r4 :: r5 :: ⟨e, A, n, c, xs⟩ :: rs)) : Rd w w.heap.size A n xs := h.rd (r := ⟨e, A, n, c, xs⟩) (by simp)
theorem Mem.row6 {r0 r1 r2 r3 r4 r5 : Row} (h : Mem w0 w (r0 :: r1 :: r2 :: r3 :: r4 :: r5 :: ⟨e, A, n, c, xs⟩ :: rs)) : w.ownsRow w0.heap.size e 1 (.slice A n c) n xs := h.row (r := ⟨e, A, n, c, xs⟩) (by simp)
theorem Mem.mark6 {r0 r1 r2 r3 r4 r5 : Row} (h : Mem w0 w (r0 :: r1 :: r2 :: r3 :: r4 :: r5 :: ⟨e, A, n, c, xs⟩ :: rs)) (ho : w'.ownsRow w0.heap.size e 1 (.slice A n c) n ys) (hg : w.grownBy w' (Value.slice A n c).ownBlock) : Mem w0 w' (r0 :: r1 :: r2 :: r3 :: r4 :: r5 :: ⟨e, A, n, c, ys⟩ :: rs) := Mem.mark (pre := [r0, r1, r2, r3, r4, r5]) h ho (Nat.le_refl _) hg
theorem Mem.rd7 {r0 r1 r2 r3 r4 r5 r6 : Row} (h : Mem w0 w (r0 :: r1 :: r2 :: r3 :: r4 :: r5 :: r6 :: ⟨e, A, n, c, xs⟩ :: rs)) : Rd w w.heap.size A n xs := h.rd (r := ⟨e, A, n, c, xs⟩) (by simp)
theorem Mem.row7 {r0 r1 r2 r3 r4 r5 r6 : Row} (h : Mem w0 w (r0 :: r1 :: r2 :: r3 :: r4 :: r5 :: r6 :: ⟨e, A, n, c, xs⟩ :: rs)) : w.ownsRow w0.heap.size e 1 (.slice A n c) n xs := h.row (r := ⟨e, A, n, c, xs⟩) (by simp)
theorem Mem.mark7 {r0 r1 r2 r3 r4 r5 r6 : Row} (h : Mem w0 w (r0 :: r1 :: r2 :: r3 :: r4 :: r5 :: r6 :: ⟨e, A, n, c, xs⟩ :: rs)) (ho : w'.ownsRow w0.heap.size e 1 (.slice A n c) n ys) (hg : w.grownBy w' (Value.slice A n c).ownBlock) : Mem w0 w' (r0 :: r1 :: r2 :: r3 :: r4 :: r5 :: r6 :: ⟨e, A, n, c, ys⟩ :: rs) := Mem.mark (pre := [r0, r1, r2, r3, r4, r5, r6]) h ho (Nat.le_refl _) hg
theorem Mem.rd8 {r0 r1 r2 r3 r4 r5 r6 r7 : Row} (h : Mem w0 w (r0 :: r1 :: r2 :: r3 :: r4 :: r5 :: r6 :: r7 :: ⟨e, A, n, c, xs⟩ :: rs)) : Rd w w.heap.size A n xs := h.rd (r := ⟨e, A, n, c, xs⟩) (by simp)
theorem Mem.row8 {r0 r1 r2 r3 r4 r5 r6 r7 : Row} (h : Mem w0 w (r0 :: r1 :: r2 :: r3 :: r4 :: r5 :: r6 :: r7 :: ⟨e, A, n, c, xs⟩ :: rs)) : w.ownsRow w0.heap.size e 1 (.slice A n c) n xs := h.row (r := ⟨e, A, n, c, xs⟩) (by simp)
theorem Mem.mark8 {r0 r1 r2 r3 r4 r5 r6 r7 : Row} (h : Mem w0 w (r0 :: r1 :: r2 :: r3 :: r4 :: r5 :: r6 :: r7 :: ⟨e, A, n, c, xs⟩ :: rs)) (ho : w'.ownsRow w0.heap.size e 1 (.slice A n c) n ys) (hg : w.grownBy w' (Value.slice A n c).ownBlock) : Mem w0 w' (r0 :: r1 :: r2 :: r3 :: r4 :: r5 :: r6 :: r7 :: ⟨e, A, n, c, ys⟩ :: rs) := Mem.mark (pre := [r0, r1, r2, r3, r4, r5, r6, r7]) h ho (Nat.le_refl _) hg
theorem Mem.rd9 {r0 r1 r2 r3 r4 r5 r6 r7 r8 : Row} (h : Mem w0 w (r0 :: r1 :: r2 :: r3 :: r4 :: r5 :: r6 :: r7 :: r8 :: ⟨e, A, n, c, xs⟩ :: rs)) : Rd w w.heap.size A n xs := h.rd (r := ⟨e, A, n, c, xs⟩) (by simp)
theorem Mem.row9 {r0 r1 r2 r3 r4 r5 r6 r7 r8 : Row} (h : Mem w0 w (r0 :: r1 :: r2 :: r3 :: r4 :: r5 :: r6 :: r7 :: r8 :: ⟨e, A, n, c, xs⟩ :: rs)) : w.ownsRow w0.heap.size e 1 (.slice A n c) n xs := h.row (r := ⟨e, A, n, c, xs⟩) (by simp)
theorem Mem.mark9 {r0 r1 r2 r3 r4 r5 r6 r7 r8 : Row} (h : Mem w0 w (r0 :: r1 :: r2 :: r3 :: r4 :: r5 :: r6 :: r7 :: r8 :: ⟨e, A, n, c, xs⟩ :: rs)) (ho : w'.ownsRow w0.heap.size e 1 (.slice A n c) n ys) (hg : w.grownBy w' (Value.slice A n c).ownBlock) : Mem w0 w' (r0 :: r1 :: r2 :: r3 :: r4 :: r5 :: r6 :: r7 :: r8 :: ⟨e, A, n, c, ys⟩ :: rs) := Mem.mark (pre := [r0, r1, r2, r3, r4, r5, r6, r7, r8]) h ho (Nat.le_refl _) hg
end
end Go.Proofs.YtcicoplmpinnmaaDoor
