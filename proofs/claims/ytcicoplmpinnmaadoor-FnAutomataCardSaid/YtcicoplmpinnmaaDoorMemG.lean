/-
  Slices of slices that the call itself made: an outer row of slice values and its inner rows. No conditions.
-/
import Derived.Test.YtcicoplmpinnmaaDoorTwo
namespace Go.Proofs.YtcicoplmpinnmaaDoor
open Go.RowKit

def SVal (r : Row) : Value := .slice r.A r.n r.c
def RdG (w : World) (A : Option Addr) (n : Nat) (rs : List Row) : Prop := Rd w w.heap.size A n (rs.map SVal) ∧ ∀ r ∈ rs, Rd w w.heap.size r.A r.n r.xs
section
variable {w0 w w' : World} {A : Option Addr} {n : Nat} {rs L : List Row}
theorem RdG.later (h : RdG w A n rs) (hb : Below w.heap.size w w') : RdG w' A n rs := ⟨h.1.later hb, fun r hr => (h.2 r hr).later hb⟩
theorem RdG.len (h : RdG w A n rs) : rs.length = n := by simpa using h.1.1
theorem RdG.cell (h : RdG w A n rs) {k : Nat} (hk : k < rs.length) : ∃ a, A = some a ∧ a.block < w.heap.size ∧ w.cell? (a.add k) = some (.slice rs[k].A rs[k].n rs[k].c) := by
  have h1 := h.1.cell (k := k) (by simpa using hk)
  simpa [SVal] using h1
theorem rel_symm {r s : Row} (h : r.blk = none ∨ r.blk ≠ s.blk) : s.blk = none ∨ s.blk ≠ r.blk := by
  rcases h with h | h
  · rw [h]
    cases hs : s.blk with
    | none => exact Or.inl rfl
    | some g => right; simp
  · exact Or.inr fun h2 => h h2.symm
theorem Mem.perm (h : Mem w0 w L) {L' : List Row} (hp : L.Perm L') : Mem w0 w L' :=
  ⟨h.1, fun r hr => h.2.1 r (hp.mem_iff.2 hr), h.2.2.perm hp (fun h => rel_symm h)⟩
/-- all rows that a callee has made, put beside those that were there -/
theorem Mem.addAll (h : Mem w0 w L) {G : List Row} (hg : Mem w w' G) : Mem w0 w' (G ++ L) := by
  have hb : Below w.heap.size w w' := hg.1
  refine ⟨h.1.trans (hb.mono h.1.size), fun r hr => ?_, List.pairwise_append.2 ⟨hg.2.2, h.2.2, fun r hr s hs => ?_⟩⟩
  · rcases List.mem_append.1 hr with hr | hr
    · exact less_row (hg.2.1 r hr) h.1.size
    · exact keep_row (h.2.1 r hr) hb
  · cases hbk : r.blk with
    | none => exact Or.inl rfl
    | some g =>
      refine Or.inr fun hc => ?_
      have h1 := (own_blk_lt (hg.2.1 r hr) g hbk).1
      have h2 := (own_blk_lt (h.2.1 s hs) g hc.symm).2
      omega
theorem Mem.rdG (h : Mem w0 w L) {e : TypeId} {c : Nat} (ho : (⟨e, A, n, c, rs.map SVal⟩ : Row) ∈ L) (hi : ∀ r ∈ rs, r ∈ L) : RdG w A n rs :=
  ⟨h.rd ho, fun r hr => h.rd (hi r hr)⟩
end

/-- what a call that hands back a slice of slices of numbers leaves -/
def RetG (et st : TypeId) (w0 : World) (zss : List (List Int)) (e : Ending) (w' : World) : Prop :=
  ∃ A n c rs, e = .returned (.slice A n c) ∧ Mem w0 w' (⟨st, A, n, c, rs.map SVal⟩ :: rs) ∧ rs.map Row.xs = zss.map ivs ∧ ∀ r ∈ rs, r.e = et
theorem xs_len {rs : List Row} {zss : List (List Int)} (h : rs.map Row.xs = zss.map ivs) : rs.length = zss.length := by have := congrArg List.length h; simpa using this
theorem xs_at {rs : List Row} {zss : List (List Int)} (h : rs.map Row.xs = zss.map ivs) {k : Nat} (hk : k < rs.length) : rs[k].xs = ivs (zss[k]'(by rw [← xs_len h]; exact hk)) := by
  have h1 : (rs.map Row.xs)[k]'(by simpa using hk) = (zss.map ivs)[k]'(by simpa [← xs_len h] using hk) := by simp only [h]
  simpa using h1
end Go.Proofs.YtcicoplmpinnmaaDoor
