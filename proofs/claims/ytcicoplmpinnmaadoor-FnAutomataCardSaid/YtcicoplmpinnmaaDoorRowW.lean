/-
  Rows of the call's own: stores, what a store leaves, small facts on lists of values. No conditions.
-/
import Derived.Test.YtcicoplmpinnmaaDoorMem
namespace Go.Proofs.YtcicoplmpinnmaaDoor
open Go.RowKit

theorem set_fill {xs : List Value} {n k : Nat} (z : Value) (hx : xs.length = n) (hk : k < n) : (xs.take k ++ List.replicate (n - k) z).set k (xs[k]'(by omega)) = xs.take (k + 1) ++ List.replicate (n - (k + 1)) z := by
  have h1 : (xs.take k).length = k := by simp; omega
  rw [List.set_append_right (h := by omega), h1, Nat.sub_self, take_snoc xs k (by omega)]
  obtain ⟨m, hm⟩ : ∃ m, n - k = m + 1 := ⟨n - k - 1, by omega⟩
  rw [hm, List.replicate_succ, List.set_cons_zero, show n - (k + 1) = m from by omega, List.append_assoc]
  rfl

/-- a store into a row of the call's own -/
theorem Own.store {w0 w : World} {e : TypeId} {g n c : Nat} {xs : List Value} (h : Own w0 w e (some ⟨g, 0, none⟩) n c xs) (j : Nat) (u : Value) :
    Own w0 (w.setCell ⟨g, j, none⟩ u) e (some ⟨g, 0, none⟩) n c (xs.set j u) := by
  obtain ⟨h1, h2⟩ := World.ownsRow.stored h.1 j u
  exact ⟨h1, h.2.grown h2 h.2.size (fun k hk => by injection hk with hk; subst hk; exact (own_blk_lt h.1 g rfl).1)⟩
theorem Own.cellAt {w0 w : World} {e : TypeId} {g n c : Nat} {xs : List Value} (h : Own w0 w e (some ⟨g, 0, none⟩) n c xs) {j : Nat} (hj : j < xs.length) :
    w.cell? ⟨g, j, none⟩ = some xs[j] := by
  have hl := h.len
  rw [h.1.cellAt j (by omega)]; exact List.getElem?_eq_getElem hj
theorem Own.frozenAt {w0 w : World} {e : TypeId} {g n c : Nat} {xs : List Value} (h : Own w0 w e (some ⟨g, 0, none⟩) n c xs) (j : Nat) : w.frozen? ⟨g, j, none⟩ = false := h.1.frozenAt j

/-- the last cell of a row that an append has just made -/
theorem Own.lastAt {w0 w : World} {e : TypeId} {g n c : Nat} {xs : List Value} {u : Value} (h : Own w0 w e (some ⟨g, 0, none⟩) (n + 1) c (xs ++ [u])) : w.cell? ⟨g, n, none⟩ = some u := by
  have hl := h.len
  simp at hl
  have hc := h.cellAt (j := n) (by simp; omega)
  rw [List.getElem_append_right (by omega)] at hc
  simpa using hc
theorem Own.storeLast {w0 w : World} {e : TypeId} {g n c : Nat} {xs : List Value} {u : Value} (h : Own w0 w e (some ⟨g, 0, none⟩) (n + 1) c (xs ++ [u])) (u' : Value) :
    Own w0 (w.setCell ⟨g, n, none⟩ u') e (some ⟨g, 0, none⟩) (n + 1) c (xs ++ [u']) := by
  have hl := h.len
  simp at hl
  have := h.store n u'
  rwa [List.set_append_right (h := by omega), show n - xs.length = 0 from by omega, List.set_cons_zero] at this

theorem ivs_get {zs : List Int} {k : Nat} (h : k < zs.length) : (ivs zs)[k]'(by simpa [ivs] using h) = .int .i64 zs[k] := by simp [ivs]

theorem below_drewN {B : Nat} {a w : World} (h : Below B a w) (n : Nat) : Below B a (w.drewN n) := ⟨h.os, h.tape, h.output, h.size, h.block⟩
theorem set_over {xs ys : List Value} {n k : Nat} (hx : xs.length = n) (hy : ys.length = n) (hk : k < n) : (ys.take k ++ xs.drop k).set k (ys[k]'(by omega)) = ys.take (k + 1) ++ xs.drop (k + 1) := by
  have h1 : (ys.take k).length = k := by simp; omega
  rw [List.set_append_right (h := by omega), h1, Nat.sub_self, take_snoc ys k (by omega), List.drop_eq_getElem_cons (by omega), List.set_cons_zero, List.append_assoc]
  rfl
theorem own_form {w : World} {base : Nat} {e : TypeId} {A : Option Addr} {n c : Nat} {xs : List Value} (h : w.ownsRow base e 1 (.slice A n c) n xs) (hn : 0 < n) : ∃ g, A = some ⟨g, 0, none⟩ := by
  rcases h.2 with ⟨_, h0⟩ | ⟨g, cap, cur, hv, _⟩
  · omega
  · injection hv with hA; exact ⟨g, hA⟩


theorem grown_of_below {w w' : World} (h : Below w.heap.size w w') (row : Option Nat) : w.grownBy w' row := ⟨h.os, h.tape, h.output, h.size, fun k hk _ => h.block k hk⟩
theorem bvs_len (l : List UInt8) : (bvs l).length = l.length := by simp [bvs]
theorem bvs_get {l : List UInt8} {k : Nat} (h : k < l.length) : (bvs l)[k]'(by simpa [bvs] using h) = .int .u8 (l[k].toNat : Nat) := by simp [bvs]
theorem bvs_get? {l : List UInt8} {k : Nat} (h : k < l.length) : (bvs l)[k]? = some (.int .u8 (l[k].toNat : Nat)) := by simp [bvs, h]
theorem bvs_set (l : List UInt8) (j : Nat) (c : UInt8) : (bvs l).set j (.int .u8 (c.toNat : Nat)) = bvs (l.set j c) := by simp [bvs, List.map_set]
theorem ivs_set (zs : List Int) (j : Nat) (z : Int) : (ivs zs).set j (.int .i64 z) = ivs (zs.set j z) := by simp [ivs, List.map_set]
theorem svs_len (ss : List (List UInt8)) : (svs ss).length = ss.length := by simp [svs]
theorem svs_get {ss : List (List UInt8)} {k : Nat} (h : k < ss.length) : (svs ss)[k]'(by simpa [svs] using h) = .string ⟨(ss[k]).toArray⟩ := by simp [svs]

/-! ## what a contract asks of a slice of strings -/
def Lens (ss : List (List UInt8)) : Prop := ∀ s ∈ ss, s.length ≤ 1048576
def SIn (w : World) (A : Option Addr) (n c : Nat) (ss : List (List UInt8)) : Prop := Rd w w.heap.size A n (svs ss) ∧ n ≤ 1048576 ∧ Lens ss ∧ n ≤ c
theorem SIn.later {w w' : World} {A : Option Addr} {n c : Nat} {ss : List (List UInt8)} (h : SIn w A n c ss) (hb : Below w.heap.size w w') : SIn w' A n c ss := ⟨h.1.later hb, h.2⟩
theorem SIn.longs {w : World} {A : Option Addr} {n c : Nat} {ss : List (List UInt8)} (h : SIn w A n c ss) : ∀ s ∈ ss, s.length ≤ 9223372036854775807 := fun s hs => by have := h.2.2.1 s hs; omega
theorem SIn.of {w : World} {A : Option Addr} {n c : Nat} {ss : List (List UInt8)} (h : Rd w w.heap.size A n (svs ss)) (hn : n ≤ 1048576) (hl : Lens ss) (hc : n ≤ c) : SIn w A n c ss := ⟨h, hn, hl, hc⟩
theorem Below.same {w : World} : Below w.heap.size w w := Below.refl _ _

/-- what a call that hands back a slice of strings leaves; with a truth value; with a number -/
def RetS (st : TypeId) (w0 : World) (ss : List (List UInt8)) (e : Ending) (w' : World) : Prop := ∃ A n c, e = .returned (.slice A n c) ∧ Own w0 w' st A n c (svs ss)
def RetSB (st : TypeId) (w0 : World) (ss : List (List UInt8)) (b : Bool) (e : Ending) (w' : World) : Prop := ∃ A n c, e = .returned (.tuple #[.slice A n c, .bool b]) ∧ Own w0 w' st A n c (svs ss)
def RetSI (st : TypeId) (w0 : World) (ss : List (List UInt8)) (z : Int) (e : Ending) (w' : World) : Prop := ∃ A n c, e = .returned (.tuple #[.slice A n c, .int .i64 z]) ∧ Own w0 w' st A n c (svs ss)
end Go.Proofs.YtcicoplmpinnmaaDoor
