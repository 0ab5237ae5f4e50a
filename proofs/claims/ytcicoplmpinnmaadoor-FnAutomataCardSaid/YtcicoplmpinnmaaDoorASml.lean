/-
  The least automaton in plain Lean: the reference's numbering and the program's agree. No conditions.
-/
import Derived.Test.YtcicoplmpinnmaaDoorANum
namespace Go.Proofs.YtcicoplmpinnmaaDoor
section
open Go.RowKit

theorem Rd.nat {w : World} {B : Nat} {A : Option Addr} {n k : Nat} {ds : List Nat} (h : Rd w B A n (nvs ds)) (hk : k < ds.length) : ∃ a, A = some a ∧ a.block < B ∧ w.cell? (a.add k) = some (.int .i64 (ds[k] : Nat)) := by
  have h1 := h.cell (k := k) (by simpa [nvs] using hk)
  simpa [nvs] using h1
theorem Rd.lenN {w : World} {B : Nat} {A : Option Addr} {n : Nat} {ds : List Nat} (h : Rd w B A n (nvs ds)) : ds.length = n := by simpa [nvs] using h.1
/-- the first values of a function -/
def vals (f : Nat → Nat) (n : Nat) : List Nat := (List.range n).map f
theorem vals_len (f : Nat → Nat) (n : Nat) : (vals f n).length = n := by simp [vals]
theorem vals_get (f : Nat → Nat) {n k : Nat} (h : k < (vals f n).length) : (vals f n)[k] = f k := by simp [vals]
theorem vals_snoc (f : Nat → Nat) (n : Nat) : vals f (n + 1) = vals f n ++ [f n] := by simp [vals, List.range_succ]
theorem Rd.val {w : World} {B : Nat} {A : Option Addr} {n k : Nat} {f : Nat → Nat} (h : Rd w B A n (nvs (vals f n))) (hk : k < n) : ∃ a, A = some a ∧ a.block < B ∧ w.cell? (a.add k) = some (.int .i64 (f k : Nat)) := by
  obtain ⟨a, h1, h2, h3⟩ := h.nat (k := k) (by rw [vals_len]; exact hk)
  rw [vals_get] at h3
  exact ⟨a, h1, h2, h3⟩
theorem tab_lt {b : Nat} {zss : Tab} (hg : Good b zss) {s d : Nat} (hs : s < zss.length) (hd : d < b) : tab zss s d < zss.length := (tab_at hg hs hd).1

theorem cl0_is {zss : Tab} {o : List UInt8} {b i k : Nat} (h1 : o.getD k 0 = o.getD i 0) (h2 : ∀ j < k, o.getD j 0 ≠ o.getD i 0) : cl zss o b 0 i = k :=
  rep_is (key0_eq.2 h1) (fun j hj h => h2 j hj (key0_eq.1 h))
theorem cl1_is {zss : Tab} {o : List UInt8} {b t i k : Nat} (h1 : keyOf zss b (cl zss o b t) k = keyOf zss b (cl zss o b t) i) (h2 : ∀ j < k, keyOf zss b (cl zss o b t) j ≠ keyOf zss b (cl zss o b t) i) : cl zss o b (t + 1) i = k :=
  rep_is h1 h2
end
section
open Go.RowKit

theorem gAdds_snoc {q : Nat → Nat → Bool} : ∀ (ys S : List Nat) (y : Nat), gAdds q S (ys ++ [y]) = gAdd q (gAdds q S ys) y ∧ gRowS q S (ys ++ [y]) = gRowS q S ys ++ [gIdx q (gAdds q S ys) y]
  | [], S, y => ⟨rfl, rfl⟩
  | x :: ys, S, y => by
    obtain ⟨h1, h2⟩ := gAdds_snoc (q := q) ys (gAdd q S x) y
    exact ⟨h1, by show gIdx q S x :: gRowS q (gAdd q S x) (ys ++ [y]) = _; rw [h2]; rfl⟩
theorem gRowS_len {q : Nat → Nat → Bool} : ∀ (ys S : List Nat), (gRowS q S ys).length = ys.length
  | [], _ => rfl
  | y :: ys, S => by show (gRowS q (gAdd q S y) ys).length + 1 = _; rw [gRowS_len ys]; rfl
def nxt (zss : Tab) (b : Nat) (s : Nat) : List Nat := (List.range b).map fun d => tab zss s d
section
variable (zss : Tab) (o : List UInt8) (b : Nat)
abbrev clN (i : Nat) : Nat := cl zss o b zss.length i
def nxS (s : Nat) : List Nat := (nxt zss b s).map (clN zss o b)
def qS (s t : Nat) : Bool := s == t
def outS (s : Nat) : UInt8 := o.getD s 0
def smAt (i : Nat) : List Nat := gAt qS (nxS zss o b) (clN zss o b 0) i
def smRows (i : Nat) : List (List Nat) := gRows qS (nxS zss o b) (clN zss o b 0) i
def smOuts (i : Nat) : List UInt8 := gOuts qS (nxS zss o b) (clN zss o b 0) (outS o) i
/-- the least automaton: its table and its letters -/
def smTab : Tab := (smRows zss o b zss.length).map fun r => r.map fun x : Nat => (x : Int)
def smOut : List UInt8 := smOuts zss o b zss.length
end
section
variable {zss : Tab} {o : List UInt8} {b : Nat}
theorem nxt_len (s : Nat) : (nxt zss b s).length = b := by simp [nxt]
theorem nxt_get {s d : Nat} (h : d < b) : (nxt zss b s).getD d 0 = tab zss s d := by simp [nxt, List.getD_eq_getElem?_getD, h]
theorem nxS_len (s : Nat) : (nxS zss o b s).length = b := by simp [nxS, nxt]
theorem nxS_get {s d : Nat} (h : d < (nxS zss o b s).length) : (nxS zss o b s)[d] = clN zss o b (tab zss s d) := by simp [nxS, nxt]
theorem nxS_lt (hg : Good b zss) {s : Nat} (hs : s < zss.length) : ∀ y ∈ nxS zss o b s, y < zss.length := by
  intro y hy
  obtain ⟨x, hx, rfl⟩ := List.mem_map.1 hy
  obtain ⟨d, hd, rfl⟩ := List.mem_map.1 hx
  have h1 := tab_lt hg hs (List.mem_range.1 hd)
  have h2 := cl_le (zss := zss) (o := o) (b := b) zss.length (tab zss s d)
  show cl _ _ _ _ _ < _
  omega
theorem st_lt (hg : Good b zss) : clN zss o b 0 < zss.length := by
  have h1 := hg.2.2.1
  have h2 := cl_le (zss := zss) (o := o) (b := b) zss.length 0
  show cl _ _ _ _ _ < _
  omega
theorem smAt_fit (hg : Good b zss) (i : Nat) : GFit zss.length (smAt zss o b i) := gAt_fit (fun s => by simp [qS]) (fun s hs => nxS_lt hg hs) (st_lt hg) i
theorem smAt_len (hg : Good b zss) (i : Nat) : (smAt zss o b i).length ≤ zss.length := gAt_len (fun s => by simp [qS]) (fun s hs => nxS_lt hg hs) (st_lt hg) i
theorem smAt_end (hg : Good b zss) {i : Nat} (h : (smAt zss o b i).length ≤ i) (hi : i ≤ zss.length) : smAt zss o b zss.length = smAt zss o b i ∧ smRows zss o b zss.length = smRows zss o b i ∧ smOut zss o b = smOuts zss o b i := gAt_end h hi
theorem smAt_succ {i : Nat} (h : i < (smAt zss o b i).length) : smAt zss o b (i + 1) = gAdds qS (smAt zss o b i) (nxS zss o b ((smAt zss o b i).getD i 0)) ∧ smRows zss o b (i + 1) = smRows zss o b i ++ [gRowS qS (smAt zss o b i) (nxS zss o b ((smAt zss o b i).getD i 0))] ∧ smOuts zss o b (i + 1) = smOuts zss o b i ++ [o.getD ((smAt zss o b i).getD i 0) 0] := by
  refine ⟨?_, ?_, ?_⟩
  · show (if i < (smAt zss o b i).length then _ else _) = _
    rw [if_pos h]; rfl
  · show (if i < (smAt zss o b i).length then _ else _) = _
    rw [if_pos h]; rfl
  · show (if i < (smAt zss o b i).length then _ else _) = _
    rw [if_pos h]; rfl
/-- the program's numbering: states of which the classes agree -/
def qP (own : Nat → Int) (s t : Nat) : Bool := own s == own t
theorem small_sim (hg : Good b zss) {own : Nat → Int} (ho : ∀ i k, i < zss.length → k < zss.length → (own i = own k ↔ clN zss o b i = clN zss o b k)) (i : Nat) :
    (gAt (qP own) (nxt zss b) 0 i).length = (smAt zss o b i).length ∧ gRows (qP own) (nxt zss b) 0 i = smRows zss o b i ∧ gOuts (qP own) (nxt zss b) 0 (outS o) i = smOuts zss o b i := by
  have hT : ∀ i < zss.length, ∀ d < b, tab zss i d < zss.length := fun i hi d hd => tab_lt hg hi hd
  have hn : 0 < zss.length := hg.2.2.1
  have h := g_sim (R := fun s s' => s < zss.length ∧ clN zss o b s = s') (q := qP own) (q' := qS) (nx := nxt zss b) (nx' := nxS zss o b) (st := 0) (st' := clN zss o b 0) (out := outS o) (out' := outS o)
    (by
      rintro s s' t t' ⟨hs, rfl⟩ ⟨ht, rfl⟩
      have h1 := ho s t hs ht
      unfold qP qS
      by_cases he : own s = own t
      · rw [he, h1.1 he]; simp
      · have h2 : ¬ clN zss o b s = clN zss o b t := fun h2 => he (h1.2 h2)
        rw [beq_eq_false_iff_ne.2 he, beq_eq_false_iff_ne.2 h2])
    (by
      rintro s s' ⟨hs, rfl⟩
      unfold nxS nxt
      rw [List.map_map]
      refine All2.of_map _ (fun d hd => ?_)
      have hd2 := List.mem_range.1 hd
      refine ⟨hT s hs d hd2, ?_⟩
      have hle : clN zss o b s < zss.length := by have := cl_le (zss := zss) (o := o) (b := b) zss.length s; show cl _ _ _ _ _ < _; omega
      exact cl_stable hn hT hs hle (cl_idem _ _).symm hd2)
    ⟨hn, rfl⟩
    (by
      rintro s s' ⟨_, rfl⟩
      exact cl_out.symm)
    i
  exact ⟨h.1.len, h.2.1, h.2.2⟩
end
end
end Go.Proofs.YtcicoplmpinnmaaDoor
