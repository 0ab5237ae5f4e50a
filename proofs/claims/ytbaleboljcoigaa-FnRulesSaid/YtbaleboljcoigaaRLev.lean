/-
  How many patches begin with each row: plain Lean. No conditions.
-/
import Derived.Test.YtbaleboljcoigaaRStand
import Derived.Test.YtbaleboljcoigaaMemG
namespace Go.Proofs.Ytbaleboljcoigaa
open Go.RowKit

def most : Int := 1000000000000
/-- the sum over the first k rows below: those on which u may stand -/
def entK (col rows : Pch) (prev : List Int) (u : List UInt8) : Nat → Int
  | 0 => 0
  | k + 1 => entK col rows prev u k + if stand col u (rows.getD k []) = true then prev.getD k 0 else 0
def nextL (col rows : Pch) (prev : List Int) : List Int := rows.map fun u => entK col rows prev u rows.length
def lev (col rows : Pch) : Nat → List Int
  | 0 => List.replicate rows.length 1
  | n + 1 => nextL col rows (lev col rows n)
def okLev (col rows : Pch) (n : Nat) : Bool := decide ((lev col rows n).sum ≤ most)
def okH (col rows : Pch) (h : Nat) : Bool := (List.range h).all (okLev col rows)
def levs (col rows : Pch) (h : Nat) : List (List Int) := (List.range h).map (lev col rows)

theorem lev_len (col rows : Pch) : ∀ n, (lev col rows n).length = rows.length
  | 0 => by simp [lev]
  | n + 1 => by simp [lev, nextL]
theorem levs_len (col rows : Pch) (h : Nat) : (levs col rows h).length = h := by simp [levs]
theorem levs_get (col rows : Pch) {h n : Nat} (hn : n < h) : (levs col rows h)[n]'(by rw [levs_len]; exact hn) = lev col rows n := by simp [levs]
theorem levs_snoc (col rows : Pch) (n : Nat) : levs col rows (n + 1) = levs col rows n ++ [lev col rows n] := by simp [levs, List.range_succ]
theorem okH_snoc (col rows : Pch) (n : Nat) : okH col rows (n + 1) = (okH col rows n && okLev col rows n) := range_all_snocR _ n
theorem okH_at {col rows : Pch} {h n : Nat} (hh : okH col rows h = true) (hn : n < h) : (lev col rows n).sum ≤ most := by
  have := List.all_eq_true.1 hh n (List.mem_range.2 hn)
  simpa [okLev] using this
theorem okH_bad {col rows : Pch} {h n : Nat} (hn : n < h) (hb : most < (lev col rows n).sum) : okH col rows h = false :=
  range_all_badR hn (by simp [okLev]; omega)

theorem getD_nonneg {l : List Int} (h : ∀ z ∈ l, 0 ≤ z) (k : Nat) : 0 ≤ l.getD k 0 := by
  by_cases hk : k < l.length
  · rw [List.getD, List.getElem?_eq_getElem hk]; exact h _ (List.getElem_mem hk)
  · rw [List.getD, List.getElem?_eq_none (by omega)]; simp
theorem sum_take_succ {l : List Int} {k : Nat} (hk : k < l.length) : (l.take (k + 1)).sum = (l.take k).sum + l.getD k 0 := by
  rw [take_snoc l k hk, List.sum_append, List.getD, List.getElem?_eq_getElem hk]; simp
theorem sum_take_all {l : List Int} {k : Nat} (hk : l.length ≤ k) : (l.take k).sum = l.sum := by rw [List.take_of_length_le hk]
theorem sum_take_mono {l : List Int} (h : ∀ z ∈ l, 0 ≤ z) {k : Nat} : (l.take k).sum ≤ l.sum := by
  have h2 : 0 ≤ (l.drop k).sum := by
    have : ∀ m : List Int, (∀ z ∈ m, 0 ≤ z) → 0 ≤ m.sum := by
      intro m; induction m with
      | nil => simp
      | cons a m ih => intro hm; have := ih (fun z hz => hm z (by simp [hz])); have := hm a (by simp); simp; omega
    exact this _ (fun z hz => h z (List.mem_of_mem_drop hz))
  have h3 : l.sum = (l.take k).sum + (l.drop k).sum := by rw [← List.sum_append, List.take_append_drop]
  omega
theorem sum_take_nonneg {l : List Int} (h : ∀ z ∈ l, 0 ≤ z) (k : Nat) : 0 ≤ (l.take k).sum := by
  have := sum_take_mono (l := l.take k) (fun z hz => h z (List.mem_of_mem_take hz)) (k := 0)
  simpa using this
theorem sum_take_le {l : List Int} {b : Int} (h : ∀ z ∈ l, z ≤ b) (hb : 0 ≤ b) : ∀ k : Nat, (l.take k).sum ≤ k * b
  | 0 => by simp
  | k + 1 => by
    have ih := sum_take_le h hb k
    by_cases hk : k < l.length
    · rw [sum_take_succ hk, List.getD, List.getElem?_eq_getElem hk]
      have := h _ (List.getElem_mem hk)
      simp only [Option.getD_some]
      push_cast
      rw [Int.add_mul]; omega
    · rw [sum_take_all (by omega)]
      rw [sum_take_all (by omega)] at ih
      push_cast
      rw [Int.add_mul]; omega
theorem entK_nonneg {col rows : Pch} {prev : List Int} (h : ∀ z ∈ prev, 0 ≤ z) (u : List UInt8) : ∀ k, 0 ≤ entK col rows prev u k
  | 0 => by simp [entK]
  | k + 1 => by
    have h1 := entK_nonneg h u k (rows := rows) (col := col)
    have h2 := getD_nonneg h k
    simp only [entK]; split <;> omega
theorem entK_le {col rows : Pch} {prev : List Int} (h : ∀ z ∈ prev, 0 ≤ z) (u : List UInt8) : ∀ k, entK col rows prev u k ≤ (prev.take k).sum
  | 0 => by simp [entK]
  | k + 1 => by
    have h1 := entK_le h u k (rows := rows) (col := col)
    have h2 := getD_nonneg h k
    by_cases hk : k < prev.length
    · rw [sum_take_succ hk]; simp only [entK]; split <;> omega
    · rw [sum_take_all (by omega)]
      rw [sum_take_all (by omega)] at h1
      have h3 : prev.getD k 0 = 0 := by rw [List.getD, List.getElem?_eq_none (by omega)]; rfl
      simp only [entK, h3]; split <;> omega
theorem lev_nonneg (col rows : Pch) : ∀ n, ∀ z ∈ lev col rows n, 0 ≤ z
  | 0, z, hz => by have := List.eq_of_mem_replicate hz; omega
  | n + 1, z, hz => by
    obtain ⟨u, _, rfl⟩ := List.mem_map.1 hz
    exact entK_nonneg (lev_nonneg col rows n) u _
theorem entK_most {col rows : Pch} {prev : List Int} (h : ∀ z ∈ prev, 0 ≤ z) (hs : prev.sum ≤ most) (u : List UInt8) (k : Nat) : entK col rows prev u k ≤ most :=
  Int.le_trans (entK_le h u k) (Int.le_trans (sum_take_mono h) hs)
/-- each number of a level whose elder level is not too great -/
theorem lev_most {col rows : Pch} {n : Nat} (hs : okH col rows n = true) : ∀ z ∈ lev col rows n, z ≤ most := by
  intro z hz
  cases n with
  | zero => have := List.eq_of_mem_replicate hz; unfold most; omega
  | succ n =>
    obtain ⟨u, _, rfl⟩ := List.mem_map.1 hz
    exact entK_most (lev_nonneg col rows n) (okH_at hs (by omega)) u _
theorem lev_get {col rows : Pch} {n k : Nat} (hk : k < rows.length) : (lev col rows (n + 1)).getD k 0 = entK col rows (lev col rows n) rows[k] rows.length := by
  simp [lev, nextL, List.getD, List.getElem?_eq_getElem hk]
theorem lev_get0 {col rows : Pch} {k : Nat} (hk : k < rows.length) : (lev col rows 0).getD k 0 = 1 := by
  simp [lev, List.getD, List.getElem?_replicate, hk]
/-- what the program's row holds at the place i of level n, when k rows below have been looked at -/
def midK (col rows : Pch) (n : Nat) (u : List UInt8) (k : Nat) : Int := if n = 0 then 1 else entK col rows (lev col rows (n - 1)) u k
theorem midK_bd {col rows : Pch} {n : Nat} (hs : okH col rows n = true) (u : List UInt8) (k : Nat) : 0 ≤ midK col rows n u k ∧ midK col rows n u k ≤ most := by
  unfold midK
  split
  · unfold most; omega
  · exact ⟨entK_nonneg (lev_nonneg _ _ _) u k, entK_most (lev_nonneg _ _ _) (okH_at hs (by omega)) u k⟩
theorem midK_done {col rows : Pch} {n i : Nat} (hi : i < rows.length) : midK col rows n rows[i] rows.length = (lev col rows n).getD i 0 := by
  unfold midK
  cases n with
  | zero => rw [if_pos rfl, lev_get0 hi]
  | succ n => rw [if_neg (by omega), lev_get hi]; rfl
theorem midK_one {col rows : Pch} {u : List UInt8} {k : Nat} : midK col rows 0 u k = 1 := if_pos rfl
theorem midK_zero {col rows : Pch} {n : Nat} {u : List UInt8} : midK col rows (n + 1) u 0 = 0 := by simp [midK, entK]
theorem midK_succ {col rows : Pch} {n k : Nat} {u : List UInt8} : midK col rows (n + 1) u k = entK col rows (lev col rows n) u k := by unfold midK; rw [if_neg (by omega)]; rfl
theorem getD_at {α : Type} {l : List α} {k : Nat} {d : α} (hk : k < l.length) : l.getD k d = l[k] := by rw [List.getD, List.getElem?_eq_getElem hk]; rfl
theorem entK_yes {col rows : Pch} {prev : List Int} {k : Nat} {u : List UInt8} (hk : k < rows.length) (h : stand col u rows[k] = true) : entK col rows prev u (k + 1) = entK col rows prev u k + prev.getD k 0 := by
  rw [entK, getD_at hk, if_pos h]
theorem entK_no {col rows : Pch} {prev : List Int} {k : Nat} {u : List UInt8} (hk : k < rows.length) (h : stand col u rows[k] = false) : entK col rows prev u (k + 1) = entK col rows prev u k := by
  rw [entK, getD_at hk, h]; simp
theorem midK_yes {col rows : Pch} {n k : Nat} {u : List UInt8} (hk : k < rows.length) (h : stand col u rows[k] = true) : midK col rows (n + 1) u (k + 1) = midK col rows (n + 1) u k + (lev col rows n).getD k 0 := by
  rw [midK_succ, midK_succ, entK_yes hk h]
theorem midK_no {col rows : Pch} {n k : Nat} {u : List UInt8} (hk : k < rows.length) (h : stand col u rows[k] = false) : midK col rows (n + 1) u (k + 1) = midK col rows (n + 1) u k := by
  rw [midK_succ, midK_succ, entK_no hk h]
/-- the program's row while it is filled: i numbers done, then x, then noughts -/
def fillR (cur : List Int) (L i : Nat) (x : Int) : List Int := cur.take i ++ x :: List.replicate (L - (i + 1)) 0
theorem fillR_start {L : Nat} {cur : List Int} (hL : 0 < L) : List.replicate L (0 : Int) = fillR cur L 0 0 := by
  unfold fillR
  obtain ⟨m, rfl⟩ : ∃ m, L = m + 1 := ⟨L - 1, by omega⟩
  simp [List.replicate_succ]
theorem fillR_len {cur : List Int} {L i : Nat} {x : Int} (hc : cur.length = L) (hi : i < L) : (fillR cur L i x).length = L := by
  simp [fillR]; omega
theorem fillR_get {cur : List Int} {L i : Nat} {x : Int} (hc : cur.length = L) (hi : i < L) : (fillR cur L i x)[i]? = some x := by
  unfold fillR
  have h1 : (cur.take i).length = i := by simp; omega
  rw [List.getElem?_append_right (by omega), h1]; simp
theorem fillR_set {cur : List Int} {L i : Nat} {x y : Int} (hc : cur.length = L) (hi : i < L) : (fillR cur L i x).set i y = fillR cur L i y := by
  unfold fillR
  have h1 : (cur.take i).length = i := by simp; omega
  rw [List.set_append_right (h := by omega), h1, Nat.sub_self, List.set_cons_zero]
theorem fillR_next {cur : List Int} {L i : Nat} (hc : cur.length = L) (hi : i + 1 < L) : fillR cur L i (cur.getD i 0) = fillR cur L (i + 1) 0 := by
  unfold fillR
  obtain ⟨m, hm⟩ : ∃ m, L - (i + 1) = m + 1 := ⟨L - (i + 1) - 1, by omega⟩
  rw [take_snoc cur i (by omega), getD_at (by omega : i < cur.length), hm, show L - (i + 1 + 1) = m by omega, List.replicate_succ, List.append_assoc]
  rfl
theorem fillR_last {cur : List Int} {L i : Nat} (hc : cur.length = L) (hi : i + 1 = L) : fillR cur L i (cur.getD i 0) = cur := by
  unfold fillR
  rw [List.getD, List.getElem?_eq_getElem (by omega), show L - (i + 1) = 0 by omega]
  simp only [Option.getD_some, List.replicate_zero]
  rw [← take_snoc cur i (by omega), List.take_of_length_le (by omega)]
end Go.Proofs.Ytbaleboljcoigaa
