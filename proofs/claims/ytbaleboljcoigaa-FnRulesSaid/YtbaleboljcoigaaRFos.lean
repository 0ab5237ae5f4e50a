/-
  Contract of the reference's FirstObeying. No conditions.
-/
import Derived.Test.YtbaleboljcoigaaRObs
import Derived.Test.YtbaleboljcoigaaRCob
namespace Go.Proofs.Ytbaleboljcoigaa
section
open Go.RowKit

/-- whether the row k may be chosen at level n behind the rows out -/
def cnd (col rows : Pch) (n : Nat) (out : Pch) (k : Nat) : Bool := decide (0 < (lev col rows n).getD k 0) && (decide (out.length = 0) || stand col (out.getLastD []) (rows.getD k []))
def chosen (col rows : Pch) (n : Nat) (out : Pch) : Nat := (List.range rows.length).findIdx (cnd col rows n out)
/-- the rows after j choices of h -/
def fo (col rows : Pch) (h : Nat) : Nat → Pch
  | 0 => []
  | j + 1 => fo col rows h j ++ [rows.getD (chosen col rows (h - (j + 1)) (fo col rows h j)) []]
theorem fo_len (col rows : Pch) (h : Nat) : ∀ j, (fo col rows h j).length = j
  | 0 => rfl
  | j + 1 => by simp [fo, fo_len col rows h j]
theorem entK_pos {col rows : Pch} {prev : List Int} {u : List UInt8} : ∀ k, 0 < entK col rows prev u k → ∃ i, i < k ∧ stand col u (rows.getD i []) = true ∧ 0 < prev.getD i 0
  | 0, h => by simp [entK] at h
  | k + 1, h => by
    rw [entK] at h
    by_cases h1 : 0 < entK col rows prev u k
    · obtain ⟨i, hi, h2⟩ := entK_pos k h1
      exact ⟨i, by omega, h2⟩
    · by_cases h2 : stand col u (rows.getD k []) = true
      · rw [if_pos h2] at h
        exact ⟨k, by omega, h2, by omega⟩
      · rw [if_neg h2] at h; omega
theorem sum_pos_at : ∀ {l : List Int}, 0 < l.sum → ∃ i, i < l.length ∧ 0 < l.getD i 0
  | [], h => by simp at h
  | a :: l, h => by
    by_cases h1 : 0 < a
    · exact ⟨0, by simp, by simpa using h1⟩
    · have h2 : 0 < l.sum := by simp at h; omega
      obtain ⟨i, hi, h3⟩ := sum_pos_at h2
      exact ⟨i + 1, by simp; omega, by simpa using h3⟩
theorem chosen_at {col rows : Pch} {n : Nat} {out : Pch} (h : ∃ k, k < rows.length ∧ cnd col rows n out k = true) :
    chosen col rows n out < rows.length ∧ cnd col rows n out (chosen col rows n out) = true ∧ ∀ j, j < chosen col rows n out → cnd col rows n out j = false := by
  obtain ⟨k, hk, hc⟩ := h
  have h1 : chosen col rows n out < (List.range rows.length).length := List.findIdx_lt_length_of_exists ⟨k, List.mem_range.2 hk, hc⟩
  refine ⟨by simpa using h1, ?_, fun j hj => ?_⟩
  · have h3 := List.findIdx_getElem (w := h1) (p := cnd col rows n out) (xs := List.range rows.length)
    have h4 : (List.range rows.length)[(List.range rows.length).findIdx (cnd col rows n out)]'h1 = (List.range rows.length).findIdx (cnd col rows n out) := List.getElem_range h1
    rw [h4] at h3
    exact h3
  · have := List.not_of_lt_findIdx (xs := List.range rows.length) (p := cnd col rows n out) hj
    simpa using this
/-- what holds after j choices: the newest row can be stood upon -/
def FoOk (col rows : Pch) (h j : Nat) : Prop := j = 0 ∨ ∃ k, k < rows.length ∧ (fo col rows h j).getLastD [] = rows.getD k [] ∧ 0 < (lev col rows (h - j)).getD k 0
theorem fo_has {col rows : Pch} {h j : Nat} (hj : j < h) (hs : 0 < (lev col rows (h - 1)).sum) (hf : FoOk col rows h j) : ∃ k, k < rows.length ∧ cnd col rows (h - (j + 1)) (fo col rows h j) k = true := by
  rcases hf with rfl | ⟨k, hk, hl, hp⟩
  · obtain ⟨i, hi, h2⟩ := sum_pos_at hs
    refine ⟨i, by rwa [lev_len] at hi, ?_⟩
    unfold cnd
    rw [show h - (0 + 1) = h - 1 from rfl, decide_eq_true h2]; rfl
  · obtain ⟨m, hm⟩ : ∃ m, h - j = m + 1 := ⟨h - j - 1, by omega⟩
    rw [hm, lev_get hk] at hp
    obtain ⟨i, hi, h1, h2⟩ := entK_pos _ hp
    refine ⟨i, hi, ?_⟩
    unfold cnd
    rw [hl, show h - (j + 1) = m by omega, getD_at hk, h1, decide_eq_true h2]; simp
theorem fo_step {col rows : Pch} {h j : Nat} (hj : j < h) (hs : 0 < (lev col rows (h - 1)).sum) (hf : FoOk col rows h j) : FoOk col rows h (j + 1) := by
  obtain ⟨h1, h2, _⟩ := chosen_at (fo_has hj hs hf)
  refine Or.inr ⟨_, h1, by simp [fo], ?_⟩
  unfold cnd at h2
  simp only [Bool.and_eq_true, decide_eq_true_eq] at h2
  exact h2.1
theorem fo_ok {col rows : Pch} {h : Nat} (hs : 0 < (lev col rows (h - 1)).sum) : ∀ j, j ≤ h → FoOk col rows h j
  | 0, _ => Or.inl rfl
  | j + 1, hj => fo_step (by omega) hs (fo_ok hs j (by omega))
/-- with no patch at all no row can be chosen first -/
theorem cnd_none {col rows : Pch} {h : Nat} (hs : (lev col rows (h - 1)).sum ≤ 0) (k : Nat) : cnd col rows (h - 1) [] k = false := by
  have h1 : (lev col rows (h - 1)).getD k 0 ≤ 0 := by
    by_cases hk : k < (lev col rows (h - 1)).length
    · have h2 := sum_take_succ hk
      have h3 := sum_take_nonneg (lev_nonneg col rows (h - 1)) k
      have h4 := sum_take_mono (lev_nonneg col rows (h - 1)) (k := k + 1)
      omega
    · rw [List.getD, List.getElem?_eq_none (by omega)]; simp
  unfold cnd
  rw [decide_eq_false (by omega)]; rfl
def firstOk (w h : Int) (r q : Pch) : Bool := okC w h r q && decide (0 < (lev q (rowsN r w.toNat) (h.toNat - 1)).sum)
def firstOb (w h : Int) (r q : Pch) : Pch × Bool := if firstOk w h r q = true then (fo q (rowsN r w.toNat) h.toNat h.toNat, true) else ([], false)
end
section
open Go.RowKit

theorem last_at {l : Pch} {m : Nat} (hl : l.length = m) (hm : 0 < m) : l.getLastD [] = l[m - 1]'(by omega) := by
  subst hl
  rw [List.getLastD_eq_getLast?, List.getLast?_eq_getElem?, List.getElem?_eq_getElem (by omega)]; rfl
theorem cnd_low {col rows : Pch} {p : Nat} {out : Pch} {k : Nat} (h : ¬ 0 < (lev col rows p).getD k 0) : cnd col rows p out k = false := by
  unfold cnd; rw [decide_eq_false h]; rfl
theorem cnd_first {col rows : Pch} {p : Nat} {out : Pch} {k : Nat} (h : 0 < (lev col rows p).getD k 0) (h0 : out.length = 0) : cnd col rows p out k = true := by
  unfold cnd; rw [decide_eq_true h, decide_eq_true h0]; rfl
theorem cnd_stand {col rows : Pch} {p : Nat} {out : Pch} {k : Nat} {b : Bool} (h : 0 < (lev col rows p).getD k 0) (h0 : ¬ out.length = 0) (hk : k < rows.length) (hs : stand col (out.getLastD []) rows[k] = b) : cnd col rows p out k = b := by
  unfold cnd; rw [decide_eq_true h, decide_eq_false h0, getD_at hk, hs]; simp
theorem chosen_is {col rows : Pch} {p : Nat} {out : Pch} {k : Nat} (hk : k < rows.length) (h : cnd col rows p out k = true) (hb : ∀ j, j < k → cnd col rows p out j = false) : chosen col rows p out = k := by
  unfold chosen
  exact (List.findIdx_eq (by simpa using hk)).2 ⟨by simpa using h, fun j hj => by simpa using hb j hj⟩

end
end Go.Proofs.Ytbaleboljcoigaa
