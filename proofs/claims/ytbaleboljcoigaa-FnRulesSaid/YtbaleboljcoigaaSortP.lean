/-
  Plain facts: sorting and compacting a list of words is putting them one after the other into an ordered list. No conditions.
-/
import Derived.Test.YtbaleboljcoigaaIns
import Derived.Lib.SlicesCompact
namespace Go.Proofs.Ytbaleboljcoigaa
open Go.RowKit

def insF (xs : List (List UInt8)) : List (List UInt8) := xs.foldl (fun s x => insS x s) []
theorem insF_snoc (xs : List (List UInt8)) (x : List UInt8) : insF (xs ++ [x]) = insS x (insF xs) := by simp [insF, List.foldl_append]
theorem insF_aux (xs : List (List UInt8)) : ∀ s : List (List UInt8), Srt s → Srt (xs.foldl (fun s x => insS x s) s) ∧ ∀ y, y ∈ xs.foldl (fun s x => insS x s) s ↔ y ∈ xs ∨ y ∈ s := by
  induction xs with
  | nil => intro s hs; exact ⟨hs, fun y => by simp⟩
  | cons x xs ih =>
    intro s hs
    obtain ⟨h1, h2⟩ := ih (insS x s) (srt_insS x hs)
    refine ⟨h1, fun y => ?_⟩
    rw [List.foldl_cons, h2 y, mem_insS]
    simp only [List.mem_cons]
    constructor
    · rintro (h | h | h) <;> simp [h]
    · rintro ((h | h) | h) <;> simp [h]
theorem insF_srt (xs : List (List UInt8)) : Srt (insF xs) := (insF_aux xs [] List.Pairwise.nil).1
theorem insF_mem (xs : List (List UInt8)) (y : List UInt8) : y ∈ insF xs ↔ y ∈ xs := by
  rw [insF, (insF_aux xs [] List.Pairwise.nil).2 y]; simp
theorem insF_lenA (xs : List (List UInt8)) : ∀ s : List (List UInt8), Srt s → (xs.foldl (fun s x => insS x s) s).length ≤ s.length + xs.length := by
  induction xs with
  | nil => intro s _; simp
  | cons x xs ih =>
    intro s hs
    have h1 := ih (insS x s) (srt_insS x hs)
    have h2 := len_insS x hs
    rw [List.foldl_cons, List.length_cons]
    split at h2 <;> omega
theorem insF_len (xs : List (List UInt8)) : (insF xs).length ≤ xs.length := by
  have := insF_lenA xs [] List.Pairwise.nil
  simpa [insF] using this

theorem srt_ext : ∀ {a b : List (List UInt8)}, Srt a → Srt b → (∀ x, x ∈ a ↔ x ∈ b) → a = b
  | [], [], _, _, _ => rfl
  | [], y :: b, _, _, h => absurd ((h y).2 (by simp)) (by simp)
  | x :: a, [], _, _, h => absurd ((h x).1 (by simp)) (by simp)
  | x :: a, y :: b, ha, hb, h => by
    unfold Srt at ha hb
    obtain ⟨a1, a2⟩ := List.pairwise_cons.1 ha
    obtain ⟨b1, b2⟩ := List.pairwise_cons.1 hb
    have hxy : x = y := by
      rcases List.mem_cons.1 ((h x).1 (by simp)) with h1 | h1
      · exact h1
      · rcases List.mem_cons.1 ((h y).2 (by simp)) with h2 | h2
        · exact h2.symm
        · exact absurd (b1 x h1) (lt_no (a1 y h2))
    subst hxy
    rw [srt_ext a2 b2 fun z => ?_]
    constructor
    · intro hz
      rcases List.mem_cons.1 ((h z).1 (by simp [hz])) with h1 | h1
      · subst h1; exact absurd (a1 z hz) (List.lt_irrefl _)
      · exact h1
    · intro hz
      rcases List.mem_cons.1 ((h z).2 (by simp [hz])) with h1 | h1
      · subst h1; exact absurd (b1 z hz) (List.lt_irrefl _)
      · exact h1

def leS (x y : List UInt8) : Bool := decide (x ≤ y)
def sortS (ss : List (List UInt8)) : List (List UInt8) := ss.mergeSort fun x y => decide (x ≤ y)
theorem sortS_len (ss : List (List UInt8)) : (sortS ss).length = ss.length := by unfold sortS; exact List.length_mergeSort ss
theorem sortS_mem (ss : List (List UInt8)) (x : List UInt8) : x ∈ sortS ss ↔ x ∈ ss := by unfold sortS; exact List.mem_mergeSort
theorem sortS_le (ss : List (List UInt8)) : (sortS ss).Pairwise fun x y => x ≤ y := by
  have h := List.pairwise_mergeSort (le := fun x y : List UInt8 => decide (x ≤ y)) (by
    intro a b c h1 h2
    simp only [decide_eq_true_eq] at h1 h2 ⊢
    exact List.le_trans h1 h2) (by
    intro a b
    simp only [Bool.or_eq_true, decide_eq_true_eq]
    exact List.le_total a b) ss
  exact h.imp (fun h => by simpa using h)

open Go.Lib in
theorem compact_aux (t : List (List UInt8)) (ht : t.Pairwise fun x y => x ≤ y) : ∀ m, m ≤ t.length → Srt (compactUpTo t.toArray m) ∧ ∀ x, x ∈ compactUpTo t.toArray m ↔ x ∈ t.take m
  | 0, _ => by
    have h : compactUpTo t.toArray 0 = [] := rfl
    rw [h]
    exact ⟨List.Pairwise.nil, fun x => by simp⟩
  | m + 1, hm => by
    obtain ⟨h1, h2⟩ := compact_aux t ht m (by omega)
    have hml : m < t.length := by omega
    have hget : t.toArray[m]! = t[m] := by simp [hml]
    rw [compactUpTo_succ, take_snoc t m hml]
    by_cases hk : m = 0
    · subst hk
      rw [keeps_lt_one t.toArray 0 (by omega), if_pos rfl, hget]
      have h0 : compactUpTo t.toArray 0 = [] := rfl
      rw [h0]
      exact ⟨List.pairwise_singleton _ _, fun x => by simp⟩
    · have hget1 : t.toArray[m - 1]! = t[m - 1] := by simp [show m - 1 < t.length by omega]
      by_cases he : t[m] = t[m - 1]
      · rw [keeps_neg (by omega) (by rw [hget, hget1]; exact he), if_neg (by simp), List.append_nil]
        refine ⟨h1, fun x => ?_⟩
        rw [h2 x, List.mem_append]
        constructor
        · exact Or.inl
        · rintro (h | h)
          · exact h
          · simp at h
            rw [h, he, List.mem_take_iff_getElem]
            exact ⟨m - 1, by omega, rfl⟩
      · rw [keeps_pos (by rw [hget, hget1]; exact he), if_pos rfl, hget]
        have hlt : ∀ x ∈ t.take m, x < t[m] := by
          intro x hx
          obtain ⟨j, hj, rfl⟩ := List.mem_take_iff_getElem.1 hx
          have hp := List.pairwise_iff_getElem.1 ht
          have h3 : t[j] ≤ t[m - 1] := by
            rcases Nat.lt_or_ge j (m - 1) with h | h
            · exact hp j (m - 1) (by omega) (by omega) h
            · obtain rfl : j = m - 1 := by omega
              exact List.le_refl _
          have h4 : t[m - 1] < t[m] := by
            rcases List.le_iff_lt_or_eq.1 (hp (m - 1) m (by omega) hml (by omega)) with h | h
            · exact h
            · exact absurd h.symm he
          rcases List.le_iff_lt_or_eq.1 h3 with h | h
          · exact List.lt_trans h h4
          · rw [h]; exact h4
        unfold Srt at h1 ⊢
        refine ⟨List.pairwise_append.2 ⟨h1, List.pairwise_singleton _ _, fun a ha c hc => ?_⟩, fun x => by rw [List.mem_append, List.mem_append, h2 x]⟩
        simp at hc
        subst hc
        exact hlt a ((h2 a).1 ha)
open Go.Lib in
theorem compact_sort (ss : List (List UInt8)) : compact (sortS ss) = insF ss := by
  obtain ⟨h1, h2⟩ := compact_aux (sortS ss) (sortS_le ss) (sortS ss).length (Nat.le_refl _)
  refine srt_ext h1 (insF_srt ss) fun x => ?_
  rw [insF_mem]
  refine (h2 x).trans ?_
  rw [List.take_length, sortS_mem]
end Go.Proofs.Ytbaleboljcoigaa
