/-
  Plain facts: joined words tell the words. No conditions.
-/
import Derived.Test.YtbjhjpakjinpiaaJoinS
import Derived.Test.YtbjhjpakjinpiaaPat
namespace Go.Proofs.Ytbjhjpakjinpiaa
open Go.RowKit

/-! ## joined lists tell the lists -/
theorem cut_at {x y s t : List UInt8} (hx : (47 : UInt8) ∉ x) (hy : (47 : UInt8) ∉ y) (hs : s = [] ∨ ∃ r, s = 47 :: r) (ht : t = [] ∨ ∃ r, t = 47 :: r) (h : x ++ s = y ++ t) : x = y ∧ s = t := by
  induction x generalizing y with
  | nil =>
    cases y with
    | nil => exact ⟨rfl, by simpa using h⟩
    | cons b y =>
      rcases hs with rfl | ⟨r, rfl⟩
      · simp at h
      · simp at h
        exact absurd (by simp [h.1]) hy
  | cons a x ih =>
    cases y with
    | nil =>
      rcases ht with rfl | ⟨r, rfl⟩
      · simp at h
      · simp at h
        exact absurd (by simp [h.1]) hx
    | cons b y =>
      simp only [List.cons_append, List.cons.injEq] at h
      simp only [List.mem_cons, not_or] at hx hy
      obtain ⟨h1, h2⟩ := ih hx.2 hy.2 h.2
      exact ⟨by rw [h.1, h1], h2⟩
theorem tail_form (r : List (List UInt8)) : Lib.joinTail [47] r = [] ∨ ∃ t, Lib.joinTail [47] r = 47 :: t := by
  cases r with
  | nil => exact Or.inl rfl
  | cons a r => exact Or.inr ⟨_, by simp [Lib.joinTail]; rfl⟩
theorem tail_cons (a : List UInt8) (r : List (List UInt8)) : Lib.joinTail [47] (a :: r) = 47 :: (a ++ Lib.joinTail [47] r) := by simp [Lib.joinTail]
theorem tail_inj : ∀ {r s : List (List UInt8)}, (∀ x ∈ r, (47 : UInt8) ∉ x) → (∀ x ∈ s, (47 : UInt8) ∉ x) → Lib.joinTail [47] r = Lib.joinTail [47] s → r = s
  | [], [], _, _, _ => rfl
  | [], b :: s, _, _, h => by rw [tail_cons] at h; simp [Lib.joinTail] at h
  | a :: r, [], _, _, h => by rw [tail_cons] at h; simp [Lib.joinTail] at h
  | a :: r, b :: s, hr, hs, h => by
    rw [tail_cons, tail_cons] at h
    simp only [List.cons.injEq, true_and] at h
    obtain ⟨h1, h2⟩ := cut_at (hr a (by simp)) (hs b (by simp)) (tail_form r) (tail_form s) h
    rw [h1, tail_inj (fun x hx => hr x (by simp [hx])) (fun x hx => hs x (by simp [hx])) h2]
theorem join_inj {r s : List (List UInt8)} (hr0 : r ≠ []) (hs0 : s ≠ []) (hr : ∀ x ∈ r, (47 : UInt8) ∉ x) (hs : ∀ x ∈ s, (47 : UInt8) ∉ x) (h : Lib.join r [47] = Lib.join s [47]) : r = s := by
  cases r with
  | nil => exact absurd rfl hr0
  | cons a r =>
    cases s with
    | nil => exact absurd rfl hs0
    | cons b s =>
      rw [Lib.join_cons, Lib.join_cons] at h
      obtain ⟨h1, h2⟩ := cut_at (hr a (by simp)) (hs b (by simp)) (tail_form r) (tail_form s) h
      rw [h1, tail_inj (fun x hx => hr x (by simp [hx])) (fun x hx => hs x (by simp [hx])) h2]
theorem let_noslash {x : List UInt8} (h : x.all isLet = true) : (47 : UInt8) ∉ x := fun hm => by
  have := List.all_eq_true.1 h 47 hm
  exact absurd this (by decide)
end Go.Proofs.Ytbjhjpakjinpiaa
