/-
  The reference's l05Insert: a word put into an ordered list of words. Condition: the list is the caller's own and ordered.
-/
import Derived.Test.YtcicoplmpinnmaaDoorTwo
import Derived.Test.YtcicoplmpinnmaaDoorHelpS
import Derived.Sort.Walk0
namespace Go.Proofs.YtcicoplmpinnmaaDoor
open Go.RowKit

def insS (x : List UInt8) : List (List UInt8) → List (List UInt8)
  | [] => [x]
  | y :: l => if x < y then x :: y :: l else if x = y then y :: l else y :: insS x l
def Srt (l : List (List UInt8)) : Prop := l.Pairwise (· < ·)
theorem lt_tri (a b : List UInt8) : a < b ∨ a = b ∨ b < a := by
  by_cases h : a < b
  · exact Or.inl h
  · rcases List.le_iff_lt_or_eq.1 (List.not_lt.1 h) with h | h
    · exact Or.inr (Or.inr h)
    · exact Or.inr (Or.inl h.symm)
theorem lt_no {a b : List UInt8} (h : a < b) : ¬ b < a := fun h2 => List.lt_irrefl a (List.lt_trans h h2)
theorem lt_neq {a b : List UInt8} (h : a < b) : a ≠ b := fun h2 => by subst h2; exact List.lt_irrefl a h
theorem insS_new (x : List UInt8) : ∀ (l : List (List UInt8)) (k : Nat), k ≤ l.length → (∀ (j : Nat) (h : j < l.length), j < k → l[j] < x) → (∀ (j : Nat) (h : j < l.length), k ≤ j → x < l[j]) → insS x l = l.take k ++ x :: l.drop k
  | [], 0, _, _, _ => rfl
  | [], k + 1, h, _, _ => by simp at h
  | y :: l, 0, _, _, h2 => by
    have := h2 0 (by simp) (by omega)
    simp at this
    simp [insS, this]
  | y :: l, k + 1, hk, h1, h2 => by
    have h0 := h1 0 (by simp) (by omega)
    simp at h0
    have ih := insS_new x l k (by simpa using hk) (fun j h hj => h1 (j + 1) (by simpa using h) (by omega)) (fun j h hj => h2 (j + 1) (by simpa using h) (by omega))
    simp [insS, lt_no h0, (lt_neq h0).symm, ih]
theorem insS_old (x : List UInt8) : ∀ (l : List (List UInt8)) (k : Nat) (h : k < l.length), (∀ (j : Nat) (h : j < l.length), j < k → l[j] < x) → l[k] = x → insS x l = l
  | [], _, h, _, _ => by simp at h
  | y :: l, 0, _, _, h2 => by
    simp at h2
    subst h2
    simp [insS, List.lt_irrefl]
  | y :: l, k + 1, hk, h1, h2 => by
    have h0 := h1 0 (by simp) (by omega)
    simp at h0
    have ih := insS_old x l k (by simpa using hk) (fun j h hj => h1 (j + 1) (by simpa using h) (by omega)) (by simpa using h2)
    simp [insS, lt_no h0, (lt_neq h0).symm, ih]
theorem mem_insS (x y : List UInt8) (l : List (List UInt8)) : y ∈ insS x l ↔ y = x ∨ y ∈ l := by
  induction l with
  | nil => simp [insS]
  | cons z l ih =>
    unfold insS
    split
    · simp
    · split
      · rename_i h; subst h; simp
      · simp only [List.mem_cons, ih]
        constructor
        · rintro (h | h | h) <;> simp [h]
        · rintro (h | h | h) <;> simp [h]
theorem srt_insS (x : List UInt8) {l : List (List UInt8)} (h : Srt l) : Srt (insS x l) := by
  unfold Srt at h ⊢
  induction l with
  | nil => simp [insS]
  | cons z l ih =>
    obtain ⟨h1, h2⟩ := List.pairwise_cons.1 h
    unfold insS
    split
    · rename_i hx
      exact List.pairwise_cons.2 ⟨fun a ha => by
        rcases List.mem_cons.1 ha with rfl | ha
        · exact hx
        · exact List.lt_trans hx (h1 a ha), h⟩
    · split
      · exact h
      · rename_i hx hne
        refine List.pairwise_cons.2 ⟨fun a ha => ?_, ih h2⟩
        rcases (mem_insS x a l).1 ha with rfl | ha
        · rcases lt_tri z a with h3 | h3 | h3
          · exact h3
          · exact absurd h3.symm hne
          · exact absurd h3 hx
        · exact h1 a ha
theorem len_insS (x : List UInt8) {l : List (List UInt8)} (h : Srt l) : (insS x l).length = if x ∈ l then l.length else l.length + 1 := by
  unfold Srt at h
  induction l with
  | nil => simp [insS]
  | cons z l ih =>
    obtain ⟨h1, h2⟩ := List.pairwise_cons.1 h
    unfold insS
    split
    · rename_i hx
      have : x ∉ z :: l := by
        intro hm
        rcases List.mem_cons.1 hm with rfl | hm
        · exact List.lt_irrefl _ hx
        · exact List.lt_irrefl _ (List.lt_trans hx (h1 x hm))
      simp [this]
    · split
      · rename_i hx; subst hx; simp
      · rename_i hx hne
        simp only [List.length_cons, ih h2, List.mem_cons, hne, false_or]
        split <;> simp
theorem srt_lt {l : List (List UInt8)} (h : Srt l) {j m : Nat} (hm : m < l.length) (hj : j < m) : l[j]'(by omega) < l[m] := List.pairwise_iff_getElem.1 h j m (by omega) hm hj

theorem Own.noneCap {w0 w : World} {e : TypeId} {A : Option Addr} {n c : Nat} {xs : List Value} (h : Own w0 w e A n c xs) (hA : A = none) : c = 0 := by
  rcases h.1.2 with ⟨hv, _⟩ | ⟨g, cap, cur, hv, _⟩
  · injection hv
  · injection hv with h1; rw [hA] at h1; cases h1
theorem Own.capMax {w0 w : World} {e : TypeId} {A : Option Addr} {n c : Nat} {xs : List Value} (h : Own w0 w e A n c xs) : c ≤ 9223372036854775807 := by
  rcases h.1.2 with ⟨hv, hn⟩ | ⟨g, cap, cur, hv, _, _, _, hm, _⟩
  · injection hv with _ _ hc; omega
  · injection hv with _ _ hc2; unfold maxLen at hm; omega
theorem Own.noneAll {w0 w : World} {e : TypeId} {A : Option Addr} {n c : Nat} {xs : List Value} (h : Own w0 w e A n c xs) (hA : A = none) : n = 0 ∧ c = 0 := by
  rcases h.1.2 with ⟨hv, hn⟩ | ⟨g, cap, cur, hv, _⟩
  · injection hv with _ _ h2; exact ⟨hn, h2⟩
  · injection hv with h1; rw [hA] at h1; cases h1
theorem svs_app (a b : List (List UInt8)) : svs (a ++ b) = svs a ++ svs b := by simp [svs]
theorem svs_cons (a : List UInt8) (b : List (List UInt8)) : svs (a :: b) = .string ⟨a.toArray⟩ :: svs b := by simp [svs]
theorem svs_takeI (a : List (List UInt8)) (k : Nat) : (svs a).take k = svs (a.take k) := by simp [svs]
theorem svs_dropI (a : List (List UInt8)) (k : Nat) : (svs a).drop k = svs (a.drop k) := by simp [svs]

theorem Below.allocI (W : World) (o : Obj) : Below W.heap.size W (W.alloc o) := (Below.refl _ _).alloc (Nat.le_refl _) o
/-- what remains to be done behind the scan: the word is there at m, or it goes to k -/
def InsAt (x : List UInt8) (l : List (List UInt8)) (k : Nat) : Prop := insS x l = l.take k ++ x :: l.drop k

end Go.Proofs.YtcicoplmpinnmaaDoor
