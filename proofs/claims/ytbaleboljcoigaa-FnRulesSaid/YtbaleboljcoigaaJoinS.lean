/-
  The reference's Join, and plain facts on joined words, over lists of words. Condition: lengths at most 2^20 each, and their sum at most 2^46.
-/
import Derived.Test.YtbaleboljcoigaaRowW
import Derived.Laws.Concat
import Derived.Lib.Join
namespace Go.Proofs.Ytbaleboljcoigaa
open Go.RowKit

theorem join_first {ss : List (List UInt8)} (by_ : List UInt8) (h : 0 < ss.length) : Lib.join (ss.take 1) by_ = ss[0] := by
  cases ss with
  | nil => simp at h
  | cons x r => simp [Lib.join_one]
theorem join_more {ss : List (List UInt8)} (by_ : List UInt8) {k : Nat} (hk : 0 < k) (h : k < ss.length) : Lib.join (ss.take (k + 1)) by_ = Lib.join (ss.take k) by_ ++ by_ ++ ss[k] := by
  cases ss with
  | nil => simp at h
  | cons x r =>
    obtain ⟨j, rfl⟩ : ∃ j, k = j + 1 := ⟨k - 1, by omega⟩
    simp only [List.take_succ_cons, List.getElem_cons_succ]
    have hj : j < r.length := by simpa using h
    rw [Lib.join_cons, Lib.join_cons, Lib.joinTail_take_succ by_ r j r[j] (by simp [hj])]
    simp [List.append_assoc]
theorem join_bound {ss : List (List UInt8)} (by_ : List UInt8) {m : Nat} (h : ∀ s ∈ ss, s.length ≤ m) : (Lib.join ss by_).length ≤ (by_.length + m) * ss.length := by
  cases ss with
  | nil => simp [Lib.join_nil]
  | cons x r =>
    rw [Lib.join_length]
    have hl : ∀ ss : List (List UInt8), (∀ s ∈ ss, s.length ≤ m) → Lib.lens ss ≤ m * ss.length := by
      intro ss
      induction ss with
      | nil => intro _; simp [Lib.lens]
      | cons a l ih =>
        intro hs
        have h1 := ih (fun s hs2 => hs s (by simp [hs2]))
        have h2 := hs a (by simp)
        simp only [Lib.lens, List.map_cons, List.sum_cons, List.length_cons, Nat.mul_add] at h1 ⊢
        omega
    have h2 := hl _ h
    have h3 : by_.length * r.length ≤ by_.length * (x :: r).length := Nat.mul_le_mul_left _ (by simp)
    rw [Nat.add_mul]; omega

def SOwn (w : World) (A : Option Addr) (n c : Nat) (ss : List (List UInt8)) : Prop := SIn w A n c ss ∧ (0 < n → ∃ g, A = some ⟨g, 0, none⟩)
theorem SOwn.of {w : World} {base : Nat} {e : TypeId} {A : Option Addr} {n c : Nat} {ss : List (List UInt8)} (h : w.ownsRow base e 1 (.slice A n c) n (svs ss)) (hn : n ≤ 1048576) (hl : Lens ss) (hc : n ≤ c) : SOwn w A n c ss :=
  ⟨SIn.of (Rd.own h) hn hl hc, own_form h⟩

end Go.Proofs.Ytbaleboljcoigaa
