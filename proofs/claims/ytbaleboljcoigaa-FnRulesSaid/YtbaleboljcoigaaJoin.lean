/-
  Contract of strings.Join (from the shelf) over lists of words. Condition: lengths at most 2^20 each, and their sum at most 2^46.
-/
import Derived.Test.YtbaleboljcoigaaJoinS
import Derived.Test.YtbaleboljcoigaaShelf
namespace Go.Proofs.Ytbaleboljcoigaa
open Go.RowKit

theorem iJoin_any (A : Option Addr) (n c : Nat) (ss : List (List UInt8)) (by_ : List UInt8) (w : World) (h : SOwn w A n c ss) (hby : by_.length ≤ 1048576) (hlen : (Lib.join ss by_).length ≤ 140737488355328) :
    Calls Try.prog 33 #[.slice A n c, .string ⟨by_.toArray⟩] w fun e w' => e = .returned (.string ⟨(Lib.join ss by_).toArray⟩) ∧ Below w.heap.size w w' := by
  have hl := h.1.1.lenS
  rcases Nat.eq_zero_or_pos n with rfl | hn
  · obtain rfl : ss = [] := List.eq_nil_of_length_eq_zero hl
    exact (Try.strings_Join_none A c ⟨by_.toArray⟩ w).mono fun _ _ ⟨he, hw⟩ => ⟨he, hw ▸ Below.same⟩
  · obtain ⟨g, rfl⟩ := h.2 hn
    have hm : (ss.map fun l => (⟨l.toArray⟩ : ByteArray)).map (·.data.toList) = ss := by simp [Function.comp_def]
    have hml : (ss.map fun l => (⟨l.toArray⟩ : ByteArray)).length = n := by simpa using hl
    have hg : g < w.heap.size := by obtain ⟨a, ha, hb, _⟩ := h.1.1.str (k := 0) (by omega); injection ha with ha; subst ha; exact hb
    have hcap : n ≤ c := h.1.2.2.2
    have hbig : n ≤ 1048576 := h.1.2.1
    have hj := Try.strings_Join g 0 c (ss.map fun l => (⟨l.toArray⟩ : ByteArray)) ⟨by_.toArray⟩ w (by
      intro j x hx
      have hj : j < ss.length := by have := (List.getElem?_eq_some_iff.1 hx).1; simpa using this
      obtain ⟨a, ha, _, hc⟩ := h.1.1.str (k := j) hj
      injection ha with ha
      subst ha
      have hx2 : x = ⟨(ss[j]).toArray⟩ := by rw [List.getElem?_map, List.getElem?_eq_getElem hj] at hx; simpa using hx.symm
      rw [hx2, ← hc]
      congr 1
      unfold Addr.add
      split <;> simp_all) hg (by omega) (by omega) (by rw [hm]; exact hlen)
    rw [hml, hm] at hj
    exact hj
end Go.Proofs.Ytbaleboljcoigaa
