/-
  strings.ReplaceAll and strings.Count at one byte, in plain words: the list without that byte, how often it stands there. No conditions.
-/
import Derived.Lib.Replace
import Derived.Lib.Bytealg
namespace Go.Proofs.YtfjehlmknbhghaaDoor
open Go.Lib

theorem index_one_hit (l : List UInt8) : index (63 :: l) [63] = 0 := by unfold index; simp [List.isPrefixOf]
theorem index_one_miss {b : UInt8} (h : b ≠ 63) (l : List UInt8) : index (b :: l) [63] = if index l [63] == -1 then -1 else index l [63] + 1 := by
  have hp : [63].isPrefixOf (b :: l) = false := by simp [List.isPrefixOf]; exact fun e => h e.symm
  conv => lhs; unfold index
  rw [if_neg (by rw [hp]; decide)]
theorem replaceK_one : ∀ (s : List UInt8) (f : Nat), s.length ≤ f → replaceK [63] [] (countFrom [63] (f + 1) s) s = s.filter (· != 63)
  | [], f, _ => by
    have h : index [] [63] = -1 := rfl
    simp [countFrom, h, replaceK]
  | b :: l, 0, h => by simp at h
  | b :: l, f + 1, h => by
    have hl : l.length ≤ f := by simpa using h
    by_cases hb : b = 63
    · subst hb
      have ih := replaceK_one l f hl
      have hi := index_one_hit l
      have e : countFrom [63] (f + 1 + 1) (63 :: l) = countFrom [63] (f + 1) l + 1 := by
        conv => lhs; unfold countFrom
        rw [hi]
        simp [Nat.add_comm]
      rw [e, replaceK_hit [63] [] _ _ 0 hi]
      simpa using ih
    · have ih := replaceK_one l (f + 1) (by omega)
      have hi := index_one_miss hb l
      have hf : (b :: l).filter (· != 63) = b :: l.filter (· != 63) := by simp [List.filter_cons, hb]
      rw [hf, ← ih]
      rcases index_spec l [63] with ⟨h1, _⟩ | ⟨i, h1, _⟩
      · rw [h1] at hi
        have e1 : countFrom [63] (f + 1 + 1) (b :: l) = 0 := by
          conv => lhs; unfold countFrom
          rw [hi]; rfl
        have e2 : countFrom [63] (f + 1 + 1) l = 0 := by
          conv => lhs; unfold countFrom
          rw [h1]; rfl
        rw [e1, e2]; rfl
      · have h0 : ((i : Int) == -1) = false := by rw [beq_eq_false_iff_ne]; omega
        have h2 : (((i : Int) + 1) == -1) = false := by rw [beq_eq_false_iff_ne]; omega
        rw [h1, h0] at hi
        have hi' : index (b :: l) [63] = ((i + 1 : Nat) : Int) := by rw [hi]; simp
        have e1 : countFrom [63] (f + 1 + 1) (b :: l) = countFrom [63] (f + 1) (l.drop (i + 1)) + 1 := by
          conv => lhs; unfold countFrom
          rw [hi']
          have : (((i + 1 : Nat) : Int) == -1) = false := by rw [beq_eq_false_iff_ne]; omega
          rw [this, if_neg (by decide), show ((i + 1 : Nat) : Int).toNat + [(63 : UInt8)].length = (i + 1) + 1 from rfl, List.drop_succ_cons, Nat.add_comm]
        have e2 : countFrom [63] (f + 1 + 1) l = countFrom [63] (f + 1) (l.drop (i + 1)) + 1 := by
          conv => lhs; unfold countFrom
          rw [h1, h0]
          simp [Nat.add_comm]
        rw [e1, e2, replaceK_hit [63] [] _ _ (i + 1) hi', replaceK_hit [63] [] _ _ i h1]
        simp
theorem replaceAll_one (s : List UInt8) : replaceAll s [63] [] = s.filter (· != 63) := by
  have h := replaceK_one s s.length (Nat.le_refl _)
  unfold replaceAll replace replaceNum
  rw [if_neg (by decide), if_pos (Or.inl (by decide))]
  exact h
theorem count_le (s : List UInt8) : countByte s 63 ≤ s.length := List.count_le_length
end Go.Proofs.YtfjehlmknbhghaaDoor
