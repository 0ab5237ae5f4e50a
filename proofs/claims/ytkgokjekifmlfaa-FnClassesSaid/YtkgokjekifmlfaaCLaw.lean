/-
  Plain facts of the law FnClasses: members of classes, sums of powers, words without overlaps. No conditions.
-/
import Derived.Test.YtkgokjekifmlfaaCMem
import Derived.Test.YtkgokjekifmlfaaCPow
import Derived.Test.YtkgokjekifmlfaaCNext
import Derived.Test.YtkgokjekifmlfaaCWord
import Derived.Test.YtkgokjekifmlfaaWd
namespace Go.Proofs.Ytkgokjekifmlfaa
open Go.RowKit

/-! ## powers in a word -/
def isPow (w : List UInt8) (a n p : Nat) : Bool := decide (a + n ≤ w.length) && (List.range (n - p)).all fun j => w.getD (a + j) 0 == w.getD (a + j + p) 0
def powAt (w : List UInt8) (n p k : Nat) : Bool := (List.range k).any fun a => isPow w a n p
def hasPow (w : List UInt8) (k : Nat) : Bool := (List.range k).any fun q => decide (2 * (q + 1) + 1 ≤ w.length) && powAt w (2 * (q + 1) + 1) (q + 1) w.length
def ovFree (w : List UInt8) : Bool := isW w && !hasPow w w.length

/-! the same on numbers, for the kernel -/
def nIsPow (w : List Nat) (a n p : Nat) : Bool := decide (a + n ≤ w.length) && (List.range (n - p)).all fun j => Nat.beq (w.getD (a + j) 0) (w.getD (a + j + p) 0)
def nHasPow (w : List Nat) : Bool := (List.range w.length).any fun q => decide (2 * (q + 1) + 1 ≤ w.length) && (List.range w.length).any fun a => nIsPow w a (2 * (q + 1) + 1) (q + 1)
theorem nat_getD (w : List UInt8) (i : Nat) : (w.map (·.toNat)).getD i 0 = (w.getD i 0).toNat := by
  simp only [List.getD, List.getElem?_map]
  cases w[i]? <;> rfl
theorem nIsPow_eq (w : List UInt8) (a n p : Nat) : nIsPow (w.map (·.toNat)) a n p = isPow w a n p := by
  unfold nIsPow isPow
  rw [List.length_map]
  congr 1
  congr 1
  funext j
  rw [nat_getD, nat_getD, Bool.eq_iff_iff, Nat.beq_eq, beq_iff_eq, UInt8.toNat_inj]
theorem nHasPow_eq (w : List UInt8) : nHasPow (w.map (·.toNat)) = hasPow w w.length := by
  unfold nHasPow hasPow powAt
  rw [List.length_map]
  congr 1
  funext q
  congr 1
  congr 1
  funext a
  exact nIsPow_eq w a _ _
/-- the word of the classes, as numbers -/
def nClassW (b n : Nat) : List Nat := (List.range n).map fun i => 97 + cls b i
theorem nClassW_eq {b : Nat} (hb : 2 ≤ b) (hb2 : b ≤ 4) (n : Nat) : (classW b n).map (·.toNat) = nClassW b n := by
  unfold classW nClassW
  rw [List.map_map]
  apply List.map_congr_left
  intro i _
  have := clsLetter_nat (i := i) hb hb2
  show (clsLetter b i).toNat = _
  omega
theorem classW_isW {b : Nat} (hb : 2 ≤ b) (hb2 : b ≤ 4) {n : Nat} (hn : n ≤ 400) : isW (classW b n) = true := by
  unfold isW
  simp only [Bool.and_eq_true, decide_eq_true_eq]
  refine ⟨List.all_eq_true.2 fun c hc => ?_, by simp [classW]; omega⟩
  obtain ⟨i, _, rfl⟩ := List.mem_map.1 hc
  have := clsLetter_nat (i := i) hb hb2
  have h2 := cls_lt (b := b) (by omega) i
  simp only [isLet, decide_eq_true_eq]; omega
theorem cw2 : nHasPow (nClassW 2 64) = false ∧ nHasPow (nClassW 2 64).reverse = false := by decide +kernel
theorem cw3 : nHasPow (nClassW 3 64) = false ∧ nHasPow (nClassW 3 64).reverse = false := by decide +kernel
theorem cw4 : nHasPow (nClassW 4 64) = false ∧ nHasPow (nClassW 4 64).reverse = false := by decide +kernel
theorem three {b : Nat} (hb : 2 ≤ b) (hb2 : b ≤ 4) : b = 2 ∨ b = 3 ∨ b = 4 := by omega
theorem rev_isW {l : List UInt8} (h : isW l = true) : isW l.reverse = true := by
  simp only [isW, Bool.and_eq_true, decide_eq_true_eq, List.length_reverse, List.all_reverse] at h ⊢
  exact h
theorem ov_class {b : Nat} (hb : 2 ≤ b) (hb2 : b ≤ 4) : ovFree (classW b 64) = true ∧ ovFree (classW b 64).reverse = true := by
  have h1 := classW_isW hb hb2 (n := 64) (by omega)
  have h2 : nHasPow (nClassW b 64) = false ∧ nHasPow (nClassW b 64).reverse = false := by
    rcases three hb hb2 with rfl | rfl | rfl
    · exact cw2
    · exact cw3
    · exact cw4
  unfold ovFree
  rw [h1, rev_isW h1, ← nHasPow_eq, ← nHasPow_eq, List.map_reverse, nClassW_eq hb hb2, h2.1, h2.2]
  exact ⟨rfl, rfl⟩

/-! ## the members of a class -/
def nm (b c m : Nat) : List Nat := (List.range m).filter fun i => cls b i == c
theorem mbs_nm (b c m : Nat) : mbs b c m = (nm b c m).map fun i : Nat => (i : Int) := rfl
def nSum (e : Nat) (l : List Nat) : Nat := (l.map fun n => pw n e).sum
def chkNext (b : Nat) (l : List Nat) : Bool := (List.range l.length).all fun i => Nat.beq (l.getD i 0 / b) i && (Nat.beq i 0 || Nat.beq (nx b (l.getD (i - 1) 0)) (l.getD i 0))
def chkC (b k c : Nat) : Bool :=
  Nat.beq (nm b c (pw b k)).length (pw b k / b) && ((List.range (min k 4)).all (fun e => Nat.beq (nSum e (nm b c (pw b k))) (nSum e (nm b 0 (pw b k)))) && chkNext b (nm b c (pw b k)))
def chk (b k : Nat) : Bool := (List.range b).all (chkC b k) && Nat.beq (2 * shf b (pw b k)) (pw b k * (pw b k - 1) + pw b k * b * (b - 1))
theorem chk2 : chk 2 1 = true ∧ chk 2 2 = true ∧ chk 2 3 = true ∧ chk 2 4 = true := by decide +kernel
theorem chk3 : chk 3 1 = true ∧ chk 3 2 = true ∧ chk 3 3 = true ∧ chk 3 4 = true := by decide +kernel
theorem chk4 : chk 4 1 = true ∧ chk 4 2 = true ∧ chk 4 3 = true ∧ chk 4 4 = true := by decide +kernel
theorem chk_all {b k : Nat} (hb : 2 ≤ b) (hb2 : b ≤ 4) (hk : 1 ≤ k) (hk2 : k ≤ 4) : chk b k = true := by
  have h : k = 1 ∨ k = 2 ∨ k = 3 ∨ k = 4 := by omega
  rcases three hb hb2 with rfl | rfl | rfl
  · obtain ⟨a1, a2, a3, a4⟩ := chk2
    rcases h with rfl | rfl | rfl | rfl
    · exact a1
    · exact a2
    · exact a3
    · exact a4
  · obtain ⟨a1, a2, a3, a4⟩ := chk3
    rcases h with rfl | rfl | rfl | rfl
    · exact a1
    · exact a2
    · exact a3
    · exact a4
  · obtain ⟨a1, a2, a3, a4⟩ := chk4
    rcases h with rfl | rfl | rfl | rfl
    · exact a1
    · exact a2
    · exact a3
    · exact a4
theorem pw44 {b k : Nat} (hb : b ≤ 4) (hk : k ≤ 4) : pw b k ≤ 256 := pw_mono (c := 4) (n := 4) (by omega) hb hk
theorem psF_nm (e b c m : Nat) : psF e (mbs b c m) = nSum e (nm b c m) := by
  unfold psF nSum
  rw [mbs_nm, List.map_map]
  rfl
theorem nm_lt {b c m n : Nat} (h : n ∈ nm b c m) : n < m ∧ cls b n = c := by
  have h2 := List.mem_filter.1 h
  exact ⟨List.mem_range.1 h2.1, by simpa using h2.2⟩
/-- what the law asks of the members of a class -/
theorem class_facts {b k c : Nat} (hb : 2 ≤ b) (hb2 : b ≤ 4) (hk : 1 ≤ k) (hk2 : k ≤ 4) (hc : c < b) :
    membersOf b k c = mbs b c (pw b k) ∧ (mbs b c (pw b k)).length = pw b k / b ∧ (∀ e, e < k → e ≤ 3 → powerSum (mbs b c (pw b k)) e = (nSum e (nm b 0 (pw b k)) : Nat)) ∧
      ∀ (i : Nat) (h : i < (mbs b c (pw b k)).length), ∃ n : Nat, (mbs b c (pw b k))[i] = (n : Int) ∧ n < 256 ∧ cls b n = c ∧ n / b = i ∧ (0 < i → ∃ m : Nat, (mbs b c (pw b k)).getD (i - 1) 0 = (m : Int) ∧ m < 256 ∧ nx b m = n) := by
  have h := chk_all hb hb2 hk hk2
  simp only [chk, Bool.and_eq_true] at h
  have h1 := List.all_eq_true.1 h.1 c (List.mem_range.2 hc)
  simp only [chkC, Bool.and_eq_true, Nat.beq_eq] at h1
  obtain ⟨h2, h3, h4⟩ := h1
  have hp := pw44 hb2 hk2
  have hlen : (mbs b c (pw b k)).length = (nm b c (pw b k)).length := by rw [mbs_nm, List.length_map]
  refine ⟨?_, by rw [hlen, h2], fun e he he3 => ?_, fun i hi => ?_⟩
  · unfold membersOf
    rw [wi_mk (by omega) (by omega), wi_mk (by omega) (by omega), wi_mk (by omega) (by omega)]
    rfl
  · have h5 := List.all_eq_true.1 h3 e (List.mem_range.2 (by omega))
    rw [Nat.beq_eq] at h5
    unfold powerSum
    have hdiv : pw b k / b ≤ 256 := Nat.le_trans (Nat.div_le_self _ _) hp
    have hall : (mbs b c (pw b k)).all psOk = true := List.all_eq_true.2 fun z hz => by
      rw [mbs_nm] at hz
      obtain ⟨n, hn, rfl⟩ := List.mem_map.1 hz
      have := (nm_lt hn).1
      exact wi_mk (by omega) (by omega)
    rw [hall, wi_mk (show (0 : Int) ≤ e by omega) (by omega), decide_eq_true (show (mbs b c (pw b k)).length ≤ 1100 by omega)]
    simp only [Bool.and_self, if_true]
    have e0 : (e : Int).toNat = e := rfl
    rw [e0, psF_nm, h5]
  · rw [hlen] at hi
    have h6 := List.all_eq_true.1 h4 i (List.mem_range.2 hi)
    simp only [Bool.and_eq_true, Bool.or_eq_true, Nat.beq_eq] at h6
    have hg : (nm b c (pw b k)).getD i 0 = (nm b c (pw b k))[i] := by simp [List.getD, List.getElem?_eq_getElem hi]
    have hm := nm_lt (List.getElem_mem hi)
    rw [hg] at h6
    refine ⟨(nm b c (pw b k))[i], by simp [mbs_nm], by omega, hm.2, h6.1, fun h0 => ?_⟩
    have hi1 : i - 1 < (nm b c (pw b k)).length := by omega
    have hg1 : (nm b c (pw b k)).getD (i - 1) 0 = (nm b c (pw b k))[i - 1] := by simp [List.getD, List.getElem?_eq_getElem hi1]
    have hm1 := nm_lt (List.getElem_mem hi1)
    refine ⟨(nm b c (pw b k))[i - 1], by simp [mbs_nm, List.getD, List.getElem?_eq_getElem hi1], by omega, ?_⟩
    rcases h6.2 with h7 | h7
    · omega
    · rw [hg1] at h7; exact h7
theorem shift_fact {b k : Nat} (hb : 2 ≤ b) (hb2 : b ≤ 4) (hk : 1 ≤ k) (hk2 : k ≤ 4) : 2 * shf b (pw b k) = pw b k * (pw b k - 1) + pw b k * b * (b - 1) := by
  have h := chk_all hb hb2 hk hk2
  simp only [chk, Bool.and_eq_true, Nat.beq_eq] at h
  exact h.2
end Go.Proofs.Ytkgokjekifmlfaa
