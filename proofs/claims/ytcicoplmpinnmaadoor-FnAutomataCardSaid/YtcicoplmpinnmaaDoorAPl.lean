/-
  Plain facts of the law FnAutomata. No conditions.
-/
import Derived.Test.YtcicoplmpinnmaaDoorASe
import Derived.Test.YtcicoplmpinnmaaDoorAKer
import Derived.Test.YtcicoplmpinnmaaDoorAWrd
import Derived.Test.YtcicoplmpinnmaaDoorAFix
import Derived.Test.YtcicoplmpinnmaaDoorCWord
namespace Go.Proofs.YtcicoplmpinnmaaDoor
open Go.RowKit

section
variable {b : Nat} {x : Tab} {o : List UInt8}
theorem smT_is (h : aOk b x o = true) : smT b x o = smTab x o b ∧ smO b x o = smOut x o b ∧ smB b x o = b := by
  unfold smT smO smB
  rw [if_pos h, if_pos h, if_pos h]
  simp
theorem aOk_fit (h : aOk b x o = true) : Good b x ∧ o.length = x.length ∧ isW o = true := by
  obtain ⟨bn, hb, h1, h2, h3⟩ := aOk_good h
  obtain rfl : b = bn := by omega
  exact ⟨h1, h2, h3⟩
theorem sameL_of {y : Tab} {o' : List UInt8} (h1 : aOk b x o = true) (h2 : aOk b y o' = true) (ht : smTab x o b = smTab y o' b) (ho : smOut x o b = smOut y o' b) : sameL b x o b y o' = true := by
  have a1 := smT_is h1
  have a2 := smT_is h2
  unfold sameL
  rw [h1, h2, a1.1, a1.2.1, a1.2.2, a2.1, a2.2.1, a2.2.2, ht, ho]
  simp
theorem same_small (h : aOk b x o = true) : sameL b x o b (smTab x o b) (smOut x o b) = true ∧ sameL b (smTab x o b) (smOut x o b) b x o = true := by
  have hx := (aOk_fit h).1
  have h2 := small_aOk h
  have h3 := small_small (o := o) hx
  exact ⟨sameL_of h h2 h3.1.symm h3.2.symm, sameL_of h2 h h3.1 h3.2⟩
theorem small_word (h : aOk b x o = true) (N : Nat) : aWord (smTab x o b) (smOut x o b) b N = aWord x o b N := by
  unfold aWord
  exact List.map_congr_left fun k _ => small_let (aOk_fit h).1 k
theorem small_short (h : aOk b x o = true) : (smTab x o b).length ≤ x.length := by
  have hx := (aOk_fit h).1
  rw [(small_len (o := o) hx).1]; exact smAt_len hx _
theorem same_twice (h : aOk b x o = true) (h4 : x.length ≤ 4) : sameL b x o b (twTab x b) (o ++ o) = true ∧ smTab (twTab x b) (o ++ o) b = smTab x o b ∧ smOut (twTab x b) (o ++ o) b = smOut x o b := by
  obtain ⟨hx, hl, _⟩ := aOk_fit h
  have h2 := alike_small (tw_good hx h4) hx (tw_alike hx hl)
  exact ⟨sameL_of h (tw_aOk h h4) h2.1.symm h2.2.symm, h2⟩
theorem kRow_pos {zss : Tab} {k : Nat} {s : List (List UInt8)} : ∀ r, 0 < r → 0 < (kRow zss o b k r s).length
  | r + 1, _ => by
    have h : kword zss o b k r 41 ∈ kRow zss o b k (r + 1) s := (mem_insS _ _ _).2 (Or.inl rfl)
    exact List.length_pos_of_mem h
theorem ker_bd (h : aOk b x o = true) : 1 ≤ kerSize b x o ∧ kerSize b x o ≤ 1 + (b : Int) + (b : Int) * (b : Int) := by
  have hx := (aOk_fit h).1
  unfold kerSize
  rw [if_pos h]
  simp only [Int.toNat_natCast]
  have h1 := len_kRow (zss := x) (o := o) (b := b) (k := b ^ 0) (srt_kAll (zss := x) (o := o) (b := b) 0) (b ^ 0)
  have h2 := len_kRow (zss := x) (o := o) (b := b) (k := b ^ 1) (srt_kAll (zss := x) (o := o) (b := b) 1) (b ^ 1)
  have h3 := len_kRow (zss := x) (o := o) (b := b) (k := b ^ 2) (srt_kAll (zss := x) (o := o) (b := b) 2) (b ^ 2)
  have h4 : 0 < (kAll x o b 3).length := kRow_pos (b ^ 2) (Nat.pow_pos (by have := hx.1; omega))
  have e1 : (kAll x o b 1).length ≤ 1 := by simpa [kAll] using h1
  have e2 : (kAll x o b 2).length ≤ (kAll x o b 1).length + b := by simpa [kAll] using h2
  have e3 : (kAll x o b 3).length ≤ (kAll x o b 2).length + b * b := by
    have : b ^ 2 = b * b := by rw [Nat.pow_succ, Nat.pow_one]
    rw [← this]; exact h3
  have e4 : ((b * b : Nat) : Int) = (b : Int) * (b : Int) := Int.natCast_mul b b
  omega
theorem word_first (h : aOk b x o = true) {N : Nat} (hN : 0 < N) : ∃ c r s, aWord x o b N = c :: r ∧ o = c :: s := by
  obtain ⟨hx, hl, _⟩ := aOk_fit h
  obtain ⟨M, rfl⟩ : ∃ M, N = M + 1 := ⟨N - 1, by omega⟩
  have h1 := hx.2.2.1
  cases o with
  | nil => simp at hl; omega
  | cons c s =>
    refine ⟨c, (List.range M).map fun k => aLet x (c :: s) b (k + 1), s, ?_, rfl⟩
    unfold aWord
    rw [List.range_succ_eq_map, List.map_cons, List.map_map]
    rfl
end

/-! ## the named ones -/
theorem named_two {l : List UInt8} (h : Name3 l) : sOk (named3 l) = true ∧ Two2 (named3 l) ∧ aOk 2 (ofTab (named3 l)) (ofOut (named3 l)) = true ∧ ofOk (named3 l) = true ∧ ofBase (named3 l) = 2 := by
  rcases h with rfl | rfl | rfl
  · refine ⟨by decide, ⟨rfl, by decide⟩, by decide, by decide, by decide⟩
  · refine ⟨by decide, ⟨rfl, by decide⟩, by decide, by decide, by decide⟩
  · refine ⟨by decide, ⟨rfl, by decide⟩, by decide, by decide, by decide⟩
theorem named_word {l : List UInt8} (h : Name3 l) : aWord (ofTab (named3 l)) (ofOut (named3 l)) 2 100 = fx (named3 l) 49 := by
  rcases h with rfl | rfl | rfl <;> decide +kernel
theorem thue_letters : ∀ k, k < 60 → aLet (ofTab wThue) (ofOut wThue) 2 k = clsLetter 2 k := by decide +kernel
theorem thue_class {N : Nat} (h : N ≤ 60) : aWord (ofTab wThue) (ofOut wThue) 2 N = classW 2 N := by
  unfold aWord classW
  exact List.map_congr_left fun k hk => thue_letters k (by have hk2 := List.mem_range.1 hk; omega)
theorem thue_ker : kerSize 2 (ofTab wThue) (ofOut wThue) = 2 := by decide +kernel
end Go.Proofs.YtcicoplmpinnmaaDoor
