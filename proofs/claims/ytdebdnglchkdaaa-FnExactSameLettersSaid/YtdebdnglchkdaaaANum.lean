/-
  The numbering of states from the first on, in plain Lean: its length, its end, two numberings that agree. No conditions.
-/
import Derived.Test.YtdebdnglchkdaaaAMin
namespace Go.Proofs.Ytdebdnglchkdaaa
open Go.RowKit

theorem nodup_len : ∀ (n : Nat) (S : List Nat), S.Nodup → (∀ x ∈ S, x < n) → S.length ≤ n
  | 0, S, _, h => by
    cases S with
    | nil => simp
    | cons x l => exact absurd (h x (by simp)) (by omega)
  | n + 1, S, hd, h => by
    have h1 := nodup_len n (S.erase n) (hd.erase n) (fun x hx => by
      have h2 := (hd.mem_erase_iff).1 hx
      have := h x h2.2; omega)
    have h2 : S.length ≤ (S.erase n).length + 1 := by rw [List.length_erase]; split <;> omega
    omega

section
variable (q : Nat → Nat → Bool) (nx : Nat → List Nat) (st : Nat) (out : Nat → UInt8)
def gIdx (S : List Nat) (y : Nat) : Nat := S.findIdx fun s => q s y
def gAdd (S : List Nat) (y : Nat) : List Nat := if gIdx q S y < S.length then S else S ++ [y]
def gAdds : List Nat → List Nat → List Nat
  | S, [] => S
  | S, y :: ys => gAdds (gAdd q S y) ys
def gRowS : List Nat → List Nat → List Nat
  | _, [] => []
  | S, y :: ys => gIdx q S y :: gRowS (gAdd q S y) ys
def gAt : Nat → List Nat
  | 0 => [st]
  | i + 1 => if i < (gAt i).length then gAdds q (gAt i) (nx ((gAt i).getD i 0)) else gAt i
def gRows : Nat → List (List Nat)
  | 0 => []
  | i + 1 => if i < (gAt q nx st i).length then gRows i ++ [gRowS q (gAt q nx st i) (nx ((gAt q nx st i).getD i 0))] else gRows i
def gOuts : Nat → List UInt8
  | 0 => []
  | i + 1 => if i < (gAt q nx st i).length then gOuts i ++ [out ((gAt q nx st i).getD i 0)] else gOuts i
end
section
variable {q : Nat → Nat → Bool} {nx : Nat → List Nat} {st : Nat} {out : Nat → UInt8} {n : Nat}
theorem gIdx_le (S : List Nat) (y : Nat) : gIdx q S y ≤ S.length := List.findIdx_le_length
theorem gIdx_lt_add (S : List Nat) (y : Nat) : gIdx q S y < (gAdd q S y).length := by
  unfold gAdd
  have := gIdx_le (q := q) S y
  split
  · assumption
  · simp; omega
theorem gAdd_len (S : List Nat) (y : Nat) : S.length ≤ (gAdd q S y).length := by unfold gAdd; split <;> simp
theorem gAdds_len : ∀ (ys S : List Nat), S.length ≤ (gAdds q S ys).length
  | [], _ => Nat.le_refl _
  | y :: ys, S => Nat.le_trans (gAdd_len S y) (gAdds_len ys _)
/-- a list of states that is fit: below n, each once -/
def GFit (n : Nat) (S : List Nat) : Prop := S.Nodup ∧ ∀ x ∈ S, x < n
theorem gAdd_fit (hq : ∀ s, q s s = true) {S : List Nat} {y : Nat} (h : GFit n S) (hy : y < n) : GFit n (gAdd q S y) := by
  unfold gAdd
  split
  · exact h
  · rename_i hx
    refine ⟨?_, fun x hx2 => ?_⟩
    · rw [List.nodup_append]
      refine ⟨h.1, by simp, fun a ha c hc hac => ?_⟩
      simp at hc
      subst hc
      subst hac
      exact hx (List.findIdx_lt_length_of_exists ⟨a, ha, hq a⟩)
    · rcases List.mem_append.1 hx2 with h2 | h2
      · exact h.2 x h2
      · simp at h2; omega
theorem gAdds_fit (hq : ∀ s, q s s = true) : ∀ (ys : List Nat) {S : List Nat}, GFit n S → (∀ y ∈ ys, y < n) → GFit n (gAdds q S ys)
  | [], _, h, _ => h
  | y :: ys, _, h, hy => gAdds_fit hq ys (gAdd_fit hq h (hy y (by simp))) (fun z hz => hy z (by simp [hz]))
theorem getD_mem {S : List Nat} {i : Nat} (h : i < S.length) : S.getD i 0 ∈ S := by
  rw [List.getD_eq_getElem?_getD, List.getElem?_eq_getElem h]; exact List.getElem_mem h
theorem gAt_fit (hq : ∀ s, q s s = true) (hn : ∀ s < n, ∀ y ∈ nx s, y < n) (h0 : st < n) : ∀ i, GFit n (gAt q nx st i)
  | 0 => ⟨by simp [gAt], fun x hx => by simp [gAt] at hx; omega⟩
  | i + 1 => by
    have ih := gAt_fit hq hn h0 i
    unfold gAt
    split
    · rename_i hlt
      exact gAdds_fit hq _ ih (hn _ (ih.2 _ (getD_mem hlt)))
    · exact ih
theorem gAt_len (hq : ∀ s, q s s = true) (hn : ∀ s < n, ∀ y ∈ nx s, y < n) (h0 : st < n) (i : Nat) : (gAt q nx st i).length ≤ n :=
  nodup_len n _ (gAt_fit hq hn h0 i).1 (gAt_fit hq hn h0 i).2
theorem gAt_pos : ∀ i, 0 < (gAt q nx st i).length
  | 0 => by simp [gAt]
  | i + 1 => by
    have ih := gAt_pos i
    unfold gAt
    split
    · exact Nat.lt_of_lt_of_le ih (gAdds_len _ _)
    · exact ih
theorem gAt_mono : ∀ i, (gAt q nx st i).length ≤ (gAt q nx st (i + 1)).length := by
  intro i
  show _ ≤ (if i < (gAt q nx st i).length then gAdds q (gAt q nx st i) (nx ((gAt q nx st i).getD i 0)) else gAt q nx st i).length
  split
  · exact gAdds_len _ _
  · exact Nat.le_refl _
theorem gAt_done {i : Nat} (h : (gAt q nx st i).length ≤ i) : ∀ v, gAt q nx st (i + v) = gAt q nx st i ∧ gRows q nx st (i + v) = gRows q nx st i ∧ gOuts q nx st out (i + v) = gOuts q nx st out i
  | 0 => ⟨rfl, rfl, rfl⟩
  | v + 1 => by
    obtain ⟨h1, h2, h3⟩ := gAt_done h v
    have hno : ¬ (i + v) < (gAt q nx st (i + v)).length := by rw [h1]; omega
    refine ⟨?_, ?_, ?_⟩
    · show (if (i + v) < (gAt q nx st (i + v)).length then _ else gAt q nx st (i + v)) = _
      rw [if_neg hno, h1]
    · show (if (i + v) < (gAt q nx st (i + v)).length then _ else gRows q nx st (i + v)) = _
      rw [if_neg hno, h2]
    · show (if (i + v) < (gAt q nx st (i + v)).length then _ else gOuts q nx st out (i + v)) = _
      rw [if_neg hno, h3]
theorem gAt_end {i : Nat} (h : (gAt q nx st i).length ≤ i) (hi : i ≤ n) : gAt q nx st n = gAt q nx st i ∧ gRows q nx st n = gRows q nx st i ∧ gOuts q nx st out n = gOuts q nx st out i := by
  obtain ⟨v, rfl⟩ : ∃ v, n = i + v := ⟨n - i, by omega⟩
  exact gAt_done h v
theorem gRows_len : ∀ i, i ≤ (gAt q nx st i).length → (gRows q nx st i).length = i ∧ (gOuts q nx st out i).length = i
  | 0, _ => ⟨rfl, rfl⟩
  | i + 1, h => by
    have hlt : i < (gAt q nx st i).length := by
      by_cases hc : i < (gAt q nx st i).length
      · exact hc
      · have h2 : gAt q nx st (i + 1) = gAt q nx st i := by
          show (if i < (gAt q nx st i).length then _ else gAt q nx st i) = _
          rw [if_neg hc]
        rw [h2] at h; omega
    obtain ⟨h1, h2⟩ := gRows_len i (Nat.le_of_lt hlt)
    refine ⟨?_, ?_⟩
    · show (if i < (gAt q nx st i).length then gRows q nx st i ++ [_] else _).length = _
      rw [if_pos hlt]; simp [h1]
    · show (if i < (gAt q nx st i).length then gOuts q nx st out i ++ [_] else _).length = _
      rw [if_pos hlt]; simp [h2]
end

/-- two lists that are related place by place -/
def All2 (R : Nat → Nat → Prop) : List Nat → List Nat → Prop
  | [], [] => True
  | a :: l, c :: m => R a c ∧ All2 R l m
  | _, _ => False
section
variable {R : Nat → Nat → Prop}
theorem All2.len : ∀ {l m : List Nat}, All2 R l m → l.length = m.length
  | [], [], _ => rfl
  | _ :: _, _ :: _, h => by simp [h.2.len]
  | [], _ :: _, h => h.elim
  | _ :: _, [], h => h.elim
theorem All2.snoc : ∀ {l m : List Nat} {a c : Nat}, All2 R l m → R a c → All2 R (l ++ [a]) (m ++ [c])
  | [], [], _, _, _, h => ⟨h, trivial⟩
  | _ :: _, _ :: _, _, _, h, h2 => ⟨h.1, h.2.snoc h2⟩
  | [], _ :: _, _, _, h, _ => h.elim
  | _ :: _, [], _, _, h, _ => h.elim
theorem All2.get : ∀ {l m : List Nat} {i : Nat}, All2 R l m → i < l.length → R (l.getD i 0) (m.getD i 0)
  | [], [], _, _, h => by simp at h
  | _ :: _, _ :: _, 0, h, _ => h.1
  | _ :: l, _ :: m, i + 1, h, h2 => by
    have := h.2.get (i := i) (by simpa using h2)
    simpa using this
  | [], _ :: _, _, h, _ => h.elim
  | _ :: _, [], _, h, _ => h.elim
theorem All2.idx {p p' : Nat → Bool} (hp : ∀ a c, R a c → p a = p' c) : ∀ {l m : List Nat}, All2 R l m → l.findIdx p = m.findIdx p'
  | [], [], _ => rfl
  | a :: l, c :: m, h => by rw [List.findIdx_cons, List.findIdx_cons, hp a c h.1, h.2.idx hp]
  | [], _ :: _, h => h.elim
  | _ :: _, [], h => h.elim
theorem All2.of_map {α : Type} {f g : α → Nat} : ∀ (l : List α), (∀ x ∈ l, R (f x) (g x)) → All2 R (l.map f) (l.map g)
  | [], _ => trivial
  | x :: l, h => ⟨h x (by simp), All2.of_map l (fun y hy => h y (by simp [hy]))⟩
variable {q q' : Nat → Nat → Bool} {nx nx' : Nat → List Nat} {st st' : Nat} {out out' : Nat → UInt8}
theorem gAdd_sim (hq : ∀ s s' t t', R s s' → R t t' → q s t = q' s' t') {S S' : List Nat} {y y' : Nat} (h : All2 R S S') (hy : R y y') : gIdx q S y = gIdx q' S' y' ∧ All2 R (gAdd q S y) (gAdd q' S' y') := by
  have h1 : gIdx q S y = gIdx q' S' y' := h.idx (fun a c hac => hq a c y y' hac hy)
  refine ⟨h1, ?_⟩
  unfold gAdd
  rw [h1, h.len]
  split
  · exact h
  · exact h.snoc hy
theorem gAdds_sim (hq : ∀ s s' t t', R s s' → R t t' → q s t = q' s' t') : ∀ {ys ys' : List Nat} {S S' : List Nat}, All2 R ys ys' → All2 R S S' → gRowS q S ys = gRowS q' S' ys' ∧ All2 R (gAdds q S ys) (gAdds q' S' ys')
  | [], [], _, _, _, h => ⟨rfl, h⟩
  | y :: ys, y' :: ys', S, S', hy, h => by
    obtain ⟨h1, h2⟩ := gAdd_sim hq h hy.1
    obtain ⟨h3, h4⟩ := gAdds_sim hq hy.2 h2
    exact ⟨by unfold gRowS; rw [h1, h3], h4⟩
  | [], _ :: _, _, _, h, _ => h.elim
  | _ :: _, [], _, _, h, _ => h.elim
theorem g_sim (hq : ∀ s s' t t', R s s' → R t t' → q s t = q' s' t') (hn : ∀ s s', R s s' → All2 R (nx s) (nx' s')) (h0 : R st st') (ho : ∀ s s', R s s' → out s = out' s') :
    ∀ i, All2 R (gAt q nx st i) (gAt q' nx' st' i) ∧ gRows q nx st i = gRows q' nx' st' i ∧ gOuts q nx st out i = gOuts q' nx' st' out' i
  | 0 => ⟨⟨h0, trivial⟩, rfl, rfl⟩
  | i + 1 => by
    obtain ⟨h1, h2, h3⟩ := g_sim hq hn h0 ho i
    have hl := h1.len
    by_cases hc : i < (gAt q nx st i).length
    · have hc' : i < (gAt q' nx' st' i).length := by rw [← hl]; exact hc
      have hr := h1.get hc
      obtain ⟨h4, h5⟩ := gAdds_sim hq (hn _ _ hr) h1
      refine ⟨?_, ?_, ?_⟩
      · show All2 R (if i < (gAt q nx st i).length then gAdds q (gAt q nx st i) (nx ((gAt q nx st i).getD i 0)) else gAt q nx st i) (if i < (gAt q' nx' st' i).length then gAdds q' (gAt q' nx' st' i) (nx' ((gAt q' nx' st' i).getD i 0)) else gAt q' nx' st' i)
        rw [if_pos hc, if_pos hc']; exact h5
      · show (if i < (gAt q nx st i).length then gRows q nx st i ++ [gRowS q (gAt q nx st i) (nx ((gAt q nx st i).getD i 0))] else gRows q nx st i) = (if i < (gAt q' nx' st' i).length then gRows q' nx' st' i ++ [gRowS q' (gAt q' nx' st' i) (nx' ((gAt q' nx' st' i).getD i 0))] else gRows q' nx' st' i)
        rw [if_pos hc, if_pos hc', h2, h4]
      · show (if i < (gAt q nx st i).length then gOuts q nx st out i ++ [out ((gAt q nx st i).getD i 0)] else gOuts q nx st out i) = (if i < (gAt q' nx' st' i).length then gOuts q' nx' st' out' i ++ [out' ((gAt q' nx' st' i).getD i 0)] else gOuts q' nx' st' out' i)
        rw [if_pos hc, if_pos hc', h3, ho _ _ hr]
    · have hc' : ¬ i < (gAt q' nx' st' i).length := by rw [← hl]; exact hc
      refine ⟨?_, ?_, ?_⟩
      · show All2 R (if i < (gAt q nx st i).length then gAdds q (gAt q nx st i) (nx ((gAt q nx st i).getD i 0)) else gAt q nx st i) (if i < (gAt q' nx' st' i).length then gAdds q' (gAt q' nx' st' i) (nx' ((gAt q' nx' st' i).getD i 0)) else gAt q' nx' st' i)
        rw [if_neg hc, if_neg hc']; exact h1
      · show (if i < (gAt q nx st i).length then gRows q nx st i ++ [gRowS q (gAt q nx st i) (nx ((gAt q nx st i).getD i 0))] else gRows q nx st i) = (if i < (gAt q' nx' st' i).length then gRows q' nx' st' i ++ [gRowS q' (gAt q' nx' st' i) (nx' ((gAt q' nx' st' i).getD i 0))] else gRows q' nx' st' i)
        rw [if_neg hc, if_neg hc', h2]
      · show (if i < (gAt q nx st i).length then gOuts q nx st out i ++ [out ((gAt q nx st i).getD i 0)] else gOuts q nx st out i) = (if i < (gAt q' nx' st' i).length then gOuts q' nx' st' out' i ++ [out' ((gAt q' nx' st' i).getD i 0)] else gOuts q' nx' st' out' i)
        rw [if_neg hc, if_neg hc', h3]
end
end Go.Proofs.Ytdebdnglchkdaaa
