/-
  The numbering of states from the first on, in plain Lean: its length, its end, two numberings that agree. No conditions.
-/
import Derived.Test.YtcicoplmpinnmaaDoorARun
namespace Go.Proofs.YtcicoplmpinnmaaDoor
section
open Go.RowKit

/-- the least number with the same key -/
def rep (key : Nat → List Nat) (i : Nat) : Nat := (List.range (i + 1)).findIdx fun k => key k == key i
theorem rep_lt (key : Nat → List Nat) (i : Nat) : rep key i < i + 1 := by
  have h : rep key i < (List.range (i + 1)).length := List.findIdx_lt_length_of_exists ⟨i, by simp, by simp⟩
  simpa using h
theorem rep_le (key : Nat → List Nat) (i : Nat) : rep key i ≤ i := by have := rep_lt key i; omega
theorem rep_key (key : Nat → List Nat) (i : Nat) : key (rep key i) = key i := by
  have h : rep key i < (List.range (i + 1)).length := by simpa using rep_lt key i
  have h2 := List.findIdx_getElem (xs := List.range (i + 1)) (p := fun k => key k == key i) (w := h)
  have h3 : (List.range (i + 1))[rep key i]'h = rep key i := List.getElem_range h
  have h4 : (key ((List.range (i + 1))[rep key i]'h) == key i) = true := h2
  rw [h3] at h4
  simpa using h4
theorem rep_min {key : Nat → List Nat} {i k : Nat} (h : k < rep key i) : key k ≠ key i := by
  have hk : k < (List.range (i + 1)).length := by have := rep_lt key i; simp; omega
  have h2 := List.not_of_lt_findIdx (xs := List.range (i + 1)) (p := fun k => key k == key i) h
  simpa using h2
theorem rep_eq {key : Nat → List Nat} {i k : Nat} : rep key i = rep key k ↔ key i = key k := by
  constructor
  · intro h; rw [← rep_key key i, ← rep_key key k, h]
  · intro h
    rcases Nat.lt_trichotomy (rep key i) (rep key k) with h1 | h1 | h1
    · exact absurd ((rep_key key i).trans h) (rep_min h1)
    · exact h1
    · exact absurd ((rep_key key k).trans h.symm) (rep_min h1)
theorem rep_is {key : Nat → List Nat} {i k : Nat} (h1 : key k = key i) (h2 : ∀ j < k, key j ≠ key i) : rep key i = k := by
  rcases Nat.lt_trichotomy (rep key i) k with h | h | h
  · exact absurd (rep_key key i) (h2 _ h)
  · exact h
  · exact absurd h1 (rep_min h)

section
variable (zss : Tab) (o : List UInt8) (b : Nat)
def keyOf : (Nat → Nat) → Nat → List Nat := fun f i => f i :: (List.range b).map fun d => f (tab zss i d)
def key0 (i : Nat) : List Nat := [(o.getD i 0).toNat]
/-- the classes of states that t steps cannot tell apart, by their least states -/
def cl : Nat → Nat → Nat
  | 0 => rep (key0 o)
  | t + 1 => rep (keyOf zss b (cl t))
end
section
variable {zss : Tab} {o : List UInt8} {b : Nat}
theorem cl_le (t i : Nat) : cl zss o b t i ≤ i := by cases t <;> exact rep_le _ _
theorem key0_eq {i k : Nat} : key0 o i = key0 o k ↔ o.getD i 0 = o.getD k 0 := by
  unfold key0
  constructor
  · intro h; exact UInt8.toNat_inj.1 (by simpa using h)
  · intro h; rw [h]
theorem cl0_eq {i k : Nat} : cl zss o b 0 i = cl zss o b 0 k ↔ o.getD i 0 = o.getD k 0 := by
  show rep _ i = rep _ k ↔ _
  rw [rep_eq, key0_eq]
theorem keyOf_eq {f : Nat → Nat} {i k : Nat} : keyOf zss b f i = keyOf zss b f k ↔ f i = f k ∧ ∀ d < b, f (tab zss i d) = f (tab zss k d) := by
  unfold keyOf
  constructor
  · intro h
    rw [List.cons.injEq] at h
    refine ⟨h.1, fun d hd => ?_⟩
    have h2 := congrArg (fun l : List Nat => l.getD d 0) h.2
    simpa [List.getD_eq_getElem?_getD, hd] using h2
  · rintro ⟨h1, h2⟩
    rw [h1]
    congr 1
    apply List.map_congr_left
    intro d hd
    exact h2 d (List.mem_range.1 hd)
theorem cl_succ {t i k : Nat} : cl zss o b (t + 1) i = cl zss o b (t + 1) k ↔ cl zss o b t i = cl zss o b t k ∧ ∀ d < b, cl zss o b t (tab zss i d) = cl zss o b t (tab zss k d) := by
  show rep _ i = rep _ k ↔ _
  rw [rep_eq, keyOf_eq]
theorem cl_idem (t i : Nat) : cl zss o b t (cl zss o b t i) = cl zss o b t i := by
  cases t <;> exact rep_eq.2 (rep_key _ _)
theorem cl_down {t i k : Nat} (h : cl zss o b t i = cl zss o b t k) : cl zss o b 0 i = cl zss o b 0 k := by
  induction t with
  | zero => exact h
  | succ t ih => exact ih (cl_succ.1 h).1
theorem cl_out {t i : Nat} : o.getD (cl zss o b t i) 0 = o.getD i 0 := cl0_eq.1 (cl_down (cl_idem t i) : cl zss o b 0 _ = cl zss o b 0 _)

/-- the least states of the classes -/
def reps (zss : Tab) (o : List UInt8) (b t n : Nat) : List Nat := (List.range n).filter fun i => cl zss o b t i == i
theorem reps_up {t i : Nat} (h : cl zss o b t i = i) : cl zss o b (t + 1) i = i := by
  have h1 := cl_le (zss := zss) (o := o) (b := b) (t + 1) i
  have h2 := (cl_succ.1 (cl_idem (zss := zss) (o := o) (b := b) (t + 1) i)).1
  have h3 := cl_le (zss := zss) (o := o) (b := b) t (cl zss o b (t + 1) i)
  rw [h2, h] at h3
  omega
theorem filter_sub {p q : Nat → Bool} (h : ∀ i, p i = true → q i = true) : ∀ l : List Nat, (l.filter p).Sublist (l.filter q)
  | [] => List.Sublist.slnil
  | x :: l => by
    cases hp : p x with
    | true => rw [List.filter_cons_of_pos hp, List.filter_cons_of_pos (h x hp)]; exact (filter_sub h l).cons_cons x
    | false =>
      rw [List.filter_cons_of_neg (by simp [hp])]
      cases hq : q x with
      | true => rw [List.filter_cons_of_pos hq]; exact (filter_sub h l).cons x
      | false => rw [List.filter_cons_of_neg (by simp [hq])]; exact filter_sub h l
theorem reps_sub (t n : Nat) : (reps zss o b t n).Sublist (reps zss o b (t + 1) n) :=
  filter_sub (fun i hi => by have := reps_up (zss := zss) (o := o) (b := b) (t := t) (i := i) (by simpa using hi); simpa using this) _
theorem reps_mem {t n i : Nat} : i ∈ reps zss o b t n ↔ i < n ∧ cl zss o b t i = i := by unfold reps; simp [List.mem_filter, List.mem_range]
theorem reps_same {t n : Nat} (h : (reps zss o b t n).length = (reps zss o b (t + 1) n).length) {i : Nat} (hi : i < n) : cl zss o b (t + 1) i = cl zss o b t i := by
  have he := (reps_sub (zss := zss) (o := o) (b := b) t n).eq_of_length h
  have h1 : cl zss o b (t + 1) i ∈ reps zss o b (t + 1) n := reps_mem.2 ⟨by have := cl_le (zss := zss) (o := o) (b := b) (t + 1) i; omega, cl_idem _ _⟩
  rw [← he] at h1
  have h2 := (reps_mem.1 h1).2
  rw [(cl_succ.1 (cl_idem (zss := zss) (o := o) (b := b) (t + 1) i)).1] at h2
  exact h2.symm
theorem cl_next {t n : Nat} (hT : ∀ i < n, ∀ d < b, tab zss i d < n) (h : ∀ i < n, cl zss o b (t + 1) i = cl zss o b t i) : ∀ i < n, cl zss o b (t + 2) i = cl zss o b (t + 1) i := by
  intro i hi
  have e : ∀ j, j < n → ∀ k, k < n → (cl zss o b (t + 2) j = cl zss o b (t + 2) k ↔ cl zss o b (t + 1) j = cl zss o b (t + 1) k) := by
    intro j hj k hk
    constructor
    · intro h2; exact (cl_succ.1 h2).1
    · intro h1
      refine cl_succ.2 ⟨h1, fun d hd => ?_⟩
      rw [h _ (hT j hj d hd), h _ (hT k hk d hd)]
      exact (cl_succ.1 h1).2 d hd
  have l1 := cl_le (zss := zss) (o := o) (b := b) (t + 2) i
  have l2 := cl_le (zss := zss) (o := o) (b := b) (t + 1) i
  -- each is the least in the other's class
  have a1 : cl zss o b (t + 1) (cl zss o b (t + 2) i) = cl zss o b (t + 1) i := (e _ (by omega) _ hi).1 (cl_idem _ _)
  have a2 : cl zss o b (t + 2) (cl zss o b (t + 1) i) = cl zss o b (t + 2) i := (e _ (by omega) _ hi).2 (cl_idem _ _)
  have b1 := cl_le (zss := zss) (o := o) (b := b) (t + 1) (cl zss o b (t + 2) i)
  have b2 := cl_le (zss := zss) (o := o) (b := b) (t + 2) (cl zss o b (t + 1) i)
  rw [a1] at b1
  rw [a2] at b2
  omega
theorem cl_from {t n : Nat} (hT : ∀ i < n, ∀ d < b, tab zss i d < n) (h : ∀ i < n, cl zss o b (t + 1) i = cl zss o b t i) : ∀ u, t ≤ u → ∀ i < n, cl zss o b (u + 1) i = cl zss o b u i := by
  intro u hu
  obtain ⟨v, rfl⟩ : ∃ v, u = t + v := ⟨u - t, by omega⟩
  clear hu
  induction v with
  | zero => exact h
  | succ v ih => exact cl_next hT ih
theorem cl_stop {n : Nat} (hn : 0 < n) (hT : ∀ i < n, ∀ d < b, tab zss i d < n) : ∀ i < n, cl zss o b (n + 1) i = cl zss o b n i := by
  by_cases hex : ∃ s, s < n ∧ (reps zss o b s n).length = (reps zss o b (s + 1) n).length
  · obtain ⟨s, hs, he⟩ := hex
    exact cl_from hT (fun i hi => reps_same he hi) n (by omega)
  · have grow : ∀ t, t ≤ n → t + 1 ≤ (reps zss o b t n).length := by
      intro t
      induction t with
      | zero =>
        intro _
        have : (0 : Nat) ∈ reps zss o b 0 n := reps_mem.2 ⟨hn, by have := cl_le (zss := zss) (o := o) (b := b) 0 0; omega⟩
        exact List.length_pos_of_mem this
      | succ t ih =>
        intro ht
        have h1 := ih (by omega)
        have h2 := (reps_sub (zss := zss) (o := o) (b := b) t n).length_le
        have h3 : (reps zss o b t n).length ≠ (reps zss o b (t + 1) n).length := fun h => hex ⟨t, by omega, h⟩
        omega
    have h1 := grow n (Nat.le_refl _)
    have h2 : (reps zss o b n n).length ≤ n := by have := List.length_filter_le (fun i => cl zss o b n i == i) (List.range n); simpa [reps] using this
    omega
theorem cl_stable {n : Nat} (hn : 0 < n) (hT : ∀ i < n, ∀ d < b, tab zss i d < n) {i k : Nat} (hi : i < n) (hk : k < n) (h : cl zss o b n i = cl zss o b n k) {d : Nat} (hd : d < b) : cl zss o b n (tab zss i d) = cl zss o b n (tab zss k d) := by
  have h2 : cl zss o b (n + 1) i = cl zss o b (n + 1) k := by rw [cl_stop hn hT i hi, cl_stop hn hT k hk, h]
  exact (cl_succ.1 h2).2 d hd
end
end
section
open Go.RowKit

theorem nodup_len : ∀ (n : Nat) (S : List Nat), S.Nodup → (∀ x ∈ S, x < n) → S.length ≤ n
  | 0, S, _, h => by
    cases S with
    | nil => simp
    | cons x l => exact absurd (h x (by simp)) (by omega)
  | n + 1, S, hd, h => by
    have h1 := nodup_len n (S.erase n) (hd.erase n) (fun x hx => by
      have h2 := (hd.mem_erase_iff).1 hx
      have := h x h2.2; omega)
    have h2 : S.length ≤ (S.erase n).length + 1 := by rw [List.length_erase]; split <;> omega
    omega

section
variable (q : Nat → Nat → Bool) (nx : Nat → List Nat) (st : Nat) (out : Nat → UInt8)
def gIdx (S : List Nat) (y : Nat) : Nat := S.findIdx fun s => q s y
def gAdd (S : List Nat) (y : Nat) : List Nat := if gIdx q S y < S.length then S else S ++ [y]
def gAdds : List Nat → List Nat → List Nat
  | S, [] => S
  | S, y :: ys => gAdds (gAdd q S y) ys
def gRowS : List Nat → List Nat → List Nat
  | _, [] => []
  | S, y :: ys => gIdx q S y :: gRowS (gAdd q S y) ys
def gAt : Nat → List Nat
  | 0 => [st]
  | i + 1 => if i < (gAt i).length then gAdds q (gAt i) (nx ((gAt i).getD i 0)) else gAt i
def gRows : Nat → List (List Nat)
  | 0 => []
  | i + 1 => if i < (gAt q nx st i).length then gRows i ++ [gRowS q (gAt q nx st i) (nx ((gAt q nx st i).getD i 0))] else gRows i
def gOuts : Nat → List UInt8
  | 0 => []
  | i + 1 => if i < (gAt q nx st i).length then gOuts i ++ [out ((gAt q nx st i).getD i 0)] else gOuts i
end
section
variable {q : Nat → Nat → Bool} {nx : Nat → List Nat} {st : Nat} {out : Nat → UInt8} {n : Nat}
theorem gIdx_le (S : List Nat) (y : Nat) : gIdx q S y ≤ S.length := List.findIdx_le_length
theorem gIdx_lt_add (S : List Nat) (y : Nat) : gIdx q S y < (gAdd q S y).length := by
  unfold gAdd
  have := gIdx_le (q := q) S y
  split
  · assumption
  · simp; omega
theorem gAdd_len (S : List Nat) (y : Nat) : S.length ≤ (gAdd q S y).length := by unfold gAdd; split <;> simp
theorem gAdds_len : ∀ (ys S : List Nat), S.length ≤ (gAdds q S ys).length
  | [], _ => Nat.le_refl _
  | y :: ys, S => Nat.le_trans (gAdd_len S y) (gAdds_len ys _)
/-- a list of states that is fit: below n, each once -/
def GFit (n : Nat) (S : List Nat) : Prop := S.Nodup ∧ ∀ x ∈ S, x < n
theorem gAdd_fit (hq : ∀ s, q s s = true) {S : List Nat} {y : Nat} (h : GFit n S) (hy : y < n) : GFit n (gAdd q S y) := by
  unfold gAdd
  split
  · exact h
  · rename_i hx
    refine ⟨?_, fun x hx2 => ?_⟩
    · rw [List.nodup_append]
      refine ⟨h.1, by simp, fun a ha c hc hac => ?_⟩
      simp at hc
      subst hc
      subst hac
      exact hx (List.findIdx_lt_length_of_exists ⟨a, ha, hq a⟩)
    · rcases List.mem_append.1 hx2 with h2 | h2
      · exact h.2 x h2
      · simp at h2; omega
theorem gAdds_fit (hq : ∀ s, q s s = true) : ∀ (ys : List Nat) {S : List Nat}, GFit n S → (∀ y ∈ ys, y < n) → GFit n (gAdds q S ys)
  | [], _, h, _ => h
  | y :: ys, _, h, hy => gAdds_fit hq ys (gAdd_fit hq h (hy y (by simp))) (fun z hz => hy z (by simp [hz]))
theorem getD_mem {S : List Nat} {i : Nat} (h : i < S.length) : S.getD i 0 ∈ S := by
  rw [List.getD_eq_getElem?_getD, List.getElem?_eq_getElem h]; exact List.getElem_mem h
theorem gAt_fit (hq : ∀ s, q s s = true) (hn : ∀ s < n, ∀ y ∈ nx s, y < n) (h0 : st < n) : ∀ i, GFit n (gAt q nx st i)
  | 0 => ⟨by simp [gAt], fun x hx => by simp [gAt] at hx; omega⟩
  | i + 1 => by
    have ih := gAt_fit hq hn h0 i
    unfold gAt
    split
    · rename_i hlt
      exact gAdds_fit hq _ ih (hn _ (ih.2 _ (getD_mem hlt)))
    · exact ih
theorem gAt_len (hq : ∀ s, q s s = true) (hn : ∀ s < n, ∀ y ∈ nx s, y < n) (h0 : st < n) (i : Nat) : (gAt q nx st i).length ≤ n :=
  nodup_len n _ (gAt_fit hq hn h0 i).1 (gAt_fit hq hn h0 i).2
theorem gAt_pos : ∀ i, 0 < (gAt q nx st i).length
  | 0 => by simp [gAt]
  | i + 1 => by
    have ih := gAt_pos i
    unfold gAt
    split
    · exact Nat.lt_of_lt_of_le ih (gAdds_len _ _)
    · exact ih
theorem gAt_mono : ∀ i, (gAt q nx st i).length ≤ (gAt q nx st (i + 1)).length := by
  intro i
  show _ ≤ (if i < (gAt q nx st i).length then gAdds q (gAt q nx st i) (nx ((gAt q nx st i).getD i 0)) else gAt q nx st i).length
  split
  · exact gAdds_len _ _
  · exact Nat.le_refl _
theorem gAt_done {i : Nat} (h : (gAt q nx st i).length ≤ i) : ∀ v, gAt q nx st (i + v) = gAt q nx st i ∧ gRows q nx st (i + v) = gRows q nx st i ∧ gOuts q nx st out (i + v) = gOuts q nx st out i
  | 0 => ⟨rfl, rfl, rfl⟩
  | v + 1 => by
    obtain ⟨h1, h2, h3⟩ := gAt_done h v
    have hno : ¬ (i + v) < (gAt q nx st (i + v)).length := by rw [h1]; omega
    refine ⟨?_, ?_, ?_⟩
    · show (if (i + v) < (gAt q nx st (i + v)).length then _ else gAt q nx st (i + v)) = _
      rw [if_neg hno, h1]
    · show (if (i + v) < (gAt q nx st (i + v)).length then _ else gRows q nx st (i + v)) = _
      rw [if_neg hno, h2]
    · show (if (i + v) < (gAt q nx st (i + v)).length then _ else gOuts q nx st out (i + v)) = _
      rw [if_neg hno, h3]
theorem gAt_end {i : Nat} (h : (gAt q nx st i).length ≤ i) (hi : i ≤ n) : gAt q nx st n = gAt q nx st i ∧ gRows q nx st n = gRows q nx st i ∧ gOuts q nx st out n = gOuts q nx st out i := by
  obtain ⟨v, rfl⟩ : ∃ v, n = i + v := ⟨n - i, by omega⟩
  exact gAt_done h v
theorem gRows_len : ∀ i, i ≤ (gAt q nx st i).length → (gRows q nx st i).length = i ∧ (gOuts q nx st out i).length = i
  | 0, _ => ⟨rfl, rfl⟩
  | i + 1, h => by
    have hlt : i < (gAt q nx st i).length := by
      by_cases hc : i < (gAt q nx st i).length
      · exact hc
      · have h2 : gAt q nx st (i + 1) = gAt q nx st i := by
          show (if i < (gAt q nx st i).length then _ else gAt q nx st i) = _
          rw [if_neg hc]
        rw [h2] at h; omega
    obtain ⟨h1, h2⟩ := gRows_len i (Nat.le_of_lt hlt)
    refine ⟨?_, ?_⟩
    · show (if i < (gAt q nx st i).length then gRows q nx st i ++ [_] else _).length = _
      rw [if_pos hlt]; simp [h1]
    · show (if i < (gAt q nx st i).length then gOuts q nx st out i ++ [_] else _).length = _
      rw [if_pos hlt]; simp [h2]
end

/-- two lists that are related place by place -/
def All2 (R : Nat → Nat → Prop) : List Nat → List Nat → Prop
  | [], [] => True
  | a :: l, c :: m => R a c ∧ All2 R l m
  | _, _ => False
section
variable {R : Nat → Nat → Prop}
theorem All2.len : ∀ {l m : List Nat}, All2 R l m → l.length = m.length
  | [], [], _ => rfl
  | _ :: _, _ :: _, h => by simp [h.2.len]
  | [], _ :: _, h => h.elim
  | _ :: _, [], h => h.elim
theorem All2.snoc : ∀ {l m : List Nat} {a c : Nat}, All2 R l m → R a c → All2 R (l ++ [a]) (m ++ [c])
  | [], [], _, _, _, h => ⟨h, trivial⟩
  | _ :: _, _ :: _, _, _, h, h2 => ⟨h.1, h.2.snoc h2⟩
  | [], _ :: _, _, _, h, _ => h.elim
  | _ :: _, [], _, _, h, _ => h.elim
theorem All2.get : ∀ {l m : List Nat} {i : Nat}, All2 R l m → i < l.length → R (l.getD i 0) (m.getD i 0)
  | [], [], _, _, h => by simp at h
  | _ :: _, _ :: _, 0, h, _ => h.1
  | _ :: l, _ :: m, i + 1, h, h2 => by
    have := h.2.get (i := i) (by simpa using h2)
    simpa using this
  | [], _ :: _, _, h, _ => h.elim
  | _ :: _, [], _, h, _ => h.elim
theorem All2.idx {p p' : Nat → Bool} (hp : ∀ a c, R a c → p a = p' c) : ∀ {l m : List Nat}, All2 R l m → l.findIdx p = m.findIdx p'
  | [], [], _ => rfl
  | a :: l, c :: m, h => by rw [List.findIdx_cons, List.findIdx_cons, hp a c h.1, h.2.idx hp]
  | [], _ :: _, h => h.elim
  | _ :: _, [], h => h.elim
theorem All2.of_map {α : Type} {f g : α → Nat} : ∀ (l : List α), (∀ x ∈ l, R (f x) (g x)) → All2 R (l.map f) (l.map g)
  | [], _ => trivial
  | x :: l, h => ⟨h x (by simp), All2.of_map l (fun y hy => h y (by simp [hy]))⟩
variable {q q' : Nat → Nat → Bool} {nx nx' : Nat → List Nat} {st st' : Nat} {out out' : Nat → UInt8}
theorem gAdd_sim (hq : ∀ s s' t t', R s s' → R t t' → q s t = q' s' t') {S S' : List Nat} {y y' : Nat} (h : All2 R S S') (hy : R y y') : gIdx q S y = gIdx q' S' y' ∧ All2 R (gAdd q S y) (gAdd q' S' y') := by
  have h1 : gIdx q S y = gIdx q' S' y' := h.idx (fun a c hac => hq a c y y' hac hy)
  refine ⟨h1, ?_⟩
  unfold gAdd
  rw [h1, h.len]
  split
  · exact h
  · exact h.snoc hy
theorem gAdds_sim (hq : ∀ s s' t t', R s s' → R t t' → q s t = q' s' t') : ∀ {ys ys' : List Nat} {S S' : List Nat}, All2 R ys ys' → All2 R S S' → gRowS q S ys = gRowS q' S' ys' ∧ All2 R (gAdds q S ys) (gAdds q' S' ys')
  | [], [], _, _, _, h => ⟨rfl, h⟩
  | y :: ys, y' :: ys', S, S', hy, h => by
    obtain ⟨h1, h2⟩ := gAdd_sim hq h hy.1
    obtain ⟨h3, h4⟩ := gAdds_sim hq hy.2 h2
    exact ⟨by unfold gRowS; rw [h1, h3], h4⟩
  | [], _ :: _, _, _, h, _ => h.elim
  | _ :: _, [], _, _, h, _ => h.elim
theorem g_sim (hq : ∀ s s' t t', R s s' → R t t' → q s t = q' s' t') (hn : ∀ s s', R s s' → All2 R (nx s) (nx' s')) (h0 : R st st') (ho : ∀ s s', R s s' → out s = out' s') :
    ∀ i, All2 R (gAt q nx st i) (gAt q' nx' st' i) ∧ gRows q nx st i = gRows q' nx' st' i ∧ gOuts q nx st out i = gOuts q' nx' st' out' i
  | 0 => ⟨⟨h0, trivial⟩, rfl, rfl⟩
  | i + 1 => by
    obtain ⟨h1, h2, h3⟩ := g_sim hq hn h0 ho i
    have hl := h1.len
    by_cases hc : i < (gAt q nx st i).length
    · have hc' : i < (gAt q' nx' st' i).length := by rw [← hl]; exact hc
      have hr := h1.get hc
      obtain ⟨h4, h5⟩ := gAdds_sim hq (hn _ _ hr) h1
      refine ⟨?_, ?_, ?_⟩
      · show All2 R (if i < (gAt q nx st i).length then gAdds q (gAt q nx st i) (nx ((gAt q nx st i).getD i 0)) else gAt q nx st i) (if i < (gAt q' nx' st' i).length then gAdds q' (gAt q' nx' st' i) (nx' ((gAt q' nx' st' i).getD i 0)) else gAt q' nx' st' i)
        rw [if_pos hc, if_pos hc']; exact h5
      · show (if i < (gAt q nx st i).length then gRows q nx st i ++ [gRowS q (gAt q nx st i) (nx ((gAt q nx st i).getD i 0))] else gRows q nx st i) = (if i < (gAt q' nx' st' i).length then gRows q' nx' st' i ++ [gRowS q' (gAt q' nx' st' i) (nx' ((gAt q' nx' st' i).getD i 0))] else gRows q' nx' st' i)
        rw [if_pos hc, if_pos hc', h2, h4]
      · show (if i < (gAt q nx st i).length then gOuts q nx st out i ++ [out ((gAt q nx st i).getD i 0)] else gOuts q nx st out i) = (if i < (gAt q' nx' st' i).length then gOuts q' nx' st' out' i ++ [out' ((gAt q' nx' st' i).getD i 0)] else gOuts q' nx' st' out' i)
        rw [if_pos hc, if_pos hc', h3, ho _ _ hr]
    · have hc' : ¬ i < (gAt q' nx' st' i).length := by rw [← hl]; exact hc
      refine ⟨?_, ?_, ?_⟩
      · show All2 R (if i < (gAt q nx st i).length then gAdds q (gAt q nx st i) (nx ((gAt q nx st i).getD i 0)) else gAt q nx st i) (if i < (gAt q' nx' st' i).length then gAdds q' (gAt q' nx' st' i) (nx' ((gAt q' nx' st' i).getD i 0)) else gAt q' nx' st' i)
        rw [if_neg hc, if_neg hc']; exact h1
      · show (if i < (gAt q nx st i).length then gRows q nx st i ++ [gRowS q (gAt q nx st i) (nx ((gAt q nx st i).getD i 0))] else gRows q nx st i) = (if i < (gAt q' nx' st' i).length then gRows q' nx' st' i ++ [gRowS q' (gAt q' nx' st' i) (nx' ((gAt q' nx' st' i).getD i 0))] else gRows q' nx' st' i)
        rw [if_neg hc, if_neg hc', h2]
      · show (if i < (gAt q nx st i).length then gOuts q nx st out i ++ [out ((gAt q nx st i).getD i 0)] else gOuts q nx st out i) = (if i < (gAt q' nx' st' i).length then gOuts q' nx' st' out' i ++ [out' ((gAt q' nx' st' i).getD i 0)] else gOuts q' nx' st' out' i)
        rw [if_neg hc, if_neg hc', h3]
end
end
end Go.Proofs.YtcicoplmpinnmaaDoor
