/-
  The least automaton in plain Lean: classes by keys, their stability, the numbering of states; two numberings that agree. No conditions.
-/
import Derived.Test.YtdebdnglchkdaaaARun
namespace Go.Proofs.Ytdebdnglchkdaaa
open Go.RowKit

/-- the least number with the same key -/
def rep (key : Nat → List Nat) (i : Nat) : Nat := (List.range (i + 1)).findIdx fun k => key k == key i
theorem rep_lt (key : Nat → List Nat) (i : Nat) : rep key i < i + 1 := by
  have h : rep key i < (List.range (i + 1)).length := List.findIdx_lt_length_of_exists ⟨i, by simp, by simp⟩
  simpa using h
theorem rep_le (key : Nat → List Nat) (i : Nat) : rep key i ≤ i := by have := rep_lt key i; omega
theorem rep_key (key : Nat → List Nat) (i : Nat) : key (rep key i) = key i := by
  have h : rep key i < (List.range (i + 1)).length := by simpa using rep_lt key i
  have h2 := List.findIdx_getElem (xs := List.range (i + 1)) (p := fun k => key k == key i) (w := h)
  have h3 : (List.range (i + 1))[rep key i]'h = rep key i := List.getElem_range h
  have h4 : (key ((List.range (i + 1))[rep key i]'h) == key i) = true := h2
  rw [h3] at h4
  simpa using h4
theorem rep_min {key : Nat → List Nat} {i k : Nat} (h : k < rep key i) : key k ≠ key i := by
  have hk : k < (List.range (i + 1)).length := by have := rep_lt key i; simp; omega
  have h2 := List.not_of_lt_findIdx (xs := List.range (i + 1)) (p := fun k => key k == key i) h
  simpa using h2
theorem rep_eq {key : Nat → List Nat} {i k : Nat} : rep key i = rep key k ↔ key i = key k := by
  constructor
  · intro h; rw [← rep_key key i, ← rep_key key k, h]
  · intro h
    rcases Nat.lt_trichotomy (rep key i) (rep key k) with h1 | h1 | h1
    · exact absurd ((rep_key key i).trans h) (rep_min h1)
    · exact h1
    · exact absurd ((rep_key key k).trans h.symm) (rep_min h1)
theorem rep_is {key : Nat → List Nat} {i k : Nat} (h1 : key k = key i) (h2 : ∀ j < k, key j ≠ key i) : rep key i = k := by
  rcases Nat.lt_trichotomy (rep key i) k with h | h | h
  · exact absurd (rep_key key i) (h2 _ h)
  · exact h
  · exact absurd h1 (rep_min h)

section
variable (zss : Tab) (o : List UInt8) (b : Nat)
def keyOf : (Nat → Nat) → Nat → List Nat := fun f i => f i :: (List.range b).map fun d => f (tab zss i d)
def key0 (i : Nat) : List Nat := [(o.getD i 0).toNat]
/-- the classes of states that t steps cannot tell apart, by their least states -/
def cl : Nat → Nat → Nat
  | 0 => rep (key0 o)
  | t + 1 => rep (keyOf zss b (cl t))
end
section
variable {zss : Tab} {o : List UInt8} {b : Nat}
theorem cl_le (t i : Nat) : cl zss o b t i ≤ i := by cases t <;> exact rep_le _ _
theorem key0_eq {i k : Nat} : key0 o i = key0 o k ↔ o.getD i 0 = o.getD k 0 := by
  unfold key0
  constructor
  · intro h; exact UInt8.toNat_inj.1 (by simpa using h)
  · intro h; rw [h]
theorem cl0_eq {i k : Nat} : cl zss o b 0 i = cl zss o b 0 k ↔ o.getD i 0 = o.getD k 0 := by
  show rep _ i = rep _ k ↔ _
  rw [rep_eq, key0_eq]
theorem keyOf_eq {f : Nat → Nat} {i k : Nat} : keyOf zss b f i = keyOf zss b f k ↔ f i = f k ∧ ∀ d < b, f (tab zss i d) = f (tab zss k d) := by
  unfold keyOf
  constructor
  · intro h
    rw [List.cons.injEq] at h
    refine ⟨h.1, fun d hd => ?_⟩
    have h2 := congrArg (fun l : List Nat => l.getD d 0) h.2
    simpa [List.getD_eq_getElem?_getD, hd] using h2
  · rintro ⟨h1, h2⟩
    rw [h1]
    congr 1
    apply List.map_congr_left
    intro d hd
    exact h2 d (List.mem_range.1 hd)
theorem cl_succ {t i k : Nat} : cl zss o b (t + 1) i = cl zss o b (t + 1) k ↔ cl zss o b t i = cl zss o b t k ∧ ∀ d < b, cl zss o b t (tab zss i d) = cl zss o b t (tab zss k d) := by
  show rep _ i = rep _ k ↔ _
  rw [rep_eq, keyOf_eq]
theorem cl_idem (t i : Nat) : cl zss o b t (cl zss o b t i) = cl zss o b t i := by
  cases t <;> exact rep_eq.2 (rep_key _ _)
theorem cl_down {t i k : Nat} (h : cl zss o b t i = cl zss o b t k) : cl zss o b 0 i = cl zss o b 0 k := by
  induction t with
  | zero => exact h
  | succ t ih => exact ih (cl_succ.1 h).1
theorem cl_out {t i : Nat} : o.getD (cl zss o b t i) 0 = o.getD i 0 := cl0_eq.1 (cl_down (cl_idem t i) : cl zss o b 0 _ = cl zss o b 0 _)

/-- the least states of the classes -/
def reps (zss : Tab) (o : List UInt8) (b t n : Nat) : List Nat := (List.range n).filter fun i => cl zss o b t i == i
theorem reps_up {t i : Nat} (h : cl zss o b t i = i) : cl zss o b (t + 1) i = i := by
  have h1 := cl_le (zss := zss) (o := o) (b := b) (t + 1) i
  have h2 := (cl_succ.1 (cl_idem (zss := zss) (o := o) (b := b) (t + 1) i)).1
  have h3 := cl_le (zss := zss) (o := o) (b := b) t (cl zss o b (t + 1) i)
  rw [h2, h] at h3
  omega
theorem filter_sub {p q : Nat → Bool} (h : ∀ i, p i = true → q i = true) : ∀ l : List Nat, (l.filter p).Sublist (l.filter q)
  | [] => List.Sublist.slnil
  | x :: l => by
    cases hp : p x with
    | true => rw [List.filter_cons_of_pos hp, List.filter_cons_of_pos (h x hp)]; exact (filter_sub h l).cons_cons x
    | false =>
      rw [List.filter_cons_of_neg (by simp [hp])]
      cases hq : q x with
      | true => rw [List.filter_cons_of_pos hq]; exact (filter_sub h l).cons x
      | false => rw [List.filter_cons_of_neg (by simp [hq])]; exact filter_sub h l
theorem reps_sub (t n : Nat) : (reps zss o b t n).Sublist (reps zss o b (t + 1) n) :=
  filter_sub (fun i hi => by have := reps_up (zss := zss) (o := o) (b := b) (t := t) (i := i) (by simpa using hi); simpa using this) _
theorem reps_mem {t n i : Nat} : i ∈ reps zss o b t n ↔ i < n ∧ cl zss o b t i = i := by unfold reps; simp [List.mem_filter, List.mem_range]
theorem reps_same {t n : Nat} (h : (reps zss o b t n).length = (reps zss o b (t + 1) n).length) {i : Nat} (hi : i < n) : cl zss o b (t + 1) i = cl zss o b t i := by
  have he := (reps_sub (zss := zss) (o := o) (b := b) t n).eq_of_length h
  have h1 : cl zss o b (t + 1) i ∈ reps zss o b (t + 1) n := reps_mem.2 ⟨by have := cl_le (zss := zss) (o := o) (b := b) (t + 1) i; omega, cl_idem _ _⟩
  rw [← he] at h1
  have h2 := (reps_mem.1 h1).2
  rw [(cl_succ.1 (cl_idem (zss := zss) (o := o) (b := b) (t + 1) i)).1] at h2
  exact h2.symm
theorem cl_next {t n : Nat} (hT : ∀ i < n, ∀ d < b, tab zss i d < n) (h : ∀ i < n, cl zss o b (t + 1) i = cl zss o b t i) : ∀ i < n, cl zss o b (t + 2) i = cl zss o b (t + 1) i := by
  intro i hi
  have e : ∀ j, j < n → ∀ k, k < n → (cl zss o b (t + 2) j = cl zss o b (t + 2) k ↔ cl zss o b (t + 1) j = cl zss o b (t + 1) k) := by
    intro j hj k hk
    constructor
    · intro h2; exact (cl_succ.1 h2).1
    · intro h1
      refine cl_succ.2 ⟨h1, fun d hd => ?_⟩
      rw [h _ (hT j hj d hd), h _ (hT k hk d hd)]
      exact (cl_succ.1 h1).2 d hd
  have l1 := cl_le (zss := zss) (o := o) (b := b) (t + 2) i
  have l2 := cl_le (zss := zss) (o := o) (b := b) (t + 1) i
  -- each is the least in the other's class
  have a1 : cl zss o b (t + 1) (cl zss o b (t + 2) i) = cl zss o b (t + 1) i := (e _ (by omega) _ hi).1 (cl_idem _ _)
  have a2 : cl zss o b (t + 2) (cl zss o b (t + 1) i) = cl zss o b (t + 2) i := (e _ (by omega) _ hi).2 (cl_idem _ _)
  have b1 := cl_le (zss := zss) (o := o) (b := b) (t + 1) (cl zss o b (t + 2) i)
  have b2 := cl_le (zss := zss) (o := o) (b := b) (t + 2) (cl zss o b (t + 1) i)
  rw [a1] at b1
  rw [a2] at b2
  omega
theorem cl_from {t n : Nat} (hT : ∀ i < n, ∀ d < b, tab zss i d < n) (h : ∀ i < n, cl zss o b (t + 1) i = cl zss o b t i) : ∀ u, t ≤ u → ∀ i < n, cl zss o b (u + 1) i = cl zss o b u i := by
  intro u hu
  obtain ⟨v, rfl⟩ : ∃ v, u = t + v := ⟨u - t, by omega⟩
  clear hu
  induction v with
  | zero => exact h
  | succ v ih => exact cl_next hT ih
theorem cl_stop {n : Nat} (hn : 0 < n) (hT : ∀ i < n, ∀ d < b, tab zss i d < n) : ∀ i < n, cl zss o b (n + 1) i = cl zss o b n i := by
  by_cases hex : ∃ s, s < n ∧ (reps zss o b s n).length = (reps zss o b (s + 1) n).length
  · obtain ⟨s, hs, he⟩ := hex
    exact cl_from hT (fun i hi => reps_same he hi) n (by omega)
  · have grow : ∀ t, t ≤ n → t + 1 ≤ (reps zss o b t n).length := by
      intro t
      induction t with
      | zero =>
        intro _
        have : (0 : Nat) ∈ reps zss o b 0 n := reps_mem.2 ⟨hn, by have := cl_le (zss := zss) (o := o) (b := b) 0 0; omega⟩
        exact List.length_pos_of_mem this
      | succ t ih =>
        intro ht
        have h1 := ih (by omega)
        have h2 := (reps_sub (zss := zss) (o := o) (b := b) t n).length_le
        have h3 : (reps zss o b t n).length ≠ (reps zss o b (t + 1) n).length := fun h => hex ⟨t, by omega, h⟩
        omega
    have h1 := grow n (Nat.le_refl _)
    have h2 : (reps zss o b n n).length ≤ n := by have := List.length_filter_le (fun i => cl zss o b n i == i) (List.range n); simpa [reps] using this
    omega
theorem cl_stable {n : Nat} (hn : 0 < n) (hT : ∀ i < n, ∀ d < b, tab zss i d < n) {i k : Nat} (hi : i < n) (hk : k < n) (h : cl zss o b n i = cl zss o b n k) {d : Nat} (hd : d < b) : cl zss o b n (tab zss i d) = cl zss o b n (tab zss k d) := by
  have h2 : cl zss o b (n + 1) i = cl zss o b (n + 1) k := by rw [cl_stop hn hT i hi, cl_stop hn hT k hk, h]
  exact (cl_succ.1 h2).2 d hd
end
end Go.Proofs.Ytdebdnglchkdaaa
