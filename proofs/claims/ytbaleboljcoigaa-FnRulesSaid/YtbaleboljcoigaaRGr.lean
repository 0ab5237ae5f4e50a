/-
  Plain facts: the patches that obey, listed; a patch obeys when its flip obeys the flipped rules. No conditions.
-/
import Derived.Test.YtbaleboljcoigaaRCan
import Derived.Test.YtbaleboljcoigaaRFos
import Derived.Test.YtbaleboljcoigaaBFlip
namespace Go.Proofs.Ytbaleboljcoigaa
open Go.RowKit

/-! ## lists without a repeat -/
theorem nodup_leR {α : Type} [DecidableEq α] : ∀ {a b : List α}, a.Nodup → (∀ x ∈ a, x ∈ b) → a.length ≤ b.length
  | [], _, _, _ => Nat.zero_le _
  | x :: a, b, ha, h => by
    obtain ⟨h1, h2⟩ := List.nodup_cons.1 ha
    have hx := h x (by simp)
    have h3 := nodup_leR (a := a) (b := b.erase x) h2 (fun y hy => (List.mem_erase_of_ne (fun he => h1 (by rw [← he]; exact hy))).2 (h y (by simp [hy])))
    rw [List.length_erase_of_mem hx] at h3
    have h4 : 0 < b.length := List.length_pos_of_mem hx
    rw [List.length_cons]; omega
theorem inj_le {α β : Type} [DecidableEq β] (f : α → β) {a : List α} {b : List β} (ha : a.Nodup) (ht : ∀ x ∈ a, f x ∈ b) (hi : ∀ x ∈ a, ∀ y ∈ a, f x = f y → x = y) : a.length ≤ b.length := by
  have h1 : (a.map f).Nodup := by
    unfold List.Nodup
    rw [List.pairwise_map]
    exact List.Pairwise.imp_of_mem (fun {x y} hx hy hne he => hne (hi x hx y hy he)) ha
  have h2 := nodup_leR h1 (b := b) (fun y hy => by obtain ⟨x, hx, rfl⟩ := List.mem_map.1 hy; exact ht x hx)
  rwa [List.length_map] at h2

/-! ## flips -/
def RectR (m : Nat) (p : Pch) : Prop := ∀ r ∈ p, r.length = m
theorem rectR_wd {m : Nat} {p : Pch} (h : RectR m p) (h0 : 0 < p.length) : wd p = m := by rw [wd_zero h0]; exact h _ (List.getElem_mem h0)
theorem colR_at {p : Pch} {x y : Nat} (hy : y < p.length) : (colOf p x).getD y 0 = (p[y]).getD x 0 := by
  rw [getD_at (by rw [colOf_len]; exact hy)]
  simp [colOf]
theorem flipR_rows {p : Pch} : RectR p.length (flipP p) := fun r hr => by
  obtain ⟨i, _, rfl⟩ := List.mem_map.1 hr
  exact colOf_len p i
theorem flip_flipR {m : Nat} {p : Pch} (hm : 0 < m) (h : RectR m p) (h0 : 0 < p.length) : flipP (flipP p) = p := by
  have hw := rectR_wd h h0
  have hl : (flipP p).length = m := by rw [flipP_len, hw]
  have hw2 : wd (flipP p) = p.length := rectR_wd flipR_rows (by omega)
  apply List.ext_getElem
  · rw [flipP_len, hw2]
  · intro y h1 h2
    have hpy : (p[y]).length = m := h _ (List.getElem_mem h2)
    have e1 : (flipP (flipP p))[y] = colOf (flipP p) y := by simp [flipP]
    rw [e1]
    apply List.ext_getElem
    · rw [colOf_len, hl, hpy]
    · intro x h3 h4
      have hx : x < (flipP p).length := by rw [hl]; omega
      have e2 : (colOf (flipP p) y)[x] = (colOf (flipP p) y).getD x 0 := (getD_at h3).symm
      rw [e2, colR_at hx]
      have e3 : (flipP p)[x] = colOf p x := by simp [flipP]
      rw [e3, colR_at h2, getD_at h4]
theorem pOk_rectR {p : Pch} (h : pOk p = true) : RectR (wd p) p := fun r hr => (pOk_row h hr).2.1
theorem pOk_ofR {p : Pch} {m : Nat} (h1 : 1 ≤ p.length) (h2 : p.length ≤ 32) (h3 : 1 ≤ m) (h4 : m ≤ 32) (hm : RectR m p) (hl : ∀ r ∈ p, r.all isLet = true) : pOk p = true := by
  unfold pOk
  rw [wi_mk (by omega) (by omega), Bool.and_true, List.all_eq_true]
  intro r hr
  refine rowOk_mk ?_ (wi_mk (by have := hm r hr; omega) (by have := hm r hr; omega)) (by rw [rectR_wd hm (by omega)]; exact hm r hr)
  unfold isW
  rw [hl r hr]
  have := hm r hr
  simp; omega
theorem pOk_flipR {p : Pch} (h : pOk p = true) : pOk (flipP p) = true := by
  have h1 := pOk_len h
  have h2 := pOk_wd h
  refine pOk_ofR (m := p.length) (by rw [flipP_len]; omega) (by rw [flipP_len]; omega) h1.1 h1.2 flipR_rows fun r hr => ?_
  obtain ⟨i, hi, rfl⟩ := List.mem_map.1 hr
  have hi2 : i < wd p := by simpa using hi
  refine List.all_eq_true.2 fun c hc => ?_
  obtain ⟨r, hr, rfl⟩ := List.mem_map.1 hc
  have h3 := pOk_row h hr
  rw [getD_at (by rw [h3.2.1]; exact hi2)]
  exact List.all_eq_true.1 (isW_all h3.1) _ (List.getElem_mem _)
theorem flip_wdR {p : Pch} (h : pOk p = true) : wd (flipP p) = p.length := rectR_wd flipR_rows (by rw [flipP_len]; have := pOk_wd h; omega)
theorem flip2R {p : Pch} (h : pOk p = true) : flipP (flipP p) = p := flip_flipR (by have := pOk_wd h; omega) (pOk_rectR h) (by have := pOk_len h; omega)

/-! ## pairs that are allowed -/
theorem outside_zero {ws row : Pch} : outside ws row = 0 ↔ ∀ x ∈ ws, x ∈ row := by
  unfold outside
  rw [List.length_eq_zero_iff, List.filter_eq_nil_iff]
  simp
theorem two_at {r : List UInt8} {i : Nat} (h : i + 1 < r.length) : (r.take (i + 1 + 1)).drop i = [r.getD i 0, r.getD (i + 1) 0] := by
  rw [take_snoc r (i + 1) h, take_snoc r i (by omega), getD_at h, getD_at (show i < r.length by omega), List.append_assoc, List.drop_append_of_le_length (by rw [List.length_take]; omega), List.drop_of_length_le (by rw [List.length_take]; omega)]
  rfl
theorem mem_prs {r x : List UInt8} : x ∈ prs r (r.length - 1) ↔ ∃ i, i + 1 < r.length ∧ x = [r.getD i 0, r.getD (i + 1) 0] := by
  unfold prs
  rw [List.mem_map]
  constructor
  · rintro ⟨i, hi, rfl⟩
    have hi2 : i < r.length - 1 := by simpa using hi
    exact ⟨i, by omega, two_at (by omega)⟩
  · rintro ⟨i, hi, rfl⟩
    exact ⟨i, List.mem_range.2 (by omega), two_at hi⟩
theorem mem_pairsL {p : Pch} {x : List UInt8} : x ∈ pairsL p ↔ ∃ r ∈ p, x ∈ prs r (r.length - 1) := List.mem_flatMap
theorem ok1_iff {row : Pch} {s : List UInt8} : ok1 row s = true ↔ ∀ i, i + 1 < s.length → [s.getD i 0, s.getD (i + 1) 0] ∈ row := by
  unfold ok1
  rw [decide_eq_true_eq, outside_zero]
  have h1 : pairsL [s] = prs s (s.length - 1) := by simp [pairsL]
  rw [h1]
  constructor
  · intro h i hi
    exact h _ (mem_prs.2 ⟨i, hi, rfl⟩)
  · intro h x hx
    obtain ⟨i, hi, rfl⟩ := mem_prs.1 hx
    exact h i hi
theorem out_rows {p row : Pch} : outside (pairsL p) row = 0 ↔ ∀ r ∈ p, ok1 row r = true := by
  rw [outside_zero]
  constructor
  · intro h r hr
    rw [ok1_iff]
    intro i hi
    exact h _ (mem_pairsL.2 ⟨r, hr, mem_prs.2 ⟨i, hi, rfl⟩⟩)
  · intro h x hx
    obtain ⟨r, hr, hx⟩ := mem_pairsL.1 hx
    obtain ⟨i, hi, rfl⟩ := mem_prs.1 hx
    exact ok1_iff.1 (h r hr) i hi
theorem stand_iff {col : Pch} {u t : List UInt8} : stand col u t = true ↔ ∀ i, i < u.length → [u.getD i 0, t.getD i 0] ∈ col := by
  unfold stand
  rw [List.all_eq_true]
  simp [pairAt]

/-! ## chains of rows -/
def chain (col : Pch) : Pch → Prop
  | [] => True
  | [_] => True
  | u :: t :: r => stand col u t = true ∧ chain col (t :: r)
theorem chain_at {col : Pch} : ∀ {p : Pch}, chain col p ↔ ∀ y, y + 1 < p.length → stand col (p.getD y []) (p.getD (y + 1) []) = true
  | [] => by simp [chain]
  | [u] => by simp [chain]
  | u :: t :: r => by
    show stand col u t = true ∧ chain col (t :: r) ↔ _
    rw [chain_at (p := t :: r)]
    constructor
    · rintro ⟨h1, h2⟩ y hy
      cases y with
      | zero => exact h1
      | succ y => exact h2 y (by simpa using hy)
    · intro h
      exact ⟨h 0 (by simp), fun y hy => h (y + 1) (by simpa using hy)⟩
theorem chain_flip {d p : Pch} (hr : RectR (wd p) p) : chain d p ↔ ∀ r ∈ flipP p, ok1 d r = true := by
  rw [chain_at]
  constructor
  · intro h r hr2
    obtain ⟨x, hx, rfl⟩ := List.mem_map.1 hr2
    have hx2 : x < wd p := by simpa using hx
    rw [ok1_iff]
    intro y hy
    rw [colOf_len] at hy
    rw [colR_at hy, colR_at (by omega : y < p.length)]
    have h2 := stand_iff.1 (h y hy) x (by rw [getD_at (by omega : y < p.length), hr _ (List.getElem_mem _)]; exact hx2)
    rwa [getD_at (by omega : y < p.length), getD_at hy] at h2
  · intro h y hy
    rw [stand_iff, getD_at (by omega : y < p.length), getD_at hy]
    intro x hx
    rw [hr _ (List.getElem_mem _)] at hx
    have h2 := ok1_iff.1 (h (colOf p x) (List.mem_map.2 ⟨x, List.mem_range.2 hx, rfl⟩)) y (by rw [colOf_len]; exact hy)
    rwa [colR_at hy, colR_at (by omega : y < p.length)] at h2

/-! ## the patches of n + 1 rows, listed -/
def gof (col rows : Pch) : Nat → List UInt8 → List Pch
  | 0, u => [[u]]
  | n + 1, u => (rows.filter (stand col u)).flatMap fun t => (gof col rows n t).map (u :: ·)
def grids (col rows : Pch) (n : Nat) : List Pch := rows.flatMap (gof col rows n)
theorem gof_len (col rows : Pch) : ∀ (n i : Nat) (hi : i < rows.length), (((gof col rows n rows[i]).length : Nat) : Int) = (lev col rows n).getD i 0
  | 0, i, hi => by rw [lev_get0 hi]; simp [gof]
  | n + 1, i, hi => by
    have key : ∀ k, k ≤ rows.length → ((((rows.take k).filter (stand col rows[i])).flatMap fun t => (gof col rows n t).map (rows[i] :: ·)).length : Int) = entK col rows (lev col rows n) rows[i] k := by
      intro k
      induction k with
      | zero => intro _; simp [entK]
      | succ k ih =>
        intro hk
        have hk2 : k < rows.length := by omega
        rw [take_snoc rows k hk2, List.filter_append, List.flatMap_append, List.length_append]
        by_cases hs : stand col rows[i] rows[k] = true
        · rw [entK_yes hk2 hs, ← ih (by omega), ← gof_len col rows n k hk2]
          simp [hs]
        · rw [entK_no hk2 (Bool.eq_false_iff.2 hs), ← ih (by omega)]
          simp [hs]
    rw [lev_get hi, ← key _ (Nat.le_refl _), List.take_of_length_le (Nat.le_refl _)]
    rfl
theorem grids_len (col rows : Pch) (n : Nat) : (((grids col rows n).length : Nat) : Int) = (lev col rows n).sum := by
  have key : ∀ k, k ≤ rows.length → (((rows.take k).flatMap (gof col rows n)).length : Int) = ((lev col rows n).take k).sum := by
    intro k
    induction k with
    | zero => intro _; simp
    | succ k ih =>
      intro hk
      have hk2 : k < rows.length := by omega
      rw [take_snoc rows k hk2, List.flatMap_append, List.length_append, sum_take_succ (by rw [lev_len]; exact hk2), ← ih (by omega), ← gof_len col rows n k hk2]
      simp
  have h := key _ (Nat.le_refl _)
  rw [List.take_of_length_le (Nat.le_refl _), sum_take_all (by rw [lev_len]; exact Nat.le_refl _)] at h
  exact h
theorem mem_gof {col rows : Pch} : ∀ {n : Nat} {u : List UInt8} {p : Pch}, p ∈ gof col rows n u ↔ ∃ q, p = u :: q ∧ q.length = n ∧ (∀ r ∈ q, r ∈ rows) ∧ chain col (u :: q)
  | 0, u, p => by
    simp only [gof, List.mem_singleton]
    constructor
    · rintro rfl; exact ⟨[], rfl, rfl, by simp, trivial⟩
    · rintro ⟨q, rfl, hq, _⟩
      rw [List.length_eq_zero_iff.1 hq]
  | n + 1, u, p => by
    simp only [gof, List.mem_flatMap, List.mem_filter, List.mem_map]
    constructor
    · rintro ⟨t, ⟨ht, hs⟩, p', hp', rfl⟩
      obtain ⟨q, rfl, h1, h2, h3⟩ := mem_gof.1 hp'
      refine ⟨t :: q, rfl, by simp [h1], fun r hr => ?_, hs, h3⟩
      rcases List.mem_cons.1 hr with rfl | hr
      · exact ht
      · exact h2 r hr
    · rintro ⟨q, rfl, h1, h2, h3⟩
      cases q with
      | nil => simp at h1
      | cons t q =>
        refine ⟨t, ⟨h2 t (by simp), h3.1⟩, t :: q, mem_gof.2 ⟨q, rfl, by simpa using h1, fun r hr => h2 r (by simp [hr]), h3.2⟩, rfl⟩
theorem mem_grids {col rows : Pch} {n : Nat} {p : Pch} : p ∈ grids col rows n ↔ p.length = n + 1 ∧ (∀ r ∈ p, r ∈ rows) ∧ chain col p := by
  unfold grids
  rw [List.mem_flatMap]
  constructor
  · rintro ⟨u, hu, hp⟩
    obtain ⟨q, rfl, h1, h2, h3⟩ := mem_gof.1 hp
    refine ⟨by simp [h1], fun r hr => ?_, h3⟩
    rcases List.mem_cons.1 hr with rfl | hr
    · exact hu
    · exact h2 r hr
  · rintro ⟨h1, h2, h3⟩
    cases p with
    | nil => simp at h1
    | cons u q => exact ⟨u, h2 u (by simp), mem_gof.2 ⟨q, rfl, by simpa using h1, fun r hr => h2 r (by simp [hr]), h3⟩⟩
theorem gof_nodup {col rows : Pch} (hn : rows.Nodup) : ∀ (n : Nat) (u : List UInt8), (gof col rows n u).Nodup
  | 0, u => by simp [gof]
  | n + 1, u => by
    unfold gof List.Nodup
    rw [List.pairwise_flatMap]
    refine ⟨fun t _ => ?_, ?_⟩
    · rw [List.pairwise_map]
      exact (gof_nodup hn n t).imp fun {a b} hne he => hne (by injection he)
    · refine (List.Pairwise.filter _ hn).imp fun {t t'} hne x hx y hy he => ?_
      obtain ⟨x', hx', rfl⟩ := List.mem_map.1 hx
      obtain ⟨y', hy', rfl⟩ := List.mem_map.1 hy
      obtain ⟨q, rfl, _⟩ := mem_gof.1 hx'
      obtain ⟨q', rfl, _⟩ := mem_gof.1 hy'
      simp only [List.cons.injEq, true_and] at he
      exact hne he.1
theorem grids_nodup {col rows : Pch} (hn : rows.Nodup) (n : Nat) : (grids col rows n).Nodup := by
  unfold grids List.Nodup
  rw [List.pairwise_flatMap]
  refine ⟨fun t _ => gof_nodup hn n t, hn.imp fun {t t'} hne x hx y hy he => ?_⟩
  obtain ⟨q, rfl, _⟩ := mem_gof.1 hx
  obtain ⟨q', rfl, _⟩ := mem_gof.1 hy
  simp only [List.cons.injEq] at he
  exact hne he.1

/-! ## the rows of w letters -/
theorem allW_srt : ∀ {n : Nat}, n ≤ 3 → Srt (allW n)
  | 0, _ => by unfold Srt; decide +kernel
  | 1, _ => by unfold Srt; decide +kernel
  | 2, _ => by unfold Srt; decide +kernel
  | 3, _ => by unfold Srt; decide +kernel
theorem rowsN_srt (c : Pch) {n : Nat} (h : n ≤ 3) : Srt (rowsN c n) := by
  rw [rowsN_all]; exact List.Pairwise.filter _ (allW_srt h)
theorem srt_nodupR {l : Pch} (h : Srt l) : l.Nodup := List.Pairwise.imp (fun {_ _} h => lt_neq h) h
theorem let_four {c : UInt8} (h : isLet c = true) : ∃ i, i < 4 ∧ c = UInt8.ofNat (97 + i) := by
  simp only [isLet, decide_eq_true_eq] at h
  refine ⟨c.toNat - 97, by omega, ?_⟩
  rw [show 97 + (c.toNat - 97) = c.toNat by omega]; simp
theorem mem_allW : ∀ {n : Nat} {s : List UInt8}, s.length = n → s.all isLet = true → s ∈ allW n
  | 0, s, h, _ => by rw [List.length_eq_zero_iff.1 h]; simp [allW]
  | n + 1, s, h, hl => by
    have h1 : s = s.take n ++ [s[n]] := by rw [← take_snoc s n (by omega), List.take_of_length_le (by omega)]
    have h2 := List.all_eq_true.1 hl
    obtain ⟨i, hi, hc⟩ := let_four (h2 _ (List.getElem_mem (by omega : n < s.length)))
    rw [h1, hc]
    refine List.mem_flatMap.2 ⟨s.take n, mem_allW (by rw [List.length_take]; omega) (List.all_eq_true.2 fun c hc => h2 c (List.mem_of_mem_take hc)), List.mem_map.2 ⟨i, List.mem_range.2 hi, rfl⟩⟩
theorem mem_rowsN {c : Pch} {n : Nat} {s : List UInt8} : s ∈ rowsN c n ↔ s.length = n ∧ s.all isLet = true ∧ ok1 c s = true := by
  rw [rowsN_all, List.mem_filter]
  constructor
  · rintro ⟨h1, h2⟩; exact ⟨(allW_row h1).1, (allW_row h1).2, h2⟩
  · rintro ⟨h1, h2, h3⟩; exact ⟨mem_allW h1 h2, h3⟩
/-- the patches of w times h letters that obey -/
theorem grid_iff {c d : Pch} {w h : Nat} (hw : 1 ≤ w) (hw3 : w ≤ 3) (hh : 1 ≤ h) (hh3 : h ≤ 32) {p : Pch} :
    p ∈ grids d (rowsN c w) (h - 1) ↔ pOk p = true ∧ wd p = w ∧ p.length = h ∧ (∀ r ∈ p, ok1 c r = true) ∧ ∀ r ∈ flipP p, ok1 d r = true := by
  rw [mem_grids]
  constructor
  · rintro ⟨h1, h2, h3⟩
    have hr : RectR w p := fun r hr => (mem_rowsN.1 (h2 r hr)).1
    have hwd : wd p = w := rectR_wd hr (by omega)
    refine ⟨pOk_ofR (by omega) (by omega) hw (by omega) hr (fun r hr => (mem_rowsN.1 (h2 r hr)).2.1), hwd, by omega, fun r hr => (mem_rowsN.1 (h2 r hr)).2.2, (chain_flip (by rw [hwd]; exact hr)).1 h3⟩
  · rintro ⟨h1, h2, h3, h4, h5⟩
    have hr := pOk_rectR h1
    exact ⟨by omega, fun r hr => mem_rowsN.2 ⟨by rw [← h2]; exact (pOk_row h1 hr).2.1, isW_all (pOk_row h1 hr).1, h4 r hr⟩, (chain_flip hr).2 h5⟩
theorem grids_flip_le {c d : Pch} {w h : Nat} (hw : 1 ≤ w) (hw3 : w ≤ 3) (hh : 1 ≤ h) (hh3 : h ≤ 3) : (grids d (rowsN c w) (h - 1)).length ≤ (grids c (rowsN d h) (w - 1)).length := by
  refine inj_le flipP (grids_nodup (srt_nodupR (rowsN_srt c hw3)) _) (fun p hp => ?_) (fun p hp q hq he => ?_)
  · obtain ⟨h1, h2, h3, h4, h5⟩ := (grid_iff hw hw3 hh (by omega)).1 hp
    exact (grid_iff hh hh3 hw (by omega)).2 ⟨pOk_flipR h1, by rw [flip_wdR h1, h3], by rw [flipP_len, h2], h5, by rw [flip2R h1]; exact h4⟩
  · have h1 := ((grid_iff hw hw3 hh (by omega)).1 hp).1
    have h2 := ((grid_iff hw hw3 hh (by omega)).1 hq).1
    rw [← flip2R h1, he, flip2R h2]
theorem grids_flip {c d : Pch} {w h : Nat} (hw : 1 ≤ w) (hw3 : w ≤ 3) (hh : 1 ≤ h) (hh3 : h ≤ 3) : (grids d (rowsN c w) (h - 1)).length = (grids c (rowsN d h) (w - 1)).length :=
  Nat.le_antisymm (grids_flip_le hw hw3 hh hh3) (grids_flip_le hh hh3 hw hw3)
end Go.Proofs.Ytbaleboljcoigaa
