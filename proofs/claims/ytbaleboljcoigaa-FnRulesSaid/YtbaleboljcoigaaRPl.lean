/-
  Plain facts of the law FnRules. No conditions.
-/
import Derived.Test.YtbaleboljcoigaaRGr
import Derived.Test.YtbaleboljcoigaaRRules
import Derived.Test.YtbaleboljcoigaaRFos
import Derived.Test.YtbaleboljcoigaaBFmt
import Derived.Test.YtbaleboljcoigaaMkC
namespace Go.Proofs.Ytbaleboljcoigaa
open Go.RowKit

/-! ## a patch and its own rules -/
theorem patK_pOk {k : Nat} (hk : k ≤ 4) {p : Pch} (h : PatK k p) : pOk p = true ∧ p.length ≤ 5 ∧ wd p ≤ 5 := by
  obtain ⟨h1, h2, m, h3, h4, h5⟩ := h
  have hr : RectR m p := fun r hr => (h5 r hr).1
  refine ⟨pOk_ofR h1 (by omega) h3 (by omega) hr fun r hr => List.all_eq_true.2 fun c hc => ?_, h2, by rw [rectR_wd hr (by omega)]; exact h4⟩
  have := (h5 r hr).2 c hc
  simp only [isLet, decide_eq_true_eq]; omega
theorem pairsOk_ofR {l : Pch} (hs : Srt l) (h : ∀ x ∈ l, isW x = true ∧ x.length = 2) : pairsOk l = true := by
  unfold pairsOk
  rw [List.all_eq_true]
  intro k hk
  have hkl : k < l.length := by simpa using hk
  have h1 := h _ (List.getElem_mem hkl)
  by_cases h0 : k = 0
  · exact pr1_first (getD_at hkl) h1.1 h1.2 h0
  · rw [pr1_next (getD_at hkl) (getD_at (show k - 1 < l.length by omega)) h1.1 h1.2 h0]
    exact decide_eq_true (srt_lt hs hkl (by omega))
theorem pairsL_row {p : Pch} (h : pOk p = true) {x : List UInt8} (hx : x ∈ pairsL p) : isW x = true ∧ x.length = 2 := by
  obtain ⟨r, hr, hx⟩ := mem_pairsL.1 hx
  obtain ⟨i, hi, rfl⟩ := mem_prs.1 hx
  have h2 := List.all_eq_true.1 (isW_all (pOk_row h hr).1)
  refine ⟨?_, rfl⟩
  rw [getD_at hi, getD_at (show i < r.length by omega)]
  unfold isW
  simp [h2 _ (List.getElem_mem hi), h2 _ (List.getElem_mem (show i < r.length by omega))]
theorem rulesOf_ok (p : Pch) : rulesOk (rulesOf p).1 (rulesOf p).2 = true := by
  unfold rulesOf
  split
  · rename_i h
    unfold rulesOk
    rw [Bool.and_eq_true]
    exact ⟨pairsOk_ofR (insF_srt _) fun x hx => pairsL_row h ((insF_mem _ _).1 hx), pairsOk_ofR (insF_srt _) fun x hx => pairsL_row (pOk_flipR h) ((insF_mem _ _).1 hx)⟩
  · rfl
theorem own_obeys {p : Pch} (h : pOk p = true) : outside (pairsL p) (rulesOf p).1 = 0 ∧ outside (pairsL (flipP p)) (rulesOf p).2 = 0 := by
  unfold rulesOf
  rw [if_pos h]
  exact ⟨outside_zero.2 fun x hx => (insF_mem _ _).2 hx, outside_zero.2 fun x hx => (insF_mem _ _).2 hx⟩
theorem own_faults {p : Pch} (h : pOk p = true) : faultsOf p (rulesOf p).1 (rulesOf p).2 = 0 := by
  unfold faultsOf
  rw [h, rulesOf_ok, (own_obeys h).1, (own_obeys h).2]; rfl
theorem pairsL_rect {m : Nat} : ∀ {p : Pch}, RectR m p → (pairsL p).length = p.length * (m - 1)
  | [], _ => by simp [pairsL]
  | r :: p, h => by
    have h1 := pairsL_rect (p := p) fun x hx => h x (by simp [hx])
    have h2 := h r (by simp)
    unfold pairsL at *
    rw [List.flatMap_cons, List.length_append, h1, prs_len, h2, List.length_cons, Nat.add_mul]; omega
theorem outside_nil (ws : Pch) : outside ws [] = ws.length := by
  unfold outside
  rw [List.filter_eq_self.2 (by simp)]
theorem nil_faults {p : Pch} (h : pOk p = true) : faultsOf p [] [] = (p.length : Int) * ((wd p : Int) - 1) + ((p.length : Int) - 1) * (wd p : Int) := by
  have h1 := pOk_len h
  have h2 := pOk_wd h
  unfold faultsOf
  rw [h, outside_nil, outside_nil, pairsL_rect (pOk_rectR h), pairsL_rect (flipR_rows (p := p)), flipP_len]
  have e : rulesOk ([] : Pch) [] = true := rfl
  rw [e, if_pos (by rfl)]
  obtain ⟨a, ha⟩ : ∃ a, wd p = a + 1 := ⟨wd p - 1, by omega⟩
  obtain ⟨b, hb⟩ : ∃ b, p.length = b + 1 := ⟨p.length - 1, by omega⟩
  rw [ha, hb]
  simp only [Nat.add_sub_cancel, Int.natCast_mul, Int.natCast_add, Int.natCast_one, Int.add_sub_cancel]
  rw [Int.mul_comm ((a : Int) + 1)]

/-! ## counts -/
theorem rulesOk_swap {c d : Pch} (h : rulesOk c d = true) : rulesOk d c = true := by
  unfold rulesOk at *; rw [Bool.and_comm]; exact h
theorem lev_sum_le {col rows : Pch} (h : rows.length ≤ 64) : ∀ n, (lev col rows n).sum ≤ 64 ^ (n + 1)
  | 0 => by
    have := sum_take_le (l := lev col rows 0) (b := 1) (fun z hz => by have := List.eq_of_mem_replicate hz; omega) (by omega) rows.length
    rw [sum_take_all (by rw [lev_len]; exact Nat.le_refl _)] at this
    simp only [Nat.zero_add, Int.pow_one]; omega
  | n + 1 => by
    have ih := lev_sum_le (col := col) h n
    have h0 : 0 ≤ (lev col rows n).sum := by have := sum_take_nonneg (lev_nonneg col rows n) rows.length; rwa [sum_take_all (by rw [lev_len]; exact Nat.le_refl _)] at this
    have := sum_take_le (l := lev col rows (n + 1)) (b := (lev col rows n).sum) (fun z hz => by
      obtain ⟨u, _, rfl⟩ := List.mem_map.1 hz
      exact Int.le_trans (entK_le (lev_nonneg col rows n) u _) (sum_take_mono (lev_nonneg col rows n))) h0 rows.length
    rw [sum_take_all (by rw [lev_len]; exact Nat.le_refl _)] at this
    refine Int.le_trans this ?_
    rw [Int.pow_succ, Int.mul_comm]
    exact Int.mul_le_mul ih (by omega) (by omega) (Int.le_trans h0 ih)
theorem okH_small {col rows : Pch} {h : Nat} (hr : rows.length ≤ 64) (hh : h ≤ 3) : okH col rows h = true := by
  unfold okH
  rw [List.all_eq_true]
  intro n hn
  have hn2 : n < h := by simpa using hn
  have h1 := lev_sum_le (col := col) hr n
  have h2 : (64 : Int) ^ (n + 1) ≤ 262144 := by
    have : n = 0 ∨ n = 1 ∨ n = 2 := by omega
    rcases this with rfl | rfl | rfl <;> decide
  unfold okLev most
  simp only [decide_eq_true_eq]; omega
section
variable {c d : Pch} {w h : Nat}
theorem okC_small (hr : rulesOk c d = true) (hw : 1 ≤ w) (hw3 : w ≤ 3) (hh : 1 ≤ h) (hh3 : h ≤ 3) : okC w h c d = true := by
  unfold okC obOk
  rw [wi_mk (by omega) (by omega), wi_mk (by omega) (by omega), hr]
  simp only [Int.toNat_natCast, Bool.true_and]
  exact okH_small (rowsN_len c hw3) hh3
theorem countOb_grids (hr : rulesOk c d = true) (hw : 1 ≤ w) (hw3 : w ≤ 3) (hh : 1 ≤ h) (hh3 : h ≤ 3) : countOb w h c d = (((grids d (rowsN c w) (h - 1)).length : Nat) : Int) := by
  unfold countOb
  rw [if_pos (okC_small hr hw hw3 hh hh3), grids_len]
  simp only [Int.toNat_natCast]
theorem countOb_flip (hr : rulesOk c d = true) (hw : 1 ≤ w) (hw3 : w ≤ 3) (hh : 1 ≤ h) (hh3 : h ≤ 3) : countOb h w d c = countOb w h c d := by
  rw [countOb_grids hr hw hw3 hh hh3, countOb_grids (rulesOk_swap hr) hh hh3 hw hw3, grids_flip hw hw3 hh hh3]

/-! ## the first patch that obeys -/
theorem chain_snoc {col : Pch} {t : List UInt8} : ∀ {p : Pch}, chain col p → (p.length = 0 ∨ stand col (p.getLastD []) t = true) → chain col (p ++ [t])
  | [], _, _ => trivial
  | [u], _, h => ⟨by rcases h with h | h; simp at h; exact h, trivial⟩
  | u :: v :: r, hc, h => ⟨hc.1, chain_snoc (p := v :: r) hc.2 (Or.inr (by rcases h with h | h; simp at h; exact h))⟩
theorem fo_chain {col rows : Pch} {h : Nat} (hs : 0 < (lev col rows (h - 1)).sum) : ∀ j, j ≤ h → (∀ r ∈ fo col rows h j, r ∈ rows) ∧ chain col (fo col rows h j)
  | 0, _ => ⟨by simp [fo], trivial⟩
  | j + 1, hj => by
    obtain ⟨h1, h2⟩ := fo_chain hs j (by omega)
    obtain ⟨h3, h4, _⟩ := chosen_at (fo_has (j := j) (by omega) hs (fo_ok hs j (by omega)))
    unfold cnd at h4
    simp only [Bool.and_eq_true, Bool.or_eq_true, decide_eq_true_eq] at h4
    refine ⟨fun r hr => ?_, chain_snoc h2 h4.2⟩
    rcases List.mem_append.1 hr with hr | hr
    · exact h1 r hr
    · simp only [List.mem_singleton] at hr
      rw [hr, getD_at h3]; exact List.getElem_mem _
theorem fo_grids {col rows : Pch} {h : Nat} (hh : 1 ≤ h) (hs : 0 < (lev col rows (h - 1)).sum) : fo col rows h h ∈ grids col rows (h - 1) :=
  mem_grids.2 ⟨by rw [fo_len]; omega, (fo_chain hs h (Nat.le_refl _)).1, (fo_chain hs h (Nat.le_refl _)).2⟩
theorem chain_drop {col p : Pch} (h : chain col p) (j : Nat) : chain col (p.drop j) := by
  rw [chain_at] at h ⊢
  intro y hy
  rw [List.length_drop] at hy
  have h2 := h (j + y) (by omega)
  have e : ∀ i, (p.drop j).getD i [] = p.getD (j + i) [] := fun i => by simp [List.getD]
  rw [e, e]; exact h2
theorem fo_least {col rows : Pch} {h : Nat} (hs : 0 < (lev col rows (h - 1)).sum) (hsrt : Srt rows) {p : Pch} (hp : p ∈ grids col rows (h - 1)) (hh : 1 ≤ h) : ∀ j, j ≤ h →
    fo col rows h j = p.take j ∨ ∃ a x y b b', fo col rows h j = a ++ x :: b ∧ p = a ++ y :: b' ∧ x < y ∧ x ∈ rows ∧ y ∈ rows
  | 0, _ => Or.inl (by simp [fo])
  | j + 1, hj => by
    obtain ⟨p1, p2, p3⟩ := mem_grids.1 hp
    rcases fo_least hs hsrt hp hh j (by omega) with h0 | ⟨a, x, y, b, b', h1, h2, h3⟩
    · obtain ⟨c1, c2, c3⟩ := chosen_at (fo_has (j := j) (by omega) hs (fo_ok hs j (by omega)))
      have hjp : j < p.length := by omega
      obtain ⟨i0, hi0, hr0⟩ := List.mem_iff_getElem.1 (p2 _ (List.getElem_mem hjp))
      have hc : cnd col rows (h - (j + 1)) (fo col rows h j) i0 = true := by
        have hm : p.drop j ∈ gof col rows (h - (j + 1)) rows[i0] := by
          refine mem_gof.2 ⟨p.drop (j + 1), ?_, by rw [List.length_drop]; omega, fun r hr => p2 r (List.mem_of_mem_drop hr), ?_⟩
          · rw [hr0]; exact List.drop_eq_getElem_cons hjp
          · rw [hr0, ← List.drop_eq_getElem_cons hjp]; exact chain_drop p3 j
        have hl := gof_len col rows (h - (j + 1)) i0 hi0
        have hpos := List.length_pos_of_mem hm
        unfold cnd
        rw [decide_eq_true (by omega), Bool.true_and, h0, Bool.or_eq_true, decide_eq_true_eq]
        by_cases hj0 : j = 0
        · left; rw [hj0]; simp
        · right
          have hl2 : (p.take j).length = j := by rw [List.length_take]; omega
          rw [last_at hl2 (by omega), getD_at hi0, hr0, List.getElem_take]
          have h5 := chain_at.1 p3 (j - 1) (by omega)
          rw [show j - 1 + 1 = j by omega, getD_at hjp, getD_at (show j - 1 < p.length by omega)] at h5
          exact h5
      obtain ⟨k, hk⟩ : ∃ k, k = chosen col rows (h - (j + 1)) (fo col rows h j) := ⟨_, rfl⟩
      rw [← hk] at c1 c2 c3
      have hle : ¬ i0 < k := fun hlt => by rw [c3 i0 hlt] at hc; cases hc
      have hfo : fo col rows h (j + 1) = p.take j ++ [rows.getD k []] := by rw [fo, ← hk, h0]
      by_cases he : k = i0
      · left
        rw [hfo, take_snoc p j hjp, he, getD_at hi0, hr0]
      · right
        refine ⟨p.take j, rows[k], p[j], [], p.drop (j + 1), by rw [hfo, getD_at c1], ?_, ?_, List.getElem_mem _, p2 _ (List.getElem_mem hjp)⟩
        · rw [← List.drop_eq_getElem_cons hjp, List.take_append_drop]
        · rw [← hr0]; exact srt_lt hsrt hi0 (by omega)
    · exact Or.inr ⟨a, x, y, b ++ [rows.getD (chosen col rows (h - (j + 1)) (fo col rows h j)) []], b', by rw [fo, h1]; simp, h2, h3⟩
theorem app_lt_app : ∀ {x y s t : List UInt8}, x.length = y.length → x < y → x ++ s < y ++ t
  | [], [], _, _, _, h => absurd h (List.lt_irrefl _)
  | [], _ :: _, _, _, h, _ => by simp at h
  | _ :: _, [], _, _, h, _ => by simp at h
  | a :: x, b :: y, s, t, hl, h => by
    rw [List.cons_append, List.cons_append, List.cons_lt_cons_iff]
    rcases List.cons_lt_cons_iff.1 h with h | ⟨h1, h2⟩
    · exact Or.inl h
    · exact Or.inr ⟨h1, app_lt_app (by simpa using hl) h2⟩
theorem lt_same : ∀ (x : List UInt8) {s t : List UInt8}, s < t → x ++ s < x ++ t
  | [], _, _, h => h
  | a :: x, _, _, h => List.cons_lt_cons_iff.2 (Or.inr ⟨rfl, lt_same x h⟩)
theorem tailR_cons (a : List UInt8) (r : Pch) : Lib.joinTail [47] (a :: r) = 47 :: (a ++ Lib.joinTail [47] r) := by simp [Lib.joinTail]
theorem tail_lt {x y : List UInt8} {b b' : Pch} (hl : x.length = y.length) (h : x < y) : ∀ a : Pch, Lib.joinTail [47] (a ++ x :: b) < Lib.joinTail [47] (a ++ y :: b')
  | [] => by
    rw [List.nil_append, List.nil_append, tailR_cons, tailR_cons]
    exact List.cons_lt_cons_iff.2 (Or.inr ⟨rfl, app_lt_app hl h⟩)
  | u :: a => by
    rw [List.cons_append, List.cons_append, tailR_cons, tailR_cons]
    exact List.cons_lt_cons_iff.2 (Or.inr ⟨rfl, lt_same u (tail_lt hl h a)⟩)
theorem join_lt {x y : List UInt8} {b b' : Pch} (hl : x.length = y.length) (h : x < y) : ∀ a : Pch, Lib.join (a ++ x :: b) [47] < Lib.join (a ++ y :: b') [47]
  | [] => by
    rw [List.nil_append, List.nil_append, Lib.join_cons, Lib.join_cons]
    exact app_lt_app hl h
  | u :: a => by
    rw [List.cons_append, List.cons_append, Lib.join_cons, Lib.join_cons]
    exact lt_same u (tail_lt hl h a)
theorem faults_grid (hr : rulesOk c d = true) (hw : 1 ≤ w) (hw3 : w ≤ 3) (hh : 1 ≤ h) (hh3 : h ≤ 3) {p : Pch} (hp : p ∈ grids d (rowsN c w) (h - 1)) : pOk p = true ∧ wd p = w ∧ p.length = h ∧ faultsOf p c d = 0 := by
  obtain ⟨h1, h2, h3, h4, h5⟩ := (grid_iff hw hw3 hh (by omega)).1 hp
  refine ⟨h1, h2, h3, ?_⟩
  unfold faultsOf
  rw [h1, hr, out_rows.2 h4, out_rows.2 h5]; rfl
/-- what the law asks of the first patch -/
theorem first_facts (hr : rulesOk c d = true) (hw : 1 ≤ w) (hw3 : w ≤ 3) (hh : 1 ≤ h) (hh3 : h ≤ 3) :
    (countOb w h c d ≤ 0 ∧ firstOb w h c d = ([], false)) ∨ (0 < countOb w h c d ∧ ∃ q, firstOb w h c d = (q, true) ∧ pOk q = true ∧ wd q = w ∧ q.length = h ∧ faultsOf q c d = 0 ∧
      ∀ p, p ∈ grids d (rowsN c w) (h - 1) → ¬ fmtP p < fmtP q) := by
  have hk := okC_small hr hw hw3 hh hh3
  have hc : countOb w h c d = (lev d (rowsN c w) (h - 1)).sum := by unfold countOb; rw [if_pos hk]; simp only [Int.toNat_natCast]
  by_cases h0 : 0 < (lev d (rowsN c w) (h - 1)).sum
  · right
    have hm := fo_grids hh h0
    obtain ⟨h1, h2, h3, h4⟩ := faults_grid hr hw hw3 hh hh3 hm
    refine ⟨by omega, _, ?_, h1, h2, h3, h4, fun p hp hlt => ?_⟩
    · unfold firstOb firstOk
      simp only [Int.toNat_natCast]
      rw [hk, decide_eq_true h0]; rfl
    · have hpo := (faults_grid hr hw hw3 hh hh3 hp).1
      unfold fmtP at hlt
      rw [if_pos hpo, if_pos h1] at hlt
      rcases fo_least h0 (rowsN_srt c hw3) hp hh h (Nat.le_refl _) with he | ⟨a, x, y, b, b', e1, e2, e3, e4, e5⟩
      · rw [he, List.take_of_length_le (by have := (mem_grids.1 hp).1; omega)] at hlt
        exact List.lt_irrefl _ hlt
      · rw [e1, e2] at hlt
        exact lt_no hlt (join_lt (by rw [(mem_rowsN.1 e4).1, (mem_rowsN.1 e5).1]) e3 a)
  · left
    refine ⟨by omega, ?_⟩
    unfold firstOb firstOk
    simp only [Int.toNat_natCast]
    rw [hk, decide_eq_false h0]; rfl
end
/-- a patch stands among those that obey its own rules -/
theorem own_grid {p : Pch} (h : pOk p = true) (hw : wd p ≤ 3) (hl : p.length ≤ 3) : p ∈ grids (rulesOf p).2 (rowsN (rulesOf p).1 (wd p)) (p.length - 1) := by
  have h1 := pOk_len h
  have h2 := pOk_wd h
  exact (grid_iff h2.1 hw h1.1 (by omega)).2 ⟨h, rfl, rfl, out_rows.1 (own_obeys h).1, out_rows.1 (own_obeys h).2⟩
theorem own_first {p : Pch} (h : pOk p = true) (hw : wd p ≤ 3) (hl : p.length ≤ 3) :
    0 < countOb (wd p) p.length (rulesOf p).1 (rulesOf p).2 ∧ ∃ q, firstOb (wd p) p.length (rulesOf p).1 (rulesOf p).2 = (q, true) ∧ pOk q = true ∧ ¬ fmtP p < fmtP q := by
  have h1 := pOk_len h
  have h2 := pOk_wd h
  have hg := own_grid h hw hl
  have hpos := List.length_pos_of_mem hg
  have hc := countOb_grids (rulesOf_ok p) h2.1 hw h1.1 hl
  rcases first_facts (rulesOf_ok p) h2.1 hw h1.1 hl with ⟨h3, _⟩ | ⟨h3, q, h4, h5, _, _, _, h6⟩
  · omega
  · exact ⟨h3, q, h4, h5, h6 p hg⟩

/-! ## the small sides -/
theorem row1 (c : Pch) : rowsN c 1 = [[97], [98], [99], [100]] := by
  rw [rowsN_all, List.filter_eq_self.2]
  · decide +kernel
  · intro s hs
    rw [ok1_iff]
    intro i hi
    have := (allW_row hs).1
    omega
theorem row2 {c : Pch} (hc : pairsOk c = true) : rowsN c 2 = c := by
  refine srt_ext (rowsN_srt c (by omega)) (pairsOk_srt hc) fun x => ?_
  rw [mem_rowsN]
  constructor
  · rintro ⟨h1, h2, h3⟩
    have h4 := ok1_iff.1 h3 0 (by omega)
    obtain ⟨a, b, rfl⟩ : ∃ a b, x = [a, b] := by
      match x, h1 with
      | [a, b], _ => exact ⟨a, b, rfl⟩
    exact h4
  · intro h
    obtain ⟨h1, h2⟩ := pairsOk_row hc x h
    refine ⟨h2, isW_all h1, ok1_iff.2 fun i hi => ?_⟩
    have hi0 : i = 0 := by omega
    subst hi0
    obtain ⟨a, b, rfl⟩ : ∃ a b, x = [a, b] := by
      match x, h2 with
      | [a, b], _ => exact ⟨a, b, rfl⟩
    exact h
theorem gof0 (col rows : Pch) : (grids col rows 0).length = rows.length := by
  unfold grids
  induction rows with
  | nil => rfl
  | cons u r ih =>
    have : ∀ l : Pch, (l.flatMap (gof col (u :: r) 0)).length = l.length := fun l => by
      induction l with
      | nil => rfl
      | cons a l ih => rw [List.flatMap_cons, List.length_append, ih]; simp [gof]; omega
    exact this _
theorem count11 {c d : Pch} (hr : rulesOk c d = true) : countOb 1 1 c d = 4 := by
  have h := countOb_grids (w := 1) (h := 1) hr (by omega) (by omega) (by omega) (by omega)
  rw [show 1 - 1 = 0 from rfl, gof0, row1] at h
  exact h
theorem count21 {c d : Pch} (hr : rulesOk c d = true) : countOb 2 1 c d = (c.length : Int) := by
  have h := countOb_grids (w := 2) (h := 1) hr (by omega) (by omega) (by omega) (by omega)
  unfold rulesOk at hr
  rw [Bool.and_eq_true] at hr
  rw [show 1 - 1 = 0 from rfl, gof0, row2 hr.1] at h
  exact h
theorem count12 {c d : Pch} (hr : rulesOk c d = true) : countOb 1 2 c d = (d.length : Int) := by
  have h := countOb_flip (w := 2) (h := 1) (rulesOk_swap hr) (by omega) (by omega) (by omega) (by omega)
  have h2 := count21 (rulesOk_swap hr)
  rw [← h2]; exact h

/-! ## joined rules -/
theorem join_facts {c d : Pch} (hr : rulesOk c d = true) : ∃ j, joinRules c d = (j, true) ∧ Srt j ∧ j.length ≤ c.length + d.length ∧ ∀ x ∈ c, x ∈ j := by
  refine ⟨_, by unfold joinRules; rw [if_pos hr], insF_srt _, ?_, fun x hx => (insF_mem _ _).2 (List.mem_append_left _ hx)⟩
  have := insF_len (c ++ d)
  rwa [List.length_append] at this

/-! ## repeats -/
def sameX (c d : Pch) (x : List UInt8) : Bool := decide (x ∈ c) && decide (x ∈ d)
def same4 (c d : Pch) : Bool := sameX c d [97, 97] || (sameX c d [98, 98] || (sameX c d [99, 99] || sameX c d [100, 100]))
theorem same4_iff {c d : Pch} : same4 c d = true ↔ ∃ x, isLet x = true ∧ [x, x] ∈ c ∧ [x, x] ∈ d := by
  unfold same4 sameX
  simp only [Bool.or_eq_true, Bool.and_eq_true, decide_eq_true_eq]
  constructor
  · rintro (h | h | h | h)
    · exact ⟨97, by decide, h⟩
    · exact ⟨98, by decide, h⟩
    · exact ⟨99, by decide, h⟩
    · exact ⟨100, by decide, h⟩
  · rintro ⟨x, hx, h⟩
    obtain ⟨i, hi, rfl⟩ := let_four hx
    have : i = 0 ∨ i = 1 ∨ i = 2 ∨ i = 3 := by omega
    rcases this with rfl | rfl | rfl | rfl
    · exact Or.inl h
    · exact Or.inr (Or.inl h)
    · exact Or.inr (Or.inr (Or.inl h))
    · exact Or.inr (Or.inr (Or.inr h))
theorem canOk_small {c d : Pch} (hr : rulesOk c d = true) {p : Nat} (h1 : 1 ≤ p) (h3 : p ≤ 3) : canOk c d p = true := by
  unfold canOk; rw [hr, wi_mk (by omega) (by omega)]; rfl
theorem cyc_same {rows q : Pch} {s : List UInt8} (hs : s ∈ rows) (h : stand q s s = true) : ∀ n, cyc rows q s s n = true
  | 0 => by simp [cyc]
  | n + 1 => by
    rw [cyc]
    exact List.any_eq_true.2 ⟨s, hs, by rw [h, cyc_same hs h n]; rfl⟩
theorem getD_repl {x : UInt8} {p i : Nat} (h : i < p) : (List.replicate p x).getD i 0 = x := by
  rw [getD_at (by simpa using h), List.getElem_replicate]
theorem canRep_more {c d : Pch} (hr : rulesOk c d = true) {p : Nat} (h1 : 1 ≤ p) (h3 : p ≤ 3) (h : same4 c d = true) : canRep c d p = true := by
  obtain ⟨x, hx, hc, hd⟩ := same4_iff.1 h
  unfold canRep
  rw [canOk_small hr h1 h3]
  simp only [Int.toNat_natCast, Bool.true_and]
  have hmem : List.replicate p x ∈ rowsR c p := by
    refine List.mem_filter.2 ⟨mem_rowsN.2 ⟨by simp, by simp [hx], ok1_iff.2 fun i hi => ?_⟩, ?_⟩
    · rw [List.length_replicate] at hi
      rw [getD_repl (by omega), getD_repl hi]; exact hc
    · unfold wrapP
      rw [getD_repl (by omega), getD_repl (by omega)]
      exact decide_eq_true hc
  refine List.any_eq_true.2 ⟨_, hmem, cyc_same hmem (stand_iff.2 fun i hi => ?_) p⟩
  rw [List.length_replicate] at hi
  rw [getD_repl hi]; exact hd
theorem canRep_one {c d : Pch} (hr : rulesOk c d = true) : canRep c d 1 = same4 c d := by
  have key : canRep c d 1 = true → same4 c d = true := by
    intro h
    unfold canRep at h
    rw [Bool.and_eq_true] at h
    obtain ⟨s, hs, h2⟩ := List.any_eq_true.1 h.2
    rw [show (1 : Int).toNat = 1 from rfl] at hs h2
    obtain ⟨h3, h4⟩ := List.mem_filter.1 hs
    obtain ⟨h5, h6, _⟩ := mem_rowsN.1 h3
    rw [cyc] at h2
    obtain ⟨t, _, h7⟩ := List.any_eq_true.1 h2
    rw [Bool.and_eq_true] at h7
    have ht : t = s := by simpa [cyc] using h7.2
    subst ht
    obtain ⟨x, rfl⟩ := List.length_eq_one_iff.1 h5
    refine same4_iff.2 ⟨x, by simpa using h6, by simpa [wrapP] using h4, ?_⟩
    exact stand_iff.1 h7.1 0 (by simp)
  by_cases h : same4 c d = true
  · rw [h]; exact canRep_more (p := 1) hr (by omega) (by omega) h
  · rw [Bool.eq_false_iff.2 h]; exact Bool.eq_false_iff.2 fun h2 => h (key h2)
theorem canRep_three {c d : Pch} (hr : rulesOk c d = true) (h : canRep c d 3 = true) : 0 < countOb 3 3 c d := by
  have hc := countOb_grids (w := 3) (h := 3) hr (by omega) (by omega) (by omega) (by omega)
  unfold canRep at h
  rw [Bool.and_eq_true] at h
  obtain ⟨s, hs, h2⟩ := List.any_eq_true.1 h.2
  rw [show (3 : Int).toNat = 3 from rfl] at hs h2
  rw [cyc] at h2
  obtain ⟨t, ht, h3⟩ := List.any_eq_true.1 h2
  rw [Bool.and_eq_true] at h3
  rw [cyc] at h3
  obtain ⟨u, hu, h4⟩ := List.any_eq_true.1 h3.2
  rw [Bool.and_eq_true] at h4
  have hm : [s, t, u] ∈ grids d (rowsN c 3) (3 - 1) := by
    refine mem_grids.2 ⟨rfl, fun r hr => ?_, h3.1, h4.1, trivial⟩
    simp only [List.mem_cons, List.mem_nil_iff, or_false] at hr
    rcases hr with rfl | rfl | rfl
    · exact (List.mem_filter.1 hs).1
    · exact (List.mem_filter.1 ht).1
    · exact (List.mem_filter.1 hu).1
  have := List.length_pos_of_mem hm
  rw [show ((3 : Nat) : Int) = 3 from rfl] at hc
  omega
end Go.Proofs.Ytbaleboljcoigaa
