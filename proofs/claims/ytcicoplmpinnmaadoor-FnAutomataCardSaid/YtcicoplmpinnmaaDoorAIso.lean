/-
  Plain facts: automata that step alike have the same least automaton and the same letters; the least automaton steps as its own; one in which every state stands twice too. No conditions.
-/
import Derived.Test.YtcicoplmpinnmaaDoorASml
import Derived.Test.YtcicoplmpinnmaaDoorASmS
namespace Go.Proofs.YtcicoplmpinnmaaDoor
open Go.RowKit

/-- R relates the states of two automata that step alike -/
def Alike (b : Nat) (x : Tab) (o : List UInt8) (y : Tab) (o' : List UInt8) (R : Nat → Nat → Prop) : Prop :=
  R 0 0 ∧ ∀ i j, R i j → o.getD i 0 = o'.getD j 0 ∧ i < x.length ∧ j < y.length ∧ ∀ d, d < b → R (tab x i d) (tab y j d)
section
variable {b : Nat} {x y : Tab} {o o' : List UInt8} {R : Nat → Nat → Prop}
theorem alike_cl (h : Alike b x o y o' R) : ∀ t i j k l, R i j → R k l → (cl x o b t i = cl x o b t k ↔ cl y o' b t j = cl y o' b t l)
  | 0, i, j, k, l, h1, h2 => by rw [cl0_eq, cl0_eq, (h.2 i j h1).1, (h.2 k l h2).1]
  | t + 1, i, j, k, l, h1, h2 => by
    rw [cl_succ, cl_succ, alike_cl h t i j k l h1 h2]
    constructor
    · rintro ⟨e1, e2⟩
      exact ⟨e1, fun d hd => (alike_cl h t _ _ _ _ ((h.2 i j h1).2.2.2 d hd) ((h.2 k l h2).2.2.2 d hd)).1 (e2 d hd)⟩
    · rintro ⟨e1, e2⟩
      exact ⟨e1, fun d hd => (alike_cl h t _ _ _ _ ((h.2 i j h1).2.2.2 d hd) ((h.2 k l h2).2.2.2 d hd)).2 (e2 d hd)⟩
theorem good_lt (hg : Good b x) : ∀ i < x.length, ∀ d < b, tab x i d < x.length := fun i hi d hd => tab_lt hg hi hd
theorem cl_far (hg : Good b x) (v : Nat) : ∀ i < x.length, cl x o b (x.length + v) i = clN x o b i := by
  induction v with
  | zero => intro i _; rfl
  | succ v ih =>
    intro i hi
    have h1 := cl_from (o := o) (good_lt hg) (cl_stop (o := o) hg.2.2.1 (good_lt hg)) (x.length + v) (by omega) i hi
    rw [← ih i hi, ← h1]; rfl
theorem alike_clN (hx : Good b x) (hy : Good b y) (h : Alike b x o y o' R) {i j k l : Nat} (h1 : R i j) (h2 : R k l) : clN x o b i = clN x o b k ↔ clN y o' b j = clN y o' b l := by
  have a1 := h.2 i j h1
  have a2 := h.2 k l h2
  rw [← cl_far (o := o) hx y.length i a1.2.1, ← cl_far (o := o) hx y.length k a2.2.1, ← cl_far (o := o') hy x.length j a1.2.2.1, ← cl_far (o := o') hy x.length l a2.2.2.1, Nat.add_comm y.length x.length]
  exact alike_cl h _ _ _ _ _ h1 h2
theorem cl_next1 (hx : Good b x) {i d : Nat} (hi : i < x.length) (hd : d < b) : clN x o b (tab x (clN x o b i) d) = clN x o b (tab x i d) :=
  cl_stable hx.2.2.1 (good_lt hx) (by have := cl_le (zss := x) (o := o) (b := b) x.length i; show cl _ _ _ _ _ < _; omega) hi (cl_idem _ _) hd
theorem alike_small (hx : Good b x) (hy : Good b y) (h : Alike b x o y o' R) : smTab x o b = smTab y o' b ∧ smOut x o b = smOut y o' b := by
  have sim := g_sim (R := fun s s' => ∃ i j, R i j ∧ s = clN x o b i ∧ s' = clN y o' b j) (q := qS) (q' := qS) (nx := nxS x o b) (nx' := nxS y o' b) (st := clN x o b 0) (st' := clN y o' b 0) (out := outS o) (out' := outS o')
    (by
      rintro s s' t t' ⟨i, j, h1, rfl, rfl⟩ ⟨k, l, h2, rfl, rfl⟩
      have e := alike_clN hx hy h h1 h2
      unfold qS
      by_cases he : clN x o b i = clN x o b k
      · rw [he, e.1 he]; simp
      · have h2 : ¬ clN y o' b j = clN y o' b l := fun h2 => he (e.2 h2)
        rw [beq_eq_false_iff_ne.2 he, beq_eq_false_iff_ne.2 h2])
    (by
      rintro s s' ⟨i, j, h1, rfl, rfl⟩
      have a1 := h.2 i j h1
      unfold nxS nxt
      rw [List.map_map, List.map_map]
      exact All2.of_map _ fun d hd => ⟨tab x i d, tab y j d, a1.2.2.2 d (List.mem_range.1 hd), cl_next1 hx a1.2.1 (List.mem_range.1 hd), cl_next1 hy a1.2.2.1 (List.mem_range.1 hd)⟩)
    ⟨0, 0, h.1, rfl, rfl⟩
    (by
      rintro s s' ⟨i, j, h1, rfl, rfl⟩
      have a1 := h.2 i j h1
      show o.getD (cl x o b x.length i) 0 = o'.getD (cl y o' b y.length j) 0
      rw [cl_out, cl_out]; exact a1.1)
    (x.length + y.length)
  have e1 := gAt_done (q := qS) (nx := nxS x o b) (st := clN x o b 0) (out := outS o) (smAt_len (o := o) hx x.length) y.length
  have e2 := gAt_done (q := qS) (nx := nxS y o' b) (st := clN y o' b 0) (out := outS o') (smAt_len (o := o') hy y.length) x.length
  rw [Nat.add_comm y.length x.length] at e2
  refine ⟨?_, ?_⟩
  · unfold smTab smRows
    rw [← e1.2.1, ← e2.2.1, sim.2.1]
  · unfold smOut smOuts
    rw [← e1.2.2, ← e2.2.2, sim.2.2]
theorem alike_run (h : Alike b x o y o' R) : ∀ ds, (∀ d ∈ ds, d < b) → R (runD x ds) (runD y ds)
  | [], _ => h.1
  | d :: ds, hd => (h.2 _ _ (alike_run h ds fun e he => hd e (by simp [he]))).2.2.2 d (hd d (by simp))
theorem alike_let (hx : Good b x) (h : Alike b x o y o' R) (k : Nat) : aLet x o b k = aLet y o' b k :=
  (h.2 _ _ (alike_run h _ (digs_lt hx.1 k k))).1
end

/-! ## the numbering: what its rows say -/
section
variable {q : Nat → Nat → Bool} {nx : Nat → List Nat} {st : Nat} {out : Nat → UInt8}
theorem getD_some {S : List Nat} {i v : Nat} (h : S[i]? = some v) : S.getD i 0 = v := by rw [List.getD_eq_getElem?_getD, h]; rfl
theorem adds_getD (ys : List Nat) {S : List Nat} {i : Nat} (h : i < S.length) : (gAdds q S ys).getD i 0 = S.getD i 0 := by
  rw [List.getD_eq_getElem?_getD, List.getD_eq_getElem?_getD, gAdds_get ys h]
theorem idx_says (hq : ∀ s, q s s = true) (S : List Nat) (y : Nat) : q ((gAdd q S y).getD (gIdx q S y) 0) y = true := by
  unfold gAdd
  split
  · rename_i h
    have h2 := List.findIdx_getElem (xs := S) (p := fun s => q s y) (w := h)
    rw [List.getD_eq_getElem?_getD, List.getElem?_eq_getElem h]; exact h2
  · rename_i h
    have h2 : gIdx q S y = S.length := Nat.le_antisymm (gIdx_le S y) (by omega)
    rw [h2, List.getD_eq_getElem?_getD]; simp [hq]
theorem row_says (hq : ∀ s, q s s = true) : ∀ (ys S : List Nat) (d : Nat), d < ys.length → (gRowS q S ys).getD d 0 < (gAdds q S ys).length ∧ q ((gAdds q S ys).getD ((gRowS q S ys).getD d 0) 0) (ys.getD d 0) = true
  | [], _, d, h => by simp at h
  | y :: ys, S, 0, _ => by
    have h1 := gIdx_lt_add (q := q) S y
    refine ⟨Nat.lt_of_lt_of_le h1 (gAdds_len ys _), ?_⟩
    show q ((gAdds q (gAdd q S y) ys).getD (gIdx q S y) 0) y = true
    rw [adds_getD ys h1]; exact idx_says hq S y
  | y :: ys, S, d + 1, h => by
    have h1 := row_says hq ys (gAdd q S y) d (by simpa using h)
    exact h1
/-- the rows and letters after N rounds -/
theorem gen_says (hq : ∀ s, q s s = true) : ∀ N,
    ((gRows q nx st N).length = min N (gAt q nx st N).length ∧ (gOuts q nx st out N).length = min N (gAt q nx st N).length) ∧ (gAt q nx st N).getD 0 0 = st ∧
    ∀ i, i < (gRows q nx st N).length → (gOuts q nx st out N).getD i 0 = out ((gAt q nx st N).getD i 0) ∧ ((gRows q nx st N).getD i []).length = (nx ((gAt q nx st N).getD i 0)).length ∧
      ∀ d, d < (nx ((gAt q nx st N).getD i 0)).length → ((gRows q nx st N).getD i []).getD d 0 < (gAt q nx st N).length ∧ q ((gAt q nx st N).getD (((gRows q nx st N).getD i []).getD d 0) 0) ((nx ((gAt q nx st N).getD i 0)).getD d 0) = true
  | 0 => ⟨⟨by simp [gRows], by simp [gOuts]⟩, rfl, fun i hi => by simp [gRows] at hi⟩
  | N + 1 => by
    obtain ⟨⟨l1, l2⟩, z, says⟩ := gen_says hq N
    by_cases hc : N < (gAt q nx st N).length
    · obtain ⟨S, hS⟩ : ∃ S, S = gAt q nx st N := ⟨_, rfl⟩
      have e1 : gAt q nx st (N + 1) = gAdds q S (nx (S.getD N 0)) := by rw [hS]; exact if_pos hc
      have e2 : gRows q nx st (N + 1) = gRows q nx st N ++ [gRowS q S (nx (S.getD N 0))] := by rw [hS]; exact if_pos hc
      have e3 : gOuts q nx st out (N + 1) = gOuts q nx st out N ++ [out (S.getD N 0)] := by rw [hS]; exact if_pos hc
      rw [← hS] at l1 l2 z says hc
      rw [e1, e2, e3]
      have hge := gAdds_len (q := q) (nx (S.getD N 0)) S
      have k1 : (gRows q nx st N).length = N := by omega
      have k2 : (gOuts q nx st out N).length = N := by omega
      refine ⟨⟨by rw [List.length_append, k1, List.length_singleton]; omega, by rw [List.length_append, k2, List.length_singleton]; omega⟩, by rw [adds_getD _ (by omega)]; exact z, fun i hi => ?_⟩
      rw [List.length_append, k1, List.length_singleton] at hi
      by_cases hiN : i < N
      · obtain ⟨s1, s2, s3⟩ := says i (by omega)
        rw [adds_getD _ (by omega)]
        have g1 : (gRows q nx st N ++ [gRowS q S (nx (S.getD N 0))]).getD i [] = (gRows q nx st N).getD i [] := by
          rw [List.getD_eq_getElem?_getD, List.getElem?_append_left (by omega), ← List.getD_eq_getElem?_getD]
        have g2 : (gOuts q nx st out N ++ [out (S.getD N 0)]).getD i 0 = (gOuts q nx st out N).getD i 0 := by
          rw [List.getD_eq_getElem?_getD, List.getElem?_append_left (by omega), ← List.getD_eq_getElem?_getD]
        rw [g1, g2]
        refine ⟨s1, s2, fun d hd => ?_⟩
        obtain ⟨t1, t2⟩ := s3 d hd
        exact ⟨by omega, by rw [adds_getD _ t1]; exact t2⟩
      · obtain rfl : i = N := by omega
        rw [adds_getD _ hc]
        have g1 : (gRows q nx st i ++ [gRowS q S (nx (S.getD i 0))]).getD i [] = gRowS q S (nx (S.getD i 0)) := by
          rw [List.getD_eq_getElem?_getD, List.getElem?_append_right (by omega), k1]; simp
        have g2 : (gOuts q nx st out i ++ [out (S.getD i 0)]).getD i 0 = out (S.getD i 0) := by
          rw [List.getD_eq_getElem?_getD, List.getElem?_append_right (by omega), k2]; simp
        rw [g1, g2]
        exact ⟨rfl, gRowS_len _ _, fun d hd => row_says hq _ S d hd⟩
    · have e1 : gAt q nx st (N + 1) = gAt q nx st N := by show (if N < _ then _ else _) = _; rw [if_neg hc]
      have e2 : gRows q nx st (N + 1) = gRows q nx st N := by show (if N < _ then _ else _) = _; rw [if_neg hc]
      have e3 : gOuts q nx st out (N + 1) = gOuts q nx st out N := by show (if N < _ then _ else _) = _; rw [if_neg hc]
      rw [e1, e2, e3]
      exact ⟨⟨by omega, by omega⟩, z, says⟩
end

/-! ## the least automaton -/
section
variable {b : Nat} {x : Tab} {o : List UInt8}
def SmR (x : Tab) (o : List UInt8) (b : Nat) (i j : Nat) : Prop := i < (smAt x o b x.length).length ∧ j < x.length ∧ (smAt x o b x.length).getD i 0 = clN x o b j
theorem small_len (hx : Good b x) : (smTab x o b).length = (smAt x o b x.length).length ∧ (smOut x o b).length = (smAt x o b x.length).length := by
  have h := (gen_says (q := qS) (nx := nxS x o b) (st := clN x o b 0) (out := outS o) (fun s => by simp [qS]) x.length).1
  have hl := smAt_len (o := o) hx x.length
  unfold smAt at hl ⊢
  refine ⟨?_, ?_⟩
  · unfold smTab smRows; rw [List.length_map, h.1]; omega
  · unfold smOut smOuts; rw [h.2]; omega
theorem small_tab {i d : Nat} : tab (smTab x o b) i d = ((smRows x o b x.length).getD i []).getD d 0 := by
  unfold tab smTab
  simp only [List.getD_eq_getElem?_getD, List.getElem?_map]
  cases (smRows x o b x.length)[i]? with
  | none => rfl
  | some r =>
    simp only [Option.map_some, Option.getD_some, List.getElem?_map]
    cases r[d]? with
    | none => rfl
    | some v => simp
theorem small_says (hx : Good b x) {i : Nat} (hi : i < (smAt x o b x.length).length) :
    (smOut x o b).getD i 0 = o.getD ((smAt x o b x.length).getD i 0) 0 ∧ ((smRows x o b x.length).getD i []).length = b ∧
      ∀ d, d < b → tab (smTab x o b) i d < (smAt x o b x.length).length ∧ (smAt x o b x.length).getD (tab (smTab x o b) i d) 0 = clN x o b (tab x ((smAt x o b x.length).getD i 0) d) := by
  have h := gen_says (q := qS) (nx := nxS x o b) (st := clN x o b 0) (out := outS o) (fun s => by simp [qS]) x.length
  have hl := smAt_len (o := o) hx x.length
  have hi2 : i < (gRows qS (nxS x o b) (clN x o b 0) x.length).length := by
    rw [h.1.1]; unfold smAt at hi hl; omega
  obtain ⟨s1, s2, s3⟩ := h.2.2 i hi2
  have hn : (nxS x o b ((smAt x o b x.length).getD i 0)).length = b := nxS_len _
  refine ⟨s1, s2.trans hn, fun d hd => ?_⟩
  have hd2 : d < (nxS x o b ((smAt x o b x.length).getD i 0)).length := by rw [hn]; exact hd
  obtain ⟨t1, t2⟩ := s3 d hd2
  rw [small_tab]
  refine ⟨t1, ?_⟩
  unfold qS at t2
  have t3 := eq_of_beq t2
  refine t3.trans ?_
  rw [List.getD_eq_getElem?_getD, List.getElem?_eq_getElem (by exact hd2)]
  exact nxS_get hd2
theorem small_alike (hx : Good b x) : Alike b (smTab x o b) (smOut x o b) x o (SmR x o b) := by
  have hl := small_len (o := o) hx
  have hz := (gen_says (q := qS) (nx := nxS x o b) (st := clN x o b 0) (out := outS o) (fun s => by simp [qS]) x.length).2.1
  refine ⟨⟨gAt_pos _, hx.2.2.1, hz⟩, ?_⟩
  rintro i j ⟨h1, h2, h3⟩
  obtain ⟨s1, s2, s3⟩ := small_says hx h1
  refine ⟨?_, by rw [hl.1]; exact h1, h2, fun d hd => ?_⟩
  · rw [s1, h3]; exact cl_out
  · obtain ⟨t1, t2⟩ := s3 d hd
    refine ⟨t1, tab_lt hx h2 hd, ?_⟩
    rw [t2, h3]; exact cl_next1 hx h2 hd
theorem small_good (hx : Good b x) : Good b (smTab x o b) := by
  have hl := small_len (o := o) hx
  have hm := smAt_len (o := o) hx x.length
  have hp : 0 < (smAt x o b x.length).length := gAt_pos _
  refine ⟨hx.1, hx.2.1, by omega, by have := hx.2.2.2.1; omega, fun z hz => ?_⟩
  obtain ⟨i, hi, rfl⟩ := List.mem_iff_getElem.1 hz
  obtain ⟨s1, s2, s3⟩ := small_says (o := o) (i := i) hx (by omega)
  have hir : i < (smRows x o b x.length).length := by have : (smTab x o b).length = (smRows x o b x.length).length := by simp [smTab]
                                                      omega
  have e : (smTab x o b)[i] = ((smRows x o b x.length).getD i []).map fun v : Nat => (v : Int) := by
    simp only [smTab, List.getElem_map]
    rw [List.getD_eq_getElem?_getD, List.getElem?_eq_getElem hir]; rfl
  rw [e]
  refine ⟨by rw [List.length_map]; exact s2, fun v hv => ?_⟩
  obtain ⟨u, hu, rfl⟩ := List.mem_map.1 hv
  obtain ⟨d, hd, rfl⟩ := List.mem_iff_getElem.1 hu
  have h1 := (s3 d (by omega)).1
  rw [small_tab, List.getD_eq_getElem?_getD, List.getElem?_eq_getElem hd] at h1
  simp only [Option.getD_some] at h1
  omega
theorem good_aOk {z : Tab} (hz : Good b z) (hl : o.length = z.length) (hw : isW o = true) : aOk b z o = true := by
  unfold aOk headOk
  rw [wi_mk (by have := hz.1; omega) (by have := hz.2.1; omega), wi_mk (by have := hz.2.2.1; omega) (by have := hz.2.2.2.1; omega), hw, hl]
  simp only [beq_self_eq_true, Bool.true_and, Bool.and_true, List.all_eq_true]
  intro r hr
  obtain ⟨h1, h2⟩ := hz.2.2.2.2 r hr
  unfold rowOkA
  simp only [Bool.and_eq_true, decide_eq_true_eq, List.all_eq_true]
  exact ⟨by omega, fun v hv => by have := h2 v hv; exact wi_mk (by omega) (by omega)⟩
theorem getD_letA {i : Nat} (hw : isW o = true) (hi : i < o.length) : isLet (o.getD i 0) = true := by
  rw [List.getD_eq_getElem?_getD, List.getElem?_eq_getElem hi]
  exact List.all_eq_true.1 (isW_all hw) _ (List.getElem_mem hi)
theorem small_isW (hx : Good b x) (hl : o.length = x.length) (hw : isW o = true) : isW (smOut x o b) = true := by
  have h := small_len (o := o) hx
  have hm := smAt_len (o := o) hx x.length
  unfold isW
  rw [Bool.and_eq_true, decide_eq_true_eq]
  refine ⟨List.all_eq_true.2 fun c hc => ?_, by have := hx.2.2.2.1; omega⟩
  obtain ⟨i, hi, rfl⟩ := List.mem_iff_getElem.1 hc
  have hi2 : i < (smAt x o b x.length).length := by omega
  have s := (small_says (o := o) hx hi2).1
  rw [List.getD_eq_getElem?_getD, List.getElem?_eq_getElem hi] at s
  simp only [Option.getD_some] at s
  rw [s]
  refine getD_letA hw ?_
  have := (smAt_fit (o := o) hx x.length).2 _ (getD_mem hi2)
  omega
theorem small_aOk (h : aOk b x o = true) : aOk b (smTab x o b) (smOut x o b) = true := by
  obtain ⟨bn, hb, hx, hl, hw⟩ := aOk_good h
  obtain rfl : b = bn := by omega
  have h2 := small_len (o := o) hx
  exact good_aOk (small_good hx) (by omega) (small_isW hx hl hw)
theorem small_small (hx : Good b x) : smTab (smTab x o b) (smOut x o b) b = smTab x o b ∧ smOut (smTab x o b) (smOut x o b) b = smOut x o b :=
  alike_small (small_good hx) hx (small_alike hx)
theorem small_let (hx : Good b x) (k : Nat) : aLet (smTab x o b) (smOut x o b) b k = aLet x o b k := alike_let (small_good hx) (small_alike hx) k
end

/-! ## every state twice -/
section
variable {b : Nat} {x : Tab} {o : List UInt8}
def twRow (x : Tab) (b i : Nat) : List Int := (List.range b).map fun d => ((tab x (i % x.length) d + (i + d) % 2 * x.length : Nat) : Int)
def twTab (x : Tab) (b : Nat) : Tab := (List.range (2 * x.length)).map (twRow x b)
theorem tw_tab {i d : Nat} (hi : i < 2 * x.length) (hd : d < b) : tab (twTab x b) i d = tab x (i % x.length) d + (i + d) % 2 * x.length := by
  unfold tab twTab
  simp only [List.getD_eq_getElem?_getD, List.getElem?_map]
  rw [List.getElem?_range hi]
  simp only [Option.map_some, Option.getD_some, twRow, List.getElem?_map]
  rw [List.getElem?_range hd]
  exact Int.toNat_natCast _
theorem tw_good (hx : Good b x) (h4 : x.length ≤ 4) : Good b (twTab x b) := by
  have h1 := hx.2.2.1
  have hl : (twTab x b).length = 2 * x.length := by simp [twTab]
  refine ⟨hx.1, hx.2.1, by omega, by omega, fun z hz => ?_⟩
  obtain ⟨i, hi, rfl⟩ := List.mem_map.1 hz
  have hi2 : i < 2 * x.length := by simpa using hi
  refine ⟨by simp [twRow], fun v hv => ?_⟩
  obtain ⟨d, hd, rfl⟩ := List.mem_map.1 hv
  have hm : i % x.length < x.length := Nat.mod_lt _ h1
  have h2 := tab_lt hx hm (List.mem_range.1 hd)
  have h3 : (i + d) % 2 = 0 ∨ (i + d) % 2 = 1 := by omega
  rw [hl]
  rcases h3 with h3 | h3 <;> rw [h3] <;> omega
theorem tw_alike (hx : Good b x) (hl : o.length = x.length) : Alike b (twTab x b) (o ++ o) x o (fun i j => i < 2 * x.length ∧ j = i % x.length) := by
  have h1 := hx.2.2.1
  refine ⟨⟨by omega, by simp⟩, ?_⟩
  rintro i j ⟨hi, rfl⟩
  have hm : i % x.length < x.length := Nat.mod_lt _ h1
  refine ⟨?_, by simp [twTab]; exact hi, hm, fun d hd => ?_⟩
  · by_cases hlt : i < x.length
    · rw [Nat.mod_eq_of_lt hlt, List.getD_eq_getElem?_getD, List.getD_eq_getElem?_getD, List.getElem?_append_left (by omega)]
    · have e : i % x.length = i - x.length := by rw [Nat.mod_eq_sub_mod (by omega), Nat.mod_eq_of_lt (by omega)]
      rw [e, List.getD_eq_getElem?_getD, List.getD_eq_getElem?_getD, List.getElem?_append_right (by omega), hl]
  · have h2 := tab_lt hx hm hd
    have h3 : (i + d) % 2 = 0 ∨ (i + d) % 2 = 1 := by omega
    rw [tw_tab hi hd]
    rcases h3 with h3 | h3 <;> rw [h3]
    · exact ⟨by omega, by rw [Nat.zero_mul, Nat.add_zero, Nat.mod_eq_of_lt h2]⟩
    · exact ⟨by omega, by rw [Nat.one_mul, Nat.add_mod_right, Nat.mod_eq_of_lt h2]⟩
theorem tw_aOk (h : aOk b x o = true) (h4 : x.length ≤ 4) : aOk b (twTab x b) (o ++ o) = true := by
  obtain ⟨bn, hb, hx, hl, hw⟩ := aOk_good h
  obtain rfl : b = bn := by omega
  refine good_aOk (tw_good hx h4) (by simp [twTab]; omega) ?_
  unfold isW at hw ⊢
  rw [Bool.and_eq_true, decide_eq_true_eq] at hw ⊢
  exact ⟨by rw [List.all_append, hw.1]; rfl, by rw [List.length_append]; omega⟩
end
end Go.Proofs.YtcicoplmpinnmaaDoor
