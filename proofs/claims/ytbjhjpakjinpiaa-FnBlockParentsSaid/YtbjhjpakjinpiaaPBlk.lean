/-
  Plain facts of the law FnBlockParents: what a rule makes of a patch is led back to it. No conditions.
-/
import Derived.Test.YtbjhjpakjinpiaaBBlkP
import Derived.Test.YtbjhjpakjinpiaaPGrown
import Derived.Test.YtbjhjpakjinpiaaPSeams
import Derived.Test.YtbjhjpakjinpiaaBForced
namespace Go.Proofs.Ytbjhjpakjinpiaa
open Go.RowKit
set_option linter.unusedSectionVars false

/-! ## cells of an applied patch -/
theorem apply_row {b : PCh} : ∀ {p : PCh} {y : Nat} (hy : y < p.length) {e : Nat}, e < 2 → (applyB b p)[2 * y + e]? = some (if e = 0 then upW b p[y] else lowW b p[y])
  | [], y, hy, e, he => by simp at hy
  | r :: p, 0, _, e, he => by
    have e2 : applyB b (r :: p) = upW b r :: lowW b r :: applyB b p := by simp [applyB]
    rw [e2]
    have : e = 0 ∨ e = 1 := by omega
    rcases this with rfl | rfl <;> simp
  | r :: p, y + 1, hy, e, he => by
    have h := apply_row (b := b) (p := p) (y := y) (by simpa using hy) he
    have e2 : applyB b (r :: p) = upW b r :: lowW b r :: applyB b p := by simp [applyB]
    have e3 : 2 * (y + 1) + e = 2 * y + e + 1 + 1 := by omega
    rw [e2, e3, List.getElem?_cons_succ, List.getElem?_cons_succ, h]
    rfl
theorem getD_take2 {l : List UInt8} {d : Nat} (h : d < 2) : (l.take 2).getD d 0 = l.getD d 0 := by simp [List.getD, List.getElem?_take, h]
theorem getD_drop2 {l : List UInt8} {d : Nat} : (l.drop 2).getD d 0 = l.getD (d + 2) 0 := by simp [List.getD, List.getElem?_drop, Nat.add_comm]
theorem atP_apply {b p : PCh} {m : Nat} (hb : rOk b = true) (hp : ∀ r ∈ p, hasB b.length r = true) (hm : Rect m p) {x y d e : Nat} (hy : y < p.length) (hx : x < (p[y]).length) (hd : d < 2) (he : e < 2) :
    atP (applyB b p) ((2 * x + d : Nat) : Int) ((2 * y + e : Nat) : Int) = (blk b (p[y])[x]).getD (d + 2 * e) 0 := by
  have hr := hp _ (List.getElem_mem hy)
  have hxm : (p[y]).length = m := hm _ (List.getElem_mem hy)
  have hR := apply_rect hb hp hm
  have h1 := apply_row (b := b) hy he
  obtain ⟨h2, h3⟩ := List.getElem?_eq_some_iff.1 h1
  have hw : wd (applyB b p) = 2 * m := rect_wd hR (by omega)
  have hl : ((applyB b p)[2 * y + e]).length = 2 * m := hR _ (List.getElem_mem h2)
  rw [atP_in h2 (by rw [hw, hl]) (by rw [hl]; omega), ← getD_at, h3]
  have : e = 0 ∨ e = 1 := by omega
  rcases this with rfl | rfl
  · rw [if_pos rfl, upW_at hb hr hx hd, getD_take2 hd]
    rfl
  · rw [if_neg (by decide), lowW_at hb hr hx hd, getD_drop2]
theorem range4 {α : Type} (f : Nat → α) : (List.range 4).map f = [f 0, f 1, f 2, f 3] := rfl
theorem four_getD {l : List UInt8} (h : l.length = 4) : [l.getD 0 0, l.getD 1 0, l.getD 2 0, l.getD 3 0] = l := by
  obtain ⟨x, y, z, u, rfl⟩ := four h
  rfl
theorem blkP_apply {b p : PCh} {m : Nat} (hb : rOk b = true) (hp : ∀ r ∈ p, hasB b.length r = true) (hm : Rect m p) {x y : Nat} (hy : y < p.length) (hx : x < (p[y]).length) :
    blkP (applyB b p) (2 * (x : Int)) (2 * (y : Int)) = blk b (p[y])[x] := by
  have hr := hp _ (List.getElem_mem hy)
  have h4 : (blk b (p[y])[x]).length = 4 := (rOk_row hb (blk_mem hb hr (List.getElem_mem hx))).2.1
  have c0 := atP_apply hb hp hm hy hx (d := 0) (e := 0) (by omega) (by omega)
  have c1 := atP_apply hb hp hm hy hx (d := 1) (e := 0) (by omega) (by omega)
  have c2 := atP_apply hb hp hm hy hx (d := 0) (e := 1) (by omega) (by omega)
  have c3 := atP_apply hb hp hm hy hx (d := 1) (e := 1) (by omega) (by omega)
  unfold blkP
  rw [range4, ← four_getD h4]
  have e0 : 2 * (x : Int) + ((0 : Nat) : Int) % 2 = ((2 * x + 0 : Nat) : Int) := by omega
  have e1 : 2 * (x : Int) + ((1 : Nat) : Int) % 2 = ((2 * x + 1 : Nat) : Int) := by omega
  have e2 : 2 * (x : Int) + ((2 : Nat) : Int) % 2 = ((2 * x + 0 : Nat) : Int) := by omega
  have e3 : 2 * (x : Int) + ((3 : Nat) : Int) % 2 = ((2 * x + 1 : Nat) : Int) := by omega
  have g0 : 2 * (y : Int) + ((0 : Nat) : Int) / 2 = ((2 * y + 0 : Nat) : Int) := by omega
  have g1 : 2 * (y : Int) + ((1 : Nat) : Int) / 2 = ((2 * y + 0 : Nat) : Int) := by omega
  have g2 : 2 * (y : Int) + ((2 : Nat) : Int) / 2 = ((2 * y + 1 : Nat) : Int) := by omega
  have g3 : 2 * (y : Int) + ((3 : Nat) : Int) / 2 = ((2 * y + 1 : Nat) : Int) := by omega
  rw [e0, e1, e2, e3, g0, g1, g2, g3, c0, c1, c2, c3]

/-! ## the letter of a block -/
theorem let_not32 {c : UInt8} (h : isLet c = true) : (c == 32) = false := by
  have h1 := isLet_bd h
  rw [beq_eq_false_iff_ne]
  intro h2
  subst h2
  simp at h1
theorem agr_self {bl w : List UInt8} (h : bl = w) : agr bl w = true := by
  subst h
  exact List.all_eq_true.2 fun i _ => by simp [ag1]
theorem agr_eq {bl w : List UInt8} (h1 : bl.length = 4) (h2 : w.length = 4) (hl : bl.all isLet = true) (h : agr bl w = true) : bl = w := by
  obtain ⟨a, b, c, d, rfl⟩ := four h1
  obtain ⟨x, y, z, u, rfl⟩ := four h2
  simp only [List.all_cons, List.all_nil, Bool.and_true, Bool.and_eq_true] at hl
  have k0 := range_all_at h (k := 0) (by omega)
  have k1 := range_all_at h (k := 1) (by omega)
  have k2 := range_all_at h (k := 2) (by omega)
  have k3 := range_all_at h (k := 3) (by omega)
  simp only [ag1, List.getD_cons_zero, List.getD_cons_succ, let_not32 hl.1, let_not32 hl.2.1, let_not32 hl.2.2.1, let_not32 hl.2.2.2, Bool.false_or, beq_iff_eq] at k0 k1 k2 k3
  subst k0 k1 k2 k3
  rfl
theorem letB_some {b : PCh} {bl w : List UInt8} (hw : w ∈ b) (h : agr bl w = true) : ∃ (j : Nat) (hj : j < b.length), letB b bl = (j : Int) ∧ agr bl b[j] = true ∧ b.findIdx (agr bl) = j := by
  have hj : b.findIdx (agr bl) < b.length := List.findIdx_lt_length_of_exists ⟨w, hw, h⟩
  refine ⟨_, hj, ?_, List.findIdx_getElem (w := hj), rfl⟩
  unfold letB
  rw [if_pos hj]
theorem letB_nn {b : PCh} {bl w : List UInt8} (hw : w ∈ b) (h : agr bl w = true) : 0 ≤ letB b bl := by
  obtain ⟨j, _, h1, _⟩ := letB_some hw h
  omega
/-- the letter that the program finds for a letter's block -/
def canon (b : PCh) (c : UInt8) : UInt8 := UInt8.ofNat (97 + (letB b (blk b c)).toNat)
def recP (b p : PCh) : PCh := p.map fun r => r.map (canon b)
theorem canon_at {b : PCh} (hb : rOk b = true) {c : UInt8} (hc : c.toNat - 97 < b.length) :
    ∃ (j : Nat) (hj : j < b.length), letB b (blk b c) = (j : Int) ∧ b[j] = blk b c ∧ (canon b c).toNat = 97 + j := by
  have hm : blk b c ∈ b := by rw [blk_eq hc]; exact List.getElem_mem hc
  obtain ⟨j, hj, h1, h2, _⟩ := letB_some hm (agr_self rfl)
  have h4 := (rOk_row hb hm)
  have hj4 := (rOk_len hb).2
  refine ⟨j, hj, h1, (agr_eq h4.2.1 (rOk_row hb (List.getElem_mem hj)).2.1 (isW_all h4.1) h2).symm, ?_⟩
  unfold canon
  rw [h1]
  have : j = 0 ∨ j = 1 ∨ j = 2 ∨ j = 3 := by omega
  rcases this with rfl | rfl | rfl | rfl <;> rfl
theorem blk_canon {b : PCh} (hb : rOk b = true) {c : UInt8} (hc : c.toNat - 97 < b.length) : blk b (canon b c) = blk b c := by
  obtain ⟨j, hj, _, h2, h3⟩ := canon_at hb hc
  have e : (canon b c).toNat - 97 = j := by omega
  rw [blk_eq (c := canon b c) (by omega), ← h2]
  simp only [e]
theorem nodup_inj {b : PCh} (hn : b.Nodup) {i j : Nat} (hi : i < b.length) (hj : j < b.length) (h : b[i] = b[j]) : i = j := by
  rcases Nat.lt_trichotomy i j with hlt | he | hlt
  · exact absurd h (List.pairwise_iff_getElem.1 hn i j hi hj hlt)
  · exact he
  · exact absurd h.symm (List.pairwise_iff_getElem.1 hn j i hj hi hlt)
theorem canon_id {b : PCh} (hb : rOk b = true) (hn : b.Nodup) {c : UInt8} (hl : isLet c = true) (hc : c.toNat - 97 < b.length) : canon b c = c := by
  obtain ⟨j, hj, _, h2, h3⟩ := canon_at hb hc
  rw [blk_eq hc] at h2
  have := nodup_inj hn hj hc h2
  have h4 := isLet_bd hl
  exact UInt8.toNat_inj.1 (by omega)
theorem upW_map (b : PCh) (g : UInt8 → UInt8) (r : List UInt8) (h : ∀ c ∈ r, blk b (g c) = blk b c) : upW b (r.map g) = upW b r := by
  unfold upW; rw [List.flatMap_map]; exact flatMap_congr_mem fun c hc => by rw [h c hc]
theorem lowW_map (b : PCh) (g : UInt8 → UInt8) (r : List UInt8) (h : ∀ c ∈ r, blk b (g c) = blk b c) : lowW b (r.map g) = lowW b r := by
  unfold lowW; rw [List.flatMap_map]; exact flatMap_congr_mem fun c hc => by rw [h c hc]
theorem has_at {n : Nat} {r : List UInt8} (h : hasB n r = true) {c : UInt8} (hc : c ∈ r) : c.toNat - 97 < n := by
  have := List.all_eq_true.1 h c hc
  simpa using this
theorem apply_rec {b p : PCh} (hb : rOk b = true) (hp : ∀ r ∈ p, hasB b.length r = true) : applyB b (recP b p) = applyB b p := by
  unfold applyB recP
  rw [List.flatMap_map]
  refine flatMap_congr_mem fun r hr => ?_
  have h : ∀ c ∈ r, blk b (canon b c) = blk b c := fun c hc => blk_canon hb (has_at (hp r hr) hc)
  rw [upW_map b _ r h, lowW_map b _ r h]
theorem rec_id {b p : PCh} (hb : rOk b = true) (hn : b.Nodup) (hok : pOk p = true) (hp : ∀ r ∈ p, hasB b.length r = true) : recP b p = p := by
  unfold recP
  have h : ∀ r ∈ p, (r.map (canon b)) = r := fun r hr => by
    have h2 : ∀ c ∈ r, canon b c = c := fun c hc => canon_id hb hn (List.all_eq_true.1 (isW_all (pOk_row hok hr).1) c hc) (has_at (hp r hr) hc)
    rw [List.map_congr_left h2]; simp
  rw [List.map_congr_left h]; simp
theorem rec_len (b p : PCh) : (recP b p).length = p.length := by simp [recP]
theorem rec_rect {b p : PCh} {m : Nat} (hm : Rect m p) : Rect m (recP b p) := fun r hr => by
  obtain ⟨s, hs, rfl⟩ := List.mem_map.1 hr
  rw [List.length_map]; exact hm s hs
theorem rec_has {b p : PCh} (hb : rOk b = true) (hp : ∀ r ∈ p, hasB b.length r = true) : (recP b p).all (hasB b.length) = true := by
  refine List.all_eq_true.2 fun r hr => List.all_eq_true.2 fun c hc => ?_
  obtain ⟨s, hs, rfl⟩ := List.mem_map.1 hr
  obtain ⟨d, hd, rfl⟩ := List.mem_map.1 hc
  obtain ⟨j, hj, _, _, h3⟩ := canon_at hb (has_at (hp s hs) hd)
  simp only [decide_eq_true_eq]; omega

/-! ## the parent of an applied patch -/
section
variable {b p : PCh} (hb : rOk b = true) (hok : pOk p = true) (hh : p.all (hasB b.length) = true) (h1 : p.length ≤ 16) (h2 : wd p ≤ 16)
include hb hok hh
theorem apply_wd : wd (applyB b p) = 2 * wd p :=
  rect_wd (apply_rect hb (List.all_eq_true.1 hh) (pOk_rect hok)) (by rw [applyB_len]; have := pOk_len hok; omega)
theorem letP_in {x y : Nat} (hy : y < p.length) (hx : x < wd p) : letP b (applyB b p) (2 * (x : Int)) (2 * (y : Int)) = letB b (blk b ((p[y]).getD x 0)) ∧ 0 ≤ letP b (applyB b p) (2 * (x : Int)) (2 * (y : Int)) := by
  have hl : x < (p[y]).length := by rw [(pOk_row hok (List.getElem_mem hy)).2.1]; exact hx
  have hr := List.all_eq_true.1 hh _ (List.getElem_mem hy)
  have e : letP b (applyB b p) (2 * (x : Int)) (2 * (y : Int)) = letB b (blk b (p[y])[x]) := by
    unfold letP
    rw [blkP_apply hb (List.all_eq_true.1 hh) (pOk_rect hok) hy hl]
  rw [e, getD_at hl]
  exact ⟨rfl, letB_nn (blk_mem hb hr (List.getElem_mem hl)) (agr_self rfl)⟩
include h1 h2
theorem parent_apply : parentOf b (applyB b p) 0 0 = (recP b p, true) := by
  have hq := apply_ok hb hok hh h1 h2
  have hpl := pOk_len hok
  have hpw := pOk_wd hok
  have hw := apply_wd hb hok hh
  have hC : nC (applyB b p) 0 = wd p := by unfold nC; omega
  have hR : nR (applyB b p) 0 = p.length := by unfold nR; rw [applyB_len]; omega
  have hok2 : okP b (applyB b p) 0 0 = true := by unfold okP; rw [hb, hq]; rfl
  have hpar : parB b (applyB b p) 0 0 = true := by
    unfold parB
    rw [hR, applyB_len, hw]
    simp only [Bool.and_eq_true, decide_eq_true_eq]
    refine ⟨by omega, by omega, range_all_of fun y hy => range_all_of fun x hx => ?_⟩
    rw [hC] at hx
    have h3 := (letP_in hb hok hh hy hx).2
    unfold lcell
    simp only [decide_eq_true_eq]
    have e1 : ((0 : Nat) : Int) + 2 * (x : Int) = 2 * (x : Int) := by omega
    have e2 : ((0 : Nat) : Int) + 2 * (y : Int) = 2 * (y : Int) := by omega
    rw [e1, e2]; exact h3
  have e : parentOf b (applyB b p) 0 0 = (prows b (applyB b p) 0 0 (nR (applyB b p) 0), true) := by
    unfold parentOf
    have e0 : (0 : Int).toNat = 0 := rfl
    rw [hok2, e0, hpar]; rfl
  rw [e, hR]
  congr 1
  apply List.ext_getElem
  · rw [prows_len, rec_len]
  · intro y h3 h4
    have hy : y < p.length := by rw [prows_len] at h3; exact h3
    have hrl := (pOk_row hok (List.getElem_mem hy)).2.1
    apply List.ext_getElem
    · simp [prows, recP, prow_len, hC, hrl]
    · intro x h5 h6
      have hx : x < (p[y]).length := by simpa [recP] using h6
      have hx2 : x < wd p := by omega
      have h7 := (letP_in hb hok hh hy hx2).1
      rw [getD_at hx] at h7
      have e1 : ((0 : Nat) : Int) + 2 * (x : Int) = 2 * (x : Int) := by omega
      have e2 : ((0 : Nat) : Int) + 2 * (y : Int) = 2 * (y : Int) := by omega
      simp only [prows, prow, recP, List.getElem_map, List.getElem_range, lcell, e1, e2, h7]
      rfl
theorem rec_ok : pOk (recP b p) = true := by
  have h := parent_apply hb hok hh h1 h2
  have h3 := parentOf_pOk (b := b) (p := applyB b p) (x := 0) (y := 0) (by rw [h])
  rw [h] at h3
  exact h3
end

/-! ## fitting: blocks that lie partly outside -/
theorem atP_neg {p : PCh} {u v : Int} (h : u < 0 ∨ v < 0 ∨ (wd p : Int) ≤ u ∨ (p.length : Int) ≤ v) : atP p u v = 32 := by
  apply atP_out
  rcases h with h | h | h | h
  · rw [wi_not (n := u) (by omega), Bool.and_false]
  · rw [wi_not (n := v) (by omega), Bool.false_and]
  · rw [wi_not (n := u) (by omega), Bool.and_false]
  · rw [wi_not (n := v) (by omega), Bool.false_and]
theorem agr_of {bl w : List UInt8} (h : ∀ k, k < 4 → bl.getD k 0 = 32 ∨ bl.getD k 0 = w.getD k 0) : agr bl w = true :=
  range_all_of fun k hk => by
    unfold ag1
    rcases h k hk with h | h
    · rw [h]; rfl
    · rw [h]; simp
theorem letP_out {b p : PCh} {u v : Int} (hb : 0 < b.length) (h : u < -1 ∨ v < -1) : 0 ≤ letP b p u v := by
  unfold letP
  refine letB_nn (List.getElem_mem hb) (agr_of fun k hk => Or.inl ?_)
  rw [blkP_getD p u v hk]
  exact atP_neg (by omega)
theorem fits_apply {b p : PCh} (hb : rOk b = true) (hok : pOk p = true) (hh : p.all (hasB b.length) = true) (h1 : p.length ≤ 16) (h2 : wd p ≤ 16) : fitsAt b (applyB b p) 0 0 = true := by
  have hb1 := rOk_len hb
  have hw := apply_wd hb hok hh
  have e0 : (0 : Int).toNat = 0 := rfl
  unfold fitsAt
  rw [parent_apply hb hok hh h1 h2, e0]
  simp only [Bool.true_and]
  have hV : nV (applyB b p) 0 = p.length + 1 := by unfold nV; rw [applyB_len]; omega
  have hU : nU (applyB b p) 0 = wd p + 1 := by unfold nU; omega
  refine range_all_of fun i hi => range_all_of fun k hk => ?_
  rw [hV] at hi
  rw [hU] at hk
  simp only [decide_eq_true_eq]
  unfold fcell
  rcases Nat.eq_zero_or_pos i with rfl | hi0
  · exact letP_out (by omega) (by omega)
  rcases Nat.eq_zero_or_pos k with rfl | hk0
  · exact letP_out (by omega) (by omega)
  have h3 := (letP_in hb hok hh (y := i - 1) (x := k - 1) (by omega) (by omega)).2
  have e1 : ((0 : Nat) : Int) - 2 + 2 * (k : Int) = 2 * ((k - 1 : Nat) : Int) := by omega
  have e2 : ((0 : Nat) : Int) - 2 + 2 * (i : Int) = 2 * ((i - 1 : Nat) : Int) := by omega
  rw [e1, e2]; exact h3

/-! ## a part that begins one step within -/
theorem part_wd {p : PCh} {m : Nat} (hm : Rect m p) {x y w h : Nat} (hx : x + w ≤ m) : Rect w (part p x y w h) := fun r hr => by
  obtain ⟨s, hs, rfl⟩ := List.mem_map.1 hr
  have h1 := hm s (List.mem_of_mem_drop (List.mem_of_mem_take hs))
  simp; omega
theorem atP_part {p : PCh} {m : Nat} (hm : Rect m p) {x y w h : Nat} (hh : 0 < h) (hx : x + w ≤ m) (hy : y + h ≤ p.length) (u v : Int) :
    atP (part p x y w h) u v = 32 ∨ atP (part p x y w h) u v = atP p (u + x) (v + y) := by
  have hR := part_wd (p := p) hm (x := x) (y := y) (w := w) (h := h) hx
  have hl := part_len (p := p) (x := x) (w := w) hy
  have hw := rect_wd hR (by omega)
  by_cases hin : 0 ≤ u ∧ 0 ≤ v ∧ u < w ∧ v < h
  · right
    obtain ⟨h1, h2, h3, h4⟩ := hin
    obtain ⟨u, rfl⟩ := Int.eq_ofNat_of_zero_le h1
    obtain ⟨v, rfl⟩ := Int.eq_ofNat_of_zero_le h2
    have hv : v < (part p x y w h).length := by omega
    have hrl := hR _ (List.getElem_mem hv)
    have hv2 : v + y < p.length := by omega
    have hpl := hm _ (List.getElem_mem hv2)
    have hwp := rect_wd hm (by omega)
    have e1 : (u : Int) + (x : Int) = ((u + x : Nat) : Int) := by omega
    have e2 : (v : Int) + (y : Int) = ((v + y : Nat) : Int) := by omega
    rw [e1, e2, atP_in hv (by omega) (by omega), atP_in hv2 (by omega) (by omega)]
    have e3 : (part p x y w h)[v]? = some (((p[v + y]).take (x + w)).drop x) := by
      unfold part
      rw [List.getElem?_map, List.getElem?_take_of_lt (by omega), List.getElem?_drop, Nat.add_comm y v, List.getElem?_eq_getElem hv2]
      rfl
    obtain ⟨_, e4⟩ := List.getElem?_eq_some_iff.1 e3
    simp only [e4, List.getElem_drop, List.getElem_take, Nat.add_comm x u]
  · left
    exact atP_neg (by rw [hw, hl]; omega)
theorem letP_part {b p : PCh} {m : Nat} (hm : Rect m p) {x y w h : Nat} (hh : 0 < h) (hx : x + w ≤ m) (hy : y + h ≤ p.length) {u v : Int} (hk : blkP p (u + x) (v + y) ∈ b) : 0 ≤ letP b (part p x y w h) u v := by
  unfold letP
  refine letB_nn hk (agr_of fun k hk => ?_)
  rw [blkP_getD _ u v hk, blkP_getD _ (u + x) (v + y) hk]
  have := atP_part hm hh hx hy (u + (k : Int) % 2) (v + (k : Int) / 2)
  have e1 : u + (k : Int) % 2 + (x : Int) = u + (x : Int) + (k : Int) % 2 := by omega
  have e2 : v + (k : Int) / 2 + (y : Int) = v + (y : Int) + (k : Int) / 2 := by omega
  rw [e1, e2] at this
  exact this
section
variable {b p : PCh} (hb : rOk b = true) (hok : pOk p = true) (hh : p.all (hasB b.length) = true) (h1 : p.length ≤ 16) (h2 : wd p ≤ 16)
include hb hok hh
theorem blkP_mem {x y : Nat} (hy : y < p.length) (hx : x < wd p) : blkP (applyB b p) (2 * (x : Int)) (2 * (y : Int)) ∈ b := by
  have hl : x < (p[y]).length := by rw [(pOk_row hok (List.getElem_mem hy)).2.1]; exact hx
  rw [blkP_apply hb (List.all_eq_true.1 hh) (pOk_rect hok) hy hl]
  exact blk_mem hb (List.all_eq_true.1 hh _ (List.getElem_mem hy)) (List.getElem_mem hl)
include h1 h2
def cutP (b p : PCh) : PCh := part (applyB b p) 1 1 (2 * wd p - 1) (2 * p.length - 1)
theorem partOf_cut : partOf (applyB b p) 1 1 (((2 * wd p : Nat) : Int) - 1) (((2 * p.length : Nat) : Int) - 1) = (cutP b p, true) := by
  have hq := apply_ok hb hok hh h1 h2
  have hpl := pOk_len hok
  have hpw := pOk_wd hok
  unfold partOf
  rw [hq, apply_wd hb hok hh, applyB_len, wi_mk (by omega) (by omega), wi_mk (by omega) (by omega), wi_mk (by omega) (by omega), wi_mk (by omega) (by omega)]
  have e1 : (((2 * wd p : Nat) : Int) - 1).toNat = 2 * wd p - 1 := by omega
  have e2 : (((2 * p.length : Nat) : Int) - 1).toNat = 2 * p.length - 1 := by omega
  rw [e1, e2]; rfl
theorem cut_rect : Rect (2 * wd p - 1) (cutP b p) := by
  have hpw := pOk_wd hok
  exact part_wd (apply_rect (m := wd p) hb (List.all_eq_true.1 hh) (pOk_rect hok)) (by omega)
theorem cut_len : (cutP b p).length = 2 * p.length - 1 := by
  have hpl := pOk_len hok
  exact part_len (by rw [applyB_len]; omega)
theorem cut_ok : pOk (cutP b p) = true := by
  have hq := apply_ok hb hok hh h1 h2
  have hpl := pOk_len hok
  have hpw := pOk_wd hok
  refine pOk_of (by rw [cut_len hb hok hh h1 h2]; omega) (by rw [cut_len hb hok hh h1 h2]; omega) (m := 2 * wd p - 1) (by omega) (by omega) (cut_rect hb hok hh h1 h2) fun r hr => ?_
  obtain ⟨s, hs, rfl⟩ := List.mem_map.1 hr
  have h3 := isW_all (pOk_row hq (List.mem_of_mem_drop (List.mem_of_mem_take hs))).1
  exact List.all_eq_true.2 fun c hc => List.all_eq_true.1 h3 c (List.mem_of_mem_take (List.mem_of_mem_drop hc))
theorem letP_cut {x y : Nat} (hy : y < p.length) (hx : x < wd p) : 0 ≤ letP b (cutP b p) (2 * (x : Int) - 1) (2 * (y : Int) - 1) := by
  have hpl := pOk_len hok
  have hpw := pOk_wd hok
  refine letP_part (apply_rect (m := wd p) hb (List.all_eq_true.1 hh) (pOk_rect hok)) (by omega) (by omega) (by rw [applyB_len]; omega) ?_
  have e1 : 2 * (x : Int) - 1 + ((1 : Nat) : Int) = 2 * (x : Int) := by omega
  have e2 : 2 * (y : Int) - 1 + ((1 : Nat) : Int) = 2 * (y : Int) := by omega
  rw [e1, e2]
  exact blkP_mem hb hok hh hy hx
theorem fits_cut (h3 : 2 ≤ p.length) (h4 : 2 ≤ wd p) : fitsAt b (cutP b p) 1 1 = true := by
  have hw : wd (cutP b p) = 2 * wd p - 1 := rect_wd (cut_rect hb hok hh h1 h2) (by rw [cut_len hb hok hh h1 h2]; omega)
  have hl := cut_len hb hok hh h1 h2
  have hok2 : okP b (cutP b p) 1 1 = true := by unfold okP; rw [hb, cut_ok hb hok hh h1 h2]; rfl
  have e0 : (1 : Int).toNat = 1 := rfl
  have hpar : parB b (cutP b p) 1 1 = true := by
    unfold parB
    rw [hl, hw]
    simp only [Bool.and_eq_true, decide_eq_true_eq]
    refine ⟨by omega, by omega, range_all_of fun y hy => range_all_of fun x hx => ?_⟩
    have hx : x + 1 < wd p := by unfold nC at hx; omega
    have hy : y + 1 < p.length := by unfold nR at hy; omega
    have h5 := letP_cut hb hok hh h1 h2 hy hx
    unfold lcell
    simp only [decide_eq_true_eq]
    have e1 : ((1 : Nat) : Int) + 2 * (x : Int) = 2 * ((x + 1 : Nat) : Int) - 1 := by omega
    have e2 : ((1 : Nat) : Int) + 2 * (y : Int) = 2 * ((y + 1 : Nat) : Int) - 1 := by omega
    rw [e1, e2]; exact h5
  have e : (parentOf b (cutP b p) 1 1).2 = true := by
    unfold parentOf
    rw [hok2, e0, hpar]; rfl
  unfold fitsAt
  rw [e, e0]
  simp only [Bool.true_and]
  refine range_all_of fun i hi => range_all_of fun k hk => ?_
  have hi : i < p.length := by unfold nV at hi; omega
  have hk : k < wd p := by unfold nU at hk; omega
  simp only [decide_eq_true_eq]
  unfold fcell
  have h5 := letP_cut hb hok hh h1 h2 hi hk
  have e1 : ((1 : Nat) : Int) - 2 + 2 * (k : Int) = 2 * (k : Int) - 1 := by omega
  have e2 : ((1 : Nat) : Int) - 2 + 2 * (i : Int) = 2 * (i : Int) - 1 := by omega
  rw [e1, e2]; exact h5
end

/-! ## ancestors -/
theorem growP_facts {b : PCh} (hb : rOk b = true) {m : Nat} (hm : m ≤ 3) : pOk (growP b [97] m) = true ∧ (growP b [97] m).all (hasB b.length) = true ∧ (growP b [97] m).length ≤ 16 ∧ wd (growP b [97] m) ≤ 16 := by
  have h := growP_ok hb (letOk_a hb) (m := m) (by omega)
  have hr := growP_rows hb (letOk_a hb) m
  have h8 : 2 ^ m ≤ 8 := Nat.pow_le_pow_right (n := 2) (by decide) hm
  unfold apOk at h
  simp only [Bool.and_eq_true, decide_eq_true_eq] at h
  exact ⟨h.2.1, h.2.2.1, by omega, by omega⟩
theorem goes_one {b : PCh} : goes b [[97]] = false := by unfold goes; rfl
theorem ancF_grow {b : PCh} (hb : rOk b = true) (hn : b.Nodup) : ∀ (m f : Nat), m ≤ 4 → m ≤ f → ancF b f (growP b [97] m) = ([[97]], m)
  | 0, f, _, _ => by
    cases f with
    | zero => rfl
    | succ f => unfold ancF; rw [show growP b [97] 0 = [[97]] from rfl, goes_one]; rfl
  | m + 1, 0, _, h => by omega
  | m + 1, f + 1, h4, h => by
    obtain ⟨h1, h2, h3, h5⟩ := growP_facts hb (m := m) (by omega)
    have hp := parent_apply hb h1 h2 h3 h5
    rw [rec_id hb hn h1 (List.all_eq_true.1 h2)] at hp
    have hg : goes b (applyB b (growP b [97] m)) = true := by
      unfold goes
      rw [hp, applyB_len, apply_wd hb h1 h2]
      simp
    show ancF b (f + 1) (applyB b (growP b [97] m)) = _
    unfold ancF
    rw [if_pos hg, hp, ancF_grow hb hn m f (by omega) (by omega)]
theorem anc_grow {b : PCh} (hb : rOk b = true) {m : Nat} (hm : m ≤ 4) (hn : b.Nodup ∨ m = 0) : anc b (growP b [97] m) = ([[97]], (m : Int)) := by
  have hok := growP_pOk hb (letOk_a hb) (m := m) (by omega)
  unfold anc
  rw [hb, hok]
  simp only [Bool.and_self, if_true]
  rcases hn with hn | rfl
  · rw [ancF_grow hb hn m 32 hm (by omega)]
  · rw [show growP b [97] 0 = [[97]] from rfl]
    unfold ancF
    rw [goes_one]; rfl
theorem grown_grow {b : PCh} (hb : rOk b = true) {m : Nat} (hm : m ≤ 4) (hn : b.Nodup ∨ m = 0) : grown b (growP b [97] m) = ([97], true) := by
  have hg : growBlock b [97] (m : Int) = (growP b [97] m, true) := by
    simp [growBlock, hb, letOk_a hb, wi_mk (show (0 : Int) ≤ m by omega) (show (m : Int) ≤ 5 by omega)]
  unfold grown
  rw [anc_grow hb hm hn]
  simp only [List.headD_cons, hg]
  simp [wd]
theorem anc_any {b : PCh} (hb : rOk b = true) {m : Nat} (hm : m ≤ 4) : 0 ≤ (anc b (growP b [97] m)).2 ∧ (anc b (growP b [97] m)).2 ≤ 32 ∧ 1 ≤ (anc b (growP b [97] m)).1.length ∧ (anc b (growP b [97] m)).1.length ≤ 32 := by
  have hok := growP_pOk hb (letOk_a hb) (m := m) (by omega)
  have e : anc b (growP b [97] m) = ((ancF b 32 (growP b [97] m)).1, ((ancF b 32 (growP b [97] m)).2 : Int)) := by
    unfold anc; rw [hb, hok]; rfl
  rw [e]
  have h1 := ancF_len b 32 (growP b [97] m)
  have h2 := pOk_len (ancF_pOk b 32 _ hok)
  exact ⟨by show (0 : Int) ≤ ((_ : Nat) : Int); omega, by show ((_ : Nat) : Int) ≤ 32; omega, h2.1, h2.2⟩

/-! ## seams -/
theorem seams_three {b : PCh} (hb : rOk b = true) : Srt (seams b [97] 3) ∧ 1 ≤ (seams b [97] 3).length ∧ (seams b [97] 3).length ≤ 1048576 ∧ ∀ s ∈ seams b [97] 3, s.length = 2 := by
  have hr := growP_rows hb (letOk_a hb) 3
  have hg : growBlock b [97] 3 = (growP b [97] 3, true) := by
    simp [growBlock, hb, letOk_a hb, wi_mk (show (0 : Int) ≤ 3 by omega) (show (3 : Int) ≤ 5 by omega)]
  have e : seams b [97] 3 = insF (seamsL (growP b [97] 3)) := by unfold seams; rw [hg]; rfl
  have h8 : (2 : Nat) ^ 3 = 8 := rfl
  rw [h8] at hr
  have hlen : ∀ s ∈ seamsL (growP b [97] 3), s.length = 2 := by
    intro s hs
    obtain ⟨r, hr2, hs2⟩ := List.mem_flatMap.1 hs
    obtain ⟨i, hi, rfl⟩ := List.mem_map.1 hs2
    have hi2 := List.mem_range.1 hi
    have := (hr.2 r hr2).2
    rw [List.length_drop, List.length_take]
    omega
  have hne : ∃ s, s ∈ seamsL (growP b [97] 3) := by
    obtain ⟨r, l, hrl⟩ : ∃ r l, growP b [97] 3 = r :: l := by
      cases h : growP b [97] 3 with
      | nil => rw [h] at hr; simp at hr
      | cons r l => exact ⟨r, l, rfl⟩
    have hr8 := (hr.2 r (by rw [hrl]; simp)).2
    refine ⟨(r.take (2 * 0 + 1 + 2)).drop (2 * 0 + 1), List.mem_flatMap.2 ⟨r, by rw [hrl]; simp, List.mem_map.2 ⟨0, List.mem_range.2 (by omega), rfl⟩⟩⟩
  have hfl : ∀ (p : PCh), (∀ r ∈ p, r.length = 8) → (seamsL p).length = 3 * p.length := by
    intro p
    induction p with
    | nil => intro _; rfl
    | cons r p ih =>
      intro h
      have h1 := ih (fun r hr => h r (by simp [hr]))
      have h2 := h r (by simp)
      unfold seamsL at h1 ⊢
      rw [List.flatMap_cons, List.length_append, h1, pieces_len, h2, List.length_cons]; omega
  have h24 := hfl _ (fun r hr2 => (hr.2 r hr2).2)
  rw [e]
  refine ⟨insF_srt _, ?_, ?_, fun s hs => hlen s ((insF_mem _ s).1 hs)⟩
  · obtain ⟨s, hs⟩ := hne
    exact List.length_pos_of_mem ((insF_mem _ s).2 hs)
  · have := insF_len (seamsL (growP b [97] 3)); rw [hr.1] at h24; omega
theorem seams_one (b : PCh) : seams b [97] 1 = [] := by unfold seams; rw [show decide (2 ≤ (1 : Int)) = false from rfl, Bool.and_false]; rfl
end Go.Proofs.Ytbjhjpakjinpiaa
