/-
  Contracts of ApplyBlocks (program and reference) and l21Apply. No conditions.
-/
import Derived.Test.YtbaleboljcoigaaBLaws1
import Derived.Test.YtbaleboljcoigaaTwo
import Derived.Test.YtbaleboljcoigaaBytes
import Derived.Deep.RegionHeld3
namespace Go.Proofs.Ytbaleboljcoigaa
open Go.RowKit

theorem four {r : List UInt8} (h : r.length = 4) : ∃ x y z u, r = [x, y, z, u] := by
  match r, h with
  | [x, y, z, u], _ => exact ⟨x, y, z, u, rfl⟩
def blk (b : List (List UInt8)) (c : UInt8) : List UInt8 := b.getD (c.toNat - 97) []
def upW (b : List (List UInt8)) (r : List UInt8) : List UInt8 := r.flatMap fun c => (blk b c).take 2
def lowW (b : List (List UInt8)) (r : List UInt8) : List UInt8 := r.flatMap fun c => (blk b c).drop 2
def applyB (b p : List (List UInt8)) : List (List UInt8) := p.flatMap fun r => [upW b r, lowW b r]
def apOk (b p : List (List UInt8)) : Bool := rOk b && (pOk p && (p.all (hasB b.length) && (decide (2 * p.length ≤ 32) && decide (2 * wd p ≤ 32))))
def applyBlocks (b p : List (List UInt8)) : List (List UInt8) × Bool := if apOk b p then (applyB b p, true) else ([], false)

theorem flat_snoc {α β : Type} (l : List α) (f : α → List β) {k : Nat} (h : k < l.length) : (l.take (k + 1)).flatMap f = (l.take k).flatMap f ++ f l[k] := by
  rw [take_snoc l k h, List.flatMap_append]; simp
theorem applyB_len (b p : List (List UInt8)) : (applyB b p).length = 2 * p.length := by
  induction p with
  | nil => rfl
  | cons r p ih => unfold applyB at ih ⊢; rw [List.flatMap_cons, List.length_append, ih]; simp; omega
theorem applyBlocks_len (b p : List (List UInt8)) : (applyBlocks b p).1.length ≤ 4096 := by
  unfold applyBlocks
  split
  · rename_i h
    simp only [apOk, Bool.and_eq_true, decide_eq_true_eq] at h
    show (applyB b p).length ≤ 4096
    rw [applyB_len]; omega
  · simp
theorem blk_eq {b : List (List UInt8)} {c : UInt8} (h : c.toNat - 97 < b.length) : blk b c = b[c.toNat - 97] := by simp [blk, List.getD, List.getElem?_eq_getElem h]

/-- rows that a rule can be applied to -/
def Fit (b : List (List UInt8)) (r : List UInt8) : Prop := r.all isLet = true ∧ hasB b.length r = true
theorem hasB_at {n : Nat} {l : List UInt8} (h : hasB n l = true) {k : Nat} (hk : k < l.length) : l[k].toNat - 97 < n := by
  have := List.all_eq_true.1 h _ (List.getElem_mem hk)
  simpa using this
theorem flat_len {l : List UInt8} {f : UInt8 → List UInt8} {m : Nat} (h : ∀ c ∈ l, (f c).length = m) : (l.flatMap f).length = m * l.length := by
  induction l with
  | nil => simp
  | cons a l ih =>
    rw [List.flatMap_cons, List.length_append, h a (by simp), ih (fun c hc => h c (by simp [hc])), List.length_cons, Nat.mul_add]; omega
theorem blk_mem {b : List (List UInt8)} (hb : rOk b = true) {r : List UInt8} (hr : hasB b.length r = true) {c : UInt8} (hc : c ∈ r) : blk b c ∈ b := by
  have h := List.all_eq_true.1 hr c hc
  have h2 : c.toNat - 97 < b.length := by simpa using h
  rw [blk_eq h2]; exact List.getElem_mem h2
theorem upW_len {b : List (List UInt8)} (hb : rOk b = true) {r : List UInt8} (hr : hasB b.length r = true) : (upW b r).length = 2 * r.length :=
  flat_len fun c hc => by have := (rOk_row hb (blk_mem hb hr hc)).2.1; simp [this]
theorem lowW_len {b : List (List UInt8)} (hb : rOk b = true) {r : List UInt8} (hr : hasB b.length r = true) : (lowW b r).length = 2 * r.length :=
  flat_len fun c hc => by have := (rOk_row hb (blk_mem hb hr hc)).2.1; simp [this]
theorem upW_let {b : List (List UInt8)} (hb : rOk b = true) {r : List UInt8} (hr : hasB b.length r = true) : (upW b r).all isLet = true := by
  rw [List.all_eq_true]
  intro x hx
  obtain ⟨c, hc, hx⟩ := List.mem_flatMap.1 hx
  exact List.all_eq_true.1 (isW_all (rOk_row hb (blk_mem hb hr hc)).1) x (List.mem_of_mem_take hx)
theorem lowW_let {b : List (List UInt8)} (hb : rOk b = true) {r : List UInt8} (hr : hasB b.length r = true) : (lowW b r).all isLet = true := by
  rw [List.all_eq_true]
  intro x hx
  obtain ⟨c, hc, hx⟩ := List.mem_flatMap.1 hx
  exact List.all_eq_true.1 (isW_all (rOk_row hb (blk_mem hb hr hc)).1) x (List.mem_of_mem_drop hx)
theorem upW_has {b : List (List UInt8)} (hb : rOk b = true) {r : List UInt8} (hr : hasB b.length r = true) : hasB b.length (upW b r) = true := by
  unfold hasB
  rw [List.all_eq_true]
  intro x hx
  obtain ⟨c, hc, hx⟩ := List.mem_flatMap.1 hx
  exact List.all_eq_true.1 (rOk_row hb (blk_mem hb hr hc)).2.2 x (List.mem_of_mem_take hx)
theorem lowW_has {b : List (List UInt8)} (hb : rOk b = true) {r : List UInt8} (hr : hasB b.length r = true) : hasB b.length (lowW b r) = true := by
  unfold hasB
  rw [List.all_eq_true]
  intro x hx
  obtain ⟨c, hc, hx⟩ := List.mem_flatMap.1 hx
  exact List.all_eq_true.1 (rOk_row hb (blk_mem hb hr hc)).2.2 x (List.mem_of_mem_drop hx)
theorem applyB_fit {b p : List (List UInt8)} (hb : rOk b = true) (hp : ∀ r ∈ p, hasB b.length r = true) : ∀ l ∈ applyB b p, Fit b l := by
  intro l hl
  obtain ⟨r, hr, hl⟩ := List.mem_flatMap.1 hl
  have h := hp r hr
  simp only [List.mem_cons, List.mem_nil_iff, or_false] at hl
  rcases hl with rfl | rfl
  · exact ⟨upW_let hb h, upW_has hb h⟩
  · exact ⟨lowW_let hb h, lowW_has hb h⟩
theorem applyB_row {b p : List (List UInt8)} {m : Nat} (hb : rOk b = true) (hp : ∀ r ∈ p, hasB b.length r = true) (hm : ∀ r ∈ p, r.length = m) : ∀ l ∈ applyB b p, l.length = 2 * m := by
  intro l hl
  obtain ⟨r, hr, hl⟩ := List.mem_flatMap.1 hl
  have h := hp r hr
  simp only [List.mem_cons, List.mem_nil_iff, or_false] at hl
  rcases hl with rfl | rfl
  · rw [upW_len hb h, hm r hr]
  · rw [lowW_len hb h, hm r hr]
theorem pOk_apply {b p : List (List UInt8)} (hb : rOk b = true) (hp : pOk p = true) (hh : p.all (hasB b.length) = true) :
    pOk (applyB b p) = (decide (2 * p.length ≤ 32) && decide (2 * wd p ≤ 32)) := by
  have hpl := pOk_len hp
  have hall : ∀ r ∈ p, hasB b.length r = true := List.all_eq_true.1 hh
  have hrow := applyB_row (m := wd p) hb hall (fun r hr => (pOk_row hp hr).2.1)
  have hfit := applyB_fit hb hall
  have hlen := applyB_len b p
  have hw := pOk_wd hp
  have hwd : wd (applyB b p) = 2 * wd p := by
    rw [wd_zero (by omega)]; exact hrow _ (List.getElem_mem _)
  have h0 : 0 < (applyB b p).length := by omega
  by_cases h1 : 2 * wd p ≤ 32
  · have hA : (applyB b p).all (rowOk (wd (applyB b p))) = true := by
      rw [List.all_eq_true]
      intro l hl
      have hl2 := hrow l hl
      refine rowOk_mk ?_ (wi_mk (by omega) (by omega)) (by rw [hwd]; exact hl2)
      unfold isW
      rw [(hfit l hl).1]
      simp; omega
    unfold pOk
    rw [hA, hlen]
    by_cases h2 : 2 * p.length ≤ 32
    · have := wi_mk (n := ((2 * p.length : Nat) : Int)) (lo := 1) (hi := 32) (by omega) (by omega)
      simp only [this, h1, h2]; rfl
    · have := wi_not (n := ((2 * p.length : Nat) : Int)) (lo := 1) (hi := 32) (by omega)
      simp only [this, h2]; simp
  · have hA : (applyB b p).all (rowOk (wd (applyB b p))) = false := by
      refine all_bad (p := rowOk (wd (applyB b p))) h0 ?_
      have hl2 := hrow _ (List.getElem_mem h0)
      have := wi_not (n := (((applyB b p)[0]).length : Int)) (lo := 1) (hi := 32) (by omega)
      unfold rowOk
      rw [this]; simp
    unfold pOk
    rw [hA]
    simp [h1]

theorem up_snoc (b : List (List UInt8)) (r : List UInt8) {k : Nat} (h : k < r.length) (hj : r[k].toNat - 97 < b.length) {x y z u : UInt8} (hb : [x, y, z, u] = b[r[k].toNat - 97]) :
    upW b (r.take (k + 1)) = upW b (r.take k) ++ [x, y] := by
  unfold upW; rw [flat_snoc r _ h, blk_eq hj, ← hb]; rfl
theorem low_snoc (b : List (List UInt8)) (r : List UInt8) {k : Nat} (h : k < r.length) (hj : r[k].toNat - 97 < b.length) {x y z u : UInt8} (hb : [x, y, z, u] = b[r[k].toNat - 97]) :
    lowW b (r.take (k + 1)) = lowW b (r.take k) ++ [z, u] := by
  unfold lowW; rw [flat_snoc r _ h, blk_eq hj, ← hb]; rfl
theorem ap_snoc (b p : List (List UInt8)) {k : Nat} (h : k < p.length) : applyB b (p.take (k + 1)) = applyB b (p.take k) ++ [upW b p[k], lowW b p[k]] := flat_snoc p _ h
theorem svs_two (ss : List (List UInt8)) (a b : List UInt8) : svs (ss ++ [a, b]) = svs ss ++ [.string ⟨a.toArray⟩, .string ⟨b.toArray⟩] := by simp [svs]
theorem bvs_two (l : List UInt8) (a b : UInt8) : bvs (l ++ [a, b]) = bvs l ++ [.int .u8 (a.toNat : Nat), .int .u8 (b.toNat : Nat)] := by simp [bvs]

end Go.Proofs.Ytbaleboljcoigaa
