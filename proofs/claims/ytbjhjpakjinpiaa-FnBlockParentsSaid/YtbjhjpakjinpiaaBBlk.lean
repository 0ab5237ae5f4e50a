/-
  Plain facts on blocks, flips and parts of patches. No conditions.
-/
import Derived.Test.YtbjhjpakjinpiaaBFlip
import Derived.Test.YtbjhjpakjinpiaaBFlipR
import Derived.Test.YtbjhjpakjinpiaaBGrow
import Derived.Test.YtbjhjpakjinpiaaBCount
import Derived.Test.YtbjhjpakjinpiaaMkC
import Derived.Test.YtbjhjpakjinpiaaSortP
import Derived.Test.YtbjhjpakjinpiaaJoinI
namespace Go.Proofs.Ytbjhjpakjinpiaa
open Go.RowKit

abbrev PCh := List (List UInt8)
def Rect (m : Nat) (p : PCh) : Prop := ∀ r ∈ p, r.length = m
theorem rect_wd {m : Nat} {p : PCh} (h : Rect m p) (h0 : 0 < p.length) : wd p = m := by rw [wd_zero h0]; exact h _ (List.getElem_mem h0)
theorem getD_at {l : List UInt8} {x : Nat} (h : x < l.length) : l.getD x 0 = l[x] := by simp [List.getD, List.getElem?_eq_getElem h]
theorem colOf_at {p : PCh} {x y : Nat} (hy : y < p.length) : (colOf p x).getD y 0 = (p[y]).getD x 0 := by
  rw [getD_at (by rw [colOf_len]; exact hy)]
  simp [colOf]
theorem flipP_rect {m : Nat} {p : PCh} (h : Rect m p) (h0 : 0 < p.length) : flipP p = (List.range m).map (colOf p) := by unfold flipP; rw [rect_wd h h0]
theorem flipP_rows {p : PCh} : Rect p.length (flipP p) := fun r hr => by
  obtain ⟨i, _, rfl⟩ := List.mem_map.1 hr
  exact colOf_len p i
theorem flip_flip {m : Nat} {p : PCh} (hm : 0 < m) (h : Rect m p) (h0 : 0 < p.length) : flipP (flipP p) = p := by
  have hw := rect_wd h h0
  have hl : (flipP p).length = m := by rw [flipP_len, hw]
  have hw2 : wd (flipP p) = p.length := rect_wd flipP_rows (by omega)
  apply List.ext_getElem
  · rw [flipP_len, hw2]
  · intro y h1 h2
    have hpy : (p[y]).length = m := h _ (List.getElem_mem h2)
    have e1 : (flipP (flipP p))[y] = colOf (flipP p) y := by simp [flipP]
    rw [e1]
    apply List.ext_getElem
    · rw [colOf_len, hl, hpy]
    · intro x h3 h4
      have hx : x < (flipP p).length := by rw [hl]; omega
      have e2 : (colOf (flipP p) y)[x] = (colOf (flipP p) y).getD x 0 := (getD_at h3).symm
      rw [e2, colOf_at hx]
      have e3 : (flipP p)[x] = colOf p x := by simp [flipP]
      rw [e3, colOf_at h2, getD_at h4]

theorem range_two {α : Type} (F : Nat → α) : ∀ m : Nat, (List.range (2 * m)).map F = (List.range m).flatMap fun x => [F (2 * x), F (2 * x + 1)]
  | 0 => rfl
  | m + 1 => by
    have h : 2 * (m + 1) = 2 * m + 1 + 1 := by omega
    rw [h, List.range_succ, List.range_succ, List.range_succ, List.map_append, List.map_append, List.flatMap_append, range_two F m]
    simp
theorem flat2 {l : List UInt8} {f : UInt8 → List UInt8} (hf : ∀ c ∈ l, (f c).length = 2) : ∀ {x d : Nat} (hx : x < l.length), d < 2 → (l.flatMap f).getD (2 * x + d) 0 = (f l[x]).getD d 0 := by
  induction l with
  | nil => intro x d hx; simp at hx
  | cons a l ih =>
    intro x d hx hd
    have ha := hf a (by simp)
    rw [List.flatMap_cons]
    cases x with
    | zero =>
      simp only [Nat.mul_zero, Nat.zero_add, List.getElem_cons_zero, List.getD]
      rw [List.getElem?_append_left (by omega)]
    | succ x =>
      have h1 := ih (fun c hc => hf c (by simp [hc])) (x := x) (d := d) (by simpa using hx) hd
      simp only [List.getD, List.getElem_cons_succ] at h1 ⊢
      rw [List.getElem?_append_right (by omega), ha]
      have h2 : 2 * (x + 1) + d - 2 = 2 * x + d := by omega
      rw [h2]; exact h1
theorem map_congr_mem {α β : Type} {l : List α} {f g : α → β} (h : ∀ x ∈ l, f x = g x) : l.map f = l.map g := List.map_congr_left h
theorem flatMap_congr_mem {α β : Type} {l : List α} {f g : α → List β} (h : ∀ x ∈ l, f x = g x) : l.flatMap f = l.flatMap g := by
  induction l with
  | nil => rfl
  | cons a l ih => rw [List.flatMap_cons, List.flatMap_cons, h a (by simp), ih (fun x hx => h x (by simp [hx]))]
theorem blk_flip {b : PCh} {c : UInt8} (h : c.toNat - 97 < b.length) : blk (b.map flipW) c = flipW (blk b c) := by
  rw [blk_eq h, blk_eq (by simpa using h)]; simp
theorem row_blk {b : PCh} (hb : rOk b = true) {r : List UInt8} (hr : hasB b.length r = true) {x : Nat} (hx : x < r.length) : ∃ u v s t, blk b r[x] = [u, v, s, t] ∧ (r[x]).toNat - 97 < b.length := by
  have h1 := hasB_at hr hx
  have h2 := rOk_row hb (blk_mem hb hr (List.getElem_mem hx))
  obtain ⟨u, v, s, t, h3⟩ := four h2.2.1
  exact ⟨u, v, s, t, h3, h1⟩
theorem upW_at {b : PCh} (hb : rOk b = true) {r : List UInt8} (hr : hasB b.length r = true) {x d : Nat} (hx : x < r.length) (hd : d < 2) : (upW b r).getD (2 * x + d) 0 = ((blk b r[x]).take 2).getD d 0 :=
  flat2 (fun c hc => by have := (rOk_row hb (blk_mem hb hr hc)).2.1; simp [this]) hx hd
theorem lowW_at {b : PCh} (hb : rOk b = true) {r : List UInt8} (hr : hasB b.length r = true) {x d : Nat} (hx : x < r.length) (hd : d < 2) : (lowW b r).getD (2 * x + d) 0 = ((blk b r[x]).drop 2).getD d 0 :=
  flat2 (fun c hc => by have := (rOk_row hb (blk_mem hb hr hc)).2.1; simp [this]) hx hd
theorem apply_rect {b p : PCh} {m : Nat} (hb : rOk b = true) (hp : ∀ r ∈ p, hasB b.length r = true) (hm : Rect m p) : Rect (2 * m) (applyB b p) := applyB_row hb hp hm

theorem flip_apply {b p : PCh} {m : Nat} (hb : rOk b = true) (hp : ∀ r ∈ p, hasB b.length r = true) (hm : Rect m p) (h0 : 0 < p.length) : flipP (applyB b p) = applyB (b.map flipW) (flipP p) := by
  have hq : 0 < (applyB b p).length := by rw [applyB_len]; omega
  rw [flipP_rect (apply_rect hb hp hm) hq, flipP_rect hm h0, range_two]
  unfold applyB
  rw [List.flatMap_map]
  refine flatMap_congr_mem fun x hx => ?_
  have hxm : x < m := List.mem_range.1 hx
  have key : ∀ d, d < 2 → colOf (p.flatMap fun r => [upW b r, lowW b r]) (2 * x + d) = (colOf p x).flatMap fun c => if d = 0 then (blk (b.map flipW) c).take 2 else (blk (b.map flipW) c).drop 2 := by
    intro d hd
    unfold colOf
    rw [List.map_flatMap, List.flatMap_map]
    refine flatMap_congr_mem fun r hr => ?_
    have hxr : x < r.length := by rw [hm r hr]; exact hxm
    obtain ⟨u, v, s, t, h1, h2⟩ := row_blk hb (hp r hr) hxr
    simp only [List.map_cons, List.map_nil, upW_at hb (hp r hr) hxr hd, lowW_at hb (hp r hr) hxr hd, getD_at hxr, blk_flip h2, h1]
    have : d = 0 ∨ d = 1 := by omega
    rcases this with rfl | rfl <;> simp [flipW]
  have k0 := key 0 (by omega)
  have k1 := key 1 (by omega)
  simp only [Nat.add_zero, if_true] at k0
  rw [k0, k1]
  simp [upW, lowW]

theorem flat2_cut {l : List UInt8} {f : UInt8 → List UInt8} (hf : ∀ c ∈ l, (f c).length = 2) : ∀ {x : Nat} (hx : x < l.length), ((l.flatMap f).take (2 * x + 2)).drop (2 * x) = f l[x] := by
  induction l with
  | nil => intro x hx; simp at hx
  | cons a l ih =>
    intro x hx
    have ha := hf a (by simp)
    rw [List.flatMap_cons]
    cases x with
    | zero => simp [ha]
    | succ x =>
      have h1 := ih (fun c hc => hf c (by simp [hc])) (x := x) (by simpa using hx)
      have e1 : 2 * (x + 1) + 2 = (f a).length + (2 * x + 2) := by omega
      have e2 : 2 * (x + 1) = (f a).length + 2 * x := by omega
      rw [e1, e2, List.take_length_add_append, List.drop_length_add_append, h1]
      rfl
theorem apply_rows (b : PCh) : ∀ (p : PCh) (y : Nat) (hy : y < p.length), ((applyB b p).drop (2 * y)).take 2 = [upW b p[y], lowW b p[y]]
  | [], y, hy => by simp at hy
  | r :: p, 0, _ => by simp [applyB]
  | r :: p, y + 1, hy => by
    have h := apply_rows b p y (by simpa using hy)
    have e : 2 * (y + 1) = 2 * y + 1 + 1 := by omega
    have e2 : applyB b (r :: p) = upW b r :: lowW b r :: applyB b p := by simp [applyB]
    rw [e2, e, List.drop_succ_cons, List.drop_succ_cons, h]
    rfl
theorem part_apply {b p : PCh} (hb : rOk b = true) (hp : ∀ r ∈ p, hasB b.length r = true) {x y : Nat} (hy : y < p.length) (hx : x < (p[y]).length) :
    part (applyB b p) (2 * x) (2 * y) 2 2 = [(blk b (p[y])[x]).take 2, (blk b (p[y])[x]).drop 2] := by
  have hr := hp _ (List.getElem_mem hy)
  unfold part
  rw [apply_rows b p y hy]
  simp only [List.map_cons, List.map_nil]
  have h1 : ∀ c ∈ p[y], (blk b c).length = 4 := fun c hc => (rOk_row hb (blk_mem hb hr hc)).2.1
  unfold upW lowW
  rw [flat2_cut (fun c hc => by simp [h1 c hc]) hx, flat2_cut (fun c hc => by simp [h1 c hc]) hx]
end Go.Proofs.Ytbjhjpakjinpiaa
