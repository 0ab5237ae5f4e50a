/-
  Plain facts: parts are counted alike row by row and column by column. No conditions.
-/
import Derived.Test.YtbjhjpakjinpiaaBBlk
namespace Go.Proofs.Ytbjhjpakjinpiaa
open Go.RowKit

theorem nodup_le {α : Type} [DecidableEq α] : ∀ {a b : List α}, a.Nodup → (∀ x ∈ a, x ∈ b) → a.length ≤ b.length
  | [], _, _, _ => Nat.zero_le _
  | x :: a, b, ha, h => by
    obtain ⟨h1, h2⟩ := List.nodup_cons.1 ha
    have hx := h x (by simp)
    have h3 := nodup_le (a := a) (b := b.erase x) h2 (fun y hy => (List.mem_erase_of_ne (fun he => h1 (by rw [← he]; exact hy))).2 (h y (by simp [hy])))
    rw [List.length_erase_of_mem hx] at h3
    have h4 : 0 < b.length := List.length_pos_of_mem hx
    rw [List.length_cons]; omega
theorem rel_list {α β : Type} (R : α → β → Prop) {b : List β} : ∀ {a : List α}, a.Nodup → (∀ x ∈ a, ∃ y ∈ b, R x y) → (∀ x ∈ a, ∀ x' ∈ a, ∀ y, R x y → R x' y → x = x') →
    ∃ c : List β, c.length = a.length ∧ c.Nodup ∧ ∀ y ∈ c, y ∈ b ∧ ∃ x ∈ a, R x y
  | [], _, _, _ => ⟨[], rfl, List.nodup_nil, by simp⟩
  | x :: a, ha, ht, hi => by
    obtain ⟨h1, h2⟩ := List.nodup_cons.1 ha
    obtain ⟨c, hc1, hc2, hc3⟩ := rel_list R h2 (fun y hy => ht y (by simp [hy])) (fun y hy z hz => hi y (by simp [hy]) z (by simp [hz]))
    obtain ⟨y, hy, hR⟩ := ht x (by simp)
    refine ⟨y :: c, by simp [hc1], List.nodup_cons.2 ⟨fun hm => ?_, hc2⟩, fun z hz => ?_⟩
    · obtain ⟨_, x', hx', hR'⟩ := hc3 y hm
      have := hi x (by simp) x' (by simp [hx']) y hR hR'
      exact h1 (by rw [this]; exact hx')
    · rcases List.mem_cons.1 hz with rfl | hz
      · exact ⟨hy, x, by simp, hR⟩
      · obtain ⟨h4, x', hx', hR'⟩ := hc3 z hz
        exact ⟨h4, x', by simp [hx'], hR'⟩
theorem rel_le {α β : Type} [DecidableEq β] (R : α → β → Prop) {a : List α} {b : List β} (ha : a.Nodup) (ht : ∀ x ∈ a, ∃ y ∈ b, R x y) (hi : ∀ x ∈ a, ∀ x' ∈ a, ∀ y, R x y → R x' y → x = x') : a.length ≤ b.length := by
  obtain ⟨c, h1, h2, h3⟩ := rel_list R ha ht hi
  rw [← h1]
  exact nodup_le h2 fun y hy => (h3 y hy).1
theorem srt_nodup {l : PCh} (h : Srt l) : l.Nodup := h.imp fun h => lt_neq h

theorem mem_insRow {p : PCh} {w h y : Nat} {s : PCh} {k : List UInt8} : ∀ X, k ∈ insRow p w h y X s ↔ k ∈ s ∨ ∃ x, x < X ∧ k = keyP p w h y x
  | 0 => by simp [insRow]
  | X + 1 => by
    show k ∈ insS _ _ ↔ _
    rw [mem_insS, mem_insRow X]
    constructor
    · rintro (h | h | ⟨x, h1, h2⟩)
      · exact Or.inr ⟨X, by omega, h⟩
      · exact Or.inl h
      · exact Or.inr ⟨x, by omega, h2⟩
    · rintro (h | ⟨x, h1, h2⟩)
      · exact Or.inr (Or.inl h)
      · by_cases hx : x = X
        · subst hx; exact Or.inl h2
        · exact Or.inr (Or.inr ⟨x, by omega, h2⟩)
theorem mem_insAll {p : PCh} {w h : Nat} {k : List UInt8} : ∀ Y, k ∈ insAll p w h Y ↔ ∃ y x, y < Y ∧ x < wd p + 1 - w ∧ k = keyP p w h y x
  | 0 => by simp [insAll]
  | Y + 1 => by
    show k ∈ insRow _ _ _ _ _ _ ↔ _
    rw [mem_insRow, mem_insAll Y]
    constructor
    · rintro (⟨y, x, h1, h2, h3⟩ | ⟨x, h1, h2⟩)
      · exact ⟨y, x, by omega, h2, h3⟩
      · exact ⟨Y, x, by omega, h1, h2⟩
    · rintro ⟨y, x, h1, h2, h3⟩
      by_cases hy : y = Y
      · subst hy; exact Or.inr ⟨x, h2, h3⟩
      · exact Or.inl ⟨y, x, by omega, h2, h3⟩

theorem part_rect {p : PCh} {m x y w h : Nat} (hm : Rect m p) (hx : x + w ≤ m) : Rect w (part p x y w h) := fun r hr => by
  obtain ⟨s, hs, rfl⟩ := List.mem_map.1 hr
  have := hm s (List.mem_of_mem_drop (List.mem_of_mem_take hs))
  simp; omega
theorem part_flip {p : PCh} {m x y w h : Nat} (hm : Rect m p) (h0 : 0 < p.length) (hh : 0 < h) (hx : x + w ≤ m) (hy : y + h ≤ p.length) : part (flipP p) y x h w = flipP (part p x y w h) := by
  have hpl : (part p x y w h).length = h := part_len hy
  rw [flipP_rect (part_rect hm hx) (by omega), flipP_rect hm h0]
  unfold part
  apply List.ext_getElem
  · simp; omega
  · intro i h1 h2
    have hi : i < w := by simpa using h2
    simp only [List.getElem_map, List.getElem_take, List.getElem_drop, List.getElem_range]
    unfold colOf
    rw [← List.map_take, ← List.map_drop, List.map_map, List.drop_take]
    have e : y + h - y = h := by omega
    rw [e]
    refine List.map_congr_left fun r _ => ?_
    simp only [Function.comp, List.getD]
    rw [List.getElem?_drop, List.getElem?_take, if_pos (by omega)]
theorem pOk_rect {p : PCh} (h : pOk p = true) : Rect (wd p) p := fun r hr => (pOk_row h hr).2.1
theorem colOf_let {p : PCh} (h : pOk p = true) {x : Nat} (hx : x < wd p) : (colOf p x).all isLet = true := by
  refine List.all_eq_true.2 fun c hc => ?_
  obtain ⟨r, hr, rfl⟩ := List.mem_map.1 hc
  have h1 := pOk_row h hr
  rw [getD_at (by rw [h1.2.1]; exact hx)]
  exact List.all_eq_true.1 (isW_all h1.1) _ (List.getElem_mem _)
theorem pOk_of {p : PCh} {m : Nat} (h1 : 1 ≤ p.length) (h2 : p.length ≤ 32) (h3 : 1 ≤ m) (h4 : m ≤ 32) (hm : Rect m p) (hl : ∀ r ∈ p, r.all isLet = true) : pOk p = true := by
  unfold pOk
  rw [wi_mk (by omega) (by omega), Bool.and_true, List.all_eq_true]
  intro r hr
  refine rowOk_mk ?_ (wi_mk (by have := hm r hr; omega) (by have := hm r hr; omega)) (by rw [rect_wd hm (by omega)]; exact hm r hr)
  unfold isW
  rw [hl r hr]
  have := hm r hr
  simp; omega
theorem pOk_flip {p : PCh} (h : pOk p = true) : pOk (flipP p) = true := by
  have h1 := pOk_len h
  have h2 := pOk_wd h
  refine pOk_of (m := p.length) (by rw [flipP_len]; omega) (by rw [flipP_len]; omega) h1.1 h1.2 flipP_rows fun r hr => ?_
  obtain ⟨i, hi, rfl⟩ := List.mem_map.1 hr
  exact colOf_let h (by simpa using hi)
theorem flip_wd {p : PCh} (h : pOk p = true) : wd (flipP p) = p.length := rect_wd flipP_rows (by rw [flipP_len]; have := pOk_wd h; omega)
theorem flip2 {p : PCh} (h : pOk p = true) : flipP (flipP p) = p := flip_flip (by have := pOk_wd h; omega) (pOk_rect h) (by have := pOk_len h; omega)
theorem part_noslash {p : PCh} (h : pOk p = true) (x y w hh : Nat) : ∀ s ∈ part p x y w hh, (47 : UInt8) ∉ s := fun s hs hm => by
  obtain ⟨r, hr, rfl⟩ := List.mem_map.1 hs
  have h1 := isW_all (pOk_row h (List.mem_of_mem_drop (List.mem_of_mem_take hr))).1
  exact let_noslash h1 (List.mem_of_mem_take (List.mem_of_mem_drop hm))

theorem keys_le {p : PCh} {w h : Nat} (hp : pOk p = true) (hw : 1 ≤ w) (hh : 1 ≤ h) : (insAll p w h (p.length + 1 - h)).length ≤ (insAll (flipP p) h w ((flipP p).length + 1 - w)).length := by
  have hr := pOk_rect hp
  have hl := pOk_len hp
  have hfp := pOk_flip hp
  have hfr := pOk_rect hfp
  have hfl := flipP_len p
  have hfw := flip_wd hp
  have hwd := pOk_wd hp
  refine rel_le (fun a b => ∃ y x, x + w ≤ wd p ∧ y + h ≤ p.length ∧ a = keyP p w h y x ∧ b = keyP (flipP p) h w x y) (srt_nodup (srt_all _)) (fun a ha => ?_) (fun a _ a' _ b hab hab' => ?_)
  · obtain ⟨y, x, h1, h2, h3⟩ := (mem_insAll _).1 ha
    exact ⟨_, (mem_insAll _).2 ⟨x, y, by omega, by omega, rfl⟩, y, x, by omega, by omega, h3, rfl⟩
  · obtain ⟨y, x, h1, h2, rfl, h4⟩ := hab
    obtain ⟨y', x', h1', h2', rfl, h4'⟩ := hab'
    have hj : Lib.join (part (flipP p) y x h w) [47] = Lib.join (part (flipP p) y' x' h w) [47] := by
      unfold keyP at h4 h4'
      rw [← h4, ← h4']
    have hpl1 : (part (flipP p) y x h w).length = w := part_len (by omega)
    have hpl2 : (part (flipP p) y' x' h w).length = w := part_len (by omega)
    have he := join_inj (fun he => by rw [he] at hpl1; simp at hpl1; omega) (fun he => by rw [he] at hpl2; simp at hpl2; omega) (part_noslash hfp _ _ _ _) (part_noslash hfp _ _ _ _) hj
    rw [part_flip hr (by omega) (by omega) h1 h2, part_flip hr (by omega) (by omega) h1' h2'] at he
    have h5 : part p x y w h = part p x' y' w h := by
      have q1 := flip_flip (m := w) (by omega) (part_rect (y := y) (h := h) hr h1) (by rw [part_len h2]; omega)
      have q2 := flip_flip (m := w) (by omega) (part_rect (y := y') (h := h) hr h1') (by rw [part_len h2']; omega)
      rw [← q1, ← q2, he]
    unfold keyP
    rw [h5]
theorem countParts_flip {p : PCh} {w h : Nat} (hp : pOk p = true) (hw : 1 ≤ w) (hw2 : w ≤ 32) (hh : 1 ≤ h) (hh2 : h ≤ 32) : countParts p w h = countParts (flipP p) h w := by
  have h1 := keys_le hp hw hh
  have h2 := keys_le (pOk_flip hp) hh hw
  rw [flip2 hp] at h2
  have e1 : wi (w : Int) 1 32 = true := wi_mk (by omega) (by omega)
  have e2 : wi (h : Int) 1 32 = true := wi_mk (by omega) (by omega)
  unfold countParts
  rw [hp, pOk_flip hp, e1, e2]
  simp only [Bool.and_true, if_true, Int.toNat_natCast]
  have : (insAll p w h (p.length + 1 - h)).length = (insAll (flipP p) h w ((flipP p).length + 1 - w)).length := Nat.le_antisymm h1 h2
  rw [this]
theorem countParts_pos {p : PCh} {w h : Nat} (hp : pOk p = true) (hw : 1 ≤ w) (hw2 : w ≤ 32) (hh : 1 ≤ h) (hh2 : h ≤ 32) :
    0 ≤ countParts p w h ∧ (countParts p w h = 0 ↔ (wd p < w ∨ p.length < h)) := by
  have e1 : wi (w : Int) 1 32 = true := wi_mk (by omega) (by omega)
  have e2 : wi (h : Int) 1 32 = true := wi_mk (by omega) (by omega)
  have hl := pOk_len hp
  unfold countParts
  rw [hp, e1, e2]
  simp only [Bool.and_true, if_true, Int.toNat_natCast]
  refine ⟨by omega, ?_⟩
  constructor
  · intro h0
    by_cases hc : wd p < w ∨ p.length < h
    · exact hc
    · have hm := (mem_insAll (p := p) (w := w) (h := h) (k := keyP p w h 0 0) (p.length + 1 - h)).2 ⟨0, 0, by omega, by omega, rfl⟩
      have := List.length_pos_of_mem hm
      omega
  · intro hc
    have : insAll p w h (p.length + 1 - h) = [] := by
      cases hi : insAll p w h (p.length + 1 - h) with
      | nil => rfl
      | cons k l =>
        obtain ⟨y, x, h1, h2, _⟩ := (mem_insAll (p := p) (w := w) (h := h) (k := k) (p.length + 1 - h)).1 (by rw [hi]; simp)
        omega
    rw [this]; rfl
end Go.Proofs.Ytbjhjpakjinpiaa
