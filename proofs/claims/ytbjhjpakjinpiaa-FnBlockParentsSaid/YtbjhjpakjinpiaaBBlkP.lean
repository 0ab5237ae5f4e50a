/-
  Plain facts of the law FnBlocks. No conditions.
-/
import Derived.Test.YtbjhjpakjinpiaaBCnt
import Derived.Test.YtbjhjpakjinpiaaBFmt
import Derived.Test.YtbjhjpakjinpiaaCWord
namespace Go.Proofs.Ytbjhjpakjinpiaa
open Go.RowKit

theorem patK_ok {b p : PCh} (hb : rOk b = true) (h : PatK b.length p) : pOk p = true ∧ p.all (hasB b.length) = true ∧ p.length ≤ 5 ∧ wd p ≤ 5 := by
  obtain ⟨h1, h2, m, h3, h4, h5⟩ := h
  have hb4 := (rOk_len hb).2
  have hr : Rect m p := fun r hr => (h5 r hr).1
  refine ⟨pOk_of h1 (by omega) h3 (by omega) hr fun r hr => List.all_eq_true.2 fun c hc => ?_, List.all_eq_true.2 fun r hr => List.all_eq_true.2 fun c hc => ?_, h2, by rw [rect_wd hr (by omega)]; exact h4⟩
  · have := (h5 r hr).2 c hc
    simp only [isLet, decide_eq_true_eq]; omega
  · have := (h5 r hr).2 c hc
    simp only [decide_eq_true_eq]; omega
theorem apOk_of {b p : PCh} (hb : rOk b = true) (hp : pOk p = true) (hh : p.all (hasB b.length) = true) (h1 : p.length ≤ 16) (h2 : wd p ≤ 16) : apOk b p = true := by
  unfold apOk
  rw [hb, hp, hh]
  simp; omega
theorem apply_ok {b p : PCh} (hb : rOk b = true) (hp : pOk p = true) (hh : p.all (hasB b.length) = true) (h1 : p.length ≤ 16) (h2 : wd p ≤ 16) : pOk (applyB b p) = true := by
  rw [pOk_apply hb hp hh]; simp; omega
theorem flip_has {n : Nat} {p : PCh} (hp : pOk p = true) (hh : p.all (hasB n) = true) : (flipP p).all (hasB n) = true := by
  refine List.all_eq_true.2 fun r hr => List.all_eq_true.2 fun c hc => ?_
  obtain ⟨x, hx, rfl⟩ := List.mem_map.1 hr
  obtain ⟨s, hs, rfl⟩ := List.mem_map.1 hc
  have hx2 : x < wd p := by simpa using hx
  have h1 := (pOk_row hp hs).2.1
  rw [getD_at (by omega)]
  exact List.all_eq_true.1 (List.all_eq_true.1 hh s hs) _ (List.getElem_mem _)
theorem rOk_flip {b : PCh} (hb : rOk b = true) : rOk (b.map flipW) = true := by
  have h1 := rOk_len hb
  have key : ∀ s ∈ b, isW (flipW s) = true ∧ (flipW s).length = 4 ∧ hasB b.length (flipW s) = true := by
    intro s hs
    obtain ⟨h2, h3, h4⟩ := rOk_row hb hs
    obtain ⟨x, y, z, u, rfl⟩ := four h3
    have e : flipW [x, y, z, u] = [x, z, y, u] := rfl
    rw [e]
    exact ⟨by simp_all [isW], rfl, by simp_all [hasB]⟩
  unfold rOk
  simp only [Bool.and_eq_true, List.length_map]
  refine ⟨List.all_eq_true.2 fun s hs => ?_, wi_mk (by omega) (by omega), List.all_eq_true.2 fun s hs => ?_⟩
  · obtain ⟨t, ht, rfl⟩ := List.mem_map.1 hs
    unfold w4
    simp [(key t ht).1, (key t ht).2.1]
  · obtain ⟨t, ht, rfl⟩ := List.mem_map.1 hs
    exact (key t ht).2.2
theorem growP_pOk {b : PCh} {l : List UInt8} (hb : rOk b = true) (hl : letOk b l = true) {m : Nat} (hm : m < 5) : pOk (growP b l m) = true := by
  have := growP_ok hb hl hm
  unfold apOk at this
  simp only [Bool.and_eq_true] at this
  exact this.2.1
theorem letOk_a {b : PCh} (hb : rOk b = true) : letOk b [97] = true := by
  have := rOk_len hb
  unfold letOk hasB isW
  simp [isLet]; omega
theorem fmt_ne {p : PCh} (h : pOk p = true) : fmtP p ≠ [] := by
  unfold fmtP
  rw [if_pos h]
  have h1 := pOk_len h
  cases p with
  | nil => simp at h1
  | cons r q =>
    have h2 := pOk_row h (l := r) (by simp)
    intro he
    have h3 : r ≠ [] := by intro e; rw [e] at h2; simp at h2; omega
    cases q with
    | nil => simp [Lib.join] at he; exact h3 he
    | cons s q => simp [Lib.join] at he
theorem morse_16 : (growP rMorse [97] 4).length = 16 ∧ (growP rMorse [97] 4)[0]? = some (classW 2 16) ∧ flipP (growP rMorse [97] 4) = growP rMorse [97] 4 := by decide +kernel
theorem morse_2 : countParts (growP rMorse [97] 4) 1 1 = 2 := by decide +kernel
theorem morse_ok : rOk rMorse = true := by decide +kernel
theorem counts {p b : PCh} {w h : Nat} (hb : rOk b = true) (hp : pOk p = true) (hh : p.all (hasB b.length) = true) (hl : p.length ≤ 5) (hw5 : wd p ≤ 5) (hw : 1 ≤ w) (hw2 : w ≤ 3) (h1 : 1 ≤ h) (h2 : h ≤ 3) :
    ∃ v : Nat, countParts p w h = (v : Int) ∧ countParts (flipP p) h w = (v : Int) ∧ ((wd p < w ∨ p.length < h) ∧ v = 0 ∨ w ≤ wd p ∧ h ≤ p.length ∧ 0 < v ∧ 1 ≤ countParts (applyB b p) (2 * (w : Int)) (2 * (h : Int))) := by
  have hc := countParts_pos (w := w) (h := h) hp hw (by omega) h1 (by omega)
  obtain ⟨v, hv⟩ := Int.eq_ofNat_of_zero_le hc.1
  refine ⟨v, hv, by rw [← countParts_flip hp hw (by omega) h1 (by omega)]; exact hv, ?_⟩
  by_cases hcc : wd p < w ∨ p.length < h
  · left
    have := hc.2.2 hcc
    exact ⟨hcc, by omega⟩
  · right
    have hq := apply_ok hb hp hh (by omega) (by omega)
    have hq2 := countParts_pos (p := applyB b p) (w := 2 * w) (h := 2 * h) hq (by omega) (by omega) (by omega) (by omega)
    have hr := apply_rect (m := wd p) hb (List.all_eq_true.1 hh) (pOk_rect hp)
    have hpl := pOk_len hp
    have hwd : wd (applyB b p) = 2 * wd p := rect_wd hr (by rw [applyB_len]; omega)
    have hne : countParts p w h ≠ 0 := fun he => hcc (hc.2.1 he)
    have hne2 : countParts (applyB b p) ((2 * w : Nat) : Int) ((2 * h : Nat) : Int) ≠ 0 := fun he => by
      have := hq2.2.1 he
      rw [hwd, applyB_len] at this
      omega
    have e1 : ((2 * w : Nat) : Int) = 2 * (w : Int) := by omega
    have e2 : ((2 * h : Nat) : Int) = 2 * (h : Int) := by omega
    rw [e1, e2] at hq2 hne2
    exact ⟨by omega, by omega, by omega, by omega⟩
end Go.Proofs.Ytbjhjpakjinpiaa
