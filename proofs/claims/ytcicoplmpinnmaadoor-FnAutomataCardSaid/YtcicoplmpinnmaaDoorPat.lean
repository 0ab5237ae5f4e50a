/-
  Contracts of PatchOk, haveBlocks, l03Within, RuleOk (program and reference). Condition: each string is shorter than 2^63.
-/
import Derived.Test.YtcicoplmpinnmaaDoorWd
import Derived.Test.YtcicoplmpinnmaaDoorRowW
namespace Go.Proofs.YtcicoplmpinnmaaDoor
open Go.RowKit

def wd (p : List (List UInt8)) : Nat := (p.headD []).length
def rowOk (m : Nat) (l : List UInt8) : Bool := isW l && wi l.length 1 32 && decide (l.length = m)
theorem rowOk_mk {m : Nat} {l : List UInt8} (h1 : isW l = true) (h2 : wi l.length 1 32 = true) (h3 : l.length = m) : rowOk m l = true := by
  unfold rowOk; rw [h1, h2]; simp [h3]
def pOk (p : List (List UInt8)) : Bool := p.all (rowOk (wd p)) && wi p.length 1 32
theorem wd_zero {p : List (List UInt8)} (h : 0 < p.length) : wd p = p[0].length := by cases p with | nil => simp at h | cons a r => rfl
theorem pOk_len {p : List (List UInt8)} (h : pOk p = true) : 1 ≤ p.length ∧ p.length ≤ 32 := by
  simp only [pOk, Bool.and_eq_true] at h
  have := wi_yes h.2; omega
theorem pOk_row {p : List (List UInt8)} (h : pOk p = true) {l : List UInt8} (hl : l ∈ p) : isW l = true ∧ l.length = wd p ∧ 1 ≤ wd p ∧ wd p ≤ 32 := by
  simp only [pOk, Bool.and_eq_true] at h
  have h1 := List.all_eq_true.1 h.1 l hl
  simp only [rowOk, Bool.and_eq_true, decide_eq_true_eq] at h1
  have h2 := wi_yes h1.1.2
  exact ⟨h1.1.1, h1.2, by omega, by omega⟩
theorem pOk_wd {p : List (List UInt8)} (h : pOk p = true) : 1 ≤ wd p ∧ wd p ≤ 32 := by
  have h1 := pOk_len h
  have h2 := pOk_row h (List.getElem_mem (show 0 < p.length by omega))
  exact ⟨h2.2.2.1, h2.2.2.2⟩

def Longs (ss : List (List UInt8)) : Prop := ∀ s ∈ ss, s.length ≤ 9223372036854775807


/-! ## letters that have a block -/
def hasB (n : Nat) (l : List UInt8) : Bool := l.all fun c => decide (c.toNat - 97 < n)
def AllW (ss : List (List UInt8)) : Prop := ∀ s ∈ ss, s.all isLet = true ∧ s.length ≤ 9223372036854775807
theorem let_at {l : List UInt8} (h : l.all isLet = true) {k : Nat} (hk : k < l.length) : 97 ≤ l[k].toNat ∧ l[k].toNat ≤ 100 := isLet_bd (List.all_eq_true.1 h _ (List.getElem_mem hk))

set_option maxHeartbeats 800000 in
theorem l03Within_any (n : Nat) (hn : n ≤ 1048576) (l : List UInt8) (hl : l.length ≤ 9223372036854775807) (hw : l.all isLet = true) (w : World) :
    Calls Tryd.prog 66 #[.int .i64 (n : Int), .string ⟨l.toArray⟩] w fun e w' => e = .returned (.bool (hasB n l)) ∧ w = w' := by
  have HW := Lib.hid hw
  clear hw
  go_enter Tryd.func66, Tryd.ntmps66
  go_wp2
  go_loop [5] (fun i => ∃ k : Nat, k ≤ l.length ∧ i = .int .i64 k ∧ (l.take k).all (fun c => decide (c.toNat - 97 < n)) = true) (fun i => l.length - (intOf i).toNat)
  case atStart => exact ⟨0, Nat.zero_le _, rfl, rfl⟩
  case round =>
    obtain ⟨k, hk, rfl, ha⟩ := hrel
    have HA := Lib.hid ha
    clear ha
    by_cases hlt : k < l.length
    · have hb := let_at HW.out hlt
      by_cases h1 : l[k].toNat - 97 < n
      · have H := Lib.hid (all_snoc (p := fun c : UInt8 => decide (c.toNat - 97 < n)) hlt HA.out (by simpa using h1))
        go_wp2
        go_round
        case rel => exact ⟨k + 1, by omega, by go_num, H.out⟩
        case measure => simp [intOf]; omega
      · have HE := Lib.hid (show false = hasB n l from (all_bad (p := fun c : UInt8 => decide (c.toNat - 97 < n)) hlt (by simpa using h1)).symm)
        go_wp2
        go_ret
        exact ⟨ret_bool HE.out, rfl⟩
    · have HE := Lib.hid (show true = hasB n l from (all_done hlt HA.out).symm)
      go_wp2
      go_ret
      exact ⟨ret_bool HE.out, rfl⟩

/-! ## rules -/
def w4 (l : List UInt8) : Bool := isW l && decide (l.length = 4)
def rOk (b : List (List UInt8)) : Bool := b.all w4 && (wi b.length 1 4 && b.all (hasB b.length))
theorem rOk_len {b : List (List UInt8)} (h : rOk b = true) : 1 ≤ b.length ∧ b.length ≤ 4 := by
  simp only [rOk, Bool.and_eq_true] at h
  have := wi_yes h.2.1; omega
theorem rOk_row {b : List (List UInt8)} (h : rOk b = true) {l : List UInt8} (hl : l ∈ b) : isW l = true ∧ l.length = 4 ∧ hasB b.length l = true := by
  simp only [rOk, Bool.and_eq_true] at h
  have h1 := List.all_eq_true.1 h.1 l hl
  have h2 := List.all_eq_true.1 h.2.2 l hl
  simp only [w4, Bool.and_eq_true, decide_eq_true_eq] at h1
  exact ⟨h1.1, h1.2, h2⟩
theorem w4_allW {b : List (List UInt8)} (h : b.all w4 = true) : AllW b := fun s hs => by
  have h1 := List.all_eq_true.1 h s hs
  simp only [w4, Bool.and_eq_true, decide_eq_true_eq] at h1
  exact ⟨isW_all h1.1, by omega⟩

end Go.Proofs.YtcicoplmpinnmaaDoor
