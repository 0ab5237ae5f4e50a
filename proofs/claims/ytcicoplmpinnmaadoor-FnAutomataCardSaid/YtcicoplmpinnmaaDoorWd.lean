/-
  Contracts of isWord and WordOk: whether a string is a word. No conditions.
-/
import Derived.Test.YtcicoplmpinnmaaDoorWords
namespace Go.Proofs.YtcicoplmpinnmaaDoor
open Go.RowKit

def isLet (c : UInt8) : Bool := decide (97 ≤ c.toNat ∧ c.toNat ≤ 100)
def isW (l : List UInt8) : Bool := l.all isLet && decide (l.length ≤ 400)
theorem isLet_no {c : UInt8} (h : (c.toNat : Int) < 97 ∨ 100 < (c.toNat : Int)) : isLet c = false := by simp [isLet]; omega
theorem isLet_yes {c : UInt8} (h1 : 97 ≤ (c.toNat : Int)) (h2 : (c.toNat : Int) ≤ 100) : isLet c = true := by simp [isLet]; omega
theorem isLet_bd {c : UInt8} (h : isLet c = true) : 97 ≤ c.toNat ∧ c.toNat ≤ 100 := by simpa [isLet] using h
theorem isW_done {l : List UInt8} {k : Nat} (h : ¬ k < l.length) (ha : (l.take k).all isLet = true) : decide ((l.length : Int) ≤ 400) = isW l := by
  rw [isW, all_done h ha]; simp; omega
theorem isW_len {l : List UInt8} (h : isW l = true) : l.length ≤ 400 := by simp [isW] at h; exact h.2
theorem isW_all {l : List UInt8} (h : isW l = true) : l.all isLet = true := by simp only [isW, Bool.and_eq_true] at h; exact h.1
theorem isW_get {l : List UInt8} (h : isW l = true) {k : Nat} (hk : k < l.length) : 97 ≤ l[k].toNat ∧ l[k].toNat ≤ 100 :=
  isLet_bd (List.all_eq_true.1 (isW_all h) _ (List.getElem_mem hk))

set_option maxHeartbeats 400000 in
theorem isWord_any (l : List UInt8) (hl : l.length ≤ 9223372036854775807) (w : World) : Calls Tryd.prog 24 #[.string ⟨l.toArray⟩] w fun e w' => e = .returned (.bool (isW l)) ∧ w = w' := by
  go_enter Tryd.func24, Tryd.ntmps24
  go_wp2
  go_loop [6] (fun i => ∃ k : Nat, k ≤ l.length ∧ i = .int .i64 k ∧ (l.take k).all isLet = true) (fun i => l.length - (intOf i).toNat)
  case atStart => exact ⟨0, Nat.zero_le _, rfl, rfl⟩
  case round =>
    obtain ⟨k, hk, rfl, ha⟩ := hrel
    have HA := Lib.hid ha
    clear ha
    by_cases hlt : k < l.length
    · by_cases hc : (l[k].toNat : Int) < 97 ∨ 100 < (l[k].toNat : Int)
      · have hb := all_bad (p := isLet) hlt (isLet_no hc)
        have HB := Lib.hid hb
        clear hb
        go_wp2
        all_goals (go_ret; exact ⟨ret_bool (by simp [isW, HB.out]), rfl⟩)
      · have H := Lib.hid (all_snoc hlt HA.out (isLet_yes (by omega) (by omega)))
        go_wp2
        go_round
        case rel => exact ⟨k + 1, by omega, by go_num, H.out⟩
        case measure => simp [intOf]; omega
    · go_wp2
      go_ret
      exact ⟨ret_bool (isW_done hlt HA.out), rfl⟩

set_option maxHeartbeats 400000 in
theorem WordOk_any (l : List UInt8) (hl : l.length ≤ 9223372036854775807) (w : World) : Calls Tryd.prog 65 #[.string ⟨l.toArray⟩] w fun e w' => e = .returned (.bool (isW l)) ∧ w = w' := by
  by_cases h4 : l.length ≤ 400
  · have H4 := Lib.hid h4
    go_enter Tryd.func65, Tryd.ntmps65
    go_wp2
    go_loop [3] (fun i => ∃ k : Nat, k ≤ l.length ∧ i = .int .i64 k ∧ (l.take k).all isLet = true) (fun i => l.length - (intOf i).toNat)
    case atStart => exact ⟨0, Nat.zero_le _, rfl, rfl⟩
    case round =>
      obtain ⟨k, hk, rfl, ha⟩ := hrel
      have HA := Lib.hid ha
      clear ha
      by_cases hlt : k < l.length
      · by_cases hc : (l[k].toNat : Int) < 97 ∨ 100 < (l[k].toNat : Int)
        · have hb := all_bad (p := isLet) hlt (isLet_no hc)
          have HB := Lib.hid hb
          clear hb
          go_wp2
          all_goals (go_ret; exact ⟨ret_bool (by simp [isW, HB.out]), rfl⟩)
        · have H := Lib.hid (all_snoc hlt HA.out (isLet_yes (by omega) (by omega)))
          go_wp2
          go_round
          case rel => exact ⟨k + 1, by omega, by go_num, H.out⟩
          case measure => simp [intOf]; omega
      · go_wp2
        go_ret
        exact ⟨ret_bool (by rw [isW, all_done hlt HA.out]; simp [H4.out]), rfl⟩
  · go_enter Tryd.func65, Tryd.ntmps65
    go_wp2
    go_ret
    exact ⟨ret_bool (by simp [isW]; omega), rfl⟩
end Go.Proofs.YtcicoplmpinnmaaDoor
