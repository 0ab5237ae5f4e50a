/-
  Contracts of slices.Contains at []string and of IsForced (program and reference). No conditions.
-/
import Derived.Test.YtbaleboljcoigaaBLaws1
namespace Go.Proofs.Ytbaleboljcoigaa
open Go.RowKit

theorem nodup_bad {b : List (List UInt8)} {k : Nat} (hk : k < b.length) (h : b[k] ∈ b.take k) : ¬ b.Nodup := by
  intro hn
  have h1 : (b.take (k + 1)).Nodup := hn.sublist (List.take_sublist _ _)
  rw [take_snoc b k hk, List.nodup_append] at h1
  exact h1.2.2 _ h _ (by simp) rfl
theorem nodup_snoc {b : List (List UInt8)} {k : Nat} (hk : k < b.length) (h : b[k] ∉ b.take k) (hn : (b.take k).Nodup) : (b.take (k + 1)).Nodup := by
  rw [take_snoc b k hk, List.nodup_append]
  exact ⟨hn, by simp, fun a ha c hc => by simp at hc; subst hc; intro he; subst he; exact h ha⟩
def forcedB (b : List (List UInt8)) : Bool := rOk b && decide b.Nodup

set_option maxHeartbeats 400000 in
theorem index_any (A : Option Addr) (n c B : Nat) (ss : List (List UInt8)) (x : List UInt8) (w : World) (hr : Rd w B A n (svs ss)) (hn : n ≤ 1048576) :
    Calls Try.prog 31 #[.slice A n c, .string ⟨x.toArray⟩] w fun e w' => (∃ r : Int, e = .returned (.int .i64 r) ∧ (0 ≤ r ↔ x ∈ ss)) ∧ w = w' := by
  have hlen := Lib.hid hr.lenS
  have HR := Lib.hid hr
  clear hr
  go_enter Try.func31, Try.ntmps31
  go_wp2
  go_loop [8] (fun i => ∃ k : Nat, k ≤ n ∧ i = .int .i64 k ∧ x ∉ ss.take k) (fun i => n - (intOf i).toNat)
  case atStart => exact ⟨0, Nat.zero_le _, rfl, by simp⟩
  case round =>
    obtain ⟨k, hk, rfl, ha⟩ := hrel
    have HA := Lib.hid ha
    clear ha
    by_cases hlt : k < n
    · have hkl : k < ss.length := by rw [hlen.out]; exact hlt
      obtain ⟨a, rfl, hab, hcell⟩ := HR.out.str (k := k) hkl
      obtain ⟨y, hy⟩ : ∃ y, y = ss[k] := ⟨_, rfl⟩
      rw [← hy] at hcell
      by_cases hxy : x = y
      · have HE := Lib.hid (show (0 : Int) ≤ (k : Int) ↔ x ∈ ss by
          have h1 : x ∈ ss := by rw [hxy, hy]; exact List.getElem_mem hkl
          simp [h1])
        have hbe : (x == y) = true := by simp [hxy]
        clear hy hxy
        go_wp2
        go_ret
        exact ⟨⟨_, rfl, HE.out⟩, rfl⟩
      · have H := Lib.hid (show x ∉ ss.take (k + 1) by rw [take_snoc ss k hkl, ← hy]; simp [HA.out, hxy])
        have hbe : (x == y) = false := by simp [hxy]
        clear hy hxy
        go_wp2
        go_round
        case rel => exact ⟨k + 1, by omega, by go_num, H.out⟩
        case measure => simp [intOf]; omega
    · have HE := Lib.hid (show (0 : Int) ≤ -1 ↔ x ∈ ss by
        have h1 := HA.out
        rw [List.take_of_length_le (by rw [hlen.out]; omega)] at h1
        simp [h1])
      go_wp2
      go_ret
      exact ⟨⟨_, rfl, HE.out⟩, rfl⟩
set_option maxHeartbeats 400000 in
theorem contains_any (A : Option Addr) (n c B : Nat) (ss : List (List UInt8)) (x : List UInt8) (w : World) (hr : Rd w B A n (svs ss)) (hn : n ≤ 1048576) :
    Calls Try.prog 39 #[.slice A n c, .string ⟨x.toArray⟩] w fun e w' => e = .returned (.bool (decide (x ∈ ss))) ∧ w = w' := by
  have HC := Lib.hid (index_any A n c B ss x w hr hn)
  go_enter Try.func39, Try.ntmps39
  go_wp2_with (go_at_call 31; refine HC.out.mono ?_; rintro e w' ⟨⟨r, rfl, hrr⟩, rfl⟩)
  go_ret
  exact ⟨rfl, rfl⟩
end Go.Proofs.Ytbaleboljcoigaa
