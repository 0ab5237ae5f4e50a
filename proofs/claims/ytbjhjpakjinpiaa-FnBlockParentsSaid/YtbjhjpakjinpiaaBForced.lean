/-
  Contracts of slices.Contains at []string and of IsForced (program and reference). No conditions.
-/
import Derived.Test.YtbjhjpakjinpiaaBLaws1
namespace Go.Proofs.Ytbjhjpakjinpiaa
open Go.RowKit

theorem nodup_bad {b : List (List UInt8)} {k : Nat} (hk : k < b.length) (h : b[k] ∈ b.take k) : ¬ b.Nodup := by
  intro hn
  have h1 : (b.take (k + 1)).Nodup := hn.sublist (List.take_sublist _ _)
  rw [take_snoc b k hk, List.nodup_append] at h1
  exact h1.2.2 _ h _ (by simp) rfl
theorem nodup_snoc {b : List (List UInt8)} {k : Nat} (hk : k < b.length) (h : b[k] ∉ b.take k) (hn : (b.take k).Nodup) : (b.take (k + 1)).Nodup := by
  rw [take_snoc b k hk, List.nodup_append]
  exact ⟨hn, by simp, fun a ha c hc => by simp at hc; subst hc; intro he; subst he; exact h ha⟩
def forcedB (b : List (List UInt8)) : Bool := rOk b && decide b.Nodup

set_option maxHeartbeats 400000 in
theorem index_any (A : Option Addr) (n c B : Nat) (ss : List (List UInt8)) (x : List UInt8) (w : World) (hr : Rd w B A n (svs ss)) (hn : n ≤ 1048576) :
    Calls Try.prog 45 #[.slice A n c, .string ⟨x.toArray⟩] w fun e w' => (∃ r : Int, e = .returned (.int .i64 r) ∧ (0 ≤ r ↔ x ∈ ss)) ∧ w = w' := by
  have hlen := Lib.hid hr.lenS
  have HR := Lib.hid hr
  clear hr
  go_enter Try.func45, Try.ntmps45
  go_wp2
  go_loop [8] (fun i => ∃ k : Nat, k ≤ n ∧ i = .int .i64 k ∧ x ∉ ss.take k) (fun i => n - (intOf i).toNat)
  case atStart => exact ⟨0, Nat.zero_le _, rfl, by simp⟩
  case round =>
    obtain ⟨k, hk, rfl, ha⟩ := hrel
    have HA := Lib.hid ha
    clear ha
    by_cases hlt : k < n
    · have hkl : k < ss.length := by rw [hlen.out]; exact hlt
      obtain ⟨a, rfl, hab, hcell⟩ := HR.out.str (k := k) hkl
      obtain ⟨y, hy⟩ : ∃ y, y = ss[k] := ⟨_, rfl⟩
      rw [← hy] at hcell
      by_cases hxy : x = y
      · have HE := Lib.hid (show (0 : Int) ≤ (k : Int) ↔ x ∈ ss by
          have h1 : x ∈ ss := by rw [hxy, hy]; exact List.getElem_mem hkl
          simp [h1])
        have hbe : (x == y) = true := by simp [hxy]
        clear hy hxy
        go_wp2
        go_ret
        exact ⟨⟨_, rfl, HE.out⟩, rfl⟩
      · have H := Lib.hid (show x ∉ ss.take (k + 1) by rw [take_snoc ss k hkl, ← hy]; simp [HA.out, hxy])
        have hbe : (x == y) = false := by simp [hxy]
        clear hy hxy
        go_wp2
        go_round
        case rel => exact ⟨k + 1, by omega, by go_num, H.out⟩
        case measure => simp [intOf]; omega
    · have HE := Lib.hid (show (0 : Int) ≤ -1 ↔ x ∈ ss by
        have h1 := HA.out
        rw [List.take_of_length_le (by rw [hlen.out]; omega)] at h1
        simp [h1])
      go_wp2
      go_ret
      exact ⟨⟨_, rfl, HE.out⟩, rfl⟩
set_option maxHeartbeats 400000 in
theorem contains_any (A : Option Addr) (n c B : Nat) (ss : List (List UInt8)) (x : List UInt8) (w : World) (hr : Rd w B A n (svs ss)) (hn : n ≤ 1048576) :
    Calls Try.prog 27 #[.slice A n c, .string ⟨x.toArray⟩] w fun e w' => e = .returned (.bool (decide (x ∈ ss))) ∧ w = w' := by
  have HC := Lib.hid (index_any A n c B ss x w hr hn)
  go_enter Try.func27, Try.ntmps27
  go_wp2_with (go_at_call 45; refine HC.out.mono ?_; rintro e w' ⟨⟨r, rfl, hrr⟩, rfl⟩)
  go_ret
  exact ⟨rfl, rfl⟩
set_option maxHeartbeats 800000 in
theorem iIsForced_any (A : Option Addr) (n c : Nat) (b : List (List UInt8)) (w : World) (hb : SIn w A n c b) : Calls Try.prog 9 #[.slice A n c] w fun e w' => e = .returned (.bool (forcedB b)) ∧ w = w' := by
  have hcb := Lib.hid (iRuleOk_any A n c _ b w hb.1 hb.2.1 hb.longs)
  have hlen := Lib.hid hb.1.lenS
  have HB := Lib.hid hb
  have hcap := hb.2.2.2
  have hn20 := hb.2.1
  clear hb
  go_enter Try.func9, Try.ntmps9
  go_wp2
  go_loop [7] (fun i => ∃ k : Nat, k ≤ n ∧ i = .int .i64 k ∧ (b.take k).Nodup) (fun i => n - (intOf i).toNat)
  case atStart => exact ⟨0, Nat.zero_le _, rfl, by simp⟩
  case round =>
    obtain ⟨k, hk, rfl, ha⟩ := hrel
    have HA := Lib.hid ha
    clear ha
    by_cases hlt : k < n
    · have hkl : k < b.length := by rw [hlen.out]; exact hlt
      obtain ⟨a, rfl, hab, hcell⟩ := HB.out.1.str (k := k) hkl
      have hcon := contains_any (some a) k c _ (b.take k) b[k] w (by have := HB.out.1.take (k := k) (by omega); simpa [svs] using this) (by omega)
      by_cases hm : b[k] ∈ b.take k
      · have HE := Lib.hid (show false = forcedB b by simp [forcedB, nodup_bad hkl hm])
        rw [decide_eq_true hm] at hcon
        have HC := Lib.hid hcon
        clear hcon hm
        go_wp2_with (go_at_call 27; refine HC.out.mono ?_; rintro e w' ⟨rfl, rfl⟩)
        go_ret
        exact ⟨ret_bool HE.out, rfl⟩
      · have H := Lib.hid (nodup_snoc hkl hm HA.out)
        rw [decide_eq_false hm] at hcon
        have HC := Lib.hid hcon
        clear hcon hm
        go_wp2_with (go_at_call 27; refine HC.out.mono ?_; rintro e w' ⟨rfl, rfl⟩)
        go_round
        case rel => exact ⟨k + 1, by omega, by go_num, H.out⟩
        case measure => simp [intOf]; omega
    · have HE := Lib.hid (show rOk b = forcedB b by
        have h1 := HA.out
        rw [List.take_of_length_le (by rw [hlen.out]; omega)] at h1
        simp [forcedB, h1])
      go_wp2_with (go_at_call 23; refine hcb.out.mono ?_; rintro e w' ⟨rfl, rfl⟩)
      go_ret
      exact ⟨ret_bool HE.out, rfl⟩
theorem cIsForcedI (A : Option Addr) (n c : Nat) (p : List (List UInt8)) (w : World) (h : SIn w A n c p) : Calls Try.prog 9 #[.slice A n c] w fun e w' => e = .returned (.bool (forcedB p)) ∧ Below w.heap.size w w' :=
  (iIsForced_any _ _ _ _ _ h).mono fun _ _ ⟨he, hw⟩ => ⟨he, hw ▸ Below.same⟩
end Go.Proofs.Ytbjhjpakjinpiaa
