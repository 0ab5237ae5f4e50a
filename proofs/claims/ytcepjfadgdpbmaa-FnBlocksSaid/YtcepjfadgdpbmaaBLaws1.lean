/-
  The walks of the laws on PatchOk and RuleOk. No conditions.
-/
import Derived.Test.YtcepjfadgdpbmaaPat
import Derived.Test.YtcepjfadgdpbmaaHelpS
namespace Go.Proofs.Ytcepjfadgdpbmaa
open Go.RowKit

theorem cPatchOkS (A : Option Addr) (n c : Nat) (p : List (List UInt8)) (w : World) (h : SIn w A n c p) : Calls Try.prog 16 #[.slice A n c] w fun e w' => e = .returned (.bool (pOk p)) ∧ Below w.heap.size w w' :=
  (sPatchOk_any _ _ _ _ _ _ h.1 h.2.1 h.longs).mono fun _ _ ⟨he, hw⟩ => ⟨he, hw ▸ Below.same⟩
theorem cPatchOkI (A : Option Addr) (n c : Nat) (p : List (List UInt8)) (w : World) (h : SIn w A n c p) : Calls Try.prog 18 #[.slice A n c] w fun e w' => e = .returned (.bool (pOk p)) ∧ Below w.heap.size w w' :=
  (iPatchOk_any _ _ _ _ _ _ h.1 h.2.1 h.longs).mono fun _ _ ⟨he, hw⟩ => ⟨he, hw ▸ Below.same⟩
theorem cRuleOkS (A : Option Addr) (n c : Nat) (p : List (List UInt8)) (w : World) (h : SIn w A n c p) : Calls Try.prog 20 #[.slice A n c] w fun e w' => e = .returned (.bool (rOk p)) ∧ Below w.heap.size w w' :=
  (sRuleOk_any _ _ _ _ _ _ h.1 h.2.1 h.longs).mono fun _ _ ⟨he, hw⟩ => ⟨he, hw ▸ Below.same⟩
theorem cRuleOkI (A : Option Addr) (n c : Nat) (p : List (List UInt8)) (w : World) (h : SIn w A n c p) : Calls Try.prog 21 #[.slice A n c] w fun e w' => e = .returned (.bool (rOk p)) ∧ Below w.heap.size w w' :=
  (iRuleOk_any _ _ _ _ _ _ h.1 h.2.1 h.longs).mono fun _ _ ⟨he, hw⟩ => ⟨he, hw ▸ Below.same⟩

set_option maxRecDepth 100000 in
set_option maxHeartbeats 2000000 in
theorem walk_FnExactPatchOk (A0 : Option Addr) (n0 c0 : Nat) (x0 : List (List UInt8)) (w : World) (h0 : StrsArg w A0 n0 c0 x0) : Calls Try.prog 3 #[.slice A0 n0 c0] w fun e w' => e = .returned (.bool true) ∧ Below w.heap.size w w' := by
  obtain ⟨hrd0, hnc0, hcm0, hls0⟩ := h0
  have HR0 := Lib.hid hrd0
  have HL0 := Lib.hid hls0
  clear hrd0 hls0
  go_enter Try.func3, Try.ntmps3
  go_wp2_with fail
  refine (szStringS_any _ _ _ _ _ _ _ HR0.out (by omega) HL0.out (by omega) (by omega)).mono ?_
  rintro e ws ⟨r0, rfl, hz0, rfl⟩
  by_cases hneg0 : r0 < 0
  case pos =>
    go_wp2_with fail
    go_ret
    exact ⟨rfl, Below.refl _ _⟩
  case neg =>
  obtain ⟨q0, t0, m0, sm0⟩ := hz0.resolve_left hneg0
  have HS0 := Lib.hid (show Lens x0 from fun s hs => by have := sm0 s hs; omega)
  have hn0 : n0 ≤ 1048576 := by have := HR0.out.lenS; omega
  clear sm0 hz0 m0
  have M0 := Mem.start w
  go_wp2_with fail
  refine (toStringS_any _ _ _ _ _ (HR0.out.later M0.bel) (by omega)).mono ?_
  rintro e w1 ⟨B1, rfl, o1⟩
  have M1 := M0.add o1
  clear M0
  clear o1
  go_wp2_with fail
  refine (cPatchOkS _ _ _ _ _ (SIn.of M1.rd0 hn0 HS0.out (Nat.le_refl _))).mono ?_
  rintro e w2 ⟨rfl, hb2⟩
  have M2 := M1.later hb2
  clear M1
  clear hb2
  go_wp2_with fail
  refine (toStringS_any _ _ _ _ _ (HR0.out.later M2.bel) (by omega)).mono ?_
  rintro e w3 ⟨B3, rfl, o3⟩
  have M3 := M2.add o3
  clear M2
  clear o3
  go_wp2_with fail
  refine (cPatchOkI _ _ _ _ _ (SIn.of M3.rd0 hn0 HS0.out (Nat.le_refl _))).mono ?_
  rintro e w4 ⟨rfl, hb4⟩
  have M4 := M3.later hb4
  clear M3
  clear hb4
  go_wp2_with fail
  refine (toStringS_any _ _ _ _ _ (HR0.out.later M4.bel) (by omega)).mono ?_
  rintro e w5 ⟨B5, rfl, o5⟩
  have M5 := M4.add o5
  clear M4
  clear o5
  go_wp2_with fail
  refine (eqStringS_same _ _ _ _ _ _ _ _ _ M5.rd1 M5.rd0 (Nat.le_refl _) (Nat.le_refl _) (by omega)).mono ?_
  rintro e w6 ⟨rfl, hb6⟩
  have M6 := M5.later hb6
  clear M5
  clear hb6
  go_wp2_with fail
  go_ret
  exact ⟨rfl, M6.bel⟩
set_option maxRecDepth 100000 in
set_option maxHeartbeats 2000000 in
theorem walk_FnExactRuleOk (A0 : Option Addr) (n0 c0 : Nat) (x0 : List (List UInt8)) (w : World) (h0 : StrsArg w A0 n0 c0 x0) : Calls Try.prog 4 #[.slice A0 n0 c0] w fun e w' => e = .returned (.bool true) ∧ Below w.heap.size w w' := by
  obtain ⟨hrd0, hnc0, hcm0, hls0⟩ := h0
  have HR0 := Lib.hid hrd0
  have HL0 := Lib.hid hls0
  clear hrd0 hls0
  go_enter Try.func4, Try.ntmps4
  go_wp2_with fail
  refine (szStringS_any _ _ _ _ _ _ _ HR0.out (by omega) HL0.out (by omega) (by omega)).mono ?_
  rintro e ws ⟨r0, rfl, hz0, rfl⟩
  by_cases hneg0 : r0 < 0
  case pos =>
    go_wp2_with fail
    go_ret
    exact ⟨rfl, Below.refl _ _⟩
  case neg =>
  obtain ⟨q0, t0, m0, sm0⟩ := hz0.resolve_left hneg0
  have HS0 := Lib.hid (show Lens x0 from fun s hs => by have := sm0 s hs; omega)
  have hn0 : n0 ≤ 1048576 := by have := HR0.out.lenS; omega
  clear sm0 hz0 m0
  have M0 := Mem.start w
  go_wp2_with fail
  refine (toStringS_any _ _ _ _ _ (HR0.out.later M0.bel) (by omega)).mono ?_
  rintro e w1 ⟨B1, rfl, o1⟩
  have M1 := M0.add o1
  clear M0
  clear o1
  go_wp2_with fail
  refine (cRuleOkS _ _ _ _ _ (SIn.of M1.rd0 hn0 HS0.out (Nat.le_refl _))).mono ?_
  rintro e w2 ⟨rfl, hb2⟩
  have M2 := M1.later hb2
  clear M1
  clear hb2
  go_wp2_with fail
  refine (toStringS_any _ _ _ _ _ (HR0.out.later M2.bel) (by omega)).mono ?_
  rintro e w3 ⟨B3, rfl, o3⟩
  have M3 := M2.add o3
  clear M2
  clear o3
  go_wp2_with fail
  refine (cRuleOkI _ _ _ _ _ (SIn.of M3.rd0 hn0 HS0.out (Nat.le_refl _))).mono ?_
  rintro e w4 ⟨rfl, hb4⟩
  have M4 := M3.later hb4
  clear M3
  clear hb4
  go_wp2_with fail
  refine (toStringS_any _ _ _ _ _ (HR0.out.later M4.bel) (by omega)).mono ?_
  rintro e w5 ⟨B5, rfl, o5⟩
  have M5 := M4.add o5
  clear M4
  clear o5
  go_wp2_with fail
  refine (eqStringS_same _ _ _ _ _ _ _ _ _ M5.rd1 M5.rd0 (Nat.le_refl _) (Nat.le_refl _) (by omega)).mono ?_
  rintro e w6 ⟨rfl, hb6⟩
  have M6 := M5.later hb6
  clear M5
  clear hb6
  go_wp2_with fail
  go_ret
  exact ⟨rfl, M6.bel⟩
end Go.Proofs.Ytcepjfadgdpbmaa
