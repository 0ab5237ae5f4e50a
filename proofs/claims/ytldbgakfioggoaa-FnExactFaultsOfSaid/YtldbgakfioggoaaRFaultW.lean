/-
  The walk of the law FnExactFaultsOf. No conditions.
-/
import Derived.Test.YtldbgakfioggoaaRFault
import Derived.Test.YtldbgakfioggoaaHelpS
import Derived.Test.YtldbgakfioggoaaFrame
namespace Go.Proofs.Ytldbgakfioggoaa
open Go.RowKit

set_option maxRecDepth 100000 in
set_option maxHeartbeats 2000000 in
theorem walk_FnExactFaultsOf (A0 : Option Addr) (n0 c0 : Nat) (x0 : List (List UInt8)) (A1 : Option Addr) (n1 c1 : Nat) (x1 : List (List UInt8)) (A2 : Option Addr) (n2 c2 : Nat) (x2 : List (List UInt8)) (w : World) (h0 : StrsArg w A0 n0 c0 x0) (h1 : StrsArg w A1 n1 c1 x1) (h2 : StrsArg w A2 n2 c2 x2) : Calls Try.prog 4 #[.slice A0 n0 c0, .slice A1 n1 c1, .slice A2 n2 c2] w fun e w' => e = .returned (.bool true) ∧ Below w.heap.size w w' := by
  obtain ⟨hrd0, hnc0, hcm0, hls0⟩ := h0
  obtain ⟨hrd1, hnc1, hcm1, hls1⟩ := h1
  obtain ⟨hrd2, hnc2, hcm2, hls2⟩ := h2
  have HR0 := Lib.hid hrd0
  have HL0 := Lib.hid hls0
  clear hrd0 hls0
  have HR1 := Lib.hid hrd1
  have HL1 := Lib.hid hls1
  clear hrd1 hls1
  have HR2 := Lib.hid hrd2
  have HL2 := Lib.hid hls2
  clear hrd2 hls2
  go_enter Try.func4, Try.ntmps4
  go_wp2_with fail
  refine (szStringS_any _ _ _ _ _ _ _ HR0.out (by omega) HL0.out (by omega) (by omega)).mono ?_
  rintro e ws ⟨r0, rfl, hz0, rfl⟩
  by_cases hneg0 : r0 < 0
  case pos =>
    go_wp2_with fail
    go_ret
    exact ⟨rfl, Below.refl _ _⟩
  case neg =>
  obtain ⟨q0, t0, m0, sm0⟩ := hz0.resolve_left hneg0
  have HS0 := Lib.hid (show Lens x0 from fun s hs => by have := sm0 s hs; omega)
  have hn0 : n0 ≤ 1048576 := by have := HR0.out.lenS; omega
  clear sm0 hz0 m0
  go_wp2_with fail
  refine (szStringS_any _ _ _ _ _ _ _ HR1.out (by omega) HL1.out (by omega) (by omega)).mono ?_
  rintro e ws ⟨r1, rfl, hz1, rfl⟩
  by_cases hneg1 : r1 < 0
  case pos =>
    go_wp2_with fail
    go_ret
    exact ⟨rfl, Below.refl _ _⟩
  case neg =>
  obtain ⟨q1, t1, m1, sm1⟩ := hz1.resolve_left hneg1
  have HS1 := Lib.hid (show Lens x1 from fun s hs => by have := sm1 s hs; omega)
  have hn1 : n1 ≤ 1048576 := by have := HR1.out.lenS; omega
  clear sm1 hz1 m1
  go_wp2_with fail
  refine (szStringS_any _ _ _ _ _ _ _ HR2.out (by omega) HL2.out (by omega) (by omega)).mono ?_
  rintro e ws ⟨r2, rfl, hz2, rfl⟩
  by_cases hneg2 : r2 < 0
  case pos =>
    go_wp2_with fail
    go_ret
    exact ⟨rfl, Below.refl _ _⟩
  case neg =>
  obtain ⟨q2, t2, m2, sm2⟩ := hz2.resolve_left hneg2
  have HS2 := Lib.hid (show Lens x2 from fun s hs => by have := sm2 s hs; omega)
  have hn2 : n2 ≤ 1048576 := by have := HR2.out.lenS; omega
  clear sm2 hz2 m2
  have M0 := Mem.start w
  go_wp2_with fail
  refine (toStringS_any _ _ _ _ _ (HR0.out.later M0.bel) (by omega)).mono ?_
  rintro e w1 ⟨B1, rfl, o1⟩
  have M1 := M0.add o1
  clear M0
  clear o1
  go_wp2_with fail
  refine (toStringS_any _ _ _ _ _ (HR1.out.later M1.bel) (by omega)).mono ?_
  rintro e w2 ⟨B2, rfl, o2⟩
  have M2 := M1.add o2
  clear M1
  clear o2
  go_wp2_with fail
  refine (toStringS_any _ _ _ _ _ (HR2.out.later M2.bel) (by omega)).mono ?_
  rintro e w3 ⟨B3, rfl, o3⟩
  have M3 := M2.add o3
  clear M2
  clear o3
  go_wp2_with fail
  refine (cFaultsOfS _ _ _ _ _ _ _ _ _ _ _ _ _ (SIn.of M3.rd2 hn0 HS0.out (Nat.le_refl _)) (SIn.of M3.rd1 hn1 HS1.out (Nat.le_refl _)) (SIn.of M3.rd0 hn2 HS2.out (Nat.le_refl _))).mono ?_
  rintro e w4 ⟨rfl, hb4⟩
  have M4 := M3.later hb4
  clear M3
  clear hb4
  go_wp2_with fail
  refine (toStringS_any _ _ _ _ _ (HR0.out.later M4.bel) (by omega)).mono ?_
  rintro e w5 ⟨B5, rfl, o5⟩
  have M5 := M4.add o5
  clear M4
  clear o5
  go_wp2_with fail
  refine (toStringS_any _ _ _ _ _ (HR1.out.later M5.bel) (by omega)).mono ?_
  rintro e w6 ⟨B6, rfl, o6⟩
  have M6 := M5.add o6
  clear M5
  clear o6
  go_wp2_with fail
  refine (toStringS_any _ _ _ _ _ (HR2.out.later M6.bel) (by omega)).mono ?_
  rintro e w7 ⟨B7, rfl, o7⟩
  have M7 := M6.add o7
  clear M6
  clear o7
  go_wp2_with fail
  refine (cFaultsOfI _ _ _ _ _ _ _ _ _ _ _ _ _ (SIn.of M7.rd2 hn0 HS0.out (Nat.le_refl _)) (SIn.of M7.rd1 hn1 HS1.out (Nat.le_refl _)) (SIn.of M7.rd0 hn2 HS2.out (Nat.le_refl _))).mono ?_
  rintro e w8 ⟨rfl, hb8⟩
  have M8 := M7.later hb8
  clear M7
  clear hb8
  go_wp2_with fail
  refine (toStringS_any _ _ _ _ _ (HR0.out.later M8.bel) (by omega)).mono ?_
  rintro e w9 ⟨B9, rfl, o9⟩
  have M9 := M8.add o9
  clear M8
  clear o9
  go_wp2_with fail
  refine (eqStringS_same _ _ _ _ _ _ _ _ _ M9.rd3 M9.rd0 (Nat.le_refl _) (Nat.le_refl _) (by omega)).mono ?_
  rintro e w10 ⟨rfl, hb10⟩
  have M10 := M9.later hb10
  clear M9
  clear hb10
  go_wp2_with fail
  refine (toStringS_any _ _ _ _ _ (HR1.out.later M10.bel) (by omega)).mono ?_
  rintro e w11 ⟨B11, rfl, o11⟩
  have M11 := M10.add o11
  clear M10
  clear o11
  go_wp2_with fail
  refine (eqStringS_same _ _ _ _ _ _ _ _ _ M11.rd3 M11.rd0 (Nat.le_refl _) (Nat.le_refl _) (by omega)).mono ?_
  rintro e w12 ⟨rfl, hb12⟩
  have M12 := M11.later hb12
  clear M11
  clear hb12
  go_wp2_with fail
  refine (toStringS_any _ _ _ _ _ (HR2.out.later M12.bel) (by omega)).mono ?_
  rintro e w13 ⟨B13, rfl, o13⟩
  have M13 := M12.add o13
  clear M12
  clear o13
  go_wp2_with fail
  refine (eqStringS_same _ _ _ _ _ _ _ _ _ M13.rd3 M13.rd0 (Nat.le_refl _) (Nat.le_refl _) (by omega)).mono ?_
  rintro e w14 ⟨rfl, hb14⟩
  have M14 := M13.later hb14
  clear M13
  clear hb14
  go_wp2_with fail
  go_ret
  exact ⟨rfl, M14.bel⟩
end Go.Proofs.Ytldbgakfioggoaa
