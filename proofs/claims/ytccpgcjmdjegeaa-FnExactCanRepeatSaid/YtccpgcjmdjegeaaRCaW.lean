/-
  The walk of the law FnExactCanRepeat. No conditions.
-/
import Derived.Test.YtccpgcjmdjegeaaRCaI
import Derived.Test.YtccpgcjmdjegeaaHelpS
import Derived.Test.YtccpgcjmdjegeaaFrame
namespace Go.Proofs.Ytccpgcjmdjegeaa
open Go.RowKit

set_option maxRecDepth 100000 in
set_option maxHeartbeats 2000000 in
theorem walk_FnExactCanRepeat (A0 : Option Addr) (n0 c0 : Nat) (x0 : List (List UInt8)) (A1 : Option Addr) (n1 c1 : Nat) (x1 : List (List UInt8)) (a2 : Int) (w : World) (h0 : StrsArg w A0 n0 c0 x0) (h1 : StrsArg w A1 n1 c1 x1) (_h2 : I64 a2) : Calls Try.prog 3 #[.slice A0 n0 c0, .slice A1 n1 c1, .int .i64 a2] w fun e w' => e = .returned (.bool true) ∧ Below w.heap.size w w' := by
  obtain ⟨hrd0, hnc0, hcm0, hls0⟩ := h0
  obtain ⟨hrd1, hnc1, hcm1, hls1⟩ := h1
  have HR0 := Lib.hid hrd0
  have HL0 := Lib.hid hls0
  clear hrd0 hls0
  have HR1 := Lib.hid hrd1
  have HL1 := Lib.hid hls1
  clear hrd1 hls1
  go_enter Try.func3, Try.ntmps3
  go_wp2_with fail
  refine (szStringS_any _ _ _ _ _ _ _ HR0.out (by omega) HL0.out (by omega) (by omega)).mono ?_
  rintro e ws ⟨r0, rfl, hz0, rfl⟩
  by_cases hneg0 : r0 < 0
  case pos =>
    go_wp2_with fail
    go_ret
    exact ⟨rfl, Below.refl _ _⟩
  case neg =>
  obtain ⟨q0, t0, m0, sm0⟩ := hz0.resolve_left hneg0
  have HS0 := Lib.hid (show Lens x0 from fun s hs => by have := sm0 s hs; omega)
  have hn0 : n0 ≤ 1048576 := by have := HR0.out.lenS; omega
  clear sm0 hz0 m0
  go_wp2_with fail
  refine (szStringS_any _ _ _ _ _ _ _ HR1.out (by omega) HL1.out (by omega) (by omega)).mono ?_
  rintro e ws ⟨r1, rfl, hz1, rfl⟩
  by_cases hneg1 : r1 < 0
  case pos =>
    go_wp2_with fail
    go_ret
    exact ⟨rfl, Below.refl _ _⟩
  case neg =>
  obtain ⟨q1, t1, m1, sm1⟩ := hz1.resolve_left hneg1
  have HS1 := Lib.hid (show Lens x1 from fun s hs => by have := sm1 s hs; omega)
  have hn1 : n1 ≤ 1048576 := by have := HR1.out.lenS; omega
  clear sm1 hz1 m1
  have M0 := Mem.start w
  go_wp2_with fail
  refine (toStringS_any _ _ _ _ _ (HR0.out.later M0.bel) (by omega)).mono ?_
  rintro e w1 ⟨B1, rfl, o1⟩
  have M1 := M0.add o1
  clear M0
  clear o1
  go_wp2_with fail
  refine (toStringS_any _ _ _ _ _ (HR1.out.later M1.bel) (by omega)).mono ?_
  rintro e w2 ⟨B2, rfl, o2⟩
  have M2 := M1.add o2
  clear M1
  clear o2
  go_wp2_with fail
  refine (cCanRepeatS _ _ _ _ _ _ _ _ _ _ (SIn.of M2.rd1 hn0 HS0.out (Nat.le_refl _)) (SIn.of M2.rd0 hn1 HS1.out (Nat.le_refl _))).mono ?_
  rintro e w3 ⟨rfl, hb3⟩
  have M3 := M2.later hb3
  clear M2
  clear hb3
  go_wp2_with fail
  refine (toStringS_any _ _ _ _ _ (HR0.out.later M3.bel) (by omega)).mono ?_
  rintro e w4 ⟨B4, rfl, o4⟩
  have M4 := M3.add o4
  clear M3
  clear o4
  go_wp2_with fail
  refine (toStringS_any _ _ _ _ _ (HR1.out.later M4.bel) (by omega)).mono ?_
  rintro e w5 ⟨B5, rfl, o5⟩
  have M5 := M4.add o5
  clear M4
  clear o5
  go_wp2_with fail
  refine (cCanRepeatI _ _ _ _ _ _ _ _ _ _ (SIn.of M5.rd1 hn0 HS0.out (Nat.le_refl _)) (SIn.of M5.rd0 hn1 HS1.out (Nat.le_refl _))).mono ?_
  rintro e w6 ⟨rfl, hb6⟩
  have M6 := M5.later hb6
  clear M5
  clear hb6
  go_wp2_with fail
  refine (toStringS_any _ _ _ _ _ (HR0.out.later M6.bel) (by omega)).mono ?_
  rintro e w7 ⟨B7, rfl, o7⟩
  have M7 := M6.add o7
  clear M6
  clear o7
  go_wp2_with fail
  refine (eqStringS_same _ _ _ _ _ _ _ _ _ M7.rd2 M7.rd0 (Nat.le_refl _) (Nat.le_refl _) (by omega)).mono ?_
  rintro e w8 ⟨rfl, hb8⟩
  have M8 := M7.later hb8
  clear M7
  clear hb8
  go_wp2_with fail
  refine (toStringS_any _ _ _ _ _ (HR1.out.later M8.bel) (by omega)).mono ?_
  rintro e w9 ⟨B9, rfl, o9⟩
  have M9 := M8.add o9
  clear M8
  clear o9
  go_wp2_with fail
  refine (eqStringS_same _ _ _ _ _ _ _ _ _ M9.rd2 M9.rd0 (Nat.le_refl _) (Nat.le_refl _) (by omega)).mono ?_
  rintro e w10 ⟨rfl, hb10⟩
  have M10 := M9.later hb10
  clear M9
  clear hb10
  go_wp2_with fail
  go_ret
  exact ⟨rfl, M10.bel⟩
end Go.Proofs.Ytccpgcjmdjegeaa
