/-
  The walk of the law FnExactCountObeying. No conditions.
-/
import Derived.Test.YtccpgcjmdjegeaaRCob
import Derived.Test.YtccpgcjmdjegeaaHelpS
import Derived.Test.YtccpgcjmdjegeaaFrame
namespace Go.Proofs.Ytccpgcjmdjegeaa
open Go.RowKit

set_option maxRecDepth 100000 in
set_option maxHeartbeats 2000000 in
theorem walk_FnExactCountObeying (a0 : Int) (a1 : Int) (A2 : Option Addr) (n2 c2 : Nat) (x2 : List (List UInt8)) (A3 : Option Addr) (n3 c3 : Nat) (x3 : List (List UInt8)) (w : World) (_h0 : I64 a0) (_h1 : I64 a1) (h2 : StrsArg w A2 n2 c2 x2) (h3 : StrsArg w A3 n3 c3 x3) : Calls Try.prog 4 #[.int .i64 a0, .int .i64 a1, .slice A2 n2 c2, .slice A3 n3 c3] w fun e w' => e = .returned (.bool true) ∧ Below w.heap.size w w' := by
  obtain ⟨hrd2, hnc2, hcm2, hls2⟩ := h2
  obtain ⟨hrd3, hnc3, hcm3, hls3⟩ := h3
  have HR2 := Lib.hid hrd2
  have HL2 := Lib.hid hls2
  clear hrd2 hls2
  have HR3 := Lib.hid hrd3
  have HL3 := Lib.hid hls3
  clear hrd3 hls3
  go_enter Try.func4, Try.ntmps4
  go_wp2_with fail
  refine (szStringS_any _ _ _ _ _ _ _ HR2.out (by omega) HL2.out (by omega) (by omega)).mono ?_
  rintro e ws ⟨r2, rfl, hz2, rfl⟩
  by_cases hneg2 : r2 < 0
  case pos =>
    go_wp2_with fail
    go_ret
    exact ⟨rfl, Below.refl _ _⟩
  case neg =>
  obtain ⟨q2, t2, m2, sm2⟩ := hz2.resolve_left hneg2
  have HS2 := Lib.hid (show Lens x2 from fun s hs => by have := sm2 s hs; omega)
  have hn2 : n2 ≤ 1048576 := by have := HR2.out.lenS; omega
  clear sm2 hz2 m2
  go_wp2_with fail
  refine (szStringS_any _ _ _ _ _ _ _ HR3.out (by omega) HL3.out (by omega) (by omega)).mono ?_
  rintro e ws ⟨r3, rfl, hz3, rfl⟩
  by_cases hneg3 : r3 < 0
  case pos =>
    go_wp2_with fail
    go_ret
    exact ⟨rfl, Below.refl _ _⟩
  case neg =>
  obtain ⟨q3, t3, m3, sm3⟩ := hz3.resolve_left hneg3
  have HS3 := Lib.hid (show Lens x3 from fun s hs => by have := sm3 s hs; omega)
  have hn3 : n3 ≤ 1048576 := by have := HR3.out.lenS; omega
  clear sm3 hz3 m3
  have M0 := Mem.start w
  go_wp2_with fail
  refine (toStringS_any _ _ _ _ _ (HR2.out.later M0.bel) (by omega)).mono ?_
  rintro e w1 ⟨B1, rfl, o1⟩
  have M1 := M0.add o1
  clear M0
  clear o1
  go_wp2_with fail
  refine (toStringS_any _ _ _ _ _ (HR3.out.later M1.bel) (by omega)).mono ?_
  rintro e w2 ⟨B2, rfl, o2⟩
  have M2 := M1.add o2
  clear M1
  clear o2
  go_wp2_with fail
  refine (cCountObeyingS _ _ _ _ _ _ _ _ _ _ _ (SIn.of M2.rd1 hn2 HS2.out (Nat.le_refl _)) (SIn.of M2.rd0 hn3 HS3.out (Nat.le_refl _))).mono ?_
  rintro e w3 ⟨rfl, hb3⟩
  have M3 := M2.later hb3
  clear M2
  clear hb3
  go_wp2_with fail
  refine (toStringS_any _ _ _ _ _ (HR2.out.later M3.bel) (by omega)).mono ?_
  rintro e w4 ⟨B4, rfl, o4⟩
  have M4 := M3.add o4
  clear M3
  clear o4
  go_wp2_with fail
  refine (toStringS_any _ _ _ _ _ (HR3.out.later M4.bel) (by omega)).mono ?_
  rintro e w5 ⟨B5, rfl, o5⟩
  have M5 := M4.add o5
  clear M4
  clear o5
  go_wp2_with fail
  refine (cCountObeyingI _ _ _ _ _ _ _ _ _ _ _ (SIn.of M5.rd1 hn2 HS2.out (Nat.le_refl _)) (SIn.of M5.rd0 hn3 HS3.out (Nat.le_refl _))).mono ?_
  rintro e w6 ⟨rfl, hb6⟩
  have M6 := M5.later hb6
  clear M5
  clear hb6
  go_wp2_with fail
  refine (toStringS_any _ _ _ _ _ (HR2.out.later M6.bel) (by omega)).mono ?_
  rintro e w7 ⟨B7, rfl, o7⟩
  have M7 := M6.add o7
  clear M6
  clear o7
  go_wp2_with fail
  refine (eqStringS_same _ _ _ _ _ _ _ _ _ M7.rd2 M7.rd0 (Nat.le_refl _) (Nat.le_refl _) (by omega)).mono ?_
  rintro e w8 ⟨rfl, hb8⟩
  have M8 := M7.later hb8
  clear M7
  clear hb8
  go_wp2_with fail
  refine (toStringS_any _ _ _ _ _ (HR3.out.later M8.bel) (by omega)).mono ?_
  rintro e w9 ⟨B9, rfl, o9⟩
  have M9 := M8.add o9
  clear M8
  clear o9
  go_wp2_with fail
  refine (eqStringS_same _ _ _ _ _ _ _ _ _ M9.rd2 M9.rd0 (Nat.le_refl _) (Nat.le_refl _) (by omega)).mono ?_
  rintro e w10 ⟨rfl, hb10⟩
  have M10 := M9.later hb10
  clear M9
  clear hb10
  go_wp2_with fail
  go_ret
  exact ⟨rfl, M10.bel⟩
end Go.Proofs.Ytccpgcjmdjegeaa
