/-
  The walk of the law FnExactFirstObeying. No conditions.
-/
import Derived.Test.YtccpgcjmdjegeaaRFi
import Derived.Test.YtccpgcjmdjegeaaHelpS
import Derived.Test.YtccpgcjmdjegeaaFrame
namespace Go.Proofs.Ytccpgcjmdjegeaa
open Go.RowKit

set_option maxRecDepth 100000 in
set_option maxHeartbeats 2000000 in
theorem walk_FnExactFirstObeying (a0 : Int) (a1 : Int) (A2 : Option Addr) (n2 c2 : Nat) (x2 : List (List UInt8)) (A3 : Option Addr) (n3 c3 : Nat) (x3 : List (List UInt8)) (w : World) (_h0 : I64 a0) (_h1 : I64 a1) (h2 : StrsArg w A2 n2 c2 x2) (h3 : StrsArg w A3 n3 c3 x3) : Calls Try.prog 5 #[.int .i64 a0, .int .i64 a1, .slice A2 n2 c2, .slice A3 n3 c3] w fun e w' => e = .returned (.bool true) ∧ Below w.heap.size w w' := by
  obtain ⟨hrd2, hnc2, hcm2, hls2⟩ := h2
  obtain ⟨hrd3, hnc3, hcm3, hls3⟩ := h3
  have HR2 := Lib.hid hrd2
  have HL2 := Lib.hid hls2
  clear hrd2 hls2
  have HR3 := Lib.hid hrd3
  have HL3 := Lib.hid hls3
  clear hrd3 hls3
  go_enter Try.func5, Try.ntmps5
  go_wp2_with fail
  refine (szStringS_any _ _ _ _ _ _ _ HR2.out (by omega) HL2.out (by omega) (by omega)).mono ?_
  rintro e ws ⟨r2, rfl, hz2, rfl⟩
  by_cases hneg2 : r2 < 0
  case pos =>
    go_wp2_with fail
    go_ret
    exact ⟨rfl, Below.refl _ _⟩
  case neg =>
  obtain ⟨q2, t2, m2, sm2⟩ := hz2.resolve_left hneg2
  have HS2 := Lib.hid (show Lens x2 from fun s hs => by have := sm2 s hs; omega)
  have hn2 : n2 ≤ 1048576 := by have := HR2.out.lenS; omega
  clear sm2 hz2 m2
  go_wp2_with fail
  refine (szStringS_any _ _ _ _ _ _ _ HR3.out (by omega) HL3.out (by omega) (by omega)).mono ?_
  rintro e ws ⟨r3, rfl, hz3, rfl⟩
  by_cases hneg3 : r3 < 0
  case pos =>
    go_wp2_with fail
    go_ret
    exact ⟨rfl, Below.refl _ _⟩
  case neg =>
  obtain ⟨q3, t3, m3, sm3⟩ := hz3.resolve_left hneg3
  have HS3 := Lib.hid (show Lens x3 from fun s hs => by have := sm3 s hs; omega)
  have hn3 : n3 ≤ 1048576 := by have := HR3.out.lenS; omega
  clear sm3 hz3 m3
  have M0 := Mem.start w
  go_wp2_with fail
  refine (toStringS_any _ _ _ _ _ (HR2.out.later M0.bel) (by omega)).mono ?_
  rintro e w1 ⟨B1, rfl, o1⟩
  have M1 := M0.add o1
  clear M0
  clear o1
  go_wp2_with fail
  refine (toStringS_any _ _ _ _ _ (HR3.out.later M1.bel) (by omega)).mono ?_
  rintro e w2 ⟨B2, rfl, o2⟩
  have M2 := M1.add o2
  clear M1
  clear o2
  go_wp2_with fail
  refine (cFirstObeyingS _ _ _ _ _ _ _ _ _ _ _ (SIn.of M2.rd1 hn2 HS2.out (Nat.le_refl _)) (SIn.of M2.rd0 hn3 HS3.out (Nat.le_refl _))).mono ?_
  rintro e w3 ⟨Gw, kw, dw, rfl, o3⟩
  have hkw : kw ≤ 1048576 := by have h1 := o3.len; have h2 := (firstOb_len a0 a1 x2 x3); simp only [svs, List.length_map] at h1; omega
  have M3 := M2.add o3
  clear M2
  clear o3
  go_wp2_with fail
  refine (toStringS_any _ _ _ _ _ (HR2.out.later M3.bel) (by omega)).mono ?_
  rintro e w4 ⟨B4, rfl, o4⟩
  have M4 := M3.add o4
  clear M3
  clear o4
  go_wp2_with fail
  refine (toStringS_any _ _ _ _ _ (HR3.out.later M4.bel) (by omega)).mono ?_
  rintro e w5 ⟨B5, rfl, o5⟩
  have M5 := M4.add o5
  clear M4
  clear o5
  go_wp2_with fail
  refine (cFirstObeyingI _ _ _ _ _ _ _ _ _ _ _ (SIn.of M5.rd1 hn2 HS2.out (Nat.le_refl _)) (SIn.of M5.rd0 hn3 HS3.out (Nat.le_refl _))).mono ?_
  rintro e w6 ⟨Gg, kg, dg, rfl, o6⟩
  obtain rfl : kw = kg := by have h1 := M5.rd2.1; have h2 := o6.len; omega
  have M6 := M5.add o6
  clear M5
  clear o6
  go_wp2_with fail
  refine (eqStringS_same _ _ _ _ _ _ _ _ _ M6.rd0 M6.rd3 (Nat.le_refl _) (Nat.le_refl _) (by omega)).mono ?_
  rintro e w7 ⟨rfl, hb7⟩
  have M7 := M6.later hb7
  clear M6
  clear hb7
  go_wp2_with fail
  refine (toStringS_any _ _ _ _ _ (HR2.out.later M7.bel) (by omega)).mono ?_
  rintro e w8 ⟨B8, rfl, o8⟩
  have M8 := M7.add o8
  clear M7
  clear o8
  go_wp2_with fail
  refine (eqStringS_same _ _ _ _ _ _ _ _ _ M8.rd3 M8.rd0 (Nat.le_refl _) (Nat.le_refl _) (by omega)).mono ?_
  rintro e w9 ⟨rfl, hb9⟩
  have M9 := M8.later hb9
  clear M8
  clear hb9
  go_wp2_with fail
  refine (toStringS_any _ _ _ _ _ (HR3.out.later M9.bel) (by omega)).mono ?_
  rintro e w10 ⟨B10, rfl, o10⟩
  have M10 := M9.add o10
  clear M9
  clear o10
  go_wp2_with fail
  refine (eqStringS_same _ _ _ _ _ _ _ _ _ M10.rd3 M10.rd0 (Nat.le_refl _) (Nat.le_refl _) (by omega)).mono ?_
  rintro e w11 ⟨rfl, hb11⟩
  have M11 := M10.later hb11
  clear M10
  clear hb11
  go_wp2_with fail
  refine (markStringS_any _ _ _ _ _ _ _ _ M11.row4 (by omega) (by omega) (by omega)).mono ?_
  rintro e w12 ⟨rfl, o12, g12⟩
  have M12 := M11.mark4 o12 g12
  clear M11
  clear o12 g12
  go_wp2_with fail
  refine (markStringS_any _ _ _ _ _ _ _ _ M12.row3 (by omega) (by omega) (by omega)).mono ?_
  rintro e w13 ⟨rfl, o13, g13⟩
  have M13 := M12.mark3 o13 g13
  clear M12
  clear o13 g13
  go_wp2_with fail
  refine (eqStringS_same _ _ _ _ _ _ _ _ _ M13.rd2 M13.rd5 (Nat.le_refl _) (Nat.le_refl _) (by omega)).mono ?_
  rintro e w14 ⟨rfl, hb14⟩
  have M14 := M13.later hb14
  clear M13
  clear hb14
  go_wp2_with fail
  refine (markStringS_any _ _ _ _ _ _ _ _ M14.row2 (by omega) (by omega) (by omega)).mono ?_
  rintro e w15 ⟨rfl, o15, g15⟩
  have M15 := M14.mark2 o15 g15
  clear M14
  clear o15 g15
  go_wp2_with fail
  refine (heldStringS_any _ _ _ _ _ _ M15.rd2 (Nat.le_refl _) (by omega) (by omega) (by omega)).mono ?_
  rintro e w16 ⟨rfl, hb16⟩
  have M16 := M15.later hb16
  clear M15
  clear hb16
  go_wp2_with fail
  refine (toStringS_any _ _ _ _ _ (HR2.out.later M16.bel) (by omega)).mono ?_
  rintro e w17 ⟨B17, rfl, o17⟩
  have M17 := M16.add o17
  clear M16
  clear o17
  go_wp2_with fail
  refine (toStringS_any _ _ _ _ _ (HR3.out.later M17.bel) (by omega)).mono ?_
  rintro e w18 ⟨B18, rfl, o18⟩
  have M18 := M17.add o18
  clear M17
  clear o18
  go_wp2_with fail
  refine (cFirstObeyingI _ _ _ _ _ _ _ _ _ _ _ (SIn.of M18.rd1 hn2 HS2.out (Nat.le_refl _)) (SIn.of M18.rd0 hn3 HS3.out (Nat.le_refl _))).mono ?_
  rintro e w19 ⟨Gh, kh, dh, rfl, o19⟩
  obtain rfl : kw = kh := by have h1 := M18.rd7.1; have h2 := o19.len; omega
  have M19 := M18.add o19
  clear M18
  clear o19
  go_wp2_with fail
  refine (eqStringS_same _ _ _ _ _ _ _ _ _ M19.rd0 M19.rd8 (Nat.le_refl _) (Nat.le_refl _) (by omega)).mono ?_
  rintro e w20 ⟨rfl, hb20⟩
  have M20 := M19.later hb20
  clear M19
  clear hb20
  go_wp2_with fail
  refine (heldStringS_any _ _ _ _ _ _ M20.rd5 (Nat.le_refl _) (by omega) (by omega) (by omega)).mono ?_
  rintro e w21 ⟨rfl, hb21⟩
  have M21 := M20.later hb21
  clear M20
  clear hb21
  go_wp2_with fail
  go_ret
  exact ⟨rfl, M21.bel⟩
end Go.Proofs.Ytccpgcjmdjegeaa
