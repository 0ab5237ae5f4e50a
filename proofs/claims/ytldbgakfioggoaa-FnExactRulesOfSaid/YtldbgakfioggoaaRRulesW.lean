/-
  The walk of the law FnExactRulesOf. No conditions.
-/
import Derived.Test.YtldbgakfioggoaaRRules
import Derived.Test.YtldbgakfioggoaaHelpS
import Derived.Test.YtldbgakfioggoaaFrame
namespace Go.Proofs.Ytldbgakfioggoaa
open Go.RowKit

set_option maxRecDepth 100000 in
set_option maxHeartbeats 2000000 in
theorem walk_FnExactRulesOf (A0 : Option Addr) (n0 c0 : Nat) (x0 : List (List UInt8)) (w : World) (h0 : StrsArg w A0 n0 c0 x0) : Calls Try.prog 10 #[.slice A0 n0 c0] w fun e w' => e = .returned (.bool true) ∧ Below w.heap.size w w' := by
  obtain ⟨hrd0, hnc0, hcm0, hls0⟩ := h0
  have HR0 := Lib.hid hrd0
  have HL0 := Lib.hid hls0
  clear hrd0 hls0
  go_enter Try.func10, Try.ntmps10
  go_wp2_with fail
  refine (szStringS_any _ _ _ _ _ _ _ HR0.out (by omega) HL0.out (by omega) (by omega)).mono ?_
  rintro e ws ⟨r0, rfl, hz0, rfl⟩
  by_cases hneg0 : r0 < 0
  case pos =>
    go_wp2_with fail
    go_ret
    exact ⟨rfl, Below.refl _ _⟩
  case neg =>
  obtain ⟨q0, t0, m0, sm0⟩ := hz0.resolve_left hneg0
  have HS0 := Lib.hid (show Lens x0 from fun s hs => by have := sm0 s hs; omega)
  have hn0 : n0 ≤ 1048576 := by have := HR0.out.lenS; omega
  clear sm0 hz0 m0
  have M0 := Mem.start w
  go_wp2_with fail
  refine (toStringS_any _ _ _ _ _ (HR0.out.later M0.bel) (by omega)).mono ?_
  rintro e w1 ⟨B1, rfl, o1⟩
  have M1 := M0.add o1
  clear M0
  clear o1
  go_wp2_with fail
  refine (cRulesOfS _ _ _ _ _ (SIn.of M1.rd0 hn0 HS0.out (Nat.le_refl _))).mono ?_
  rintro e w2 ⟨Gw, kw, dw, Gw2, kw2, dw2, rfl, o2⟩
  have hkw : kw ≤ 1048576 ∧ kw2 ≤ 1048576 := by have h1 := o2.rd1.1; have h2 := o2.rd0.1; have h3 := (rulesOf_len x0); simp only [svs, List.length_map] at h1 h2; omega
  obtain ⟨hkw, hkw2⟩ := hkw
  have M2 := M1.add2 o2
  clear M1
  clear o2
  go_wp2_with fail
  refine (toStringS_any _ _ _ _ _ (HR0.out.later M2.bel) (by omega)).mono ?_
  rintro e w3 ⟨B3, rfl, o3⟩
  have M3 := M2.add o3
  clear M2
  clear o3
  go_wp2_with fail
  refine (cRulesOfI _ _ _ _ _ (SIn.of M3.rd0 hn0 HS0.out (Nat.le_refl _))).mono ?_
  rintro e w4 ⟨Gg, kg, dg, Gg2, kg2, dg2, rfl, o4⟩
  obtain rfl : kw = kg := by have h1 := M3.rd2.1; have h2 := o4.rd1.1; omega
  obtain rfl : kw2 = kg2 := by have h1 := M3.rd1.1; have h2 := o4.rd0.1; omega
  have M4 := M3.add2 o4
  clear M3
  clear o4
  go_wp2_with fail
  refine (eqStringS_same _ _ _ _ _ _ _ _ _ M4.rd1 M4.rd4 (Nat.le_refl _) (Nat.le_refl _) (by omega)).mono ?_
  rintro e w5 ⟨rfl, hb5⟩
  have M5 := M4.later hb5
  clear M4
  clear hb5
  go_wp2_with fail
  refine (eqStringS_same _ _ _ _ _ _ _ _ _ M5.rd0 M5.rd3 (Nat.le_refl _) (Nat.le_refl _) (by omega)).mono ?_
  rintro e w6 ⟨rfl, hb6⟩
  have M6 := M5.later hb6
  clear M5
  clear hb6
  go_wp2_with fail
  refine (toStringS_any _ _ _ _ _ (HR0.out.later M6.bel) (by omega)).mono ?_
  rintro e w7 ⟨B7, rfl, o7⟩
  have M7 := M6.add o7
  clear M6
  clear o7
  go_wp2_with fail
  refine (eqStringS_same _ _ _ _ _ _ _ _ _ M7.rd3 M7.rd0 (Nat.le_refl _) (Nat.le_refl _) (by omega)).mono ?_
  rintro e w8 ⟨rfl, hb8⟩
  have M8 := M7.later hb8
  clear M7
  clear hb8
  go_wp2_with fail
  refine (markStringS_any _ _ _ _ _ _ _ _ M8.row3 (by omega) (by omega) (by omega)).mono ?_
  rintro e w9 ⟨rfl, o9, g9⟩
  have M9 := M8.mark3 o9 g9
  clear M8
  clear o9 g9
  go_wp2_with fail
  refine (eqStringS_same _ _ _ _ _ _ _ _ _ M9.rd2 M9.rd5 (Nat.le_refl _) (Nat.le_refl _) (by omega)).mono ?_
  rintro e w10 ⟨rfl, hb10⟩
  have M10 := M9.later hb10
  clear M9
  clear hb10
  go_wp2_with fail
  refine (eqStringS_same _ _ _ _ _ _ _ _ _ M10.rd1 M10.rd4 (Nat.le_refl _) (Nat.le_refl _) (by omega)).mono ?_
  rintro e w11 ⟨rfl, hb11⟩
  have M11 := M10.later hb11
  clear M10
  clear hb11
  go_wp2_with fail
  refine (markStringS_any _ _ _ _ _ _ _ _ M11.row2 (by omega) (by omega) (by omega)).mono ?_
  rintro e w12 ⟨rfl, o12, g12⟩
  have M12 := M11.mark2 o12 g12
  clear M11
  clear o12 g12
  go_wp2_with fail
  refine (markStringS_any _ _ _ _ _ _ _ _ M12.row1 (by omega) (by omega) (by omega)).mono ?_
  rintro e w13 ⟨rfl, o13, g13⟩
  have M13 := M12.mark1 o13 g13
  clear M12
  clear o13 g13
  go_wp2_with fail
  refine (heldStringS_any _ _ _ _ _ _ M13.rd2 (Nat.le_refl _) (by omega) (by omega) (by omega)).mono ?_
  rintro e w14 ⟨rfl, hb14⟩
  have M14 := M13.later hb14
  clear M13
  clear hb14
  go_wp2_with fail
  refine (heldStringS_any _ _ _ _ _ _ M14.rd1 (Nat.le_refl _) (by omega) (by omega) (by omega)).mono ?_
  rintro e w15 ⟨rfl, hb15⟩
  have M15 := M14.later hb15
  clear M14
  clear hb15
  go_wp2_with fail
  refine (toStringS_any _ _ _ _ _ (HR0.out.later M15.bel) (by omega)).mono ?_
  rintro e w16 ⟨B16, rfl, o16⟩
  have M16 := M15.add o16
  clear M15
  clear o16
  go_wp2_with fail
  refine (cRulesOfI _ _ _ _ _ (SIn.of M16.rd0 hn0 HS0.out (Nat.le_refl _))).mono ?_
  rintro e w17 ⟨Gh, kh, dh, Gh2, kh2, dh2, rfl, o17⟩
  obtain rfl : kw = kh := by have h1 := M16.rd6.1; have h2 := o17.rd1.1; omega
  obtain rfl : kw2 = kh2 := by have h1 := M16.rd5.1; have h2 := o17.rd0.1; omega
  have M17 := M16.add2 o17
  clear M16
  clear o17
  go_wp2_with fail
  refine (eqStringS_same _ _ _ _ _ _ _ _ _ M17.rd1 M17.rd8 (Nat.le_refl _) (Nat.le_refl _) (by omega)).mono ?_
  rintro e w18 ⟨rfl, hb18⟩
  have M18 := M17.later hb18
  clear M17
  clear hb18
  go_wp2_with fail
  refine (eqStringS_same _ _ _ _ _ _ _ _ _ M18.rd0 M18.rd7 (Nat.le_refl _) (Nat.le_refl _) (by omega)).mono ?_
  rintro e w19 ⟨rfl, hb19⟩
  have M19 := M18.later hb19
  clear M18
  clear hb19
  go_wp2_with fail
  refine (heldStringS_any _ _ _ _ _ _ M19.rd5 (Nat.le_refl _) (by omega) (by omega) (by omega)).mono ?_
  rintro e w20 ⟨rfl, hb20⟩
  have M20 := M19.later hb20
  clear M19
  clear hb20
  go_wp2_with fail
  refine (heldStringS_any _ _ _ _ _ _ M20.rd4 (Nat.le_refl _) (by omega) (by omega) (by omega)).mono ?_
  rintro e w21 ⟨rfl, hb21⟩
  have M21 := M20.later hb21
  clear M20
  clear hb21
  go_wp2_with fail
  go_ret
  exact ⟨rfl, M21.bel⟩
end Go.Proofs.Ytldbgakfioggoaa
