/-
  The walk of the law FnExactJoinRules. No conditions.
-/
import Derived.Test.YtldbgakfioggoaaRJoin
import Derived.Test.YtldbgakfioggoaaHelpS
import Derived.Test.YtldbgakfioggoaaFrame
namespace Go.Proofs.Ytldbgakfioggoaa
open Go.RowKit

set_option maxRecDepth 100000 in
set_option maxHeartbeats 2000000 in
theorem walk_FnExactJoinRules (A0 : Option Addr) (n0 c0 : Nat) (x0 : List (List UInt8)) (A1 : Option Addr) (n1 c1 : Nat) (x1 : List (List UInt8)) (w : World) (h0 : StrsArg w A0 n0 c0 x0) (h1 : StrsArg w A1 n1 c1 x1) : Calls Try.prog 9 #[.slice A0 n0 c0, .slice A1 n1 c1] w fun e w' => e = .returned (.bool true) ∧ Below w.heap.size w w' := by
  obtain ⟨hrd0, hnc0, hcm0, hls0⟩ := h0
  obtain ⟨hrd1, hnc1, hcm1, hls1⟩ := h1
  have HR0 := Lib.hid hrd0
  have HL0 := Lib.hid hls0
  clear hrd0 hls0
  have HR1 := Lib.hid hrd1
  have HL1 := Lib.hid hls1
  clear hrd1 hls1
  go_enter Try.func9, Try.ntmps9
  go_wp2_with fail
  refine (szStringS_any _ _ _ _ _ _ _ HR0.out (by omega) HL0.out (by omega) (by omega)).mono ?_
  rintro e ws ⟨r0, rfl, hz0, rfl⟩
  by_cases hneg0 : r0 < 0
  case pos =>
    go_wp2_with fail
    go_ret
    exact ⟨rfl, Below.refl _ _⟩
  case neg =>
  obtain ⟨q0, t0, m0, sm0⟩ := hz0.resolve_left hneg0
  have HS0 := Lib.hid (show Lens x0 from fun s hs => by have := sm0 s hs; omega)
  have hn0 : n0 ≤ 1048576 := by have := HR0.out.lenS; omega
  clear sm0 hz0 m0
  go_wp2_with fail
  refine (szStringS_any _ _ _ _ _ _ _ HR1.out (by omega) HL1.out (by omega) (by omega)).mono ?_
  rintro e ws ⟨r1, rfl, hz1, rfl⟩
  by_cases hneg1 : r1 < 0
  case pos =>
    go_wp2_with fail
    go_ret
    exact ⟨rfl, Below.refl _ _⟩
  case neg =>
  obtain ⟨q1, t1, m1, sm1⟩ := hz1.resolve_left hneg1
  have HS1 := Lib.hid (show Lens x1 from fun s hs => by have := sm1 s hs; omega)
  have hn1 : n1 ≤ 1048576 := by have := HR1.out.lenS; omega
  have HNN : n0 + n1 ≤ 1048576 := by have := HR0.out.lenS; have := HR1.out.lenS; omega
  clear sm1 hz1 m1
  have M0 := Mem.start w
  go_wp2_with fail
  refine (toStringS_any _ _ _ _ _ (HR0.out.later M0.bel) (by omega)).mono ?_
  rintro e w1 ⟨B1, rfl, o1⟩
  have M1 := M0.add o1
  clear M0
  clear o1
  go_wp2_with fail
  refine (toStringS_any _ _ _ _ _ (HR1.out.later M1.bel) (by omega)).mono ?_
  rintro e w2 ⟨B2, rfl, o2⟩
  have M2 := M1.add o2
  clear M1
  clear o2
  go_wp2_with fail
  refine (cJoinRulesS _ _ _ _ _ _ _ _ _ (SNil.of M2.row1 hn0 HS0.out (Nat.le_refl _)) (SNil.of M2.row0 hn1 HS1.out (Nat.le_refl _)) HNN).mono ?_
  rintro e w3 ⟨Gw, kw, dw, rfl, o3⟩
  have hkw : kw ≤ 1048576 := by have h1 := o3.len; have h2 := (Nat.le_trans (joinRules_len x0 x1) (show x0.length + x1.length ≤ 1048576 by have := HR0.out.lenS; have := HR1.out.lenS; omega)); simp only [svs, List.length_map] at h1; omega
  have M3 := M2.add o3
  clear M2
  clear o3
  go_wp2_with fail
  refine (toStringS_any _ _ _ _ _ (HR0.out.later M3.bel) (by omega)).mono ?_
  rintro e w4 ⟨B4, rfl, o4⟩
  have M4 := M3.add o4
  clear M3
  clear o4
  go_wp2_with fail
  refine (toStringS_any _ _ _ _ _ (HR1.out.later M4.bel) (by omega)).mono ?_
  rintro e w5 ⟨B5, rfl, o5⟩
  have M5 := M4.add o5
  clear M4
  clear o5
  go_wp2_with fail
  refine (cJoinRulesI _ _ _ _ _ _ _ _ _ (SNil.of M5.row1 hn0 HS0.out (Nat.le_refl _)) (SNil.of M5.row0 hn1 HS1.out (Nat.le_refl _)) HNN).mono ?_
  rintro e w6 ⟨Gg, kg, dg, rfl, o6⟩
  obtain rfl : kw = kg := by have h1 := M5.rd2.1; have h2 := o6.len; omega
  have M6 := M5.add o6
  clear M5
  clear o6
  go_wp2_with fail
  refine (eqStringS_same _ _ _ _ _ _ _ _ _ M6.rd0 M6.rd3 (Nat.le_refl _) (Nat.le_refl _) (by omega)).mono ?_
  rintro e w7 ⟨rfl, hb7⟩
  have M7 := M6.later hb7
  clear M6
  clear hb7
  go_wp2_with fail
  refine (toStringS_any _ _ _ _ _ (HR0.out.later M7.bel) (by omega)).mono ?_
  rintro e w8 ⟨B8, rfl, o8⟩
  have M8 := M7.add o8
  clear M7
  clear o8
  go_wp2_with fail
  refine (eqStringS_same _ _ _ _ _ _ _ _ _ M8.rd3 M8.rd0 (Nat.le_refl _) (Nat.le_refl _) (by omega)).mono ?_
  rintro e w9 ⟨rfl, hb9⟩
  have M9 := M8.later hb9
  clear M8
  clear hb9
  go_wp2_with fail
  refine (toStringS_any _ _ _ _ _ (HR1.out.later M9.bel) (by omega)).mono ?_
  rintro e w10 ⟨B10, rfl, o10⟩
  have M10 := M9.add o10
  clear M9
  clear o10
  go_wp2_with fail
  refine (eqStringS_same _ _ _ _ _ _ _ _ _ M10.rd3 M10.rd0 (Nat.le_refl _) (Nat.le_refl _) (by omega)).mono ?_
  rintro e w11 ⟨rfl, hb11⟩
  have M11 := M10.later hb11
  clear M10
  clear hb11
  go_wp2_with fail
  refine (markStringS_any _ _ _ _ _ _ _ _ M11.row4 (by omega) (by omega) (by omega)).mono ?_
  rintro e w12 ⟨rfl, o12, g12⟩
  have M12 := M11.mark4 o12 g12
  clear M11
  clear o12 g12
  go_wp2_with fail
  refine (markStringS_any _ _ _ _ _ _ _ _ M12.row3 (by omega) (by omega) (by omega)).mono ?_
  rintro e w13 ⟨rfl, o13, g13⟩
  have M13 := M12.mark3 o13 g13
  clear M12
  clear o13 g13
  go_wp2_with fail
  refine (eqStringS_same _ _ _ _ _ _ _ _ _ M13.rd2 M13.rd5 (Nat.le_refl _) (Nat.le_refl _) (by omega)).mono ?_
  rintro e w14 ⟨rfl, hb14⟩
  have M14 := M13.later hb14
  clear M13
  clear hb14
  go_wp2_with fail
  refine (markStringS_any _ _ _ _ _ _ _ _ M14.row2 (by omega) (by omega) (by omega)).mono ?_
  rintro e w15 ⟨rfl, o15, g15⟩
  have M15 := M14.mark2 o15 g15
  clear M14
  clear o15 g15
  go_wp2_with fail
  refine (heldStringS_any _ _ _ _ _ _ M15.rd2 (Nat.le_refl _) (by omega) (by omega) (by omega)).mono ?_
  rintro e w16 ⟨rfl, hb16⟩
  have M16 := M15.later hb16
  clear M15
  clear hb16
  go_wp2_with fail
  refine (toStringS_any _ _ _ _ _ (HR0.out.later M16.bel) (by omega)).mono ?_
  rintro e w17 ⟨B17, rfl, o17⟩
  have M17 := M16.add o17
  clear M16
  clear o17
  go_wp2_with fail
  refine (toStringS_any _ _ _ _ _ (HR1.out.later M17.bel) (by omega)).mono ?_
  rintro e w18 ⟨B18, rfl, o18⟩
  have M18 := M17.add o18
  clear M17
  clear o18
  go_wp2_with fail
  refine (cJoinRulesI _ _ _ _ _ _ _ _ _ (SNil.of M18.row1 hn0 HS0.out (Nat.le_refl _)) (SNil.of M18.row0 hn1 HS1.out (Nat.le_refl _)) HNN).mono ?_
  rintro e w19 ⟨Gh, kh, dh, rfl, o19⟩
  obtain rfl : kw = kh := by have h1 := M18.rd7.1; have h2 := o19.len; omega
  have M19 := M18.add o19
  clear M18
  clear o19
  go_wp2_with fail
  refine (eqStringS_same _ _ _ _ _ _ _ _ _ M19.rd0 M19.rd8 (Nat.le_refl _) (Nat.le_refl _) (by omega)).mono ?_
  rintro e w20 ⟨rfl, hb20⟩
  have M20 := M19.later hb20
  clear M19
  clear hb20
  go_wp2_with fail
  refine (heldStringS_any _ _ _ _ _ _ M20.rd5 (Nat.le_refl _) (by omega) (by omega) (by omega)).mono ?_
  rintro e w21 ⟨rfl, hb21⟩
  have M21 := M20.later hb21
  clear M20
  clear hb21
  go_wp2_with fail
  go_ret
  exact ⟨rfl, M21.bel⟩
end Go.Proofs.Ytldbgakfioggoaa
