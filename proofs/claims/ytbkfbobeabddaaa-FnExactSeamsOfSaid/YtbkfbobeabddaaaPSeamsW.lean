/-
  The walk of the law FnExactSeamsOf. No conditions.
-/
import Derived.Test.YtbkfbobeabddaaaPSeams
import Derived.Test.YtbkfbobeabddaaaHelpS
import Derived.Test.YtbkfbobeabddaaaFrame
namespace Go.Proofs.Ytbkfbobeabddaaa
open Go.RowKit

set_option maxRecDepth 100000 in
set_option maxHeartbeats 2000000 in
theorem walk_FnExactSeamsOf (A0 : Option Addr) (n0 c0 : Nat) (x0 : List (List UInt8)) (l1 : List UInt8) (a2 : Int) (w : World) (h0 : StrsArg w A0 n0 c0 x0) (h1 : StrArg l1) (_h2 : I64 a2) : Calls Try.prog 8 #[.slice A0 n0 c0, .string ⟨l1.toArray⟩, .int .i64 a2] w fun e w' => e = .returned (.bool true) ∧ Below w.heap.size w w' := by
  obtain ⟨hrd0, hnc0, hcm0, hls0⟩ := h0
  unfold StrArg at h1
  by_cases hbig1 : l1.length ≤ 1048576
  case neg =>
    go_enter Try.func8, Try.ntmps8
    go_wp2_with fail
    go_ret
    exact ⟨rfl, Below.refl _ _⟩
  case pos =>
  have HR0 := Lib.hid hrd0
  have HL0 := Lib.hid hls0
  clear hrd0 hls0
  go_enter Try.func8, Try.ntmps8
  go_wp2_with fail
  refine (szStringS_any _ _ _ _ _ _ _ HR0.out (by omega) HL0.out (by omega) (by omega)).mono ?_
  rintro e ws ⟨r0, rfl, hz0, rfl⟩
  by_cases hneg0 : r0 < 0
  case pos =>
    go_wp2_with fail
    go_ret
    exact ⟨rfl, Below.refl _ _⟩
  case neg =>
  obtain ⟨q0, t0, m0, sm0⟩ := hz0.resolve_left hneg0
  have HS0 := Lib.hid (show Lens x0 from fun s hs => by have := sm0 s hs; omega)
  have hn0 : n0 ≤ 1048576 := by have := HR0.out.lenS; omega
  clear sm0 hz0 m0
  have M0 := Mem.start w
  go_wp2_with fail
  refine (toStringS_any _ _ _ _ _ (HR0.out.later M0.bel) (by omega)).mono ?_
  rintro e w1 ⟨B1, rfl, o1⟩
  have M1 := M0.add o1
  clear M0
  clear o1
  go_wp2_with fail
  refine (cSeamsOfS _ _ _ _ _ _ _ (SIn.of M1.rd0 hn0 HS0.out (Nat.le_refl _)) hbig1).mono ?_
  rintro e w2 ⟨Gw, kw, dw, rfl, o2⟩
  have hkw : kw ≤ 1048576 := by have h1 := o2.len; have h2 := (seams_len x0 l1 a2); simp only [svs, List.length_map] at h1; omega
  have M2 := M1.add o2
  clear M1
  clear o2
  go_wp2_with fail
  refine (toStringS_any _ _ _ _ _ (HR0.out.later M2.bel) (by omega)).mono ?_
  rintro e w3 ⟨B3, rfl, o3⟩
  have M3 := M2.add o3
  clear M2
  clear o3
  go_wp2_with fail
  refine (cSeamsOfI _ _ _ _ _ _ _ (SIn.of M3.rd0 hn0 HS0.out (Nat.le_refl _)) hbig1).mono ?_
  rintro e w4 ⟨Gg, kg, dg, rfl, o4⟩
  obtain rfl : kw = kg := by have h1 := M3.rd1.1; have h2 := o4.len; omega
  have M4 := M3.add o4
  clear M3
  clear o4
  go_wp2_with fail
  refine (eqStringS_same _ _ _ _ _ _ _ _ _ M4.rd0 M4.rd2 (Nat.le_refl _) (Nat.le_refl _) (by omega)).mono ?_
  rintro e w5 ⟨rfl, hb5⟩
  have M5 := M4.later hb5
  clear M4
  clear hb5
  go_wp2_with fail
  refine (toStringS_any _ _ _ _ _ (HR0.out.later M5.bel) (by omega)).mono ?_
  rintro e w6 ⟨B6, rfl, o6⟩
  have M6 := M5.add o6
  clear M5
  clear o6
  go_wp2_with fail
  refine (eqStringS_same _ _ _ _ _ _ _ _ _ M6.rd2 M6.rd0 (Nat.le_refl _) (Nat.le_refl _) (by omega)).mono ?_
  rintro e w7 ⟨rfl, hb7⟩
  have M7 := M6.later hb7
  clear M6
  clear hb7
  go_wp2_with fail
  refine (markStringS_any _ _ _ _ _ _ _ _ M7.row2 (by omega) (by omega) (by omega)).mono ?_
  rintro e w8 ⟨rfl, o8, g8⟩
  have M8 := M7.mark2 o8 g8
  clear M7
  clear o8 g8
  go_wp2_with fail
  refine (eqStringS_same _ _ _ _ _ _ _ _ _ M8.rd1 M8.rd3 (Nat.le_refl _) (Nat.le_refl _) (by omega)).mono ?_
  rintro e w9 ⟨rfl, hb9⟩
  have M9 := M8.later hb9
  clear M8
  clear hb9
  go_wp2_with fail
  refine (markStringS_any _ _ _ _ _ _ _ _ M9.row1 (by omega) (by omega) (by omega)).mono ?_
  rintro e w10 ⟨rfl, o10, g10⟩
  have M10 := M9.mark1 o10 g10
  clear M9
  clear o10 g10
  go_wp2_with fail
  refine (heldStringS_any _ _ _ _ _ _ M10.rd1 (Nat.le_refl _) (by omega) (by omega) (by omega)).mono ?_
  rintro e w11 ⟨rfl, hb11⟩
  have M11 := M10.later hb11
  clear M10
  clear hb11
  go_wp2_with fail
  refine (toStringS_any _ _ _ _ _ (HR0.out.later M11.bel) (by omega)).mono ?_
  rintro e w12 ⟨B12, rfl, o12⟩
  have M12 := M11.add o12
  clear M11
  clear o12
  go_wp2_with fail
  refine (cSeamsOfI _ _ _ _ _ _ _ (SIn.of M12.rd0 hn0 HS0.out (Nat.le_refl _)) hbig1).mono ?_
  rintro e w13 ⟨Gh, kh, dh, rfl, o13⟩
  obtain rfl : kw = kh := by have h1 := M12.rd4.1; have h2 := o13.len; omega
  have M13 := M12.add o13
  clear M12
  clear o13
  go_wp2_with fail
  refine (eqStringS_same _ _ _ _ _ _ _ _ _ M13.rd0 M13.rd5 (Nat.le_refl _) (Nat.le_refl _) (by omega)).mono ?_
  rintro e w14 ⟨rfl, hb14⟩
  have M14 := M13.later hb14
  clear M13
  clear hb14
  go_wp2_with fail
  refine (heldStringS_any _ _ _ _ _ _ M14.rd3 (Nat.le_refl _) (by omega) (by omega) (by omega)).mono ?_
  rintro e w15 ⟨rfl, hb15⟩
  have M15 := M14.later hb15
  clear M14
  clear hb15
  go_wp2_with fail
  go_ret
  exact ⟨rfl, M15.bel⟩
end Go.Proofs.Ytbkfbobeabddaaa
