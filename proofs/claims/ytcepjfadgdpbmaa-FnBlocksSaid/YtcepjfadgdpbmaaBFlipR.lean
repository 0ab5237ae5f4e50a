/-
  Contracts of FlipRule (program and reference), and the walk of the law on it. No conditions.
-/
import Derived.Test.YtcepjfadgdpbmaaBLaws1
import Derived.Deep.RegionHeld3
namespace Go.Proofs.Ytcepjfadgdpbmaa
open Go.RowKit

def flipW (r : List UInt8) : List UInt8 := r.take 1 ++ (r.take 3).drop 2 ++ (r.take 2).drop 1 ++ r.drop 3
def flipRule (b : List (List UInt8)) : List (List UInt8) × Bool := if rOk b then (b.map flipW, true) else ([], false)
theorem flipRule_len (b : List (List UInt8)) : (flipRule b).1.length ≤ 4096 := by
  unfold flipRule
  split
  · rename_i h; have := rOk_len h; simp; omega
  · simp
theorem fourR {r : List UInt8} (h : r.length = 4) : ∃ x y z u, r = [x, y, z, u] := by
  match r, h with
  | [x, y, z, u], _ => exact ⟨x, y, z, u, rfl⟩
theorem map_snoc' {α β : Type} (ss : List α) (f : α → β) {k : Nat} (h : k < ss.length) : (ss.map f).take (k + 1) = (ss.map f).take k ++ [f ss[k]] := by
  rw [take_snoc _ k (by simpa using h)]; simp

set_option maxHeartbeats 1600000 in
theorem cFlipRuleI (A : Option Addr) (n c : Nat) (b : List (List UInt8)) (W : World) (hp : SIn W A n c b) : Calls Try.prog 33 #[.slice A n c] W (RetSB 9 W (flipRule b).1 (flipRule b).2) := by
  have hcon := iRuleOk_any A n c _ b W hp.1 hp.2.1 hp.longs
  have hlen := Lib.hid hp.1.lenS
  cases hok : rOk b
  case false =>
    have HE := Lib.hid (show ([], false) = flipRule b by simp [flipRule, hok])
    rw [hok] at hcon
    have HC := Lib.hid hcon
    clear hcon
    go_enter Try.func33, Try.ntmps33
    go_wp2_with (go_at_call 21; refine HC.out.mono ?_; rintro e w' ⟨rfl, rfl⟩)
    go_ret2
    rw [← HE.out]
    exact ⟨_, _, _, rfl, Own.nil (Below.refl _ _) _⟩
  case true =>
  have hbl := rOk_len hok
  have hn4 : n ≤ 4 := by have := hlen.out; omega
  have HE := Lib.hid (show (b.map flipW, true) = flipRule b by simp [flipRule, hok])
  have HOK := Lib.hid hok
  have HP := Lib.hid hp
  rw [hok] at hcon
  have HC := Lib.hid hcon
  clear hcon hok hp
  go_enter Try.func33, Try.ntmps33
  go_wp2_with (go_at_call 21; refine HC.out.mono ?_; rintro e w' ⟨rfl, rfl⟩)
  go_loopw [13, 4] (fun i out wr => ∃ (k : Nat) (A' : Option Addr) (c' : Nat), k ≤ n ∧ i = .int .i64 k ∧ out = .slice A' k c' ∧ Own W wr 9 A' k c' (svs ((b.map flipW).take k))) (fun i _ _ => n - (intOf i).toNat)
  case atStart => exact ⟨0, _, _, Nat.zero_le _, rfl, rfl, Own.made0 (Below.refl _ _) _⟩
  case round =>
    obtain ⟨k, A', c', hk, rfl, rfl, hown⟩ := hrel
    by_cases hlt : k < n
    · have hkl : k < b.length := by rw [hlen.out]; exact hlt
      obtain ⟨a, rfl, _, hcell⟩ := (HP.out.1.below hown.2).str (k := k) hkl
      have hr4 := (rOk_row HOK.out (List.getElem_mem hkl)).2.1
      have HS := Lib.hid (map_snoc' b flipW hkl)
      obtain ⟨r, hre⟩ : ∃ r, r = b[k] := ⟨_, rfl⟩
      rw [← hre] at hcell hr4 HS
      obtain ⟨x, y, z, u, rfl⟩ := fourR hr4
      clear hre hr4
      go_wp2
      go_region_held3 (fun _ => True) (trivial)
        ((refine step_app_own (.tmp 17) (.tmp 29) _ _ _ 16 (by rfl) (by rfl) Try.underlying22 infoS (by rfl) (by rfl) ((hown.alloc _).drew) (by rfl) (fun h => by cases h) (Rd.one wr _ _) (by simp [Value.oneCell']) (by omega) (by omega) ?_; intro A2 c2 w1 hown1 _))
      go_wp2
      exact ⟨⟨k + 1, A2, c2, by omega, by go_num, rfl, by rw [HS.out, svs_snoc]; exact hown1⟩, by simp [intOf]; omega⟩
    · have HK := Lib.hid (show (b.map flipW).take k = b.map flipW from List.take_of_length_le (by rw [List.length_map, hlen.out]; omega))
      have hown2 := hown
      rw [HK.out] at hown2
      go_wp2
      go_ret2
      rw [← HE.out]
      exact ⟨_, _, _, rfl, hown2⟩
set_option maxHeartbeats 1600000 in
theorem cFlipRuleS (A : Option Addr) (n c : Nat) (b : List (List UInt8)) (W : World) (hp : SIn W A n c b) : Calls Try.prog 32 #[.slice A n c] W (RetSB 9 W (flipRule b).1 (flipRule b).2) := by
  have hcon := sRuleOk_any A n c _ b W hp.1 hp.2.1 hp.longs
  have hlen := Lib.hid hp.1.lenS
  cases hok : rOk b
  case false =>
    have HE := Lib.hid (show ([], false) = flipRule b by simp [flipRule, hok])
    rw [hok] at hcon
    have HC := Lib.hid hcon
    clear hcon
    go_enter Try.func32, Try.ntmps32
    go_wp2_with (go_at_call 20; refine HC.out.mono ?_; rintro e w' ⟨rfl, rfl⟩)
    go_ret2
    rw [← HE.out]
    exact ⟨_, _, _, rfl, Own.nil (Below.refl _ _) _⟩
  case true =>
  have hbl := rOk_len hok
  have hn4 : n ≤ 4 := by have := hlen.out; omega
  have HE := Lib.hid (show (b.map flipW, true) = flipRule b by simp [flipRule, hok])
  have HOK := Lib.hid hok
  have HP := Lib.hid hp
  rw [hok] at hcon
  have HC := Lib.hid hcon
  clear hcon hok hp
  go_enter Try.func32, Try.ntmps32
  go_wp2_with (go_at_call 20; refine HC.out.mono ?_; rintro e w' ⟨rfl, rfl⟩)
  go_loopw [13, 4] (fun i out wr => ∃ (k : Nat) (A' : Option Addr) (c' : Nat), k ≤ n ∧ i = .int .i64 k ∧ out = .slice A' k c' ∧ Own W wr 9 A' k c' (svs ((b.map flipW).take k))) (fun i _ _ => n - (intOf i).toNat)
  case atStart => exact ⟨0, _, _, Nat.zero_le _, rfl, rfl, Own.made0 (Below.refl _ _) _⟩
  case round =>
    obtain ⟨k, A', c', hk, rfl, rfl, hown⟩ := hrel
    by_cases hlt : k < n
    · have hkl : k < b.length := by rw [hlen.out]; exact hlt
      obtain ⟨a, rfl, _, hcell⟩ := (HP.out.1.below hown.2).str (k := k) hkl
      have hr4 := (rOk_row HOK.out (List.getElem_mem hkl)).2.1
      have HS := Lib.hid (map_snoc' b flipW hkl)
      obtain ⟨r, hre⟩ : ∃ r, r = b[k] := ⟨_, rfl⟩
      rw [← hre] at hcell hr4 HS
      obtain ⟨x, y, z, u, rfl⟩ := fourR hr4
      clear hre hr4
      go_wp2
      go_region_held3 (fun _ => True) (trivial)
        ((refine step_app_own (.tmp 17) (.tmp 29) _ _ _ 16 (by rfl) (by rfl) Try.underlying22 infoS (by rfl) (by rfl) ((hown.alloc _).drew) (by rfl) (fun h => by cases h) (Rd.one wr _ _) (by simp [Value.oneCell']) (by omega) (by omega) ?_; intro A2 c2 w1 hown1 _))
      go_wp2
      exact ⟨⟨k + 1, A2, c2, by omega, by go_num, rfl, by rw [HS.out, svs_snoc]; exact hown1⟩, by simp [intOf]; omega⟩
    · have HK := Lib.hid (show (b.map flipW).take k = b.map flipW from List.take_of_length_le (by rw [List.length_map, hlen.out]; omega))
      have hown2 := hown
      rw [HK.out] at hown2
      go_wp2
      go_ret2
      rw [← HE.out]
      exact ⟨_, _, _, rfl, hown2⟩
set_option maxRecDepth 100000 in
set_option maxHeartbeats 2000000 in
theorem walk_FnExactFlipRule (A0 : Option Addr) (n0 c0 : Nat) (x0 : List (List UInt8)) (w : World) (h0 : StrsArg w A0 n0 c0 x0) : Calls Try.prog 9 #[.slice A0 n0 c0] w fun e w' => e = .returned (.bool true) ∧ Below w.heap.size w w' := by
  obtain ⟨hrd0, hnc0, hcm0, hls0⟩ := h0
  have HR0 := Lib.hid hrd0
  have HL0 := Lib.hid hls0
  clear hrd0 hls0
  go_enter Try.func9, Try.ntmps9
  go_wp2_with fail
  refine (szStringS_any _ _ _ _ _ _ _ HR0.out (by omega) HL0.out (by omega) (by omega)).mono ?_
  rintro e ws ⟨r0, rfl, hz0, rfl⟩
  by_cases hneg0 : r0 < 0
  case pos =>
    go_wp2_with fail
    go_ret
    exact ⟨rfl, Below.refl _ _⟩
  case neg =>
  obtain ⟨q0, t0, m0, sm0⟩ := hz0.resolve_left hneg0
  have HS0 := Lib.hid (show Lens x0 from fun s hs => by have := sm0 s hs; omega)
  have hn0 : n0 ≤ 1048576 := by have := HR0.out.lenS; omega
  clear sm0 hz0 m0
  have M0 := Mem.start w
  go_wp2_with fail
  refine (toStringS_any _ _ _ _ _ (HR0.out.later M0.bel) (by omega)).mono ?_
  rintro e w1 ⟨B1, rfl, o1⟩
  have M1 := M0.add o1
  clear M0
  clear o1
  go_wp2_with fail
  refine (cFlipRuleS _ _ _ _ _ (SIn.of M1.rd0 hn0 HS0.out (Nat.le_refl _))).mono ?_
  rintro e w2 ⟨Gw, kw, dw, rfl, o2⟩
  have hkw : kw ≤ 1048576 := by have h1 := o2.len; have h2 := (flipRule_len x0); simp only [svs, List.length_map] at h1; omega
  have M2 := M1.add o2
  clear M1
  clear o2
  go_wp2_with fail
  refine (toStringS_any _ _ _ _ _ (HR0.out.later M2.bel) (by omega)).mono ?_
  rintro e w3 ⟨B3, rfl, o3⟩
  have M3 := M2.add o3
  clear M2
  clear o3
  go_wp2_with fail
  refine (cFlipRuleI _ _ _ _ _ (SIn.of M3.rd0 hn0 HS0.out (Nat.le_refl _))).mono ?_
  rintro e w4 ⟨Gg, kg, dg, rfl, o4⟩
  obtain rfl : kw = kg := by have h1 := M3.rd1.1; have h2 := o4.len; omega
  have M4 := M3.add o4
  clear M3
  clear o4
  go_wp2_with fail
  refine (eqStringS_same _ _ _ _ _ _ _ _ _ M4.rd0 M4.rd2 (Nat.le_refl _) (Nat.le_refl _) (by omega)).mono ?_
  rintro e w5 ⟨rfl, hb5⟩
  have M5 := M4.later hb5
  clear M4
  clear hb5
  go_wp2_with fail
  refine (toStringS_any _ _ _ _ _ (HR0.out.later M5.bel) (by omega)).mono ?_
  rintro e w6 ⟨B6, rfl, o6⟩
  have M6 := M5.add o6
  clear M5
  clear o6
  go_wp2_with fail
  refine (eqStringS_same _ _ _ _ _ _ _ _ _ M6.rd2 M6.rd0 (Nat.le_refl _) (Nat.le_refl _) (by omega)).mono ?_
  rintro e w7 ⟨rfl, hb7⟩
  have M7 := M6.later hb7
  clear M6
  clear hb7
  go_wp2_with fail
  refine (markStringS_any _ _ _ _ _ _ _ _ M7.row2 (by omega) (by omega) (by omega)).mono ?_
  rintro e w8 ⟨rfl, o8, g8⟩
  have M8 := M7.mark2 o8 g8
  clear M7
  clear o8 g8
  go_wp2_with fail
  refine (eqStringS_same _ _ _ _ _ _ _ _ _ M8.rd1 M8.rd3 (Nat.le_refl _) (Nat.le_refl _) (by omega)).mono ?_
  rintro e w9 ⟨rfl, hb9⟩
  have M9 := M8.later hb9
  clear M8
  clear hb9
  go_wp2_with fail
  refine (markStringS_any _ _ _ _ _ _ _ _ M9.row1 (by omega) (by omega) (by omega)).mono ?_
  rintro e w10 ⟨rfl, o10, g10⟩
  have M10 := M9.mark1 o10 g10
  clear M9
  clear o10 g10
  go_wp2_with fail
  refine (heldStringS_any _ _ _ _ _ _ M10.rd1 (Nat.le_refl _) (by omega) (by omega) (by omega)).mono ?_
  rintro e w11 ⟨rfl, hb11⟩
  have M11 := M10.later hb11
  clear M10
  clear hb11
  go_wp2_with fail
  refine (toStringS_any _ _ _ _ _ (HR0.out.later M11.bel) (by omega)).mono ?_
  rintro e w12 ⟨B12, rfl, o12⟩
  have M12 := M11.add o12
  clear M11
  clear o12
  go_wp2_with fail
  refine (cFlipRuleI _ _ _ _ _ (SIn.of M12.rd0 hn0 HS0.out (Nat.le_refl _))).mono ?_
  rintro e w13 ⟨Gh, kh, dh, rfl, o13⟩
  obtain rfl : kw = kh := by have h1 := M12.rd4.1; have h2 := o13.len; omega
  have M13 := M12.add o13
  clear M12
  clear o13
  go_wp2_with fail
  refine (eqStringS_same _ _ _ _ _ _ _ _ _ M13.rd0 M13.rd5 (Nat.le_refl _) (Nat.le_refl _) (by omega)).mono ?_
  rintro e w14 ⟨rfl, hb14⟩
  have M14 := M13.later hb14
  clear M13
  clear hb14
  go_wp2_with fail
  refine (heldStringS_any _ _ _ _ _ _ M14.rd3 (Nat.le_refl _) (by omega) (by omega) (by omega)).mono ?_
  rintro e w15 ⟨rfl, hb15⟩
  have M15 := M14.later hb15
  clear M14
  clear hb15
  go_wp2_with fail
  go_ret
  exact ⟨rfl, M15.bel⟩
end Go.Proofs.Ytcepjfadgdpbmaa
