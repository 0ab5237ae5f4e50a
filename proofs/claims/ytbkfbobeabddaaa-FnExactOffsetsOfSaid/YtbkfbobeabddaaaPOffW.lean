/-
  The walk of the law FnExactOffsetsOf. No conditions.
-/
import Derived.Test.YtbkfbobeabddaaaPOff
import Derived.Test.YtbkfbobeabddaaaHelpII
import Derived.Test.YtbkfbobeabddaaaHelpS
import Derived.Test.YtbkfbobeabddaaaFrame
namespace Go.Proofs.Ytbkfbobeabddaaa
open Go.RowKit

theorem grp_n {w0 w : World} {st : TypeId} {A : Option Addr} {n c : Nat} {rs L : List Row} {zss : List (List Int)} (h : Mem w0 w (⟨st, A, n, c, rs.map SVal⟩ :: (rs ++ L))) (hx : rs.map Row.xs = zss.map ivs) : n = zss.length := by
  have h1 := h.rd0.1
  have h2 := xs_len hx
  simp at h1; omega
theorem grp_tot {w0 w : World} {st : TypeId} {A : Option Addr} {n c : Nat} {rs L : List Row} {zss : List (List Int)} (h : Mem w0 w (⟨st, A, n, c, rs.map SVal⟩ :: (rs ++ L))) (hx : rs.map Row.xs = zss.map ivs) : totN rs = (zss.map List.length).sum := by
  have h1 : ∀ r ∈ rs, r.n = r.xs.length := fun r hr => by have := (h.rd (r := r) (by simp [hr])).1; omega
  have h2 : rs.map Row.n = (rs.map Row.xs).map List.length := by rw [List.map_map]; exact List.map_congr_left h1
  unfold totN
  rw [h2, hx, List.map_map]
  congr 1
  exact List.map_congr_left fun z _ => by simp [ivs]
theorem grp_rd {w0 w : World} {st : TypeId} {A : Option Addr} {n c : Nat} {rs pre L : List Row} (h : Mem w0 w (pre ++ (⟨st, A, n, c, rs.map SVal⟩ :: (rs ++ L)))) : RdG w A n rs :=
  h.rdG (e := st) (c := c) (by simp) (fun r hr => by simp [hr])
theorem grp_rdM {w0 w : World} {st : TypeId} {A : Option Addr} {n c : Nat} {rs pre L : List Row} {k : Int} (h : Mem w0 w (pre ++ (⟨st, A, n, c, rs.map SVal⟩ :: (markRs k rs ++ L)))) : RdG w A n (markRs k rs) :=
  h.rdG (e := st) (c := c) (by rw [markRs_vals]; simp) (fun r hr => by simp [hr])

set_option maxRecDepth 100000 in
set_option maxHeartbeats 4000000 in
theorem walk_FnExactOffsetsOf (A0 : Option Addr) (n0 c0 : Nat) (x0 : List (List UInt8)) (A1 : Option Addr) (n1 c1 : Nat) (x1 : List (List UInt8)) (w : World) (h0 : StrsArg w A0 n0 c0 x0) (h1 : StrsArg w A1 n1 c1 x1) : Calls Try.prog 6 #[.slice A0 n0 c0, .slice A1 n1 c1] w fun e w' => e = .returned (.bool true) ∧ Below w.heap.size w w' := by
  obtain ⟨hrd0, hnc0, hcm0, hls0⟩ := h0
  obtain ⟨hrd1, hnc1, hcm1, hls1⟩ := h1
  have HR0 := Lib.hid hrd0
  have HL0 := Lib.hid hls0
  clear hrd0 hls0
  have HR1 := Lib.hid hrd1
  have HL1 := Lib.hid hls1
  clear hrd1 hls1
  go_enter Try.func6, Try.ntmps6
  go_wp2_with fail
  refine (szStringS_any _ _ _ _ _ _ _ HR0.out (by omega) HL0.out (by omega) (by omega)).mono ?_
  rintro e ws ⟨r0, rfl, hz0, rfl⟩
  by_cases hneg0 : r0 < 0
  case pos =>
    go_wp2_with fail
    go_ret
    exact ⟨rfl, Below.refl _ _⟩
  case neg =>
  obtain ⟨q0, t0, m0, sm0⟩ := hz0.resolve_left hneg0
  have HS0 := Lib.hid (show Lens x0 from fun s hs => by have := sm0 s hs; omega)
  have hn0 : n0 ≤ 1048576 := by have := HR0.out.lenS; omega
  clear sm0 hz0 m0
  go_wp2_with fail
  refine (szStringS_any _ _ _ _ _ _ _ HR1.out (by omega) HL1.out (by omega) (by omega)).mono ?_
  rintro e ws ⟨r1, rfl, hz1, rfl⟩
  by_cases hneg1 : r1 < 0
  case pos =>
    go_wp2_with fail
    go_ret
    exact ⟨rfl, Below.refl _ _⟩
  case neg =>
  obtain ⟨q1, t1, m1, sm1⟩ := hz1.resolve_left hneg1
  have HS1 := Lib.hid (show Lens x1 from fun s hs => by have := sm1 s hs; omega)
  have hn1 : n1 ≤ 1048576 := by have := HR1.out.lenS; omega
  clear sm1 hz1 m1
  have HZ4 := Lib.hid (offsN_len x0 x1 4)
  have HZ2 := Lib.hid (show ∀ z ∈ offs x0 x1, z.length ≤ 1048576 from fun z hz => by have := offsN_row hz; omega)
  have HZT := Lib.hid (show ((offs x0 x1).map List.length).sum ≤ 8 by
    have h1 : (offs x0 x1).map List.length = (offs x0 x1).map (fun _ => 2) := List.map_congr_left fun z hz => offsN_row hz
    rw [h1, List.map_const', List.sum_replicate_nat]
    have := HZ4.out
    unfold offs; omega)
  -- the reference
  go_wp2_with fail
  refine (toStringS_any _ _ _ _ _ HR0.out (by omega)).mono ?_
  rintro e w1 ⟨B1, rfl, o1⟩
  have P1 := Lib.hid o1
  clear o1
  go_wp2_with fail
  refine (toStringS_any _ _ _ _ _ (HR1.out.later P1.out.2) (by omega)).mono ?_
  rintro e w2 ⟨B2, rfl, o2⟩
  have P2 := Lib.hid o2
  have Q2 := Lib.hid (P1.out.2.trans (o2.2.mono P1.out.2.size))
  clear o2
  go_wp2_with fail
  refine (cOffsetsOfS _ _ _ x0 _ _ _ x1 _ (SIn.of (P1.out.rd.later P2.out.2) hn0 HS0.out (Nat.le_refl _)) (SIn.of P2.out.rd hn1 HS1.out (Nat.le_refl _))).mono ?_
  rintro e w3 ⟨Aw, nw, cw, rw_, rfl, mw, xw, _⟩
  have M3 := Lib.hid (((Mem.start w).later Q2.out).addAll mw)
  have XW := Lib.hid xw
  have NW := Lib.hid (grp_n (L := []) (by simpa using mw) xw)
  clear mw xw P1 P2 Q2
  -- the program
  go_wp2_with fail
  refine (toStringS_any _ _ _ _ _ (HR0.out.later M3.out.bel) (by omega)).mono ?_
  rintro e w4 ⟨B4, rfl, o4⟩
  have M4 := Lib.hid (M3.out.add o4)
  clear o4 M3
  go_wp2_with fail
  refine (toStringS_any _ _ _ _ _ (HR1.out.later M4.out.bel) (by omega)).mono ?_
  rintro e w5 ⟨B5, rfl, o5⟩
  have M5 := Lib.hid (M4.out.add o5)
  clear o5 M4
  go_wp2_with fail
  refine (cOffsetsOfI _ _ _ x0 _ _ _ x1 _ (SIn.of M5.out.rd1 hn0 HS0.out (Nat.le_refl _)) (SIn.of M5.out.rd0 hn1 HS1.out (Nat.le_refl _))).mono ?_
  rintro e w6 ⟨Ag, ng, cg, rg, rfl, mg, xg, _⟩
  have XG := Lib.hid xg
  have NG := grp_n (L := []) (by simpa using mg) xg
  rw [← NW.out] at NG
  subst NG
  have TG := Lib.hid (grp_tot (L := []) (by simpa using mg) xg)
  have M6 := Lib.hid (M5.out.addAll mg)
  have hng : ng ≤ 1048576 := by have := NW.out; have := HZ4.out; unfold offs at *; omega
  have htg : totN rg ≤ 8 := by rw [TG.out]; exact HZT.out
  clear mg xg M5
  go_wp2_with fail
  refine (eqIntSS_same _ _ _ _ _ rg rw_ (offs x0 x1) _ (grp_rd (pre := []) M6.out) (M6.out.rdG (e := 44) (c := cw) (by simp) (fun r hr => by simp [hr])) XG.out XW.out hng HZ2.out).mono ?_
  rintro e w7 ⟨rfl, hb7⟩
  have M7 := Lib.hid (M6.out.later hb7)
  clear hb7 M6
  go_wp2_with fail
  refine (toStringS_any _ _ _ _ _ (HR0.out.later M7.out.bel) (by omega)).mono ?_
  rintro e w8 ⟨B8, rfl, o8⟩
  have P8 := Lib.hid o8
  have M8 := Lib.hid (M7.out.later o8.2)
  clear o8 M7
  go_wp2_with fail
  refine (eqStringS_same _ _ _ _ _ _ _ x0 _ (M8.out.rd (r := ⟨9, B4, n0, n0, svs x0⟩) (by simp)) P8.out.rd (Nat.le_refl _) (Nat.le_refl _) (by omega)).mono ?_
  rintro e w9 ⟨rfl, hb9⟩
  have M9 := Lib.hid (M8.out.later hb9)
  clear hb9 M8 P8
  go_wp2_with fail
  refine (toStringS_any _ _ _ _ _ (HR1.out.later M9.out.bel) (by omega)).mono ?_
  rintro e w10 ⟨B10, rfl, o10⟩
  have P10 := Lib.hid o10
  have M10 := Lib.hid (M9.out.later o10.2)
  clear o10 M9
  go_wp2_with fail
  refine (eqStringS_same _ _ _ _ _ _ _ x1 _ (M10.out.rd (r := ⟨9, B5, n1, n1, svs x1⟩) (by simp)) P10.out.rd (Nat.le_refl _) (Nat.le_refl _) (by omega)).mono ?_
  rintro e w11 ⟨rfl, hb11⟩
  have M11 := Lib.hid (M10.out.later hb11)
  clear hb11 M10 P10
  go_wp2_with fail
  refine (markStringS_any _ _ _ _ _ _ _ _ (M11.out.row (r := ⟨9, B4, n0, n0, svs x0⟩) (by simp)) (by omega) (by omega) (by omega)).mono ?_
  rintro e w12 ⟨rfl, o12, g12⟩
  have M12 := Lib.hid (Mem.mark (pre := (⟨44, Ag, ng, cg, rg.map SVal⟩ :: rg) ++ [⟨9, B5, n1, n1, svs x1⟩]) (post := (⟨44, Aw, ng, cw, rw_.map SVal⟩ :: rw_) ++ []) (by simpa using M11.out) o12 (Nat.le_refl _) g12)
  clear o12 g12 M11
  go_wp2_with fail
  refine (markStringS_any _ _ _ _ _ _ _ _ (M12.out.row (r := ⟨9, B5, n1, n1, svs x1⟩) (by simp)) (by omega) (by omega) (by omega)).mono ?_
  rintro e w13 ⟨rfl, o13, g13⟩
  have M13 := Lib.hid (Mem.mark (pre := (⟨44, Ag, ng, cg, rg.map SVal⟩ :: rg)) (post := ⟨9, B4, n0, n0, svs (mtS 1 n0)⟩ :: ((⟨44, Aw, ng, cw, rw_.map SVal⟩ :: rw_) ++ [])) (by simpa using M12.out) o13 (Nat.le_refl _) g13)
  clear o13 g13 M12
  go_wp2_with fail
  refine (eqIntSS_same _ _ _ _ _ rg rw_ (offs x0 x1) _ (grp_rd (pre := []) M13.out) (M13.out.rdG (e := 44) (c := cw) (by simp) (fun r hr => by simp [hr])) XG.out XW.out hng HZ2.out).mono ?_
  rintro e w14 ⟨rfl, hb14⟩
  have M14 := Lib.hid (M13.out.later hb14)
  clear hb14 M13
  go_wp2_with fail
  refine (markIntSS_any w _ _ _ _ _ rg _ 1 M14.out hng (by omega) (by omega)).mono ?_
  rintro e w15 ⟨rfl, m15⟩
  have M15 := Lib.hid m15
  clear m15 M14
  go_wp2_with fail
  refine (heldIntSS_any _ _ _ rg 1 _ (grp_rdM (pre := []) M15.out) hng (by omega) (by omega)).mono ?_
  rintro e w16 ⟨rfl, rfl⟩
  go_wp2_with fail
  refine (toStringS_any _ _ _ _ _ (HR0.out.later M15.out.bel) (by omega)).mono ?_
  rintro e w17 ⟨B17, rfl, o17⟩
  have P17 := Lib.hid o17
  have M17 := Lib.hid (M15.out.later o17.2)
  clear o17 M15
  go_wp2_with fail
  refine (toStringS_any _ _ _ _ _ (HR1.out.later M17.out.bel) (by omega)).mono ?_
  rintro e w18 ⟨B18, rfl, o18⟩
  have P18 := Lib.hid o18
  have M18 := Lib.hid (M17.out.later o18.2)
  clear o18 M17
  go_wp2_with fail
  refine (cOffsetsOfI _ _ _ x0 _ _ _ x1 _ (SIn.of (P17.out.rd.later P18.out.2) hn0 HS0.out (Nat.le_refl _)) (SIn.of P18.out.rd hn1 HS1.out (Nat.le_refl _))).mono ?_
  rintro e w19 ⟨Ah, nh, ch, rh, rfl, mh, xh, _⟩
  have XH := Lib.hid xh
  have NH := grp_n (L := []) (by simpa using mh) xh
  rw [← NW.out] at NH
  subst NH
  have M19 := Lib.hid (M18.out.addAll mh)
  clear mh xh M18 P17 P18
  go_wp2_with fail
  refine (eqIntSS_same _ _ _ _ _ rh rw_ (offs x0 x1) _ (grp_rd (pre := []) M19.out) (M19.out.rdG (e := 44) (c := cw) (by simp) (fun r hr => by simp [hr])) XH.out XW.out hng HZ2.out).mono ?_
  rintro e w20 ⟨rfl, hb20⟩
  have M20 := Lib.hid (M19.out.later hb20)
  clear hb20 M19
  go_wp2_with fail
  refine (heldIntSS_any _ _ _ rg 1 _ (grp_rdM (pre := ⟨44, Ah, nh, ch, rh.map SVal⟩ :: rh) M20.out) hng (by omega) (by omega)).mono ?_
  rintro e w21 ⟨rfl, rfl⟩
  go_wp2_with fail
  go_ret
  exact ⟨rfl, M20.out.bel⟩
end Go.Proofs.Ytbkfbobeabddaaa
