/-
  The walk of the law FnExactAutoOf. No conditions.
-/
import Derived.Test.YtdebdnglchkdaaaAOf
import Derived.Test.YtdebdnglchkdaaaUHelp
import Derived.Test.YtdebdnglchkdaaaAFrame
import Derived.Test.YtdebdnglchkdaaaARun
namespace Go.Proofs.Ytdebdnglchkdaaa
open Go.RowKit

theorem gin_of {w0 w : World} {A : Option Addr} {n c : Nat} {rs : List Row} {zss : Tab} {e : TypeId} {L : List Row} (h : Mem w0 w L) (ho : (⟨e, A, n, c, rs.map SVal⟩ : Row) ∈ L) (hi : ∀ r ∈ rs, r ∈ L) (hx : rs.map Row.xs = zss.map ivs) (hn : n ≤ 1048576) (hz : ∀ z ∈ zss, z.length ≤ 1048576) : GIn w A n c zss := by
  have hr := h.row ho
  have ho2 : Own w0 w e A n c (rs.map SVal) := ⟨hr, h.1⟩
  exact GIn.of (Mem.rdG h ho hi) hx hn hz ho2.cap ho2.capMax
theorem grid_n {w0 w : World} {A : Option Addr} {n c : Nat} {rs : List Row} {zss : Tab} {e : TypeId} {L : List Row} (h : Mem w0 w L) (ho : (⟨e, A, n, c, rs.map SVal⟩ : Row) ∈ L) (hx : rs.map Row.xs = zss.map ivs) : n = zss.length := by
  have h1 := (h.rd ho).1
  have h2 := xs_len hx
  simp at h1; omega
theorem totN_tab {w : World} {A : Option Addr} {n : Nat} {rs : List Row} {zss : Tab} (h : RdG w A n rs) (hx : rs.map Row.xs = zss.map ivs) : totN rs = sumL zss := by
  unfold totN sumL
  congr 1
  apply List.ext_getElem
  · simpa using xs_len hx
  · intro i h1 h2
    simp only [List.length_map] at h1 h2
    have h3 := xs_at hx h1
    have h4 := (h.2 _ (List.getElem_mem h1)).1
    rw [h3] at h4
    simp [ivs] at h4 ⊢
    exact h4.symm
theorem ofTab_small (ss : Wds) : (ofTab ss).length ≤ 4 ∧ ∀ z ∈ ofTab ss, z.length ≤ 8 := by
  unfold ofTab
  split
  · rename_i h
    have h1 := (ofOk_sOk h).1
    refine ⟨by have := sOk_n h1; simp; omega, fun z hz => ?_⟩
    obtain ⟨l, hl, rfl⟩ := List.mem_map.1 hz
    have := (sOk_img h1 hl).1
    simp [nums]; omega
  · exact ⟨by simp, by simp⟩
theorem sumL_bound : ∀ (zss : Tab) (m : Nat), (∀ z ∈ zss, z.length ≤ m) → sumL zss ≤ zss.length * m
  | [], m, _ => by simp [sumL]
  | z :: l, m, h => by
    have h1 := sumL_bound l m (fun y hy => h y (by simp [hy]))
    have h2 := h z (by simp)
    unfold sumL at *
    simp only [List.map_cons, List.sum_cons, List.length_cons, Nat.add_mul, Nat.one_mul]
    omega

set_option maxRecDepth 100000 in
set_option maxHeartbeats 4000000 in
theorem walk_FnExactAutoOf (A0 : Option Addr) (n0 c0 : Nat) (x0 : Wds) (w : World) (h0 : StrsArg w A0 n0 c0 x0) :
    Calls Try.prog 4 #[SubV A0 n0 c0] w fun e w' => e = .returned (.bool true) ∧ Below w.heap.size w w' := by
  obtain ⟨hrd0, hnc0, hcm0, hls0⟩ := h0
  have HR0 := Lib.hid hrd0
  have HM0 := Lib.hid ((Mem.start w).sub 33 A0 n0 c0)
  have HSz := Lib.hid (szSubst_any A0 n0 c0 0 x0 1048576 _ (hrd0.later HM0.out.bel) (by omega) hls0 (by omega) (by omega))
  have hlen := hrd0.lenS
  obtain ⟨bb, hbb⟩ : ∃ bb, bb = ofBase x0 := ⟨_, rfl⟩
  obtain ⟨zz, hzz⟩ : ∃ zz, zz = ofTab x0 := ⟨_, rfl⟩
  obtain ⟨oo, hoo⟩ : ∃ oo, oo = ofOut x0 := ⟨_, rfl⟩
  obtain ⟨kk, hkk⟩ : ∃ kk, kk = ofOk x0 := ⟨_, rfl⟩
  have HZL := Lib.hid (ofTab_small x0).1
  have HZR := Lib.hid (ofTab_small x0).2
  have HCS := Lib.hid (fun A n c W hs => cAutoOfS A n c x0 W hs)
  have HCI := Lib.hid (fun A n c W hs => cAutoOfI A n c x0 W hs)
  rw [← hzz] at HZL HZR
  rw [← hbb, ← hzz, ← hoo, ← hkk] at HCS HCI
  have HZM := Lib.hid (show ∀ z ∈ zz, z.length ≤ 1048576 from fun z hz => by have := HZR.out z hz; omega)
  have HSum := Lib.hid (show sumL zz ≤ 32 from Nat.le_trans (sumL_bound zz 8 HZR.out) (by have := HZL.out; omega))
  obtain ⟨g0, hg0⟩ : ∃ g, g = w.heap.size := ⟨_, rfl⟩
  rw [← hg0] at HM0
  have HG := Lib.hid hg0
  clear hrd0 hls0 hg0 hbb hzz hoo hkk
  go_enter Try.func4, Try.ntmps4
  go_wp2_with fail
  refine HSz.out.mono ?_
  rintro e w1 ⟨r, rfl, hs, hb1⟩
  have HM1 := Lib.hid (HM0.out.later hb1)
  have HS := Lib.hid hs
  have bx0 := HM1.out.subAt (t := 33) (g := g0) (A := A0) (n := n0) (c := c0) (by simp)
  rw [← HG.out]
  clear hb1 hs HSz HM0
  by_cases hr : r < 0
  · go_wp2_with fail
    go_ret
    exact ⟨rfl, HM1.out.bel⟩
  obtain ⟨q0, t0, m0, sm0⟩ := HS.out.resolve_left hr
  have HSx := Lib.hid (show Lens x0 from fun s hs => by have := sm0 s hs; omega)
  have hn : n0 ≤ 1048576 := by omega
  clear sm0 m0 HS q0
  go_wp2_with fail
  refine (toSubst_any A0 n0 c0 x0 w1 (HR0.out.later HM1.out.bel) hn).mono ?_
  rintro e w2 ⟨B1, rfl, o2⟩
  have HM2 := Lib.hid (HM1.out.add o2)
  clear o2 HM1 bx0
  go_wp2_with fail
  refine (HCS.out B1 n0 n0 w2 (SIn.of HM2.out.rd0 hn HSx.out (Nat.le_refl _))).mono ?_
  rintro e w3 ⟨Aw, nw, cw, rw, rfl, hm3, hxw⟩
  have HXw := Lib.hid hxw
  have HM3 := Lib.hid ((HM2.out.addAll hm3).box 27 bb Aw nw cw oo)
  obtain ⟨gW, hgW⟩ : ∃ g, g = w3.heap.size := ⟨_, rfl⟩
  rw [← hgW] at HM3
  have HGW := Lib.hid hgW
  have bx0 := HM3.out.subAt (t := 33) (g := g0) (A := A0) (n := n0) (c := c0) (by simp)
  have HT3 := Lib.hid (toSubst_any A0 n0 c0 x0 _ (HR0.out.later HM3.out.bel) hn)
  clear hgW hm3 hxw HM2
  go_wp2_with fail
  refine HT3.out.mono ?_
  rintro e w4 ⟨B2, rfl, o4⟩
  have HM4 := Lib.hid ((HM3.out.add o4).sub 37 B2 n0 n0)
  have HC4 := Lib.hid (HCI.out B2 n0 n0 _ (SIn.of (HM4.out.rd (r := ⟨9, B2, n0, n0, svs x0⟩) (by simp)) hn HSx.out (Nat.le_refl _)))
  obtain ⟨gX, hgX⟩ : ∃ g, g = w4.heap.size := ⟨_, rfl⟩
  rw [← hgX] at HM4
  have HGX := Lib.hid hgX
  clear hgX o4 HM3 HT3 bx0
  go_wp2_with fail
  refine HC4.out.mono ?_
  rintro e w5 ⟨Ag, ng, cg, rg, rfl, hm5, hxg⟩
  have HXg := Lib.hid hxg
  have HM5 := Lib.hid ((HM4.out.addAll hm5).box 27 bb Ag ng cg oo)
  obtain rfl : ng = zz.length := grid_n HM5.out (e := 58) (A := Ag) (c := cg) (rs := rg) (by simp) hxg
  obtain rfl : nw = zz.length := grid_n HM5.out (e := 58) (A := Aw) (c := cw) (rs := rw) (by simp) HXw.out
  obtain ⟨gG, hgG⟩ : ∃ g, g = w5.heap.size := ⟨_, rfl⟩
  rw [← hgG] at HM5
  have HGG := Lib.hid hgG
  rw [← HGX.out, ← HGW.out]
  have hzn : zz.length ≤ 1048576 := by have := HZL.out; omega
  have HIg := Lib.hid (gin_of HM5.out (e := 58) (A := Ag) (n := zz.length) (c := cg) (rs := rg) (zss := zz) (by simp) (fun r hr => by simp [hr]) hxg hzn HZM.out)
  have HIw := Lib.hid (gin_of HM5.out (e := 58) (A := Aw) (n := zz.length) (c := cw) (rs := rw) (zss := zz) (by simp) (fun r hr => by simp [hr]) HXw.out hzn HZM.out)
  have HQ5 := Lib.hid (eqAuto_same bb Ag Aw zz.length cg cw zz oo _ HIg.out HIw.out)
  obtain ⟨bw0, bw1, bw2⟩ := HM5.out.boxAt (t := 27) (g := gW) (b := bb) (A := Aw) (n := zz.length) (c := cw) (o := oo) (by simp)
  clear hgG hm5 hxg HM4 HC4
  have dk : (kk != kk) = false := by simp
  go_wp2_with fail
  refine HQ5.out.mono ?_
  rintro e w6 ⟨rfl, hb6⟩
  have HM6 := Lib.hid (HM5.out.later hb6)
  rw [← HGG.out]
  clear hb6 HM5 HQ5 bw0 bw1 bw2 HIg HIw
  go_wp2_with fail
  have bx0 := HM6.out.subAt (t := 33) (g := g0) (A := A0) (n := n0) (c := c0) (by simp)
  have by0 := HM6.out.subAt (t := 37) (g := gX) (A := B2) (n := n0) (c := n0) (by simp)
  have HR2 := Lib.hid (HM6.out.rd (r := ⟨9, B2, n0, n0, svs x0⟩) (by simp))
  obtain ⟨N, hN⟩ : ∃ N, N = zz.length := ⟨_, rfl⟩
  rw [← hN] at HM6 hzn ⊢
  have HN := Lib.hid hN
  clear hN
  go_region_held3 (fun w' => w'.cell? ⟨g0, 0, none⟩ = some (.slice A0 n0 c0) ∧ w'.cell? ⟨gX, 0, none⟩ = some (.slice B2 n0 n0))
    (first | go_keep | exact ⟨cell_keepA hb7 (by simpa using bx0), cell_keepA hb7 (by simpa using by0)⟩)
    (first
      | (go_at_call 14; (with_reducible refine (toSubst_any A0 n0 c0 x0 _ (HR0.out.later (HM6.out.drew).bel) hn).mono ?_); rintro e w7 ⟨B3, rfl, o7⟩; have hb7 := o7.bel)
      | (go_at_call 16; (with_reducible refine (eqSubst_same B2 B3 n0 n0 n0 x0 _ (HR2.out.later ((bdA _).trans (o7.bel.mono (bdA _).size))) o7.rd hn).mono ?_); rintro e w8 ⟨rfl, hb8⟩; have hb7 := o7.bel.trans (hb8.mono o7.bel.size)))
  have HM8 := Lib.hid (HM6.out.drew.later hb7)
  clear o7 hb8 bx0 by0 HR2 HM6
  have by0 := HM8.out.subAt (t := 37) (g := gX) (A := B2) (n := n0) (c := n0) (by simp)
  go_wp2_with fail
  refine (markSubst_any w _ 9 B2 n0 n0 (svs x0) (BoxR 27 gG bb Ag N cg oo :: ⟨58, Ag, N, cg, rg.map SVal⟩ :: (rg ++ [SubR 37 gX B2 n0 n0])) (BoxR 27 gW bb Aw N cw oo :: ⟨58, Aw, N, cw, rw.map SVal⟩ :: (rw ++ [⟨9, B1, n0, n0, svs x0⟩, SubR 33 g0 A0 n0 c0])) 1 (by simpa using HM8.out) hn (by omega) (by omega)).mono ?_
  rintro e w9 ⟨rfl, hm9⟩
  have HM9 := Lib.hid hm9
  clear hm9 HM8 by0
  obtain ⟨bg0, bg1, bg2⟩ := HM9.out.boxAt (t := 27) (g := gG) (b := bb) (A := Ag) (n := N) (c := cg) (o := oo) (by simp)
  obtain ⟨bw0, bw1, bw2⟩ := HM9.out.boxAt (t := 27) (g := gW) (b := bb) (A := Aw) (n := N) (c := cw) (o := oo) (by simp)
  have HIg := Lib.hid (gin_of HM9.out (e := 58) (A := Ag) (n := N) (c := cg) (rs := rg) (zss := zz) (by simp) (fun r hr => by simp [hr]) HXg.out hzn HZM.out)
  have HIw := Lib.hid (gin_of HM9.out (e := 58) (A := Aw) (n := N) (c := cw) (rs := rw) (zss := zz) (by simp) (fun r hr => by simp [hr]) HXw.out hzn HZM.out)
  have d9 : decide ((1 : Int) + (n0 : Int) < 0) = false := by simp; omega
  have HQ9 := Lib.hid (eqAuto_same bb Ag Aw N cg cw zz oo _ HIg.out HIw.out)
  go_wp2_with fail
  refine HQ9.out.mono ?_
  rintro e w10 ⟨rfl, hb10⟩
  have HM10 := Lib.hid (HM9.out.later hb10)
  have HTot := Lib.hid (show totN rg = sumL zz from totN_tab (Mem.rdG HM10.out (e := 58) (A := Ag) (n := N) (c := cg) (rs := rg) (by simp) (fun r hr => by simp [hr])) HXg.out)
  clear hb10 HM9 HQ9 HIg HIw bg0 bg1 bg2 bw0 bw1 bw2 d9
  obtain ⟨bg0, bg1, bg2⟩ := HM10.out.boxAt (t := 27) (g := gG) (b := bb) (A := Ag) (n := N) (c := cg) (o := oo) (by simp)
  obtain ⟨TL, hTL⟩ : ∃ TL : List Row, TL = [SubR 37 gX B2 n0 n0] ++ (⟨9, B2, n0, n0, svs (mtS 1 n0)⟩ :: (BoxR 27 gW bb Aw N cw oo :: ⟨58, Aw, N, cw, rw.map SVal⟩ :: (rw ++ [⟨9, B1, n0, n0, svs x0⟩, SubR 33 g0 A0 n0 c0]))) := ⟨_, rfl⟩
  have HP10 := Lib.hid (show Mem w w10 (⟨58, Ag, N, cg, rg.map SVal⟩ :: (rg ++ (BoxR 27 gG bb Ag N cg oo :: TL))) by
    have h := HM10.out
    rw [hTL]
    refine Mem.perm (by simpa using h) ?_
    refine (List.Perm.swap _ _ _).trans (List.Perm.cons _ ?_)
    exact List.perm_middle.symm)
  have HTW := Lib.hid (show BoxR 27 gW bb Aw N cw oo ∈ TL by rw [hTL]; simp)
  have HTW2 := Lib.hid (show (⟨58, Aw, N, cw, rw.map SVal⟩ : Row) ∈ TL by rw [hTL]; simp)
  have HTW3 := Lib.hid (show ∀ r ∈ rw, r ∈ TL by rw [hTL]; intro r hr; simp [hr])
  have HT0 := Lib.hid (show SubR 33 g0 A0 n0 c0 ∈ TL by rw [hTL]; simp)
  clear hTL HM10
  go_wp2_with fail
  refine (markAuto_any w _ 58 bb Ag N cg oo rg _ 1 HP10.out hzn (by omega) (by rw [HTot.out]; have := HSum.out; omega)).mono ?_
  rintro e w11 ⟨rfl, hm11⟩
  have HM11 := Lib.hid hm11
  clear hm11 HP10 bg0 bg1 bg2
  obtain ⟨bg0, bg1, bg2⟩ := HM11.out.boxAt (t := 27) (g := gG) (b := bb) (A := Ag) (n := N) (c := cg) (o := oo) (by simp)
  have HRM := Lib.hid (show RdG w11 Ag N (markRs 1 rg) from Mem.rdG HM11.out (e := 58) (c := cg) (by rw [markRs_vals]; simp) (fun r hr => by simp [hr]))
  rw [HTot.out]
  obtain ⟨S, hS⟩ : ∃ S, S = sumL zz := ⟨_, rfl⟩
  have HSS := Lib.hid (show S ≤ 32 by rw [hS]; exact HSum.out)
  have hS32 := HSS.out
  have HH1 := Lib.hid (fun (w : World) (h : RdG w Ag N (markRs 1 rg)) => heldAuto_any bb Ag N cg oo rg 1 w h hzn (by omega) (by rw [HTot.out]; have := HSum.out; omega))
  rw [HTot.out] at HH1
  rw [← hS] at HH1 ⊢
  clear hS
  go_wp2_with fail
  refine (HH1.out _ HRM.out).mono ?_
  rintro e w12 ⟨rfl, hb12⟩
  have HM12 := Lib.hid (HM11.out.later hb12)
  have HRM2 := Lib.hid (HRM.out.later hb12)
  clear hb12 HM11 HRM bg0 bg1 bg2
  have bx0 := HM12.out.subAt (t := 33) (g := g0) (A := A0) (n := n0) (c := c0) (by simp [HT0.out])
  have d12 : decide ((1 : Int) + (S : Int) < 0) = false := by simp; omega
  have e12 : (((1 : Int) + (S : Int)) != ((1 : Int) + (S : Int))) = false := by simp
  go_wp2_with fail
  refine (toSubst_any A0 n0 c0 x0 w12 (HR0.out.later HM12.out.bel) hn).mono ?_
  rintro e w13 ⟨B4, rfl, o13⟩
  have HM13 := Lib.hid (HM12.out.add o13)
  clear o13 HM12 bx0
  go_wp2_with fail
  refine (HCI.out B4 n0 n0 w13 (SIn.of HM13.out.rd0 hn HSx.out (Nat.le_refl _))).mono ?_
  rintro e w14 ⟨Ah, nh, ch, rh, rfl, hm14, hxh⟩
  have HM14 := Lib.hid ((HM13.out.addAll hm14).box 27 bb Ah nh ch oo)
  obtain rfl : N = nh := by rw [HN.out]; exact (grid_n HM14.out (e := 58) (A := Ah) (c := ch) (rs := rh) (by simp) hxh).symm
  have HIh := Lib.hid (gin_of HM14.out (e := 58) (A := Ah) (n := N) (c := ch) (rs := rh) (zss := zz) (by simp) (fun r hr => by simp [hr]) hxh hzn HZM.out)
  have HIw := Lib.hid (gin_of HM14.out (e := 58) (A := Aw) (n := N) (c := cw) (rs := rw) (zss := zz) (by simp [HTW2.out]) (fun r hr => by simp [HTW3.out r hr]) HXw.out hzn HZM.out)
  have HQ14 := Lib.hid (eqAuto_same bb Ah Aw N ch cw zz oo _ HIh.out HIw.out)
  obtain ⟨bw0, bw1, bw2⟩ := HM14.out.boxAt (t := 27) (g := gW) (b := bb) (A := Aw) (n := N) (c := cw) (o := oo) (by simp [HTW.out])
  clear hm14 hxh HM13 HIh HIw
  go_wp2_with fail
  refine HQ14.out.mono ?_
  rintro e w15 ⟨rfl, hb15⟩
  have HM15 := Lib.hid (HM14.out.later hb15)
  have HRM3 := Lib.hid (show RdG w15 Ag N (markRs 1 rg) from Mem.rdG HM15.out (e := 58) (c := cg) (by rw [markRs_vals]; simp) (fun r hr => by simp [hr]))
  clear hb15 HM14 HQ14 bw0 bw1 bw2
  obtain ⟨bg0, bg1, bg2⟩ := HM15.out.boxAt (t := 27) (g := gG) (b := bb) (A := Ag) (n := N) (c := cg) (o := oo) (by simp)
  go_wp2_with fail
  refine (HH1.out _ HRM3.out).mono ?_
  rintro e w16 ⟨rfl, hb16⟩
  have HM16 := Lib.hid (HM15.out.later hb16)
  clear hb16 HM15 bg0 bg1 bg2
  go_wp2_with fail
  go_ret
  exact ⟨rfl, HM16.out.bel⟩
end Go.Proofs.Ytdebdnglchkdaaa
