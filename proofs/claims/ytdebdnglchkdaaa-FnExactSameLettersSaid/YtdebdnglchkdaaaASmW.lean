/-
  The walk of the law FnExactSmallAuto. No conditions.
-/
import Derived.Test.YtdebdnglchkdaaaASmA
import Derived.Test.YtdebdnglchkdaaaAOfW
namespace Go.Proofs.Ytdebdnglchkdaaa
open Go.RowKit

theorem gRows_le {q : Nat → Nat → Bool} {nx : Nat → List Nat} {st : Nat} : ∀ i, (gRows q nx st i).length ≤ i
  | 0 => Nat.le_refl _
  | i + 1 => by
    have h := gRows_le (q := q) (nx := nx) (st := st) i
    show (if i < (gAt q nx st i).length then gRows q nx st i ++ [_] else gRows q nx st i).length ≤ i + 1
    split
    · simp; exact h
    · omega
theorem gRows_row {q : Nat → Nat → Bool} {nx : Nat → List Nat} {st m : Nat} (hn : ∀ s, (nx s).length = m) : ∀ i, ∀ r ∈ gRows q nx st i, r.length = m
  | 0, r, h => by simp [gRows] at h
  | i + 1, r, h => by
    have ih := gRows_row (q := q) (st := st) hn i
    have h2 : r ∈ (if i < (gAt q nx st i).length then gRows q nx st i ++ [gRowS q (gAt q nx st i) (nx ((gAt q nx st i).getD i 0))] else gRows q nx st i) := h
    split at h2
    · rcases List.mem_append.1 h2 with h3 | h3
      · exact ih r h3
      · simp only [List.mem_singleton] at h3
        rw [h3, gRowS_len, hn]
    · exact ih r h2
theorem smT_small (b : Int) (zss : Tab) (o : List UInt8) : (smT b zss o).length ≤ 8 ∧ ∀ z ∈ smT b zss o, z.length ≤ 8 := by
  unfold smT
  split
  · rename_i h
    obtain ⟨bn, rfl, hg, _, _⟩ := aOk_good h
    refine ⟨?_, fun z hz => ?_⟩
    · unfold smTab
      rw [List.length_map]
      have h1 := gRows_le (q := qS) (nx := nxS zss o bn) (st := clN zss o bn 0) zss.length
      have h2 := hg.2.2.2.1
      exact Nat.le_trans h1 h2
    · unfold smTab at hz
      obtain ⟨r, hr, rfl⟩ := List.mem_map.1 hz
      have h1 := gRows_row (q := qS) (nx := nxS zss o bn) (st := clN zss o bn 0) (m := bn) (fun s => nxS_len s) zss.length r hr
      have h2 := hg.2.1
      simp; omega
  · exact ⟨by simp, by simp⟩
theorem sum_one {x : Tab} (h : x.length + sumL x ≤ 1048576) : 1 + sumL x ≤ 1048576 := by
  cases x with
  | nil => simp [sumL]
  | cons y l => simp only [List.length_cons] at h; omega

set_option maxRecDepth 100000 in
set_option maxHeartbeats 4000000 in
theorem walk_FnExactSmallAuto (b0 : Int) (A0 : Option Addr) (n0 c0 : Nat) (x0 : Tab) (o0 : List UInt8) (w : World) (h0 : GArg w A0 n0 c0 x0) (k0 : StrArg o0) :
    Calls Try.prog 6 #[AutoV b0 A0 n0 c0 o0] w fun e w' => e = .returned (.bool true) ∧ Below w.heap.size w w' := by
  unfold StrArg at k0
  have HR0 := Lib.hid h0
  have HM0 := Lib.hid ((Mem.start w).box 24 b0 A0 n0 c0 o0)
  have HSz := Lib.hid (szAuto_any b0 A0 n0 c0 x0 o0 1048576 _ (h0.later HM0.out.bel) k0 (by omega) (by omega))
  have hlen := h0.len
  obtain ⟨bb, hbb⟩ : ∃ bb, bb = smB b0 x0 o0 := ⟨_, rfl⟩
  obtain ⟨zz, hzz⟩ : ∃ zz, zz = smT b0 x0 o0 := ⟨_, rfl⟩
  obtain ⟨oo, hoo⟩ : ∃ oo, oo = smO b0 x0 o0 := ⟨_, rfl⟩
  obtain ⟨kk, hkk⟩ : ∃ kk, kk = aOk b0 x0 o0 := ⟨_, rfl⟩
  have HZL := Lib.hid (smT_small b0 x0 o0).1
  have HZR := Lib.hid (smT_small b0 x0 o0).2
  have HCS := Lib.hid (fun A n c W hs => cSmallS b0 A n c x0 o0 W hs k0)
  have HCI := Lib.hid (fun A n c W hs => cSmallI b0 A n c x0 o0 W hs k0)
  rw [← hzz] at HZL HZR
  rw [← hbb, ← hzz, ← hoo, ← hkk] at HCS HCI
  have HZM := Lib.hid (show ∀ z ∈ zz, z.length ≤ 1048576 from fun z hz => by have := HZR.out z hz; omega)
  have HSum := Lib.hid (show sumL zz ≤ 64 from Nat.le_trans (sumL_bound zz 8 HZR.out) (by have := HZL.out; omega))
  obtain ⟨g0, hg0⟩ : ∃ g, g = w.heap.size := ⟨_, rfl⟩
  rw [← hg0] at HM0
  have HG := Lib.hid hg0
  clear h0 hg0 hbb hzz hoo hkk
  go_enter Try.func6, Try.ntmps6
  go_wp2_with fail
  refine HSz.out.mono ?_
  rintro e w1 ⟨r, rfl, hs, hb1⟩
  have HM1 := Lib.hid (HM0.out.later hb1)
  have HS := Lib.hid hs
  obtain ⟨bx0, bx1, bx2⟩ := HM1.out.boxAt (t := 24) (g := g0) (b := b0) (A := A0) (n := n0) (c := c0) (o := o0) (by simp)
  rw [← HG.out]
  clear hb1 hs HSz HM0
  by_cases hr : r < 0
  · go_wp2_with fail
    go_ret
    exact ⟨rfl, HM1.out.bel⟩
  obtain ⟨q0, q1⟩ := HS.out.resolve_left hr
  have HGI := Lib.hid (HR0.out.small (by omega) (by omega))
  have hn : n0 ≤ 1048576 := by omega
  have HX0 := Lib.hid (show ∀ z ∈ x0, z.length ≤ 1048576 from fun z hz => by have := sumL_le x0 z hz; omega)
  have HS1 := Lib.hid (sum_one (x := x0) (by omega))
  clear q0 q1 HS HR0
  go_wp2_with fail
  refine (toAuto_any b0 A0 n0 c0 x0 o0 w1 (HGI.out.later HM1.out.bel)).mono ?_
  rintro e w2 ⟨B1, r1, rfl, hm2, hx2⟩
  have HM2 := Lib.hid (HM1.out.addAll hm2)
  have HI2 := Lib.hid (gin_of HM2.out (e := 58) (A := B1) (n := n0) (c := n0) (rs := r1) (zss := x0) (by simp) (fun r hr => by simp [hr]) hx2 hn HX0.out)
  clear hm2 hx2 HM1 bx0 bx1 bx2
  go_wp2_with fail
  refine (HCS.out B1 n0 n0 w2 HI2.out).mono ?_
  rintro e w3 ⟨Aw, nw, cw, rw, rfl, hm3, hxw⟩
  have HXw := Lib.hid hxw
  have HM3 := Lib.hid ((HM2.out.addAll hm3).box 27 bb Aw nw cw oo)
  obtain ⟨gW, hgW⟩ : ∃ g, g = w3.heap.size := ⟨_, rfl⟩
  rw [← hgW] at HM3
  have HGW := Lib.hid hgW
  obtain ⟨bx0, bx1, bx2⟩ := HM3.out.boxAt (t := 24) (g := g0) (b := b0) (A := A0) (n := n0) (c := c0) (o := o0) (by simp)
  have HT3 := Lib.hid (toAuto_any b0 A0 n0 c0 x0 o0 _ (HGI.out.later HM3.out.bel))
  clear hgW hm3 hxw HM2
  go_wp2_with fail
  refine HT3.out.mono ?_
  rintro e w4 ⟨B2, r2, rfl, hm4, hx4⟩
  have HX2 := Lib.hid hx4
  have HM4 := Lib.hid ((HM3.out.addAll hm4).box 27 b0 B2 n0 n0 o0)
  have HC4 := Lib.hid (HCI.out B2 n0 n0 _ (gin_of HM4.out (e := 58) (A := B2) (n := n0) (c := n0) (rs := r2) (zss := x0) (by simp) (fun r hr => by simp [hr]) hx4 hn HX0.out))
  obtain ⟨gX, hgX⟩ : ∃ g, g = w4.heap.size := ⟨_, rfl⟩
  rw [← hgX] at HM4
  have HGX := Lib.hid hgX
  clear hgX hm4 hx4 HM3 HT3 bx0 bx1 bx2
  go_wp2_with fail
  refine HC4.out.mono ?_
  rintro e w5 ⟨Ag, ng, cg, rg, rfl, hm5, hxg⟩
  have HXg := Lib.hid hxg
  have HM5 := Lib.hid ((HM4.out.addAll hm5).box 27 bb Ag ng cg oo)
  obtain rfl : ng = zz.length := grid_n HM5.out (e := 58) (A := Ag) (c := cg) (rs := rg) (by simp) hxg
  obtain rfl : nw = zz.length := grid_n HM5.out (e := 58) (A := Aw) (c := cw) (rs := rw) (by simp) HXw.out
  obtain ⟨gG, hgG⟩ : ∃ g, g = w5.heap.size := ⟨_, rfl⟩
  rw [← hgG] at HM5
  have HGG := Lib.hid hgG
  rw [← HGX.out, ← HGW.out]
  have hzn : zz.length ≤ 1048576 := by have := HZL.out; omega
  have HIg := Lib.hid (gin_of HM5.out (e := 58) (A := Ag) (n := zz.length) (c := cg) (rs := rg) (zss := zz) (by simp) (fun r hr => by simp [hr]) hxg hzn HZM.out)
  have HIw := Lib.hid (gin_of HM5.out (e := 58) (A := Aw) (n := zz.length) (c := cw) (rs := rw) (zss := zz) (by simp) (fun r hr => by simp [hr]) HXw.out hzn HZM.out)
  have HQ5 := Lib.hid (eqAuto_same bb Ag Aw zz.length cg cw zz oo _ HIg.out HIw.out)
  obtain ⟨bw0, bw1, bw2⟩ := HM5.out.boxAt (t := 27) (g := gW) (b := bb) (A := Aw) (n := zz.length) (c := cw) (o := oo) (by simp)
  clear hgG hm5 hxg HM4 HC4
  have dk : (kk != kk) = false := by simp
  go_wp2_with fail
  refine HQ5.out.mono ?_
  rintro e w6 ⟨rfl, hb6⟩
  have HM6 := Lib.hid (HM5.out.later hb6)
  rw [← HGG.out]
  clear hb6 HM5 HQ5 bw0 bw1 bw2 HIg HIw
  go_wp2_with fail
  obtain ⟨bx0, bx1, bx2⟩ := HM6.out.boxAt (t := 24) (g := g0) (b := b0) (A := A0) (n := n0) (c := c0) (o := o0) (by simp)
  obtain ⟨by0, by1, by2⟩ := HM6.out.boxAt (t := 27) (g := gX) (b := b0) (A := B2) (n := n0) (c := n0) (o := o0) (by simp)
  have HR2 := Lib.hid (gin_of HM6.out (e := 58) (A := B2) (n := n0) (c := n0) (rs := r2) (zss := x0) (by simp) (fun r hr => by simp [hr]) HX2.out hn HX0.out)
  obtain ⟨N, hN⟩ : ∃ N, N = zz.length := ⟨_, rfl⟩
  rw [← hN] at HM6 hzn ⊢
  have HN := Lib.hid hN
  clear hN
  go_region_held3 (fun w' => w'.cell? ⟨g0, 0, none⟩ = some (.int .i64 b0) ∧ w'.cell? ⟨g0, 1, none⟩ = some (.slice A0 n0 c0) ∧ w'.cell? ⟨g0, 2, none⟩ = some (.string ⟨o0.toArray⟩) ∧ w'.cell? ⟨gX, 0, none⟩ = some (.int .i64 b0) ∧ w'.cell? ⟨gX, 1, none⟩ = some (.slice B2 n0 n0) ∧ w'.cell? ⟨gX, 2, none⟩ = some (.string ⟨o0.toArray⟩))
    (first | go_keep | exact ⟨cell_keepA hb7 (by simpa using bx0), cell_keepA hb7 (by simpa using bx1), cell_keepA hb7 (by simpa using bx2), cell_keepA hb7 (by simpa using by0), cell_keepA hb7 (by simpa using by1), cell_keepA hb7 (by simpa using by2)⟩)
    (first
      | (go_at_call 9; (with_reducible refine (toAuto_any b0 A0 n0 c0 x0 o0 _ (HGI.out.later (HM6.out.drew).bel)).mono ?_); rintro e w7 ⟨B3, r3, rfl, o7, hx7⟩; have hb7 := o7.bel)
      | (go_at_call 11; (with_reducible refine (eqAuto_same b0 B2 B3 n0 n0 n0 x0 o0 _ (HR2.out.later ((bdA _).trans (o7.bel.mono (bdA _).size))) (gin_of o7 (e := 58) (A := B3) (n := n0) (c := n0) (rs := r3) (zss := x0) (by simp) (fun r hr => by simp [hr]) hx7 hn HX0.out)).mono ?_); rintro e w8 ⟨rfl, hb8⟩; have hb7 := o7.bel.trans (hb8.mono o7.bel.size)))
  have HM8 := Lib.hid (HM6.out.drew.later hb7)
  clear o7 hb8 hx7 bx0 bx1 bx2 by0 by1 by2 HR2 HM6
  obtain ⟨by0, by1, by2⟩ := HM8.out.boxAt (t := 27) (g := gX) (b := b0) (A := B2) (n := n0) (c := n0) (o := o0) (by simp)
  go_wp2_with fail
  have HP8 := Lib.hid (show Mem w _ (⟨58, B2, n0, n0, r2.map SVal⟩ :: (r2 ++ (BoxR 27 gG bb Ag N cg oo :: ⟨58, Ag, N, cg, rg.map SVal⟩ :: (rg ++ (BoxR 27 gX b0 B2 n0 n0 o0 :: BoxR 27 gW bb Aw N cw oo :: ⟨58, Aw, N, cw, rw.map SVal⟩ :: (rw ++ (⟨58, B1, n0, n0, r1.map SVal⟩ :: (r1 ++ [BoxR 24 g0 b0 A0 n0 c0 o0])))))))) by
    have h := HM8.out
    refine Mem.perm h ?_
    simp only [List.cons_append, List.append_assoc, List.nil_append]
    have h2 := List.perm_append_comm_assoc (BoxR 27 gG bb Ag N cg oo :: ⟨58, Ag, N, cg, rg.map SVal⟩ :: (rg ++ [BoxR 27 gX b0 B2 n0 n0 o0])) (⟨58, B2, n0, n0, r2.map SVal⟩ :: r2) (BoxR 27 gW bb Aw N cw oo :: ⟨58, Aw, N, cw, rw.map SVal⟩ :: (rw ++ (⟨58, B1, n0, n0, r1.map SVal⟩ :: (r1 ++ [BoxR 24 g0 b0 A0 n0 c0 o0]))))
    simpa using h2)
  have HTX := Lib.hid (show totN r2 = sumL x0 from totN_tab (Mem.rdG HP8.out (e := 58) (A := B2) (n := n0) (c := n0) (rs := r2) (by simp) (fun r hr => by simp [hr])) HX2.out)
  refine (markAuto_any w _ 58 b0 B2 n0 n0 o0 r2 _ 1 HP8.out hn (by omega) (by rw [HTX.out]; have := HS1.out; omega)).mono ?_
  rintro e w9 ⟨rfl, hm9⟩
  rw [HTX.out]
  obtain ⟨n9, hn9⟩ : ∃ n9, n9 = sumL x0 := ⟨_, rfl⟩
  rw [← hn9]
  have HM9 := Lib.hid hm9
  clear hm9 HM8 by0 by1 by2 HP8 hn9
  obtain ⟨bg0, bg1, bg2⟩ := HM9.out.boxAt (t := 27) (g := gG) (b := bb) (A := Ag) (n := N) (c := cg) (o := oo) (by simp)
  obtain ⟨bw0, bw1, bw2⟩ := HM9.out.boxAt (t := 27) (g := gW) (b := bb) (A := Aw) (n := N) (c := cw) (o := oo) (by simp)
  have HIg := Lib.hid (gin_of HM9.out (e := 58) (A := Ag) (n := N) (c := cg) (rs := rg) (zss := zz) (by simp) (fun r hr => by simp [hr]) HXg.out hzn HZM.out)
  have HIw := Lib.hid (gin_of HM9.out (e := 58) (A := Aw) (n := N) (c := cw) (rs := rw) (zss := zz) (by simp) (fun r hr => by simp [hr]) HXw.out hzn HZM.out)
  have d9 : decide ((1 : Int) + (n9 : Int) < 0) = false := by simp; omega
  have HQ9 := Lib.hid (eqAuto_same bb Ag Aw N cg cw zz oo _ HIg.out HIw.out)
  go_wp2_with fail
  refine HQ9.out.mono ?_
  rintro e w10 ⟨rfl, hb10⟩
  have HM10 := Lib.hid (HM9.out.later hb10)
  have HTot := Lib.hid (show totN rg = sumL zz from totN_tab (Mem.rdG HM10.out (e := 58) (A := Ag) (n := N) (c := cg) (rs := rg) (by simp) (fun r hr => by simp [hr])) HXg.out)
  clear hb10 HM9 HQ9 HIg HIw bg0 bg1 bg2 bw0 bw1 bw2 d9
  obtain ⟨bg0, bg1, bg2⟩ := HM10.out.boxAt (t := 27) (g := gG) (b := bb) (A := Ag) (n := N) (c := cg) (o := oo) (by simp)
  obtain ⟨TL, hTL⟩ : ∃ TL : List Row, TL = ⟨58, B2, n0, n0, r2.map SVal⟩ :: (markRs 1 r2 ++ (BoxR 27 gX b0 B2 n0 n0 o0 :: BoxR 27 gW bb Aw N cw oo :: ⟨58, Aw, N, cw, rw.map SVal⟩ :: (rw ++ (⟨58, B1, n0, n0, r1.map SVal⟩ :: (r1 ++ [BoxR 24 g0 b0 A0 n0 c0 o0]))))) := ⟨_, rfl⟩
  have HP10 := Lib.hid (show Mem w w10 (⟨58, Ag, N, cg, rg.map SVal⟩ :: (rg ++ (BoxR 27 gG bb Ag N cg oo :: TL))) by
    have h := HM10.out
    rw [hTL]
    refine Mem.perm h ?_
    have h2 := List.perm_append_comm_assoc (⟨58, B2, n0, n0, r2.map SVal⟩ :: markRs 1 r2) (BoxR 27 gG bb Ag N cg oo :: ⟨58, Ag, N, cg, rg.map SVal⟩ :: rg) (BoxR 27 gX b0 B2 n0 n0 o0 :: BoxR 27 gW bb Aw N cw oo :: ⟨58, Aw, N, cw, rw.map SVal⟩ :: (rw ++ (⟨58, B1, n0, n0, r1.map SVal⟩ :: (r1 ++ [BoxR 24 g0 b0 A0 n0 c0 o0]))))
    refine (show List.Perm _ _ by simpa using h2).trans ?_
    refine (List.Perm.swap _ _ _).trans (List.Perm.cons _ ?_)
    exact List.perm_middle.symm)
  have HTW := Lib.hid (show BoxR 27 gW bb Aw N cw oo ∈ TL by rw [hTL]; simp)
  have HTW2 := Lib.hid (show (⟨58, Aw, N, cw, rw.map SVal⟩ : Row) ∈ TL by rw [hTL]; simp)
  have HTW3 := Lib.hid (show ∀ r ∈ rw, r ∈ TL by rw [hTL]; intro r hr; simp [hr])
  have HT0 := Lib.hid (show BoxR 24 g0 b0 A0 n0 c0 o0 ∈ TL by rw [hTL]; simp)
  clear hTL HM10
  go_wp2_with fail
  refine (markAuto_any w _ 58 bb Ag N cg oo rg _ 1 HP10.out hzn (by omega) (by rw [HTot.out]; have := HSum.out; omega)).mono ?_
  rintro e w11 ⟨rfl, hm11⟩
  have HM11 := Lib.hid hm11
  clear hm11 HP10 bg0 bg1 bg2
  obtain ⟨bg0, bg1, bg2⟩ := HM11.out.boxAt (t := 27) (g := gG) (b := bb) (A := Ag) (n := N) (c := cg) (o := oo) (by simp)
  have HRM := Lib.hid (show RdG w11 Ag N (markRs 1 rg) from Mem.rdG HM11.out (e := 58) (c := cg) (by rw [markRs_vals]; simp) (fun r hr => by simp [hr]))
  rw [HTot.out]
  obtain ⟨S, hS⟩ : ∃ S, S = sumL zz := ⟨_, rfl⟩
  have HSS := Lib.hid (show S ≤ 64 by rw [hS]; exact HSum.out)
  have hS32 := HSS.out
  have HH1 := Lib.hid (fun (w : World) (h : RdG w Ag N (markRs 1 rg)) => heldAuto_any bb Ag N cg oo rg 1 w h hzn (by omega) (by rw [HTot.out]; have := HSum.out; omega))
  rw [HTot.out] at HH1
  rw [← hS] at HH1 ⊢
  clear hS
  go_wp2_with fail
  refine (HH1.out _ HRM.out).mono ?_
  rintro e w12 ⟨rfl, hb12⟩
  have HM12 := Lib.hid (HM11.out.later hb12)
  have HRM2 := Lib.hid (HRM.out.later hb12)
  clear hb12 HM11 HRM bg0 bg1 bg2
  obtain ⟨bx0, bx1, bx2⟩ := HM12.out.boxAt (t := 24) (g := g0) (b := b0) (A := A0) (n := n0) (c := c0) (o := o0) (by simp [HT0.out])
  have d12 : decide ((1 : Int) + (S : Int) < 0) = false := by simp; omega
  have e12 : (((1 : Int) + (S : Int)) != ((1 : Int) + (S : Int))) = false := by simp
  go_wp2_with fail
  refine (toAuto_any b0 A0 n0 c0 x0 o0 w12 (HGI.out.later HM12.out.bel)).mono ?_
  rintro e w13 ⟨B4, r4, rfl, o13, hx13⟩
  have HM13 := Lib.hid (HM12.out.addAll o13)
  have HI13 := Lib.hid (gin_of HM13.out (e := 58) (A := B4) (n := n0) (c := n0) (rs := r4) (zss := x0) (by simp) (fun r hr => by simp [hr]) hx13 hn HX0.out)
  clear o13 hx13 HM12 bx0 bx1 bx2
  go_wp2_with fail
  refine (HCI.out B4 n0 n0 w13 HI13.out).mono ?_
  rintro e w14 ⟨Ah, nh, ch, rh, rfl, hm14, hxh⟩
  have HM14 := Lib.hid ((HM13.out.addAll hm14).box 27 bb Ah nh ch oo)
  obtain rfl : N = nh := by rw [HN.out]; exact (grid_n HM14.out (e := 58) (A := Ah) (c := ch) (rs := rh) (by simp) hxh).symm
  have HIh := Lib.hid (gin_of HM14.out (e := 58) (A := Ah) (n := N) (c := ch) (rs := rh) (zss := zz) (by simp) (fun r hr => by simp [hr]) hxh hzn HZM.out)
  have HIw := Lib.hid (gin_of HM14.out (e := 58) (A := Aw) (n := N) (c := cw) (rs := rw) (zss := zz) (by simp [HTW2.out]) (fun r hr => by simp [HTW3.out r hr]) HXw.out hzn HZM.out)
  have HQ14 := Lib.hid (eqAuto_same bb Ah Aw N ch cw zz oo _ HIh.out HIw.out)
  obtain ⟨bw0, bw1, bw2⟩ := HM14.out.boxAt (t := 27) (g := gW) (b := bb) (A := Aw) (n := N) (c := cw) (o := oo) (by simp [HTW.out])
  clear hm14 hxh HM13 HIh HIw
  go_wp2_with fail
  refine HQ14.out.mono ?_
  rintro e w15 ⟨rfl, hb15⟩
  have HM15 := Lib.hid (HM14.out.later hb15)
  have HRM3 := Lib.hid (show RdG w15 Ag N (markRs 1 rg) from Mem.rdG HM15.out (e := 58) (c := cg) (by rw [markRs_vals]; simp) (fun r hr => by simp [hr]))
  clear hb15 HM14 HQ14 bw0 bw1 bw2
  obtain ⟨bg0, bg1, bg2⟩ := HM15.out.boxAt (t := 27) (g := gG) (b := bb) (A := Ag) (n := N) (c := cg) (o := oo) (by simp)
  go_wp2_with fail
  refine (HH1.out _ HRM3.out).mono ?_
  rintro e w16 ⟨rfl, hb16⟩
  have HM16 := Lib.hid (HM15.out.later hb16)
  clear hb16 HM15 bg0 bg1 bg2
  go_wp2_with fail
  go_ret
  exact ⟨rfl, HM16.out.bel⟩
end Go.Proofs.Ytdebdnglchkdaaa
