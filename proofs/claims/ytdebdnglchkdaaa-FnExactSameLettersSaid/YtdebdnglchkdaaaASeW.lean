/-
  The walk of the law FnExactSameLetters. No conditions.
-/
import Derived.Test.YtdebdnglchkdaaaASeI
import Derived.Test.YtdebdnglchkdaaaAFrame
namespace Go.Proofs.Ytdebdnglchkdaaa
open Go.RowKit

set_option maxRecDepth 100000 in
set_option maxHeartbeats 4000000 in
theorem walk_FnExactSameLetters (b0 : Int) (A0 : Option Addr) (n0 c0 : Nat) (x0 : Tab) (o0 : List UInt8) (b1 : Int) (A1 : Option Addr) (n1 c1 : Nat) (x1 : Tab) (o1 : List UInt8) (w : World) (h0 : GArg w A0 n0 c0 x0) (k0 : StrArg o0) (h1 : GArg w A1 n1 c1 x1) (k1 : StrArg o1) :
    Calls Try.prog 5 #[AutoV b0 A0 n0 c0 o0, AutoV b1 A1 n1 c1 o1] w fun e w' => e = .returned (.bool true) ∧ Below w.heap.size w w' := by
  unfold StrArg at k0 k1
  have HM0 := Lib.hid (((Mem.start w).box 24 b0 A0 n0 c0 o0).box 24 b1 A1 n1 c1 o1)
  rw [show (w.alloc (.cells #[.int .i64 b0, .slice A0 n0 c0, .string ⟨o0.toArray⟩] 24)).heap.size = w.heap.size + 1 by simp] at HM0
  have HSz := Lib.hid (szAuto_any b0 A0 n0 c0 x0 o0 1048576 _ (h0.later HM0.out.bel) k0 (by omega) (by omega))
  have HA := Lib.hid h0
  have HB := Lib.hid h1
  have hlen := h0.len
  have hlen1 := h1.len
  have HCS := Lib.hid (fun A B n m c d W ha hb => cSameS b0 b1 A B n m c d x0 x1 o0 o1 W ha hb k0 k1)
  have HCI := Lib.hid (fun A B n m c d W ha hb => cSameI b0 b1 A B n m c d x0 x1 o0 o1 W ha hb k0 k1)
  obtain ⟨z, hz⟩ : ∃ z, z = sameL b0 x0 o0 b1 x1 o1 := ⟨_, rfl⟩
  rw [← hz] at HCS HCI
  obtain ⟨g0, hg0⟩ : ∃ g, g = w.heap.size := ⟨_, rfl⟩
  obtain ⟨g1, hg1⟩ : ∃ g, g = w.heap.size + 1 := ⟨_, rfl⟩
  rw [← hg1, ← hg0] at HM0
  have HG0 := Lib.hid hg0
  have HG1 := Lib.hid hg1
  clear h0 h1 hg0 hg1 hz
  go_enter Try.func5, Try.ntmps5
  go_wp2_with fail
  rw [← HG1.out, ← HG0.out]
  refine HSz.out.mono ?_
  rintro e w1 ⟨r, rfl, hs, hb1⟩
  have HM1 := Lib.hid (HM0.out.later hb1)
  have HS := Lib.hid hs
  obtain ⟨by0, by1, by2⟩ := HM1.out.boxAt (t := 24) (g := g1) (b := b1) (A := A1) (n := n1) (c := c1) (o := o1) (by simp)
  clear hb1 hs HSz HM0
  by_cases hr : r < 0
  · go_wp2_with fail
    go_ret
    exact ⟨rfl, HM1.out.bel⟩
  obtain ⟨hr0, hr1⟩ := HS.out.resolve_left hr
  have HGA := Lib.hid (HA.out.small (by omega) (by omega))
  have hn0 : n0 ≤ 1048576 := by omega
  have hr2 : r ≤ 1048576 := by omega
  have HZ0 := Lib.hid (show ∀ z ∈ x0, z.length ≤ 1048576 from fun z hz => by have := sumL_le x0 z hz; omega)
  have HSz2 := Lib.hid (szAuto_any b1 A1 n1 c1 x1 o1 r _ (HB.out.later HM1.out.bel) k1 hr0 hr2)
  clear hr1 HS HA
  go_wp2_with fail
  refine HSz2.out.mono ?_
  rintro e w2 ⟨r2, rfl, hs, hb2⟩
  have HM2 := Lib.hid (HM1.out.later hb2)
  have HS := Lib.hid hs
  clear hb2 hs HSz2 HM1 by0 by1 by2
  by_cases hr3 : r2 < 0
  · go_wp2_with fail
    go_ret
    exact ⟨rfl, HM2.out.bel⟩
  obtain ⟨hr4, hr5⟩ := HS.out.resolve_left hr3
  have HGB := Lib.hid (HB.out.small (by omega) (by omega))
  have hn1 : n1 ≤ 1048576 := by omega
  have HZ1 := Lib.hid (show ∀ z ∈ x1, z.length ≤ 1048576 from fun z hz => by have := sumL_le x1 z hz; omega)
  clear hr4 hr5 HS HB
  obtain ⟨bx0, bx1, bx2⟩ := HM2.out.boxAt (t := 24) (g := g0) (b := b0) (A := A0) (n := n0) (c := c0) (o := o0) (by simp)
  obtain ⟨by0, by1, by2⟩ := HM2.out.boxAt (t := 24) (g := g1) (b := b1) (A := A1) (n := n1) (c := c1) (o := o1) (by simp)
  go_wp2_with fail
  go_region_held3 (fun w' => w'.cell? ⟨g0, 0, none⟩ = some (.int .i64 b0) ∧ w'.cell? ⟨g0, 1, none⟩ = some (.slice A0 n0 c0) ∧ w'.cell? ⟨g0, 2, none⟩ = some (.string ⟨o0.toArray⟩) ∧ w'.cell? ⟨g1, 0, none⟩ = some (.int .i64 b1) ∧ w'.cell? ⟨g1, 1, none⟩ = some (.slice A1 n1 c1) ∧ w'.cell? ⟨g1, 2, none⟩ = some (.string ⟨o1.toArray⟩))
    (first | go_keep | exact ⟨cell_keepA hb6 (by simpa using bx0), cell_keepA hb6 (by simpa using bx1), cell_keepA hb6 (by simpa using bx2), cell_keepA hb6 (by simpa using by0), cell_keepA hb6 (by simpa using by1), cell_keepA hb6 (by simpa using by2)⟩)
    (first
      | (go_at_call 9; (with_reducible refine (toAuto_any b0 A0 n0 c0 x0 o0 w2.drew (HGA.out.later (HM2.out.drew).bel)).mono ?_); rintro e w4 ⟨B4, r4, rfl, hm4, hx4⟩; have hb6 := hm4.bel)
      | (go_at_call 9; (with_reducible refine (toAuto_any b1 A1 n1 c1 x1 o1 _ (HGB.out.later ((HM2.out.drew).bel.trans (hm4.bel.mono (HM2.out.drew).bel.size)))).mono ?_); rintro e w5 ⟨B5, r5, rfl, hm5, hx5⟩; have hb6 := hm4.bel.trans (hm5.bel.mono hm4.bel.size))
      | (go_at_call 20; (with_reducible refine (HCS.out B4 B5 n0 n1 n0 n1 _ ((gin_of hm4 (e := 58) (A := B4) (n := n0) (c := n0) (rs := r4) (zss := x0) (by simp) (fun r hr => by simp [hr]) hx4 hn0 HZ0.out).later hm5.bel) (gin_of hm5 (e := 58) (A := B5) (n := n1) (c := n1) (rs := r5) (zss := x1) (by simp) (fun r hr => by simp [hr]) hx5 hn1 HZ1.out)).mono ?_); rintro e w6 ⟨rfl, hb7⟩; have hb6 := hm4.bel.trans ((hm5.bel.trans (hb7.mono hm5.bel.size)).mono hm4.bel.size)))
  have HM3 := Lib.hid (HM2.out.drew.later hb6)
  clear hb6 hb7 hm4 hm5 hx4 hx5 HM2 bx0 bx1 bx2 by0 by1 by2
  obtain ⟨bx0, bx1, bx2⟩ := HM3.out.boxAt (t := 24) (g := g0) (b := b0) (A := A0) (n := n0) (c := c0) (o := o0) (by simp)
  go_wp2_with fail
  refine (toAuto_any b0 A0 n0 c0 x0 o0 _ (HGA.out.later HM3.out.bel)).mono ?_
  rintro e w7 ⟨B7, r7, rfl, hm7, hx7⟩
  have HX7 := Lib.hid hx7
  have HM7 := Lib.hid ((HM3.out.addAll hm7).box 27 b0 B7 n0 n0 o0)
  obtain ⟨g7, hg7⟩ : ∃ g, g = w7.heap.size := ⟨_, rfl⟩
  rw [← hg7] at HM7
  have HG7 := Lib.hid hg7
  clear hg7 hm7 hx7 HM3 bx0 bx1 bx2
  obtain ⟨by0, by1, by2⟩ := HM7.out.boxAt (t := 24) (g := g1) (b := b1) (A := A1) (n := n1) (c := c1) (o := o1) (by simp)
  have HT7 := Lib.hid (toAuto_any b1 A1 n1 c1 x1 o1 _ (HGB.out.later HM7.out.bel))
  go_wp2_with fail
  rw [← HG7.out]
  clear HG7
  refine HT7.out.mono ?_
  rintro e w8 ⟨B8, r8, rfl, hm8, hx8⟩
  have HX8 := Lib.hid hx8
  have HM8 := Lib.hid ((HM7.out.addAll hm8).box 27 b1 B8 n1 n1 o1)
  obtain ⟨g8, hg8⟩ : ∃ g, g = w8.heap.size := ⟨_, rfl⟩
  rw [← hg8] at HM8
  have HG8 := Lib.hid hg8
  clear hg8 hm8 hx8 HM7 by0 by1 by2 HT7
  have HI7 := Lib.hid (gin_of HM8.out (e := 58) (A := B7) (n := n0) (c := n0) (rs := r7) (zss := x0) (by simp) (fun r hr => by simp [hr]) HX7.out hn0 HZ0.out)
  have HI8 := Lib.hid (gin_of HM8.out (e := 58) (A := B8) (n := n1) (c := n1) (rs := r8) (zss := x1) (by simp) (fun r hr => by simp [hr]) HX8.out hn1 HZ1.out)
  have HC8 := Lib.hid (HCI.out B7 B8 n0 n1 n0 n1 _ HI7.out HI8.out)
  obtain ⟨bx0, bx1, bx2⟩ := HM8.out.boxAt (t := 27) (g := g7) (b := b0) (A := B7) (n := n0) (c := n0) (o := o0) (by simp)
  go_wp2_with fail
  rw [← HG8.out]
  clear HG8
  refine HC8.out.mono ?_
  rintro e w9 ⟨rfl, hb9⟩
  have HM9 := Lib.hid (HM8.out.later hb9)
  have HI79 := Lib.hid (HI7.out.later hb9)
  have HI89 := Lib.hid (HI8.out.later hb9)
  clear hb9 HM8 HI7 HI8 HC8 bx0 bx1 bx2
  have dz : (z != z) = false := by simp
  obtain ⟨bx0, bx1, bx2⟩ := HM9.out.boxAt (t := 27) (g := g7) (b := b0) (A := B7) (n := n0) (c := n0) (o := o0) (by simp)
  obtain ⟨by0, by1, by2⟩ := HM9.out.boxAt (t := 24) (g := g0) (b := b0) (A := A0) (n := n0) (c := c0) (o := o0) (by simp)
  go_wp2_with fail
  go_region_held3 (fun w' => w'.cell? ⟨g7, 0, none⟩ = some (.int .i64 b0) ∧ w'.cell? ⟨g7, 1, none⟩ = some (.slice B7 n0 n0) ∧ w'.cell? ⟨g7, 2, none⟩ = some (.string ⟨o0.toArray⟩) ∧ w'.cell? ⟨g0, 0, none⟩ = some (.int .i64 b0) ∧ w'.cell? ⟨g0, 1, none⟩ = some (.slice A0 n0 c0) ∧ w'.cell? ⟨g0, 2, none⟩ = some (.string ⟨o0.toArray⟩))
    (first | go_keep | exact ⟨cell_keepA hb6 (by simpa using bx0), cell_keepA hb6 (by simpa using bx1), cell_keepA hb6 (by simpa using bx2), cell_keepA hb6 (by simpa using by0), cell_keepA hb6 (by simpa using by1), cell_keepA hb6 (by simpa using by2)⟩)
    (first
      | (go_at_call 9; (with_reducible refine (toAuto_any b0 A0 n0 c0 x0 o0 _ (HGA.out.later (HM9.out.drew).bel)).mono ?_); rintro e w10 ⟨B10, r10, rfl, hm10, hx10⟩; have hb6 := hm10.bel)
      | (go_at_call 11; (with_reducible refine (eqAuto_same b0 B7 B10 n0 n0 n0 x0 o0 _ (HI79.out.later ((bdA _).trans (hm10.bel.mono (bdA _).size))) (gin_of hm10 (e := 58) (A := B10) (n := n0) (c := n0) (rs := r10) (zss := x0) (by simp) (fun r hr => by simp [hr]) hx10 hn0 HZ0.out)).mono ?_); rintro e w11 ⟨rfl, hb11⟩; have hb6 := hm10.bel.trans (hb11.mono hm10.bel.size)))
  have HM11 := Lib.hid (HM9.out.drew.later hb6)
  have HI811 := Lib.hid (HI89.out.later ((bdA _).trans (hb6.mono (bdA _).size)))
  clear hb6 hb11 hm10 hx10 HM9 HI79 HI89 bx0 bx1 bx2 by0 by1 by2
  obtain ⟨bx0, bx1, bx2⟩ := HM11.out.boxAt (t := 27) (g := g8) (b := b1) (A := B8) (n := n1) (c := n1) (o := o1) (by simp)
  obtain ⟨by0, by1, by2⟩ := HM11.out.boxAt (t := 24) (g := g1) (b := b1) (A := A1) (n := n1) (c := c1) (o := o1) (by simp)
  go_wp2_with fail
  go_region_held3 (fun w' => w'.cell? ⟨g8, 0, none⟩ = some (.int .i64 b1) ∧ w'.cell? ⟨g8, 1, none⟩ = some (.slice B8 n1 n1) ∧ w'.cell? ⟨g8, 2, none⟩ = some (.string ⟨o1.toArray⟩) ∧ w'.cell? ⟨g1, 0, none⟩ = some (.int .i64 b1) ∧ w'.cell? ⟨g1, 1, none⟩ = some (.slice A1 n1 c1) ∧ w'.cell? ⟨g1, 2, none⟩ = some (.string ⟨o1.toArray⟩))
    (first | go_keep | exact ⟨cell_keepA hb6 (by simpa using bx0), cell_keepA hb6 (by simpa using bx1), cell_keepA hb6 (by simpa using bx2), cell_keepA hb6 (by simpa using by0), cell_keepA hb6 (by simpa using by1), cell_keepA hb6 (by simpa using by2)⟩)
    (first
      | (go_at_call 9; (with_reducible refine (toAuto_any b1 A1 n1 c1 x1 o1 _ (HGB.out.later (HM11.out.drew).bel)).mono ?_); rintro e w12 ⟨B12, r12, rfl, hm12, hx12⟩; have hb6 := hm12.bel)
      | (go_at_call 11; (with_reducible refine (eqAuto_same b1 B8 B12 n1 n1 n1 x1 o1 _ (HI811.out.later ((bdA _).trans (hm12.bel.mono (bdA _).size))) (gin_of hm12 (e := 58) (A := B12) (n := n1) (c := n1) (rs := r12) (zss := x1) (by simp) (fun r hr => by simp [hr]) hx12 hn1 HZ1.out)).mono ?_); rintro e w13 ⟨rfl, hb13⟩; have hb6 := hm12.bel.trans (hb13.mono hm12.bel.size)))
  have HM13 := Lib.hid (HM11.out.drew.later hb6)
  clear hb6 hb13 hm12 hx12 HM11
  go_wp2_with fail
  go_ret
  exact ⟨rfl, HM13.out.bel⟩
end Go.Proofs.Ytdebdnglchkdaaa
