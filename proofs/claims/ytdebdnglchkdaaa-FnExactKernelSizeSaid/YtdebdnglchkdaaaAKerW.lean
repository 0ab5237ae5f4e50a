/-
  The walk of the law FnExactKernelSize. No conditions.
-/
import Derived.Test.YtdebdnglchkdaaaAKer
import Derived.Test.YtdebdnglchkdaaaAFrame
namespace Go.Proofs.Ytdebdnglchkdaaa
open Go.RowKit

theorem gin_made {w0 w w' : World} {A : Option Addr} {n : Nat} {rs : List Row} {zss : Tab} {e : TypeId} (h : Mem w0 w (⟨e, A, n, n, rs.map SVal⟩ :: rs)) (hb : Below w.heap.size w w') (hx : rs.map Row.xs = zss.map ivs) (hn : n ≤ 1048576) (hz : ∀ z ∈ zss, z.length ≤ 1048576) : GIn w' A n n zss :=
  GIn.of (Mem.rdG (h.later hb) (e := e) (c := n) (by simp) (fun r hr => by simp [hr])) hx hn hz (Nat.le_refl _) (by omega)
set_option maxRecDepth 100000 in
set_option maxHeartbeats 2000000 in
theorem walk_FnExactKernelSize (b0 : Int) (A0 : Option Addr) (n0 c0 : Nat) (x0 : Tab) (o0 : List UInt8) (w : World) (h0 : GArg w A0 n0 c0 x0) (k0 : StrArg o0) :
    Calls Try.prog 3 #[AutoV b0 A0 n0 c0 o0] w fun e w' => e = .returned (.bool true) ∧ Below w.heap.size w w' := by
  unfold StrArg at k0
  have HM0 := Lib.hid ((Mem.start w).box 24 b0 A0 n0 c0 o0)
  have HSz := Lib.hid (szAuto_any b0 A0 n0 c0 x0 o0 1048576 _ (h0.later HM0.out.bel) k0 (by omega) (by omega))
  have HA := Lib.hid h0
  have hlen := h0.len
  obtain ⟨g, hg⟩ : ∃ g, g = w.heap.size := ⟨_, rfl⟩
  rw [← hg] at HM0
  have HG := Lib.hid hg
  clear h0 hg
  go_enter Try.func3, Try.ntmps3
  go_wp2_with fail
  refine HSz.out.mono ?_
  rintro e w1 ⟨r, rfl, hs, hb1⟩
  have HM1 := Lib.hid (HM0.out.later hb1)
  have HS := Lib.hid hs
  obtain ⟨bx0, bx1, bx2⟩ := HM1.out.boxAt (t := 24) (g := g) (b := b0) (A := A0) (n := n0) (c := c0) (o := o0) (by simp)
  rw [← HG.out]
  clear hb1 hs HSz HM0
  by_cases hr : r < 0
  · go_wp2_with fail
    go_ret
    exact ⟨rfl, HM1.out.bel⟩
  obtain ⟨hr0, hr1⟩ := HS.out.resolve_left hr
  have HGI := Lib.hid (HA.out.small (by omega) (by omega))
  have hn : n0 ≤ 1048576 := by omega
  have hol : o0.length ≤ 9223372036854775807 := k0
  have HZ := Lib.hid (show ∀ z ∈ x0, z.length ≤ 1048576 from fun z hz => by have := sumL_le x0 z hz; omega)
  clear hr0 hr1 HS HA
  go_wp2_with fail
  refine (toAuto_any b0 A0 n0 c0 x0 o0 w1 (HGI.out.later HM1.out.bel)).mono ?_
  rintro e w2 ⟨B2, r2, rfl, hm2, hx2⟩
  have HM2 := Lib.hid (HM1.out.addAll hm2)
  have HI2 := Lib.hid (gin_made hm2 (Below.refl _ _) hx2 hn HZ.out)
  clear hm2 hx2 HM1 bx0 bx1 bx2
  go_wp2_with fail
  refine (cKernelS b0 B2 n0 n0 x0 o0 w2 HI2.out hol).mono ?_
  rintro e w3 ⟨rfl, hb3⟩
  have HM3 := Lib.hid (HM2.out.later hb3)
  clear hb3 HM2 HI2
  obtain ⟨bx0, bx1, bx2⟩ := HM3.out.boxAt (t := 24) (g := g) (b := b0) (A := A0) (n := n0) (c := c0) (o := o0) (by simp)
  obtain ⟨z, hz⟩ : ∃ z, z = kerSize b0 x0 o0 := ⟨_, rfl⟩
  rw [← hz]
  have HKZ := Lib.hid hz
  clear hz
  go_wp2_with fail
  refine (toAuto_any b0 A0 n0 c0 x0 o0 w3 (HGI.out.later HM3.out.bel)).mono ?_
  rintro e w4 ⟨B4, r4, rfl, hm4, hx4⟩
  have HM4 := Lib.hid ((HM3.out.addAll hm4).box 27 b0 B4 n0 n0 o0)
  have HI4 := Lib.hid (gin_made hm4 (Below.boxed w4 (.cells #[.int .i64 b0, .slice B4 n0 n0, .string ⟨o0.toArray⟩] 27)) hx4 hn HZ.out)
  clear hm4 hx4 HM3 bx0 bx1 bx2
  have HCon := Lib.hid (cKernelI b0 B4 n0 n0 x0 o0 _ HI4.out hol)
  rw [← HKZ.out] at HCon
  obtain ⟨h, hh⟩ : ∃ h, h = w4.heap.size := ⟨_, rfl⟩
  rw [← hh] at HM4
  have HH := Lib.hid hh
  clear hh
  go_wp2_with fail
  refine HCon.out.mono ?_
  rintro e w5 ⟨rfl, hb5⟩
  have HM5 := Lib.hid (HM4.out.later hb5)
  have HI5 := Lib.hid (HI4.out.later hb5)
  clear hb5 HM4 HI4 HCon
  rw [← HH.out]
  obtain ⟨bx0, bx1, bx2⟩ := HM5.out.boxAt (t := 24) (g := g) (b := b0) (A := A0) (n := n0) (c := c0) (o := o0) (by simp)
  obtain ⟨by0, by1, by2⟩ := HM5.out.boxAt (t := 27) (g := h) (b := b0) (A := B4) (n := n0) (c := n0) (o := o0) (by simp)
  have dz : (z != z) = false := by simp
  go_wp2_with fail
  go_region_held3 (fun w' => w'.cell? ⟨g, 0, none⟩ = some (.int .i64 b0) ∧ w'.cell? ⟨g, 1, none⟩ = some (.slice A0 n0 c0) ∧ w'.cell? ⟨g, 2, none⟩ = some (.string ⟨o0.toArray⟩) ∧ w'.cell? ⟨h, 0, none⟩ = some (.int .i64 b0) ∧ w'.cell? ⟨h, 1, none⟩ = some (.slice B4 n0 n0) ∧ w'.cell? ⟨h, 2, none⟩ = some (.string ⟨o0.toArray⟩))
    (first | go_keep | exact ⟨cell_keepA hb6 (by simpa using bx0), cell_keepA hb6 (by simpa using bx1), cell_keepA hb6 (by simpa using bx2), cell_keepA hb6 (by simpa using by0), cell_keepA hb6 (by simpa using by1), cell_keepA hb6 (by simpa using by2)⟩)
    (first
      | (go_at_call 9; (with_reducible refine (toAuto_any b0 A0 n0 c0 x0 o0 _ (HGI.out.later (HM5.out.drew).bel)).mono ?_); rintro e w6 ⟨B6, r6, rfl, hm6, hx6⟩; have hb6 := hm6.bel)
      | (go_at_call 11; (with_reducible refine (eqAuto_same b0 B4 B6 n0 n0 n0 x0 o0 _ (HI5.out.later ((bdA _).trans (hm6.bel.mono (bdA _).size))) (gin_made hm6 (Below.refl _ _) hx6 hn HZ.out)).mono ?_); rintro e w7 ⟨rfl, hb7⟩; have hb6 := hm6.bel.trans (hb7.mono hm6.bel.size)))
  have HM7 := Lib.hid ((HM5.out.drew.addAll hm6).later hb7)
  clear hm6 hb7
  go_wp2_with fail
  go_ret
  exact ⟨rfl, HM7.out.bel⟩
end Go.Proofs.Ytdebdnglchkdaaa
