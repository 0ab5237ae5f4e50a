/-
  Contract of the program's SmallAuto. No conditions.
-/
import Derived.Test.YtcicoplmpinnmaaDoorASmI
import Derived.Test.YtcicoplmpinnmaaDoorASmS
namespace Go.Proofs.YtcicoplmpinnmaaDoor
open Go.RowKit

set_option maxRecDepth 4096 in
set_option maxHeartbeats 3200000 in
theorem cSmallI (b : Int) (A : Option Addr) (n c : Nat) (zss : Tab) (o : List UInt8) (W : World) (hg : GIn W A n c zss) (ho : o.length ≤ 9223372036854775807) :
    Calls Tryd.prog 7 #[AutoV b A n c o] W (RetAB 54 W (smB b zss o) (smT b zss o) (smO b zss o) (aOk b zss o)) := by
  have HM0 := Lib.hid (((Mem.start W).box 25 b A n c o).box 25 0 none 0 0 [])
  have HC := Lib.hid (iAutoOk_any b A n c zss o _ (hg.later HM0.out.bel) ho)
  have HG := Lib.hid hg
  clear hg
  obtain ⟨bb, hbb⟩ : ∃ bb, bb = smB b zss o := ⟨_, rfl⟩
  obtain ⟨zz, hzz⟩ : ∃ zz, zz = smT b zss o := ⟨_, rfl⟩
  obtain ⟨oo, hoo⟩ : ∃ oo, oo = smO b zss o := ⟨_, rfl⟩
  obtain ⟨kk, hkk⟩ : ∃ kk, kk = aOk b zss o := ⟨_, rfl⟩
  rw [← hkk] at HC
  rw [← hbb, ← hzz, ← hoo, ← hkk]
  cases hok : aOk b zss o
  case false =>
    have HB := Lib.hid (show bb = 0 by rw [hbb]; unfold smB; rw [hok]; rfl)
    have HZ := Lib.hid (show zz = [] by rw [hzz]; unfold smT; rw [hok]; rfl)
    have HO := Lib.hid (show oo = [] by rw [hoo]; unfold smO; rw [hok]; rfl)
    obtain rfl : kk = false := by rw [hkk, hok]
    clear hbb hzz hoo hkk hok
    go_enter Tryd.func7, Tryd.ntmps7
    go_wp2_with fail
    refine HC.out.mono ?_
    rintro e w1 ⟨rfl, hb1⟩
    have HM1 := Lib.hid (HM0.out.later hb1)
    rw [show (W.alloc (.cells #[.int .i64 b, .slice A n c, .string ⟨o.toArray⟩] 25)).heap.size = W.heap.size + 1 by simp] at HM1
    obtain ⟨bx0, bx1, bx2⟩ := HM1.out.boxAt (t := 25) (g := W.heap.size + 1) (b := 0) (A := none) (n := 0) (c := 0) (o := []) (by simp)
    have fx := fun j => HM1.out.boxFree (t := 25) (g := W.heap.size + 1) (b := 0) (A := none) (n := 0) (c := 0) (o := []) (by simp) j
    have fx0 := fx 0
    have fx1 := fx 1
    have fx2 := fx 2
    clear hb1 fx
    go_wp2_with fail
    have HM9 := Lib.hid (Mem.boxAll (pre := []) (post := [_]) HM1.out 0 none 0 0 [])
    obtain ⟨w9, hw9⟩ : ∃ w9, w9 = (((w1.setCell ⟨W.heap.size + 1, 0, none⟩ (.int .i64 0)).setCell ⟨W.heap.size + 1, 1, none⟩ (.slice none 0 0)).setCell ⟨W.heap.size + 1, 2, none⟩ (.string ⟨#[]⟩)) := ⟨_, rfl⟩
    have HM8 := Lib.hid (show Mem W w9 (BoxR 25 (W.heap.size + 1) 0 none 0 0 [] :: [BoxR 25 W.heap.size b A n c o]) by rw [hw9]; exact HM9.out)
    rw [← hw9]
    clear hw9 HM9 HM1 bx0 bx1 bx2 fx0 fx1 fx2
    obtain ⟨bx0, bx1, bx2⟩ := HM8.out.boxAt (t := 25) (g := W.heap.size + 1) (b := 0) (A := none) (n := 0) (c := 0) (o := []) (by simp)
    refine bodyPost_ret (v := .tuple #[AutoV 0 none 0 0 [], .bool false]) (by rw [results_cell_tmp rfl]; go_simp) rfl ?_
    rw [HB.out, HZ.out, HO.out]
    refine ⟨none, 0, 0, [], rfl, ?_, rfl⟩
    exact ((Mem.start w9).add (Own.nil (Below.refl _ _) 54)) |> fun h => ⟨HM8.out.bel, fun r hr => less_row (h.2.1 r hr) HM8.out.bel.size, h.2.2⟩
  case true =>
    obtain ⟨bn, rfl, hgd, hol, _⟩ := aOk_good hok
    have HB := Lib.hid (show bb = (bn : Int) by rw [hbb]; unfold smB; rw [hok]; rfl)
    have HZ := Lib.hid (show zz = smTab zss o bn by rw [hzz]; unfold smT; rw [hok]; rfl)
    have HO := Lib.hid (show oo = smOut zss o bn by rw [hoo]; unfold smO; rw [hok]; rfl)
    obtain rfl : kk = true := by rw [hkk, hok]
    have HGd := Lib.hid hgd
    have HOL := Lib.hid hol
    clear hbb hzz hoo hkk hok hgd hol
    go_enter Tryd.func7, Tryd.ntmps7
    go_wp2_with fail
    refine HC.out.mono ?_
    rintro e w1 ⟨rfl, hb1⟩
    have HM1 := Lib.hid (HM0.out.later hb1)
    rw [show (W.alloc (.cells #[.int .i64 (bn : Int), .slice A n c, .string ⟨o.toArray⟩] 25)).heap.size = W.heap.size + 1 by simp] at HM1
    obtain ⟨bx0, bx1, bx2⟩ := HM1.out.boxAt (t := 25) (g := W.heap.size) (b := (bn : Int)) (A := A) (n := n) (c := c) (o := o) (by simp)
    clear hb1 HM0 HC
    go_wp2_with fail
    refine (small_any bn A n c zss o HGd.out HOL.out w1 (HG.out.later HM1.out.bel)).mono ?_
    rintro e w2 ⟨A5, i, c5, rs, rfl, hm2, hx2⟩
    rw [← HO.out]
    have HM2 := Lib.hid (HM1.out.addAll hm2)
    have HX := Lib.hid hx2
    clear hm2 hx2 HM1 bx0 bx1 bx2
    have hb0 := HM2.out.boxAt (t := 25) (g := W.heap.size + 1) (b := 0) (A := none) (n := 0) (c := 0) (o := []) (by simp)
    obtain ⟨by0, by1, by2⟩ := hb0
    have fx := fun j => HM2.out.boxFree (t := 25) (g := W.heap.size + 1) (b := 0) (A := none) (n := 0) (c := 0) (o := []) (by simp) j
    have fx0 := fx 0
    have fx1 := fx 1
    have fx2 := fx 2
    clear fx
    go_wp2_with fail
    have HM9 := Lib.hid (Mem.boxAll (pre := ⟨54, A5, i, c5, rs.map SVal⟩ :: rs) (post := [_]) (by simpa using HM2.out) (bn : Int) A5 i c5 oo)
    obtain ⟨w9, hw9⟩ : ∃ w9, w9 = (((w2.setCell ⟨W.heap.size + 1, 0, none⟩ (.int .i64 (bn : Int))).setCell ⟨W.heap.size + 1, 1, none⟩ (.slice A5 i c5)).setCell ⟨W.heap.size + 1, 2, none⟩ (.string ⟨oo.toArray⟩)) := ⟨_, rfl⟩
    rw [← hw9] at HM9 ⊢
    clear hw9 HM2 by0 by1 by2 fx0 fx1 fx2
    obtain ⟨by0, by1, by2⟩ := HM9.out.boxAt (t := 25) (g := W.heap.size + 1) (b := (bn : Int)) (A := A5) (n := i) (c := c5) (o := oo) (by simp)
    refine bodyPost_ret (v := .tuple #[AutoV (bn : Int) A5 i c5 oo, .bool true]) (by rw [results_cell_tmp rfl]; go_simp) rfl ?_
    rw [HB.out, HZ.out]
    exact ⟨A5, i, c5, rs, rfl, HM9.out.drop (List.sublist_append_left _ _), HX.out⟩
end Go.Proofs.YtcicoplmpinnmaaDoor
