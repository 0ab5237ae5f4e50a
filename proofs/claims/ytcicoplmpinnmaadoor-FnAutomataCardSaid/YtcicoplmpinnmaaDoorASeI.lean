/-
  Contract of the program's SameLetters. No conditions.
-/
import Derived.Test.YtcicoplmpinnmaaDoorASe
import Derived.Test.YtcicoplmpinnmaaDoorASmI
import Derived.Deep.RegionHeld3
import Derived.Deep.DeepCutAuto
namespace Go.Proofs.YtcicoplmpinnmaaDoor
open Go.RowKit

theorem smT_ok {b : Nat} {x : Tab} {o : List UInt8} (h : aOk b x o = true) : smT b x o = smTab x o b ∧ smO b x o = smOut x o b ∧ smB b x o = b := by
  unfold smT smO smB; simp [h]
set_option maxRecDepth 4096 in
set_option maxHeartbeats 6400000 in
theorem cSameI (b b' : Int) (A B : Option Addr) (n m c d : Nat) (x y : Tab) (o o' : List UInt8) (W : World) (ha : GIn W A n c x) (hb : GIn W B m d y) (ho : o.length ≤ 9223372036854775807) (ho' : o'.length ≤ 9223372036854775807) :
    Calls Tryd.prog 9 #[AutoV b A n c o, AutoV b' B m d o'] W fun e w' => e = .returned (.bool (sameL b x o b' y o')) ∧ Below W.heap.size W w' := by
  obtain ⟨res, hres⟩ : ∃ res, res = sameL b x o b' y o' := ⟨_, rfl⟩
  rw [← hres]
  have HR := Lib.hid (show res = (aOk b x o && (aOk b' y o' && (smB b x o == smB b' y o' && (smO b x o == smO b' y o' && smT b x o == smT b' y o')))) from hres)
  have HM0 := Lib.hid (((Mem.start W).box 25 b A n c o).box 25 b' B m d o')
  rw [show (W.alloc (.cells #[.int .i64 b, .slice A n c, .string ⟨o.toArray⟩] 25)).heap.size = W.heap.size + 1 by simp] at HM0
  have HC1 := Lib.hid (iAutoOk_any b A n c x o _ (ha.later HM0.out.bel) ho)
  have HC2 := Lib.hid (fun (w : World) (h : GIn w B m d y) => iAutoOk_any b' B m d y o' w h ho')
  have HA := Lib.hid ha
  have HB := Lib.hid hb
  clear ha hb hres
  obtain ⟨g1, hg1⟩ : ∃ g, g = W.heap.size := ⟨_, rfl⟩
  obtain ⟨g2, hg2⟩ : ∃ g, g = W.heap.size + 1 := ⟨_, rfl⟩
  rw [← hg2, ← hg1] at HM0
  have HG1 := Lib.hid hg1
  have HG2 := Lib.hid hg2
  clear hg1 hg2
  cases h1 : aOk b x o
  case false =>
    have HN := Lib.hid (show res = false by rw [HR.out, h1]; rfl)
    rw [h1] at HC1
    clear h1
    go_enter Tryd.func9, Tryd.ntmps9
    go_wp2_with (go_at_call 8; (with_reducible refine HC1.out.mono ?_); rintro e w9 ⟨rfl, hb9⟩)
    go_ret
    exact ⟨by (rw [HN.out]; try rfl), HM0.out.bel.trans (hb9.mono HM0.out.bel.size)⟩
  rw [h1] at HC1
  cases h2 : aOk b' y o'
  case false =>
    have HN := Lib.hid (show res = false by rw [HR.out, h1, h2]; rfl)
    rw [h2] at HC2
    clear h1 h2
    go_enter Tryd.func9, Tryd.ntmps9
    go_wp2_with fail
    rw [← HG2.out, ← HG1.out]
    refine HC1.out.mono ?_
    rintro e w9 ⟨rfl, hb9⟩
    have HM1 := Lib.hid (HM0.out.later hb9)
    obtain ⟨by0, by1, by2⟩ := HM1.out.boxAt (t := 25) (g := g2) (b := b') (A := B) (n := m) (c := d) (o := o') (by simp)
    have HC3 := Lib.hid (HC2.out _ (HB.out.later HM1.out.bel))
    clear hb9 HC2
    go_wp2_with (go_at_call 8; (with_reducible refine HC3.out.mono ?_); rintro e w8 ⟨rfl, hb8⟩)
    go_ret
    exact ⟨by (rw [HN.out]; try rfl), HM1.out.bel.trans (hb8.mono HM1.out.bel.size)⟩
  rw [h2] at HC2
  obtain ⟨bn, rfl, hgd, hol, _⟩ := aOk_good h1
  obtain ⟨bm, rfl, hgd2, hol2, _⟩ := aOk_good h2
  obtain ⟨e1, e2, e3⟩ := smT_ok h1
  obtain ⟨f1, f2, f3⟩ := smT_ok h2
  have HR2 := Lib.hid (show res = ((bn : Int) == (bm : Int) && (smOut x o bn == smOut y o' bm && smTab x o bn == smTab y o' bm)) by rw [HR.out, h1, h2, e1, e2, e3, f1, f2, f3]; rfl)
  have HSa := Lib.hid (smT_small bn x o)
  have HSb := Lib.hid (smT_small bm y o')
  rw [e1] at HSa
  rw [f1] at HSb
  have HGa := Lib.hid hgd
  have HGb := Lib.hid hgd2
  have HOa := Lib.hid hol
  have HOb := Lib.hid hol2
  clear e1 e2 e3 f1 f2 f3 h1 h2 hgd hgd2 hol hol2
  cases h3 : ((bn : Int) == (bm : Int))
  case false =>
    have HN := Lib.hid (show res = false by rw [HR2.out, h3]; rfl)
    have d3 : ((bn : Int) != (bm : Int)) = true := by simp only [bne, h3]; rfl
    clear h3
    go_enter Tryd.func9, Tryd.ntmps9
    go_wp2_with fail
    rw [← HG2.out, ← HG1.out]
    refine HC1.out.mono ?_
    rintro e w9 ⟨rfl, hb9⟩
    have HM1 := Lib.hid (HM0.out.later hb9)
    obtain ⟨by0, by1, by2⟩ := HM1.out.boxAt (t := 25) (g := g2) (b := (bm : Int)) (A := B) (n := m) (c := d) (o := o') (by simp)
    have HC3 := Lib.hid (HC2.out _ (HB.out.later HM1.out.bel))
    clear hb9 HC2
    go_wp2_with fail
    refine HC3.out.mono ?_
    rintro e w8 ⟨rfl, hb8⟩
    have HM2 := Lib.hid (HM1.out.later hb8)
    clear HM1 by0 by1 by2
    obtain ⟨by0, by1, by2⟩ := HM2.out.boxAt (t := 25) (g := g2) (b := (bm : Int)) (A := B) (n := m) (c := d) (o := o') (by simp)
    obtain ⟨bx0, bx1, bx2⟩ := HM2.out.boxAt (t := 25) (g := g1) (b := (bn : Int)) (A := A) (n := n) (c := c) (o := o) (by simp)
    go_wp2
    go_ret
    exact ⟨by (rw [HN.out]; try rfl), HM2.out.bel⟩
  case true =>
    have hbm : bm = bn := by have := eq_of_beq h3; omega
    subst hbm
    have HR3 := Lib.hid (show res = (smOut x o bm == smOut y o' bm && smTab x o bm == smTab y o' bm) by rw [HR2.out, h3]; rfl)
    have d3 : ((bm : Int) != (bm : Int)) = false := by simp
    clear h3 HR2 HR
    go_enter Tryd.func9, Tryd.ntmps9
    go_wp2_with fail
    rw [← HG2.out, ← HG1.out]
    refine HC1.out.mono ?_
    rintro e w9 ⟨rfl, hb9⟩
    have HM1 := Lib.hid (HM0.out.later hb9)
    obtain ⟨by0, by1, by2⟩ := HM1.out.boxAt (t := 25) (g := g2) (b := (bm : Int)) (A := B) (n := m) (c := d) (o := o') (by simp)
    have HC3 := Lib.hid (HC2.out _ (HB.out.later HM1.out.bel))
    clear hb9 HC2 HC1 HM0
    go_wp2_with fail
    refine HC3.out.mono ?_
    rintro e w2 ⟨rfl, hb8⟩
    have HM2 := Lib.hid (HM1.out.later hb8)
    clear HM1 by0 by1 by2 hb8 HC3
    obtain ⟨by0, by1, by2⟩ := HM2.out.boxAt (t := 25) (g := g2) (b := (bm : Int)) (A := B) (n := m) (c := d) (o := o') (by simp)
    obtain ⟨bx0, bx1, bx2⟩ := HM2.out.boxAt (t := 25) (g := g1) (b := (bm : Int)) (A := A) (n := n) (c := c) (o := o) (by simp)
    go_upto_region 3 with (fail)
    have HS1 := Lib.hid (show ∀ (w : World) (L : List Row), Mem W w L → Below w2.heap.size w2 w → Calls Tryd.prog 23 #[AutoV bm A n c o] w fun e w' => ∃ A5 n5 c5 r5, e = .returned (AutoV bm A5 n5 c5 (smOut x o bm)) ∧ Mem W w' (⟨54, A5, n5, c5, r5.map SVal⟩ :: (r5 ++ L)) ∧ r5.map Row.xs = (smTab x o bm).map ivs ∧ Below w2.heap.size w2 w' by
      intro w L hm hB
      refine (small_any bm A n c x o HGa.out HOa.out w (HA.out.later hm.bel)).mono ?_
      rintro e w' ⟨A5, n5, c5, r5, he, hm5, hx5⟩
      exact ⟨A5, n5, c5, r5, he, hm.addAll hm5, hx5, hB.trans (hm5.bel.mono hB.size)⟩)
    have HS2 := Lib.hid (show ∀ (w : World) (L : List Row), Mem W w L → Below w2.heap.size w2 w → Calls Tryd.prog 23 #[AutoV bm B m d o'] w fun e w' => ∃ A5 n5 c5 r5, e = .returned (AutoV bm A5 n5 c5 (smOut y o' bm)) ∧ Mem W w' (⟨54, A5, n5, c5, r5.map SVal⟩ :: (r5 ++ L)) ∧ r5.map Row.xs = (smTab y o' bm).map ivs ∧ Below w2.heap.size w2 w' by
      intro w L hm hB
      refine (small_any bm B m d y o' HGb.out HOb.out w (HB.out.later hm.bel)).mono ?_
      rintro e w' ⟨A5, n5, c5, r5, he, hm5, hx5⟩
      exact ⟨A5, n5, c5, r5, he, hm.addAll hm5, hx5, hB.trans (hm5.bel.mono hB.size)⟩)
    have HK := Lib.hid (fun (w' : World) (h : Below w2.heap.size w2 w') => show w'.cell? ⟨g1, 0, none⟩ = some (.int .i64 (bm : Int)) ∧ w'.cell? ⟨g1, 1, none⟩ = some (.slice A n c) ∧ w'.cell? ⟨g1, 2, none⟩ = some (.string ⟨o.toArray⟩) ∧ w'.cell? ⟨g2, 0, none⟩ = some (.int .i64 (bm : Int)) ∧ w'.cell? ⟨g2, 1, none⟩ = some (.slice B m d) ∧ w'.cell? ⟨g2, 2, none⟩ = some (.string ⟨o'.toArray⟩) from ⟨cell_keepA h bx0, cell_keepA h bx1, cell_keepA h bx2, cell_keepA h by0, cell_keepA h by1, cell_keepA h by2⟩)
    have hl1 : g1 < w2.heap.size := World.block_lt_of_cell? w2 _ bx0
    have hl2 : g2 < w2.heap.size := World.block_lt_of_cell? w2 _ by0
    obtain ⟨oA, hoA⟩ : ∃ oA, oA = smOut x o bm := ⟨_, rfl⟩
    obtain ⟨oB, hoB⟩ : ∃ oB, oB = smOut y o' bm := ⟨_, rfl⟩
    rw [← hoA] at HS1 HR3
    rw [← hoB] at HS2 HR3
    have HM20 := Lib.hid HM2.out.drew
    have HM21 := Lib.hid (HM2.out.box 25 0 none 0 0 []).drew
    have HM22 := Lib.hid ((HM2.out.box 25 0 none 0 0 []).box 25 0 none 0 0 []).drew
    have HC0 := Lib.hid (HS1.out _ _ HM20.out (by (repeat' (first | (with_reducible exact hB5) | (with_reducible exact hB4) | (with_reducible exact Below.refl _ _) | (with_reducible refine Below.drew ?_) | (with_reducible refine Below.setCell ?_ (by first | omega | (simp <;> omega)) _) | (with_reducible refine Below.alloc ?_ (by first | omega | (simp <;> omega)) _)))))
    have HC1 := Lib.hid (HS1.out _ _ HM21.out (by (repeat' (first | (with_reducible exact hB5) | (with_reducible exact hB4) | (with_reducible exact Below.refl _ _) | (with_reducible refine Below.drew ?_) | (with_reducible refine Below.setCell ?_ (by first | omega | (simp <;> omega)) _) | (with_reducible refine Below.alloc ?_ (by first | omega | (simp <;> omega)) _)))))
    have HC2 := Lib.hid (HS1.out _ _ HM22.out (by (repeat' (first | (with_reducible exact hB5) | (with_reducible exact hB4) | (with_reducible exact Below.refl _ _) | (with_reducible refine Below.drew ?_) | (with_reducible refine Below.setCell ?_ (by first | omega | (simp <;> omega)) _) | (with_reducible refine Below.alloc ?_ (by first | omega | (simp <;> omega)) _)))))
    clear HM20 HM21 HM22 hoA hoB
    go_cut [5, 6] (fun s5 s6 wc => ∃ (g5 g6 : Nat) (A5 A6 : Option Addr) (n5 c5 n6 c6 : Nat) (r5 r6 L : List Row), s5 = .pointer (some ⟨g5, 0, none⟩) ∧ s6 = .pointer (some ⟨g6, 0, none⟩) ∧ Mem W wc L ∧ BoxR 25 g5 (bm : Int) A5 n5 c5 oA ∈ L ∧ BoxR 25 g6 (bm : Int) A6 n6 c6 oB ∈ L ∧ (⟨54, A5, n5, c5, r5.map SVal⟩ : Row) ∈ L ∧ (∀ r ∈ r5, r ∈ L) ∧ (⟨54, A6, n6, c6, r6.map SVal⟩ : Row) ∈ L ∧ (∀ r ∈ r6, r ∈ L) ∧ Hid (r5.map Row.xs = (smTab x o bm).map ivs) ∧ Hid (r6.map Row.xs = (smTab y o' bm).map ivs))
    case first => as_aux_lemma =>
      go_region_held3 (fun w' => w'.cell? ⟨g1, 0, none⟩ = some (.int .i64 (bm : Int)) ∧ w'.cell? ⟨g1, 1, none⟩ = some (.slice A n c) ∧ w'.cell? ⟨g1, 2, none⟩ = some (.string ⟨o.toArray⟩) ∧ w'.cell? ⟨g2, 0, none⟩ = some (.int .i64 (bm : Int)) ∧ w'.cell? ⟨g2, 1, none⟩ = some (.slice B m d) ∧ w'.cell? ⟨g2, 2, none⟩ = some (.string ⟨o'.toArray⟩))
        (first | go_keep | exact HK.out _ (by (repeat' (first | (with_reducible exact hB5) | (with_reducible exact hB4) | (with_reducible exact Below.refl _ _) | (with_reducible refine Below.drew ?_) | (with_reducible refine Below.setCell ?_ (by first | omega | (simp <;> omega)) _) | (with_reducible refine Below.alloc ?_ (by first | omega | (simp <;> omega)) _)))))
        (first
          | (go_at_call 23; (with_reducible refine HC0.out.mono ?_); rintro e w4 ⟨A5, n5, c5, r5, rfl, hm40, hx5, hB4⟩; have l4 := hB4.size)
          | (go_at_call 23; (with_reducible refine HC1.out.mono ?_); rintro e w4 ⟨A5, n5, c5, r5, rfl, hm41, hx5, hB4⟩; have l4 := hB4.size; have k4 := World.block_lt_of_cell? w4 _ (hm41.boxAt (t := 25) (g := w2.heap.size) (b := 0) (A := none) (n := 0) (c := 0) (o := []) (by simp)).1; have k41 : ¬ w2.heap.size = w4.heap.size := Nat.ne_of_lt k4; have k42 : ¬ w4.heap.size = w2.heap.size := (Nat.ne_of_lt k4).symm)
          | (go_at_call 23; (with_reducible refine HC2.out.mono ?_); rintro e w4 ⟨A5, n5, c5, r5, rfl, hm42, hx5, hB4⟩; have l4 := hB4.size)
          | (go_at_call 23; (with_reducible refine (HS2.out _ _ hm40 (by (repeat' (first | (with_reducible exact hB5) | (with_reducible exact hB4) | (with_reducible exact Below.refl _ _) | (with_reducible refine Below.drew ?_) | (with_reducible refine Below.setCell ?_ (by first | omega | (simp <;> omega)) _) | (with_reducible refine Below.alloc ?_ (by first | omega | (simp <;> omega)) _))))).mono ?_); rintro e w5 ⟨A6, n6, c6, r6, rfl, hm5, hx6, hB5⟩; have l5 := hB5.size)
          | (go_at_call 23; (with_reducible refine (HS2.out _ _ (hm40.box 25 0 none 0 0 []) (by (repeat' (first | (with_reducible exact hB5) | (with_reducible exact hB4) | (with_reducible exact Below.refl _ _) | (with_reducible refine Below.drew ?_) | (with_reducible refine Below.setCell ?_ (by first | omega | (simp <;> omega)) _) | (with_reducible refine Below.alloc ?_ (by first | omega | (simp <;> omega)) _))))).mono ?_); rintro e w5 ⟨A6, n6, c6, r6, rfl, hm5, hx6, hB5⟩; have l5 := hB5.size; obtain ⟨r0, r1, r2⟩ := hm5.boxAt (t := 25) (g := w4.heap.size) (b := 0) (A := none) (n := 0) (c := 0) (o := []) (by simp); have fr0 := hm5.boxFree (t := 25) (g := w4.heap.size) (b := 0) (A := none) (n := 0) (c := 0) (o := []) (by simp) 0; have fr1 := hm5.boxFree (t := 25) (g := w4.heap.size) (b := 0) (A := none) (n := 0) (c := 0) (o := []) (by simp) 1; have fr2 := hm5.boxFree (t := 25) (g := w4.heap.size) (b := 0) (A := none) (n := 0) (c := 0) (o := []) (by simp) 2; have lr := World.block_lt_of_cell? w5 _ r0)
          | (go_at_call 23; (with_reducible refine (HS2.out _ _ ((hm40.box 25 0 none 0 0 []).box 25 0 none 0 0 []) (by (repeat' (first | (with_reducible exact hB5) | (with_reducible exact hB4) | (with_reducible exact Below.refl _ _) | (with_reducible refine Below.drew ?_) | (with_reducible refine Below.setCell ?_ (by first | omega | (simp <;> omega)) _) | (with_reducible refine Below.alloc ?_ (by first | omega | (simp <;> omega)) _))))).mono ?_); rintro e w5 ⟨A6, n6, c6, r6, rfl, hm5, hx6, hB5⟩; have l5 := hB5.size; obtain ⟨r0, r1, r2⟩ := hm5.boxAt (t := 25) (g := w4.heap.size) (b := 0) (A := none) (n := 0) (c := 0) (o := []) (by simp); have fr0 := hm5.boxFree (t := 25) (g := w4.heap.size) (b := 0) (A := none) (n := 0) (c := 0) (o := []) (by simp) 0; have fr1 := hm5.boxFree (t := 25) (g := w4.heap.size) (b := 0) (A := none) (n := 0) (c := 0) (o := []) (by simp) 1; have fr2 := hm5.boxFree (t := 25) (g := w4.heap.size) (b := 0) (A := none) (n := 0) (c := 0) (o := []) (by simp) 2; have lr := World.block_lt_of_cell? w5 _ r0; obtain ⟨s0, s1, s2⟩ := hm5.boxAt (t := 25) (g := w4.heap.size + 1) (b := 0) (A := none) (n := 0) (c := 0) (o := []) (by simp); have fs0 := hm5.boxFree (t := 25) (g := w4.heap.size + 1) (b := 0) (A := none) (n := 0) (c := 0) (o := []) (by simp) 0; have fs1 := hm5.boxFree (t := 25) (g := w4.heap.size + 1) (b := 0) (A := none) (n := 0) (c := 0) (o := []) (by simp) 1; have fs2 := hm5.boxFree (t := 25) (g := w4.heap.size + 1) (b := 0) (A := none) (n := 0) (c := 0) (o := []) (by simp) 2; have ls := World.block_lt_of_cell? w5 _ s0)
          | (go_at_call 23; (with_reducible refine (HS2.out _ _ hm41 (by (repeat' (first | (with_reducible exact hB5) | (with_reducible exact hB4) | (with_reducible exact Below.refl _ _) | (with_reducible refine Below.drew ?_) | (with_reducible refine Below.setCell ?_ (by first | omega | (simp <;> omega)) _) | (with_reducible refine Below.alloc ?_ (by first | omega | (simp <;> omega)) _))))).mono ?_); rintro e w5 ⟨A6, n6, c6, r6, rfl, hm5, hx6, hB5⟩; have l5 := hB5.size; obtain ⟨p0, p1, p2⟩ := hm5.boxAt (t := 25) (g := w2.heap.size) (b := 0) (A := none) (n := 0) (c := 0) (o := []) (by simp); have fp0 := hm5.boxFree (t := 25) (g := w2.heap.size) (b := 0) (A := none) (n := 0) (c := 0) (o := []) (by simp) 0; have fp1 := hm5.boxFree (t := 25) (g := w2.heap.size) (b := 0) (A := none) (n := 0) (c := 0) (o := []) (by simp) 1; have fp2 := hm5.boxFree (t := 25) (g := w2.heap.size) (b := 0) (A := none) (n := 0) (c := 0) (o := []) (by simp) 2; have lp := World.block_lt_of_cell? w5 _ p0)
          | (go_at_call 23; (with_reducible refine (HS2.out _ _ (hm41.box 25 0 none 0 0 []) (by (repeat' (first | (with_reducible exact hB5) | (with_reducible exact hB4) | (with_reducible exact Below.refl _ _) | (with_reducible refine Below.drew ?_) | (with_reducible refine Below.setCell ?_ (by first | omega | (simp <;> omega)) _) | (with_reducible refine Below.alloc ?_ (by first | omega | (simp <;> omega)) _))))).mono ?_); rintro e w5 ⟨A6, n6, c6, r6, rfl, hm5, hx6, hB5⟩; have l5 := hB5.size; obtain ⟨p0, p1, p2⟩ := hm5.boxAt (t := 25) (g := w2.heap.size) (b := 0) (A := none) (n := 0) (c := 0) (o := []) (by simp); have fp0 := hm5.boxFree (t := 25) (g := w2.heap.size) (b := 0) (A := none) (n := 0) (c := 0) (o := []) (by simp) 0; have fp1 := hm5.boxFree (t := 25) (g := w2.heap.size) (b := 0) (A := none) (n := 0) (c := 0) (o := []) (by simp) 1; have fp2 := hm5.boxFree (t := 25) (g := w2.heap.size) (b := 0) (A := none) (n := 0) (c := 0) (o := []) (by simp) 2; have lp := World.block_lt_of_cell? w5 _ p0; obtain ⟨r0, r1, r2⟩ := hm5.boxAt (t := 25) (g := w4.heap.size) (b := 0) (A := none) (n := 0) (c := 0) (o := []) (by simp); have fr0 := hm5.boxFree (t := 25) (g := w4.heap.size) (b := 0) (A := none) (n := 0) (c := 0) (o := []) (by simp) 0; have fr1 := hm5.boxFree (t := 25) (g := w4.heap.size) (b := 0) (A := none) (n := 0) (c := 0) (o := []) (by simp) 1; have fr2 := hm5.boxFree (t := 25) (g := w4.heap.size) (b := 0) (A := none) (n := 0) (c := 0) (o := []) (by simp) 2; have lr := World.block_lt_of_cell? w5 _ r0)
          | (go_at_call 23; (with_reducible refine (HS2.out _ _ hm42 (by (repeat' (first | (with_reducible exact hB5) | (with_reducible exact hB4) | (with_reducible exact Below.refl _ _) | (with_reducible refine Below.drew ?_) | (with_reducible refine Below.setCell ?_ (by first | omega | (simp <;> omega)) _) | (with_reducible refine Below.alloc ?_ (by first | omega | (simp <;> omega)) _))))).mono ?_); rintro e w5 ⟨A6, n6, c6, r6, rfl, hm5, hx6, hB5⟩; have l5 := hB5.size; obtain ⟨p0, p1, p2⟩ := hm5.boxAt (t := 25) (g := w2.heap.size) (b := 0) (A := none) (n := 0) (c := 0) (o := []) (by simp); have fp0 := hm5.boxFree (t := 25) (g := w2.heap.size) (b := 0) (A := none) (n := 0) (c := 0) (o := []) (by simp) 0; have fp1 := hm5.boxFree (t := 25) (g := w2.heap.size) (b := 0) (A := none) (n := 0) (c := 0) (o := []) (by simp) 1; have fp2 := hm5.boxFree (t := 25) (g := w2.heap.size) (b := 0) (A := none) (n := 0) (c := 0) (o := []) (by simp) 2; have lp := World.block_lt_of_cell? w5 _ p0; obtain ⟨q0, q1, q2⟩ := hm5.boxAt (t := 25) (g := w2.heap.size + 1) (b := 0) (A := none) (n := 0) (c := 0) (o := []) (by simp); have fq0 := hm5.boxFree (t := 25) (g := w2.heap.size + 1) (b := 0) (A := none) (n := 0) (c := 0) (o := []) (by simp) 0; have fq1 := hm5.boxFree (t := 25) (g := w2.heap.size + 1) (b := 0) (A := none) (n := 0) (c := 0) (o := []) (by simp) 1; have fq2 := hm5.boxFree (t := 25) (g := w2.heap.size + 1) (b := 0) (A := none) (n := 0) (c := 0) (o := []) (by simp) 2; have lq := World.block_lt_of_cell? w5 _ q0))
      · have h := (hm5.box 25 (bm : Int) A5 n5 c5 oA).box 25 (bm : Int) A6 n6 c6 oB
        have HP := Lib.hid h
        have HX5 := Lib.hid hx5
        have HX6 := Lib.hid hx6
        clear hm5 hx5 hx6 h
        go_wp2_with fail
        go_meet
        exact ⟨_, _, A5, A6, n5, c5, n6, c6, r5, r6, _, rfl, rfl, HP.out, by simp, by simp, by simp, fun r hr => by simp [hr], by simp, fun r hr => by simp [hr], HX5, HX6⟩
      · have h := (hm5.box 25 (bm : Int) A6 n6 c6 oB).box 25 (bm : Int) A5 n5 c5 oA
        have HP := Lib.hid h
        have HX5 := Lib.hid hx5
        have HX6 := Lib.hid hx6
        clear hm5 hx5 hx6 h
        go_wp2_with fail
        go_meet
        exact ⟨_, _, A5, A6, n5, c5, n6, c6, r5, r6, _, rfl, rfl, HP.out, by simp, by simp, by simp, fun r hr => by simp [hr], by simp, fun r hr => by simp [hr], HX5, HX6⟩
      · have h0 := Mem.boxAll (pre := ((⟨54, A6, n6, c6, r6.map SVal⟩ :: r6) : List Row)) (post := ((⟨54, A5, n5, c5, r5.map SVal⟩ :: r5) ++ [BoxR 25 g2 (bm : Int) B m d o', BoxR 25 g1 (bm : Int) A n c o] : List Row)) (t := 25) (g := w4.heap.size) (b := 0) (A := none) (n := 0) (c := 0) (o := []) (by simpa using hm5) (bm : Int) A5 n5 c5 oA
        have h := h0.box 25 (bm : Int) A6 n6 c6 oB
        have HP := Lib.hid h
        have HX5 := Lib.hid hx5
        have HX6 := Lib.hid hx6
        clear hm5 hx5 hx6 h
        go_wp2_with fail
        go_meet
        exact ⟨_, _, A5, A6, n5, c5, n6, c6, r5, r6, _, rfl, rfl, HP.out, by simp, by simp, by simp, fun r hr => by simp [hr], by simp, fun r hr => by simp [hr], HX5, HX6⟩
      · have h0 := Mem.boxAll (pre := ((⟨54, A6, n6, c6, r6.map SVal⟩ :: r6) ++ [BoxR 25 (w4.heap.size + 1) 0 none 0 0 []] : List Row)) (post := ((⟨54, A5, n5, c5, r5.map SVal⟩ :: r5) ++ [BoxR 25 g2 (bm : Int) B m d o', BoxR 25 g1 (bm : Int) A n c o] : List Row)) (t := 25) (g := w4.heap.size) (b := 0) (A := none) (n := 0) (c := 0) (o := []) (by simpa using hm5) (bm : Int) A5 n5 c5 oA
        have h1 := Mem.boxAll (pre := ((⟨54, A6, n6, c6, r6.map SVal⟩ :: r6) : List Row)) (post := ([BoxR 25 (w4.heap.size) (bm : Int) A5 n5 c5 oA] ++ (⟨54, A5, n5, c5, r5.map SVal⟩ :: r5) ++ [BoxR 25 g2 (bm : Int) B m d o', BoxR 25 g1 (bm : Int) A n c o] : List Row)) (t := 25) (g := w4.heap.size + 1) (b := 0) (A := none) (n := 0) (c := 0) (o := []) (by simpa using h0) (bm : Int) A6 n6 c6 oB
        have h := h1
        have HP := Lib.hid h
        have HX5 := Lib.hid hx5
        have HX6 := Lib.hid hx6
        clear hm5 hx5 hx6 h
        go_wp2_with fail
        go_meet
        exact ⟨_, _, A5, A6, n5, c5, n6, c6, r5, r6, _, rfl, rfl, HP.out, by simp, by simp, by simp, fun r hr => by simp [hr], by simp, fun r hr => by simp [hr], HX5, HX6⟩
      · have h0 := Mem.boxAll (pre := ((⟨54, A6, n6, c6, r6.map SVal⟩ :: r6) : List Row)) (post := ((⟨54, A5, n5, c5, r5.map SVal⟩ :: r5) ++ [BoxR 25 g2 (bm : Int) B m d o', BoxR 25 g1 (bm : Int) A n c o] : List Row)) (t := 25) (g := w4.heap.size) (b := 0) (A := none) (n := 0) (c := 0) (o := []) (by simpa using hm5) (bm : Int) A6 n6 c6 oB
        have h := h0.box 25 (bm : Int) A5 n5 c5 oA
        have HP := Lib.hid h
        have HX5 := Lib.hid hx5
        have HX6 := Lib.hid hx6
        clear hm5 hx5 hx6 h
        go_wp2_with fail
        go_meet
        exact ⟨_, _, A5, A6, n5, c5, n6, c6, r5, r6, _, rfl, rfl, HP.out, by simp, by simp, by simp, fun r hr => by simp [hr], by simp, fun r hr => by simp [hr], HX5, HX6⟩
      · have h0 := Mem.boxAll (pre := ((⟨54, A6, n6, c6, r6.map SVal⟩ :: r6) : List Row)) (post := ([BoxR 25 (w4.heap.size) 0 none 0 0 []] ++ (⟨54, A5, n5, c5, r5.map SVal⟩ :: r5) ++ [BoxR 25 g2 (bm : Int) B m d o', BoxR 25 g1 (bm : Int) A n c o] : List Row)) (t := 25) (g := w4.heap.size + 1) (b := 0) (A := none) (n := 0) (c := 0) (o := []) (by simpa using hm5) (bm : Int) A5 n5 c5 oA
        have h1 := Mem.boxAll (pre := ((⟨54, A6, n6, c6, r6.map SVal⟩ :: r6) ++ [BoxR 25 (w4.heap.size + 1) (bm : Int) A5 n5 c5 oA] : List Row)) (post := ((⟨54, A5, n5, c5, r5.map SVal⟩ :: r5) ++ [BoxR 25 g2 (bm : Int) B m d o', BoxR 25 g1 (bm : Int) A n c o] : List Row)) (t := 25) (g := w4.heap.size) (b := 0) (A := none) (n := 0) (c := 0) (o := []) (by simpa using h0) (bm : Int) A6 n6 c6 oB
        have h := h1
        have HP := Lib.hid h
        have HX5 := Lib.hid hx5
        have HX6 := Lib.hid hx6
        clear hm5 hx5 hx6 h
        go_wp2_with fail
        go_meet
        exact ⟨_, _, A5, A6, n5, c5, n6, c6, r5, r6, _, rfl, rfl, HP.out, by simp, by simp, by simp, fun r hr => by simp [hr], by simp, fun r hr => by simp [hr], HX5, HX6⟩
      · have h0 := Mem.boxAll (pre := ((⟨54, A6, n6, c6, r6.map SVal⟩ :: r6) ++ (⟨54, A5, n5, c5, r5.map SVal⟩ :: r5) : List Row)) (post := ([BoxR 25 g2 (bm : Int) B m d o', BoxR 25 g1 (bm : Int) A n c o] : List Row)) (t := 25) (g := w2.heap.size) (b := 0) (A := none) (n := 0) (c := 0) (o := []) (by simpa using hm5) (bm : Int) A5 n5 c5 oA
        have h := h0.box 25 (bm : Int) A6 n6 c6 oB
        have HP := Lib.hid h
        have HX5 := Lib.hid hx5
        have HX6 := Lib.hid hx6
        clear hm5 hx5 hx6 h
        go_wp2_with fail
        go_meet
        exact ⟨_, _, A5, A6, n5, c5, n6, c6, r5, r6, _, rfl, rfl, HP.out, by simp, by simp, by simp, fun r hr => by simp [hr], by simp, fun r hr => by simp [hr], HX5, HX6⟩
      · have h0 := Mem.boxAll (pre := ((⟨54, A6, n6, c6, r6.map SVal⟩ :: r6) ++ [BoxR 25 (w4.heap.size) 0 none 0 0 []] ++ (⟨54, A5, n5, c5, r5.map SVal⟩ :: r5) : List Row)) (post := ([BoxR 25 g2 (bm : Int) B m d o', BoxR 25 g1 (bm : Int) A n c o] : List Row)) (t := 25) (g := w2.heap.size) (b := 0) (A := none) (n := 0) (c := 0) (o := []) (by simpa using hm5) (bm : Int) A5 n5 c5 oA
        have h1 := Mem.boxAll (pre := ((⟨54, A6, n6, c6, r6.map SVal⟩ :: r6) : List Row)) (post := ((⟨54, A5, n5, c5, r5.map SVal⟩ :: r5) ++ [BoxR 25 (w2.heap.size) (bm : Int) A5 n5 c5 oA] ++ [BoxR 25 g2 (bm : Int) B m d o', BoxR 25 g1 (bm : Int) A n c o] : List Row)) (t := 25) (g := w4.heap.size) (b := 0) (A := none) (n := 0) (c := 0) (o := []) (by simpa using h0) (bm : Int) A6 n6 c6 oB
        have h := h1
        have HP := Lib.hid h
        have HX5 := Lib.hid hx5
        have HX6 := Lib.hid hx6
        clear hm5 hx5 hx6 h
        go_wp2_with fail
        go_meet
        exact ⟨_, _, A5, A6, n5, c5, n6, c6, r5, r6, _, rfl, rfl, HP.out, by simp, by simp, by simp, fun r hr => by simp [hr], by simp, fun r hr => by simp [hr], HX5, HX6⟩
      · have h0 := Mem.boxAll (pre := ((⟨54, A6, n6, c6, r6.map SVal⟩ :: r6) ++ (⟨54, A5, n5, c5, r5.map SVal⟩ :: r5) ++ [BoxR 25 (w2.heap.size + 1) 0 none 0 0 []] : List Row)) (post := ([BoxR 25 g2 (bm : Int) B m d o', BoxR 25 g1 (bm : Int) A n c o] : List Row)) (t := 25) (g := w2.heap.size) (b := 0) (A := none) (n := 0) (c := 0) (o := []) (by simpa using hm5) (bm : Int) A5 n5 c5 oA
        have h1 := Mem.boxAll (pre := ((⟨54, A6, n6, c6, r6.map SVal⟩ :: r6) ++ (⟨54, A5, n5, c5, r5.map SVal⟩ :: r5) : List Row)) (post := ([BoxR 25 (w2.heap.size) (bm : Int) A5 n5 c5 oA] ++ [BoxR 25 g2 (bm : Int) B m d o', BoxR 25 g1 (bm : Int) A n c o] : List Row)) (t := 25) (g := w2.heap.size + 1) (b := 0) (A := none) (n := 0) (c := 0) (o := []) (by simpa using h0) (bm : Int) A6 n6 c6 oB
        have h := h1
        have HP := Lib.hid h
        have HX5 := Lib.hid hx5
        have HX6 := Lib.hid hx6
        clear hm5 hx5 hx6 h
        go_wp2_with fail
        go_meet
        exact ⟨_, _, A5, A6, n5, c5, n6, c6, r5, r6, _, rfl, rfl, HP.out, by simp, by simp, by simp, fun r hr => by simp [hr], by simp, fun r hr => by simp [hr], HX5, HX6⟩
      · have h0 := Mem.boxAll (pre := ((⟨54, A6, n6, c6, r6.map SVal⟩ :: r6) ++ (⟨54, A5, n5, c5, r5.map SVal⟩ :: r5) : List Row)) (post := ([BoxR 25 g2 (bm : Int) B m d o', BoxR 25 g1 (bm : Int) A n c o] : List Row)) (t := 25) (g := w2.heap.size) (b := 0) (A := none) (n := 0) (c := 0) (o := []) (by simpa using hm5) (bm : Int) A6 n6 c6 oB
        have h := h0.box 25 (bm : Int) A5 n5 c5 oA
        have HP := Lib.hid h
        have HX5 := Lib.hid hx5
        have HX6 := Lib.hid hx6
        clear hm5 hx5 hx6 h
        go_wp2_with fail
        go_meet
        exact ⟨_, _, A5, A6, n5, c5, n6, c6, r5, r6, _, rfl, rfl, HP.out, by simp, by simp, by simp, fun r hr => by simp [hr], by simp, fun r hr => by simp [hr], HX5, HX6⟩
      · have h0 := Mem.boxAll (pre := ((⟨54, A6, n6, c6, r6.map SVal⟩ :: r6) : List Row)) (post := ((⟨54, A5, n5, c5, r5.map SVal⟩ :: r5) ++ [BoxR 25 (w2.heap.size) 0 none 0 0 []] ++ [BoxR 25 g2 (bm : Int) B m d o', BoxR 25 g1 (bm : Int) A n c o] : List Row)) (t := 25) (g := w4.heap.size) (b := 0) (A := none) (n := 0) (c := 0) (o := []) (by simpa using hm5) (bm : Int) A5 n5 c5 oA
        have h1 := Mem.boxAll (pre := ((⟨54, A6, n6, c6, r6.map SVal⟩ :: r6) ++ [BoxR 25 (w4.heap.size) (bm : Int) A5 n5 c5 oA] ++ (⟨54, A5, n5, c5, r5.map SVal⟩ :: r5) : List Row)) (post := ([BoxR 25 g2 (bm : Int) B m d o', BoxR 25 g1 (bm : Int) A n c o] : List Row)) (t := 25) (g := w2.heap.size) (b := 0) (A := none) (n := 0) (c := 0) (o := []) (by simpa using h0) (bm : Int) A6 n6 c6 oB
        have h := h1
        have HP := Lib.hid h
        have HX5 := Lib.hid hx5
        have HX6 := Lib.hid hx6
        clear hm5 hx5 hx6 h
        go_wp2_with fail
        go_meet
        exact ⟨_, _, A5, A6, n5, c5, n6, c6, r5, r6, _, rfl, rfl, HP.out, by simp, by simp, by simp, fun r hr => by simp [hr], by simp, fun r hr => by simp [hr], HX5, HX6⟩
      · have h0 := Mem.boxAll (pre := ((⟨54, A6, n6, c6, r6.map SVal⟩ :: r6) ++ (⟨54, A5, n5, c5, r5.map SVal⟩ :: r5) : List Row)) (post := ([BoxR 25 (w2.heap.size) 0 none 0 0 []] ++ [BoxR 25 g2 (bm : Int) B m d o', BoxR 25 g1 (bm : Int) A n c o] : List Row)) (t := 25) (g := w2.heap.size + 1) (b := 0) (A := none) (n := 0) (c := 0) (o := []) (by simpa using hm5) (bm : Int) A5 n5 c5 oA
        have h1 := Mem.boxAll (pre := ((⟨54, A6, n6, c6, r6.map SVal⟩ :: r6) ++ (⟨54, A5, n5, c5, r5.map SVal⟩ :: r5) ++ [BoxR 25 (w2.heap.size + 1) (bm : Int) A5 n5 c5 oA] : List Row)) (post := ([BoxR 25 g2 (bm : Int) B m d o', BoxR 25 g1 (bm : Int) A n c o] : List Row)) (t := 25) (g := w2.heap.size) (b := 0) (A := none) (n := 0) (c := 0) (o := []) (by simpa using h0) (bm : Int) A6 n6 c6 oB
        have h := h1
        have HP := Lib.hid h
        have HX5 := Lib.hid hx5
        have HX6 := Lib.hid hx6
        clear hm5 hx5 hx6 h
        go_wp2_with fail
        go_meet
        exact ⟨_, _, A5, A6, n5, c5, n6, c6, r5, r6, _, rfl, rfl, HP.out, by simp, by simp, by simp, fun r hr => by simp [hr], by simp, fun r hr => by simp [hr], HX5, HX6⟩
    case rest => as_aux_lemma =>
      obtain ⟨g5, g6, A5, A6, n5, c5, n6, c6, r5, r6, L, rfl, rfl, hm, m5, m6, p5, q5, p6, q6, HX5, HX6⟩ := hcut
      have HM := Lib.hid hm
      obtain ⟨bx0, bx1, bx2⟩ := HM.out.boxAt m5
      obtain ⟨by0, by1, by2⟩ := HM.out.boxAt m6
      have HN5 := Lib.hid (show n5 = (smTab x o bm).length from grid_n HM.out p5 HX5.out)
      have HN6 := Lib.hid (show n6 = (smTab y o' bm).length from grid_n HM.out p6 HX6.out)
      have HI5 := Lib.hid (gin_of HM.out p5 q5 HX5.out (by have := HSa.out.1; have := HN5.out; omega) (fun z hz => by have := HSa.out.2 z hz; omega))
      have HI6 := Lib.hid (gin_of HM.out p6 q6 HX6.out (by have := HSb.out.1; have := HN6.out; omega) (fun z hz => by have := HSb.out.2 z hz; omega))
      have HE := Lib.hid (equalG_any A5 A6 n5 n6 c5 c6 _ _ wc HI5.out HI6.out)
      clear hm m5 m6 p5 q5 p6 q6 HI5 HI6 HC0 HC1 HC2 HS1 HS2 HK HX5 HX6 HN5 HN6
      obtain ⟨eq, heq⟩ : ∃ eq, eq = (smTab x o bm == smTab y o' bm) := ⟨_, rfl⟩
      rw [← heq] at HE HR3
      clear heq
      cases ho3 : (oA == oB)
      case false =>
        have HN := Lib.hid (show res = false by rw [HR3.out, ho3]; rfl)
        clear HR3
        go_wp2
        go_ret
        exact ⟨by (rw [HN.out]; try rfl), HM.out.bel⟩
      case true =>
        have HN := Lib.hid (show res = eq by rw [HR3.out, ho3]; rfl)
        clear HR3
        go_wp2_with (go_at_call 25; (with_reducible refine HE.out.mono ?_); rintro e w9 ⟨rfl, hb9⟩)
        go_ret
        exact ⟨by (rw [HN.out]; try rfl), HM.out.bel.trans (hb9.mono HM.out.bel.size)⟩
end Go.Proofs.YtcicoplmpinnmaaDoor
