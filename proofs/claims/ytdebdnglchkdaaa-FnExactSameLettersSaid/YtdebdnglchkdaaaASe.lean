/-
  Contracts of slices.EqualFunc over rows of numbers, of the reference's l18Equal and SameLetters. No conditions beyond slices that can be read.
-/
import Derived.Test.YtdebdnglchkdaaaASmS
import Derived.Test.YtdebdnglchkdaaaACls
import Derived.Test.YtdebdnglchkdaaaASmW
namespace Go.Proofs.Ytdebdnglchkdaaa
open Go.RowKit

set_option maxRecDepth 4096 in
set_option maxHeartbeats 1600000 in
theorem equalG_any (A B : Option Addr) (n m c d : Nat) (zss yss : Tab) (w : World) (ha : GIn w A n c zss) (hb : GIn w B m d yss) :
    Calls Try.prog 45 #[.slice A n c, .slice B m d, .func (.func 46) #[] #[]] w fun e w' => e = .returned (.bool (zss == yss)) ∧ Below w.heap.size w w' := by
  have HA := Lib.hid ha
  have HB := Lib.hid hb
  have HLa := Lib.hid ha.len
  have HLb := Lib.hid hb.len
  have hn := ha.choose_spec.2.2.1
  have hm := hb.choose_spec.2.2.1
  obtain ⟨res, hres⟩ : ∃ res, res = (zss == yss) := ⟨_, rfl⟩
  rw [← hres]
  have HR := Lib.hid hres
  clear ha hb hres
  by_cases hnm : n = m
  · subst hnm
    go_enter Try.func45, Try.ntmps45
    go_wp2
    go_loopw [17] (fun i wr => ∃ k : Nat, k ≤ n ∧ i = .int .i64 k ∧ Below w.heap.size w wr ∧ Hid (∀ j (h1 : j < zss.length) (h2 : j < yss.length), j < k → zss[j] = yss[j])) (fun i _ => n - (intOf i).toNat)
    case atStart => exact ⟨0, Nat.zero_le _, rfl, Below.refl _ _, Lib.hid (fun j h1 h2 hj => absurd hj (Nat.not_lt_zero _))⟩
    case round =>
      obtain ⟨k, hk, rfl, hbel, HS⟩ := hrel
      have HBel := Lib.hid hbel
      by_cases hlt : k < n
      · have hx : k < zss.length := by rw [HLa.out]; exact hlt
        have hy : k < yss.length := by rw [HLb.out]; exact hlt
        obtain ⟨a, A1, m1, c1, rfl, hab, hca, hrd, hzl⟩ := (HA.out.later hbel).at hx
        obtain ⟨b, A2, m2, c2, rfl, hbb, hcb, hrd2, hzl2⟩ := (HB.out.later hbel).at hy
        have HY := Lib.hid (fun (he : zss[k] = yss[k]) => show ∀ j (h1 : j < zss.length) (h2 : j < yss.length), j < k + 1 → zss[j] = yss[j] from fun j h1 h2 hj => by
          by_cases hjk : j = k
          · subst hjk; exact he
          · exact HS.out j h1 h2 (by omega))
        have HN := Lib.hid (fun (he : ¬ zss[k] = yss[k]) => show res = false by
          rw [HR.out, beq_eq_false_iff_ne]
          intro h
          subst h
          exact he rfl)
        have HC := Lib.hid (equalI_any A1 A2 m1 m2 c1 c2 _ _ wr hrd hrd2 (by rw [← hrd.lenI]; exact hzl) (by rw [← hrd2.lenI]; exact hzl2))
        obtain ⟨u, hu⟩ : ∃ u, u = zss[k] := ⟨_, rfl⟩
        obtain ⟨v, hv⟩ : ∃ v, v = yss[k] := ⟨_, rfl⟩
        rw [← hu] at HY HN HC
        rw [← hv] at HY HN HC
        have i1 : (0 : Int) ≤ (k : Int) := by omega
        have i2 : (k : Int) < (n : Int) := by omega
        clear hu hv hbel HS hrd hrd2 hzl hzl2
        cases he : (u == v)
        · have HN2 := Lib.hid (HN.out (beq_eq_false_iff_ne.1 he))
          rw [he] at HC
          clear he HY HN
          go_wp2_with (go_at_call 46; refine HC.out.mono ?_; rintro e w7 ⟨rfl, hb7⟩)
          go_ret
          exact ⟨by (rw [HN2.out]; try rfl), HBel.out.trans (hb7.mono HBel.out.size)⟩
        · have HY2 := Lib.hid (HY.out (eq_of_beq he))
          rw [he] at HC
          clear he HY HN
          go_wp2_with (go_at_call 46; refine HC.out.mono ?_; rintro e w7 ⟨rfl, hb7⟩)
          exact ⟨⟨k + 1, by omega, by go_num, HBel.out.trans (hb7.mono HBel.out.size), HY2⟩, by simp [intOf]; omega⟩
      · have HE := Lib.hid (show res = true by
          rw [HR.out, beq_iff_eq]
          have h1 := HLa.out
          have h2 := HLb.out
          exact List.ext_getElem (by omega) (fun j h3 h4 => HS.out j h3 h4 (by omega)))
        clear hbel
        go_wp2
        go_ret
        exact ⟨by (rw [HE.out]; try rfl), HBel.out⟩
  · have HN := Lib.hid (show res = false by
      rw [HR.out, beq_eq_false_iff_ne]
      intro h
      subst h
      exact hnm (HLa.out.symm.trans HLb.out))
    have d1 : ((n : Int) != (m : Int)) = true := by simp; omega
    go_enter Try.func45, Try.ntmps45
    go_wp2
    go_ret
    exact ⟨by (rw [HN.out]; try rfl), Below.refl _ _⟩
set_option maxRecDepth 4096 in
set_option maxHeartbeats 3200000 in
theorem l18Equal_any (b b' : Int) (A B : Option Addr) (n m c d q : Nat) (zss yss : Tab) (o o' : List UInt8) (w : World) (ha : GIn w A n c zss) (hb : GIn w B m d yss) (hz : ∀ z ∈ zss, z.length = q) (hy : b = b' → ∀ z ∈ yss, z.length = q) :
    Calls Try.prog 43 #[AutoV b A n c o, AutoV b' B m d o'] w fun e w' => e = .returned (.bool (b == b' && (o == o' && zss == yss))) ∧ Below w.heap.size w w' := by
  have HM0 := Lib.hid (((Mem.start w).box 27 b A n c o).box 27 b' B m d o')
  rw [show (w.alloc (.cells #[.int .i64 b, .slice A n c, .string ⟨o.toArray⟩] 27)).heap.size = w.heap.size + 1 by simp] at HM0
  have HLa := Lib.hid ha.len
  have HLb := Lib.hid hb.len
  have hn := ha.choose_spec.2.2.1
  have hm := hb.choose_spec.2.2.1
  have HZ := Lib.hid hz
  have HY := Lib.hid hy
  have HA := Lib.hid ha
  have HB := Lib.hid hb
  obtain ⟨res, hres⟩ : ∃ res, res = (b == b' && (o == o' && zss == yss)) := ⟨_, rfl⟩
  rw [← hres]
  have HR := Lib.hid hres
  clear ha hb hres hz hy
  cases g1 : (b == b')
  case false =>
    have d1 : (b != b') = true := by simp only [bne, g1]; rfl
    have HN := Lib.hid (show res = false by rw [HR.out, g1]; rfl)
    clear g1
    go_enter Try.func43, Try.ntmps43
    go_wp2
    go_ret
    exact ⟨by (rw [HN.out]; try rfl), HM0.out.bel⟩
  case true =>
    have d1 : (b != b') = false := by simp only [bne, g1]; rfl
    cases g2 : (o == o')
    case false =>
      have d2 : (o != o') = true := by simp only [bne, g2]; rfl
      have HN := Lib.hid (show res = false by rw [HR.out, g1, g2]; rfl)
      clear g1
      go_enter Try.func43, Try.ntmps43
      go_wp2
      go_ret
      exact ⟨by (rw [HN.out]; try rfl), HM0.out.bel⟩
    case true =>
      have d2 : (o != o') = false := by simp only [bne, g2]; rfl
      have HR2 := Lib.hid (show res = (zss == yss) by rw [HR.out, g1, g2]; rfl)
      have HY2 := Lib.hid (HY.out (eq_of_beq g1))
      clear g1
      by_cases hnm : n = m
      · subst hnm
        obtain ⟨bx0, bx1, bx2⟩ := HM0.out.boxAt (t := 27) (g := w.heap.size) (b := b) (A := A) (n := n) (c := c) (o := o) (by simp)
        obtain ⟨by0, by1, by2⟩ := HM0.out.boxAt (t := 27) (g := w.heap.size + 1) (b := b') (A := B) (n := n) (c := d) (o := o') (by simp)
        have HGA := Lib.hid (HA.out.later HM0.out.bel)
        have HGB := Lib.hid (HB.out.later HM0.out.bel)
        have HBe := Lib.hid HM0.out.bel
        obtain ⟨w2, hw2⟩ : ∃ w2, w2 = (w.alloc (.cells #[.int .i64 b, .slice A n c, .string ⟨o.toArray⟩] 27)).alloc (.cells #[.int .i64 b', .slice B n d, .string ⟨o'.toArray⟩] 27) := ⟨_, rfl⟩
        rw [← hw2] at HGA HGB HBe bx0 bx1 bx2 by0 by1 by2
        have HW2 := Lib.hid hw2
        have hb0 : b ≤ 9223372036854775807 ∨ True := Or.inr trivial
        clear hw2 HM0 HA HB hb0
        go_enter Try.func43, Try.ntmps43
        go_wp2
        rw [← HW2.out]
        clear HW2
        go_loop [33] (fun i => ∃ k : Nat, k ≤ n ∧ i = .int .i64 k ∧ Hid (∀ j (h1 : j < zss.length) (h2 : j < yss.length), j < k → zss[j] = yss[j])) (fun i => n - (intOf i).toNat)
        case atStart => exact ⟨0, Nat.zero_le _, rfl, Lib.hid (fun j h1 h2 hj => absurd hj (Nat.not_lt_zero _))⟩
        case round =>
          obtain ⟨k, hk, rfl, HS⟩ := hrel
          by_cases hlt : k < n
          · have hx : k < zss.length := by rw [HLa.out]; exact hlt
            have hy : k < yss.length := by rw [HLb.out]; exact hlt
            obtain ⟨a, A1, m1, c1, rfl, hab, hca, hrd, hzl⟩ := HGA.out.at hx
            obtain ⟨a', A2, m2, c2, rfl, hbb, hcb, hrd2, hzl2⟩ := HGB.out.at hy
            have hq1 := HZ.out _ (List.getElem_mem hx)
            have hq2 := HY2.out _ (List.getElem_mem hy)
            have HYk := Lib.hid (fun (he : zss[k] = yss[k]) => show ∀ j (h1 : j < zss.length) (h2 : j < yss.length), j < k + 1 → zss[j] = yss[j] from fun j h1 h2 hj => by
              by_cases hjk : j = k
              · subst hjk; exact he
              · exact HS.out j h1 h2 (by omega))
            have HNk := Lib.hid (fun (he : ¬ zss[k] = yss[k]) => show res = false by
              rw [HR2.out, beq_eq_false_iff_ne]
              intro h
              subst h
              exact he rfl)
            obtain ⟨u, hu⟩ : ∃ u, u = zss[k] := ⟨_, rfl⟩
            obtain ⟨v, hv⟩ : ∃ v, v = yss[k] := ⟨_, rfl⟩
            rw [← hu] at HYk HNk hrd hq1 hzl
            rw [← hv] at HYk HNk hrd2 hq2 hzl2
            have hm1 : m1 = q := by rw [← hq1]; exact hrd.lenI.symm
            have hm2 : m2 = q := by rw [← hq2]; exact hrd2.lenI.symm
            have hq20 : q ≤ 1048576 := by rw [← hq1]; exact hzl
            have HU := Lib.hid hrd
            have HV := Lib.hid hrd2
            have HUl := Lib.hid hq1
            have HVl := Lib.hid hq2
            subst hm1
            subst hm2
            clear hu hv HS hrd hrd2 hzl hzl2 hq1 hq2
            go_wp2
            go_loop [40] (fun i => ∃ j : Nat, j ≤ m2 ∧ i = .int .i64 j ∧ Hid (∀ p (h1 : p < u.length) (h2 : p < v.length), p < j → u[p] = v[p])) (fun i => m2 - (intOf i).toNat)
            case atStart => exact ⟨0, Nat.zero_le _, rfl, Lib.hid (fun j h1 h2 hj => absurd hj (Nat.not_lt_zero _))⟩
            case round =>
              obtain ⟨j, hj, rfl, HS⟩ := hrel
              by_cases hlt2 : j < m2
              · have hju : j < u.length := by rw [HUl.out]; exact hlt2
                have hjv : j < v.length := by rw [HVl.out]; exact hlt2
                obtain ⟨a1, rfl, _, hcx⟩ := HU.out.int hju
                obtain ⟨a2, rfl, _, hcy⟩ := HV.out.int hjv
                have HYj := Lib.hid (fun (he : u[j] = v[j]) => show ∀ p (h1 : p < u.length) (h2 : p < v.length), p < j + 1 → u[p] = v[p] from fun p h1 h2 hp => by
                  by_cases hpj : p = j
                  · subst hpj; exact he
                  · exact HS.out p h1 h2 (by omega))
                have HNj := Lib.hid (fun (he : ¬ u[j] = v[j]) => HNk.out (fun h => he (by subst h; rfl)))
                obtain ⟨x, hx2⟩ : ∃ x, x = u[j] := ⟨_, rfl⟩
                obtain ⟨y, hy2⟩ : ∃ y, y = v[j] := ⟨_, rfl⟩
                rw [← hx2] at hcx HYj HNj
                rw [← hy2] at hcy HYj HNj
                clear hx2 hy2 HS
                by_cases he : x = y
                · have d4 : (y != x) = false := by simp [he]
                  have HYn := Lib.hid (HYj.out he)
                  clear he HYj HNj
                  go_wp2
                  go_round
                  case rel => exact ⟨j + 1, by omega, by go_num, HYn⟩
                  case measure => simp [intOf]; omega
                · have d4 : (y != x) = true := by simp; exact fun h => he h.symm
                  have HNn := Lib.hid (HNj.out he)
                  clear he HYj HNj
                  go_wp2
                  go_ret
                  exact ⟨by (rw [HNn.out]; try rfl), HBe.out⟩
              · have HYn := Lib.hid (HYk.out (List.ext_getElem (by rw [HUl.out, HVl.out]) (fun p h1 h2 => HS.out p h1 h2 (by rw [HUl.out] at h1; omega))))
                go_wp2
                go_round
                case rel => exact ⟨k + 1, by omega, by go_num, HYn⟩
                case measure => simp [intOf]; omega
          · have HE := Lib.hid (show res = true by
              rw [HR2.out, beq_iff_eq]
              have h1 := HLa.out
              have h2 := HLb.out
              exact List.ext_getElem (by omega) (fun j h3 h4 => HS.out j h3 h4 (by omega)))
            go_wp2
            go_ret
            exact ⟨by (rw [HE.out]; try rfl), HBe.out⟩
      · have HN := Lib.hid (show res = false by
          rw [HR2.out, beq_eq_false_iff_ne]
          intro h
          subst h
          exact hnm (HLa.out.symm.trans HLb.out))
        have d3 : ((n : Int) != (m : Int)) = true := by simp; omega
        go_enter Try.func43, Try.ntmps43
        go_wp2
        go_ret
        exact ⟨by (rw [HN.out]; try rfl), HM0.out.bel⟩
theorem smT_row (b : Int) (zss : Tab) (o : List UInt8) : ∀ z ∈ smT b zss o, z.length = (smB b zss o).toNat := by
  unfold smT smB
  split
  · rename_i h
    obtain ⟨bn, rfl, hg, _, _⟩ := aOk_good h
    intro z hz
    unfold smTab at hz
    obtain ⟨r, hr, rfl⟩ := List.mem_map.1 hz
    have h1 := gRows_row (q := qS) (nx := nxS zss o bn) (st := clN zss o bn 0) (m := bn) (fun s => nxS_len s) zss.length r hr
    simp; omega
  · intro z hz; simp at hz
def sameL (b : Int) (x : Tab) (o : List UInt8) (b' : Int) (y : Tab) (o' : List UInt8) : Bool :=
  aOk b x o && (aOk b' y o' && (smB b x o == smB b' y o' && (smO b x o == smO b' y o' && smT b x o == smT b' y o')))
set_option maxRecDepth 4096 in
set_option maxHeartbeats 3200000 in
theorem cSameS (b b' : Int) (A B : Option Addr) (n m c d : Nat) (x y : Tab) (o o' : List UInt8) (W : World) (ha : GIn W A n c x) (hb : GIn W B m d y) (ho : o.length ≤ 9223372036854775807) (ho' : o'.length ≤ 9223372036854775807) :
    Calls Try.prog 20 #[AutoV b A n c o, AutoV b' B m d o'] W fun e w' => e = .returned (.bool (sameL b x o b' y o')) ∧ Below W.heap.size W w' := by
  obtain ⟨res, hres⟩ : ∃ res, res = sameL b x o b' y o' := ⟨_, rfl⟩
  rw [← hres]
  have HR := Lib.hid (show res = (aOk b x o && (aOk b' y o' && (smB b x o == smB b' y o' && (smO b x o == smO b' y o' && smT b x o == smT b' y o')))) from hres)
  have HM0 := Lib.hid (((Mem.start W).box 27 b A n c o).box 27 b' B m d o')
  rw [show (W.alloc (.cells #[.int .i64 b, .slice A n c, .string ⟨o.toArray⟩] 27)).heap.size = W.heap.size + 1 by simp] at HM0
  have HC1 := Lib.hid (cSmallS b A n c x o _ (ha.later HM0.out.bel) ho)
  have HB := Lib.hid hb
  have HSa := Lib.hid (smT_small b x o)
  have HSb := Lib.hid (smT_small b' y o')
  have HRa := Lib.hid (smT_row b x o)
  have HRb := Lib.hid (smT_row b' y o')
  have HC2 := Lib.hid (fun w h => cSmallS b' B m d y o' w h ho')
  clear ha hb hres
  obtain ⟨k1, hk1⟩ : ∃ k, k = aOk b x o := ⟨_, rfl⟩
  obtain ⟨k2, hk2⟩ : ∃ k, k = aOk b' y o' := ⟨_, rfl⟩
  obtain ⟨b1, hb1⟩ : ∃ k, k = smB b x o := ⟨_, rfl⟩
  obtain ⟨b2, hb2⟩ : ∃ k, k = smB b' y o' := ⟨_, rfl⟩
  obtain ⟨o1, ho1⟩ : ∃ k, k = smO b x o := ⟨_, rfl⟩
  obtain ⟨o2, ho2⟩ : ∃ k, k = smO b' y o' := ⟨_, rfl⟩
  obtain ⟨z1, hz1⟩ : ∃ k, k = smT b x o := ⟨_, rfl⟩
  obtain ⟨z2, hz2⟩ : ∃ k, k = smT b' y o' := ⟨_, rfl⟩
  rw [← hk1, ← hk2, ← hb1, ← hb2, ← ho1, ← ho2, ← hz1, ← hz2] at HR
  rw [← hk1, ← hb1, ← ho1, ← hz1] at HC1
  rw [← hk2, ← hb2, ← ho2, ← hz2] at HC2
  rw [← hz1] at HSa HRa
  rw [← hz2] at HSb HRb
  rw [← hb1] at HRa
  rw [← hb2] at HRb
  clear hk1 hk2 hb1 hb2 ho1 ho2 hz1 hz2
  obtain ⟨g1, hg1⟩ : ∃ g, g = W.heap.size := ⟨_, rfl⟩
  obtain ⟨g2, hg2⟩ : ∃ g, g = W.heap.size + 1 := ⟨_, rfl⟩
  rw [← hg2, ← hg1] at HM0
  have HG1 := Lib.hid hg1
  have HG2 := Lib.hid hg2
  clear hg1 hg2
  go_enter Try.func20, Try.ntmps20
  go_wp2_with fail
  rw [← HG2.out, ← HG1.out]
  clear HG1 HG2
  refine HC1.out.mono ?_
  rintro e w1 ⟨A1, n1, c1, r1, rfl, hm1, hx1⟩
  have HX1 := Lib.hid hx1
  have HM1 := Lib.hid ((HM0.out.addAll hm1).box 27 b1 A1 n1 c1 o1)
  obtain ⟨by0, by1, by2⟩ := HM1.out.boxAt (t := 27) (g := g2) (b := b') (A := B) (n := m) (c := d) (o := o') (by simp)
  have HC3 := Lib.hid (HC2.out _ (HB.out.later HM1.out.bel))
  obtain ⟨g5, hg5⟩ : ∃ g, g = w1.heap.size := ⟨_, rfl⟩
  rw [← hg5] at HM1
  have HG5 := Lib.hid hg5
  clear hg5 hm1 hx1 HM0 HC1 HC2
  go_wp2_with fail
  rw [← HG5.out]
  clear HG5
  refine HC3.out.mono ?_
  rintro e w2 ⟨A2, n2, c2, r2, rfl, hm2, hx2⟩
  have HX2 := Lib.hid hx2
  have HM2 := Lib.hid ((HM1.out.addAll hm2).box 27 b2 A2 n2 c2 o2)
  obtain ⟨bx0, bx1, bx2⟩ := HM2.out.boxAt (t := 27) (g := g5) (b := b1) (A := A1) (n := n1) (c := c1) (o := o1) (by simp)
  have HN1 := Lib.hid (show n1 = z1.length from grid_n HM2.out (e := 58) (A := A1) (c := c1) (rs := r1) (by simp) HX1.out)
  have HN2 := Lib.hid (show n2 = z2.length from grid_n HM2.out (e := 58) (A := A2) (c := c2) (rs := r2) (by simp) hx2)
  have HI1 := Lib.hid (gin_of HM2.out (e := 58) (A := A1) (n := n1) (c := c1) (rs := r1) (zss := z1) (by simp) (fun r hr => by simp [hr]) HX1.out (by have := HSa.out.1; have := HN1.out; omega) (fun z hz => by have := HSa.out.2 z hz; omega))
  have HI2 := Lib.hid (gin_of HM2.out (e := 58) (A := A2) (n := n2) (c := c2) (rs := r2) (zss := z2) (by simp) (fun r hr => by simp [hr]) HX2.out (by have := HSb.out.1; have := HN2.out; omega) (fun z hz => by have := HSb.out.2 z hz; omega))
  have HE := Lib.hid (l18Equal_any b1 b2 A1 A2 n1 n2 c1 c2 b1.toNat z1 z2 o1 o2 _ HI1.out HI2.out HRa.out (fun h => by rw [h]; exact HRb.out))
  obtain ⟨eq, heq⟩ : ∃ eq, eq = (b1 == b2 && (o1 == o2 && z1 == z2)) := ⟨_, rfl⟩
  rw [← heq] at HE HR
  obtain ⟨g7, hg7⟩ : ∃ g, g = w2.heap.size := ⟨_, rfl⟩
  rw [← hg7] at HM2
  have HG7 := Lib.hid hg7
  clear hg7 hm2 hx2 HM1 HC3 heq by0 by1 by2
  cases k1
  case false =>
    have HN := Lib.hid (show res = false from HR.out)
    clear HE HI1 HI2
    go_wp2
    go_ret
    exact ⟨by (rw [HN.out]; try rfl), HM2.out.bel⟩
  case true =>
    cases k2
    case false =>
      have HN := Lib.hid (show res = false from HR.out)
      clear HE HI1 HI2
      go_wp2
      go_ret
      exact ⟨by (rw [HN.out]; try rfl), HM2.out.bel⟩
    case true =>
      have HN := Lib.hid (show res = eq from HR.out)
      clear HI1 HI2
      go_wp2_with (go_at_call 43; (with_reducible refine HE.out.mono ?_); rintro e w9 ⟨rfl, hb9⟩)
      go_ret
      exact ⟨by (rw [HN.out]; try rfl), HM2.out.bel.trans (hb9.mono HM2.out.bel.size)⟩
end Go.Proofs.Ytdebdnglchkdaaa
