/-
  Contracts of the reference's l18Twice and MakeTwice. Condition: a valid automaton.
-/
import Derived.Test.YtcicoplmpinnmaaDoorAIso
import Derived.Test.YtcicoplmpinnmaaDoorAOf
namespace Go.Proofs.YtcicoplmpinnmaaDoor
open Go.RowKit

/-- what a call that hands back an automaton leaves -/
def RetAu (st : TypeId) (w0 : World) (b : Int) (zss : Tab) (o : List UInt8) (e : Ending) (w' : World) : Prop :=
  ∃ A n c rs, e = .returned (AutoV b A n c o) ∧ Mem w0 w' (⟨st, A, n, c, rs.map SVal⟩ :: rs) ∧ rs.map Row.xs = zss.map ivs
def twVal (x : Tab) (k d : Nat) : Int := ((tab x (k % x.length) d + (k + d) % 2 * x.length : Nat) : Int)
def twUp (x : Tab) (k d : Nat) : List Int := (List.range d).map (twVal x k)
theorem twUp_snoc (x : Tab) (k d : Nat) : twUp x k (d + 1) = twUp x k d ++ [twVal x k d] := by simp [twUp, List.range_succ]
theorem twUp_all (x : Tab) (b k : Nat) : twUp x k b = twRow x b k := rfl
set_option maxRecDepth 4096 in
set_option maxHeartbeats 6400000 in
theorem l18Twice_any (b : Nat) (A : Option Addr) (n c : Nat) (zss : Tab) (o : List UInt8) (hgd : Good b zss) (ho : o.length ≤ 8) (W : World) (hg : GIn W A n c zss) :
    Calls Tryd.prog 28 #[AutoV (b : Int) A n c o] W (RetAu 54 W (b : Int) (twTab zss b) (o ++ o)) := by
  have HM0 := Lib.hid (((Mem.start W).box 25 (b : Int) A n c o).box 25 0 none 0 0 [])
  have HM1 := Lib.hid (HM0.out.box 25 (b : Int) none 0 0 (o ++ o))
  have HG := Lib.hid hg
  have HGd := Lib.hid hgd
  have HLen := Lib.hid hg.len
  have hn := hgd.2.2.1
  have hn8 := hgd.2.2.2.1
  have hb2 := hgd.1
  have hb4 := hgd.2.1
  rw [hg.len] at hn hn8
  obtain ⟨bx0, bx1, bx2⟩ := HM0.out.boxAt (t := 25) (g := W.heap.size) (b := (b : Int)) (A := A) (n := n) (c := c) (o := o) (by simp)
  have hcat : ¬ 9223372036854775807 < o.length + o.length := by omega
  clear hg hgd
  go_enter Tryd.func28, Tryd.ntmps28
  go_wp2_with fail
  rw [show (W.alloc (.cells #[.int .i64 (b : Int), .slice A n c, .string ⟨o.toArray⟩] 25)).heap.size = W.heap.size + 1 by simp, show ((W.alloc (.cells #[.int .i64 (b : Int), .slice A n c, .string ⟨o.toArray⟩] 25)).alloc (.cells #[.int .i64 0, .slice none 0 0, .string ⟨#[]⟩] 25)).heap.size = W.heap.size + 1 + 1 by simp] at HM1
  obtain ⟨oo, hoo⟩ : ∃ oo, oo = o ++ o := ⟨_, rfl⟩
  rw [← hoo] at HM1 ⊢
  obtain ⟨w2, hw2⟩ : ∃ w2, w2 = ((W.alloc (.cells #[.int .i64 (b : Int), .slice A n c, .string ⟨o.toArray⟩] 25)).alloc (.cells #[.int .i64 0, .slice none 0 0, .string ⟨#[]⟩] 25)).alloc (.cells #[.int .i64 (b : Int), .slice none 0 0, .string ⟨oo.toArray⟩] 25) := ⟨_, rfl⟩
  have HM2 := Lib.hid (show Mem W w2 (BoxR 25 (W.heap.size + 1 + 1) (b : Int) none 0 0 oo :: BoxR 25 (W.heap.size + 1) 0 none 0 0 [] :: [BoxR 25 W.heap.size (b : Int) A n c o]) by rw [hw2]; exact HM1.out)
  rw [← hw2]
  obtain ⟨g1, hg1⟩ : ∃ g, g = W.heap.size := ⟨_, rfl⟩
  obtain ⟨g2, hg2⟩ : ∃ g, g = W.heap.size + 1 := ⟨_, rfl⟩
  obtain ⟨g4, hg4⟩ : ∃ g, g = W.heap.size + 1 + 1 := ⟨_, rfl⟩
  rw [← hg4, ← hg2, ← hg1] at HM2
  rw [← hg4, ← hg2, ← hg1]
  have HOO := Lib.hid hoo
  clear hg1 hg2 hg4 hw2 hoo HM0 HM1 bx0 bx1 bx2
  have hm0 := HM2.out.add (Own.nil (Below.refl w2.heap.size w2) 54)
  have HMs := Lib.hid hm0
  clear hm0
  go_loopw [5] (fun i wr => ∃ (k : Nat) (A5 : Option Addr) (c5 : Nat) (rs : List Row), k ≤ 2 * n ∧ i = .int .i64 k ∧ Mem W wr (⟨54, A5, k, c5, rs.map SVal⟩ :: (rs ++ [BoxR 25 g4 (b : Int) A5 k c5 oo, BoxR 25 g2 0 none 0 0 [], BoxR 25 g1 (b : Int) A n c o])) ∧ Hid (rs.map Row.xs = ((List.range k).map (twRow zss b)).map ivs)) (fun i _ => 2 * n - (intOf i).toNat)
  case atStart => exact ⟨0, none, 0, [], Nat.zero_le _, rfl, HMs.out, Lib.hid rfl⟩
  case round =>
    obtain ⟨k, A5, c5, rs, hk, rfl, hmem, HX⟩ := hrel
    have HM := Lib.hid hmem
    clear hmem HMs HM2
    have e0 : IntKind.i64.wrap (2 * (n : Int)) = 2 * (n : Int) := IntWalk.i64_in _ (by omega)
    by_cases hlt : k < 2 * n
    · obtain ⟨m, hm⟩ : ∃ m, m = k % n := ⟨_, rfl⟩
      have hmn : m < n := by rw [hm]; exact Nat.mod_lt _ hn
      have hml : m < zss.length := by rw [HLen.out]; exact hmn
      obtain ⟨a, A1, m1, c1, rfl, hab, hca, hrd, hzl⟩ := (HG.out.later HM.out.bel).at hml
      have hm1 : b = m1 := by have h1 := hrd.lenI; have h2 := (HGd.out.2.2.2.2 _ (List.getElem_mem hml)).1; omega
      subst hm1
      have HRd := Lib.hid hrd
      have HTab := Lib.hid (fun d hd => tab_at HGd.out hml (d := d) hd)
      have HVal := Lib.hid (fun d => show twVal zss k d = ((tab zss m d + (k + d) % 2 * n : Nat) : Int) by unfold twVal; rw [HLen.out, ← hm])
      have HNX := Lib.hid (show ((List.range (k + 1)).map (twRow zss b)).map ivs = ((List.range k).map (twRow zss b)).map ivs ++ [ivs (twUp zss k b)] by rw [List.range_succ, List.map_append, List.map_append]; rfl)
      have e2 : (k : Int).tmod (n : Int) = (m : Int) := by rw [Int.tmod_eq_emod_of_nonneg (by omega), hm]; simp
      have e4 : IntKind.i64.wrap (m : Int) = (m : Int) := IntWalk.i64_in _ (by omega)
      have e8 : ((n : Int) == 0) = false := beq_eq_false_iff_ne.2 (by omega)
      have e9 : ¬ n = 0 := by omega
      have i1 : (m : Int) < (n : Int) := by omega
      have i3 : (0 : Int) ≤ (m : Int) := by omega
      have d1 : decide ((k : Int) < 2 * (n : Int)) = true := by simp; omega
      have HO0 := Lib.hid (Own.made0 (w0 := wr) (w := wr) (Below.refl _ _) 3)
      have HMa := Lib.hid (HM.out.later HO0.out.bel)
      obtain ⟨bx0, bx1, bx2⟩ := HMa.out.boxAt (t := 25) (g := g1) (b := (b : Int)) (A := some a) (n := n) (c := c) (o := o) (by simp)
      have hcb := (HO0.out.bel.cell (p := a.add m) (by rw [add_block]; exact hab)).trans hca
      clear hm hrd hzl hca
      go_wp2_with fail
      go_quiet (fail)
      obtain ⟨q, rfl⟩ : ∃ q, q = nq := ⟨_, rfl⟩
      have HO1 := Lib.hid (HO0.out.drewN q)
      clear HO0 HMa bx0 bx1 bx2 hcb
      go_wp2_with fail
      go_loopw [35, 6] (fun i row w3 => ∃ (d : Nat) (A6 : Option Addr) (c6 : Nat), d ≤ b ∧ i = .int .i64 d ∧ row = .slice A6 d c6 ∧ Own wr w3 3 A6 d c6 (ivs (twUp zss k d))) (fun i _ _ => b - (intOf i).toNat)
      case atStart => exact ⟨0, _, _, Nat.zero_le _, rfl, rfl, HO1.out⟩
      case round =>
        clear HO1
        obtain ⟨d, A6, c6, hd, rfl, rfl, hown⟩ := hrel
        have HO := Lib.hid hown
        clear hown
        by_cases hlt2 : d < b
        · obtain ⟨ht1, ht2, ht3⟩ := HTab.out d hlt2
          obtain ⟨a1, rfl, hab1, hc1⟩ := (HRd.out.later HO.out.bel).int ht2
          rw [ht3] at hc1
          have HV := Lib.hid (HVal.out d)
          have HSn := Lib.hid (twUp_snoc zss k d)
          obtain ⟨t, ht⟩ : ∃ t, t = tab zss m d := ⟨_, rfl⟩
          obtain ⟨p, hp⟩ : ∃ p, p = (k + d) % 2 := ⟨_, rfl⟩
          obtain ⟨pn, hpn⟩ : ∃ pn, pn = p * n := ⟨_, rfl⟩
          rw [← ht, ← hp, ← hpn] at HV
          rw [← ht] at hc1 ht1
          have hp2 : p = 0 ∨ p = 1 := by omega
          have hpnb : pn ≤ n := by rw [hpn]; rcases hp2 with h | h <;> rw [h] <;> omega
          have hzn := HLen.out
          have i5 : (d : Int) < (b : Int) := by omega
          have i6 : (0 : Int) ≤ (d : Int) := by omega
          have e5 : IntKind.i64.wrap ((k : Int) + (d : Int)) = (k : Int) + (d : Int) := IntWalk.i64_in _ (by omega)
          have e6 : ((k : Int) + (d : Int)).tmod 2 = (p : Int) := by rw [Int.tmod_eq_emod_of_nonneg (by omega), hp]; omega
          have e7 : IntKind.i64.wrap (p : Int) = (p : Int) := IntWalk.i64_in _ (by omega)
          have e10 : (p : Int) * (n : Int) = (pn : Int) := by rw [hpn, Int.natCast_mul]
          have e11 : IntKind.i64.wrap (pn : Int) = (pn : Int) := IntWalk.i64_in _ (by omega)
          have e12 : IntKind.i64.wrap ((t : Int) + (pn : Int)) = (t : Int) + (pn : Int) := IntWalk.i64_in _ (by omega)
          clear ht hp hpn ht2 ht3 hp2 hzn
          go_wp2_with (at_builtin; refine app_one (.tmp 40) (.tmp 49) _ _ _ 8 rfl rfl Tryd.underlying54 infoI rfl rfl HO.out rfl rfl (by omega) (by omega) ?_; intro A7 c7 w7 hown7)
          exact ⟨⟨d + 1, A7, c7, by omega, by go_num, rfl, by rw [HSn.out, HV.out, ivs_snoc, Int.natCast_add]; exact hown7⟩, by simp [intOf]; omega⟩
        · obtain rfl : d = b := by omega
          have HM6 := Lib.hid (HM.out.add HO.out)
          obtain ⟨bx0, bx1, bx2⟩ := HM6.out.boxAt (t := 25) (g := g4) (b := (d : Int)) (A := A5) (n := k) (c := c5) (o := oo) (by simp)
          go_wp2_with (at_builtin; refine app_mem [⟨3, A6, d, c6, ivs (twUp zss k d)⟩] (rs ++ [BoxR 25 g4 (d : Int) A5 k c5 oo, BoxR 25 g2 0 none 0 0 [], BoxR 25 g1 (d : Int) (some a) n c o]) (.tmp 53) (.tmp 55) _ _ _ 24 rfl rfl Tryd.underlying23 infoG rfl rfl (HM6.out.alloc _) rfl (by omega) (Rd.one _ _ _) (by simp [Value.oneCell']) (by omega) (by omega) ?_; intro A8 c8 w8 hm8; have by1 := (hm8.boxAt (t := 25) (g := g4) (b := (d : Int)) (A := A5) (n := k) (c := c5) (o := oo) (by simp)).2.1; have bf1 := hm8.boxFree (t := 25) (g := g4) (b := (d : Int)) (A := A5) (n := k) (c := c5) (o := oo) (by simp) 1)
          have HM9 := Lib.hid (Mem.box1 (pre := ⟨3, A6, d, c6, ivs (twUp zss k d)⟩ :: ⟨54, A8, k + 1, c8, rs.map SVal ++ [.slice A6 d c6]⟩ :: rs) (post := [_, _]) (by simpa using hm8) A8 (k + 1) c8)
          refine ⟨⟨k + 1, A8, c8, rs ++ [⟨3, A6, d, c6, ivs (twUp zss k d)⟩], by omega, by go_num, ?_, ?_⟩, by simp [intOf]; omega⟩
          · refine HM9.out.perm ?_
            simp only [List.map_append, List.map_cons, List.map_nil, SVal, List.cons_append, List.append_assoc, List.nil_append]
            refine (List.Perm.swap _ _ _).trans (List.Perm.cons _ ?_)
            exact List.perm_middle.symm
          · exact Lib.hid (by rw [HNX.out, List.map_append, HX.out]; rfl)
    · obtain rfl : k = 2 * n := by omega
      have HFX := Lib.hid (show rs.map Row.xs = (twTab zss b).map ivs by rw [HX.out]; unfold twTab; rw [HLen.out])
      obtain ⟨bx0, bx1, bx2⟩ := HM.out.boxAt (t := 25) (g := g4) (b := (b : Int)) (A := A5) (n := 2 * n) (c := c5) (o := oo) (by simp)
      obtain ⟨by0, by1, by2⟩ := HM.out.boxAt (t := 25) (g := g2) (b := 0) (A := none) (n := 0) (c := 0) (o := []) (by simp)
      have fx := fun j => HM.out.boxFree (t := 25) (g := g2) (b := 0) (A := none) (n := 0) (c := 0) (o := []) (by simp) j
      have fx0 := fx 0
      have fx1 := fx 1
      have fx2 := fx 2
      have d1 : decide (((2 * n : Nat) : Int) < 2 * (n : Int)) = false := by simp
      clear fx
      go_wp2_with fail
      have HM9 := Lib.hid (Mem.boxAll (pre := ⟨54, A5, 2 * n, c5, rs.map SVal⟩ :: (rs ++ [BoxR 25 g4 (b : Int) A5 (2 * n) c5 oo])) (post := [_]) (by simpa using HM.out) (b : Int) A5 (2 * n) c5 oo)
      obtain ⟨w9, hw9⟩ : ∃ w9, w9 = (((wr.setCell ⟨g2, 0, none⟩ (.int .i64 (b : Int))).setCell ⟨g2, 1, none⟩ (.slice A5 (2 * n) c5)).setCell ⟨g2, 2, none⟩ (.string ⟨oo.toArray⟩)) := ⟨_, rfl⟩
      rw [← hw9] at HM9 ⊢
      clear hw9 HM bx0 bx1 bx2 by0 by1 by2 fx0 fx1 fx2
      obtain ⟨by0, by1, by2⟩ := HM9.out.boxAt (t := 25) (g := g2) (b := (b : Int)) (A := A5) (n := 2 * n) (c := c5) (o := oo) (by simp)
      refine bodyPost_ret (v := AutoV (b : Int) A5 (2 * n) c5 oo) (by simp [results, Tryd.results28, go_sem, by0, by1, by2]) rfl ?_
      rw [← HOO.out]
      exact ⟨A5, 2 * n, c5, rs, rfl, HM9.out.drop (by simp), HFX.out⟩
set_option maxRecDepth 4096 in
theorem MakeTwice_any (b : Nat) (A : Option Addr) (n c : Nat) (zss : Tab) (o : List UInt8) (hgd : Good b zss) (ho : o.length ≤ 8) (W : World) (hg : GIn W A n c zss) :
    Calls Tryd.prog 12 #[AutoV (b : Int) A n c o] W (RetAu 54 W (b : Int) (twTab zss b) (o ++ o)) := by
  have HM0 := Lib.hid (((Mem.start W).box 25 (b : Int) A n c o).box 25 0 none 0 0 [])
  have HC := Lib.hid (l18Twice_any b A n c zss o hgd ho _ (hg.later HM0.out.bel))
  obtain ⟨bx0, bx1, bx2⟩ := HM0.out.boxAt (t := 25) (g := W.heap.size) (b := (b : Int)) (A := A) (n := n) (c := c) (o := o) (by simp)
  clear hg
  go_enter Tryd.func12, Tryd.ntmps12
  go_wp2_with fail
  refine HC.out.mono ?_
  rintro e w1 ⟨A5, n5, c5, rs, rfl, hm, hx⟩
  have HX := Lib.hid hx
  have HM1 := Lib.hid (HM0.out.addAll hm)
  obtain ⟨oo, hoo⟩ : ∃ oo, oo = o ++ o := ⟨_, rfl⟩
  rw [← hoo]
  have HOO := Lib.hid hoo
  clear hoo
  rw [show (W.alloc (.cells #[.int .i64 (b : Int), .slice A n c, .string ⟨o.toArray⟩] 25)).heap.size = W.heap.size + 1 by simp] at HM1
  obtain ⟨by0, by1, by2⟩ := HM1.out.boxAt (t := 25) (g := W.heap.size + 1) (b := 0) (A := none) (n := 0) (c := 0) (o := []) (by simp)
  have fx := fun j => HM1.out.boxFree (t := 25) (g := W.heap.size + 1) (b := 0) (A := none) (n := 0) (c := 0) (o := []) (by simp) j
  have fx0 := fx 0
  have fx1 := fx 1
  have fx2 := fx 2
  clear fx hm hx HC bx0 bx1 bx2
  go_wp2_with fail
  have HM9 := Lib.hid (Mem.boxAll (pre := ⟨54, A5, n5, c5, rs.map SVal⟩ :: rs) (post := [_]) (by simpa using HM1.out) (b : Int) A5 n5 c5 oo)
  obtain ⟨w9, hw9⟩ : ∃ w9, w9 = (((w1.setCell ⟨W.heap.size + 1, 0, none⟩ (.int .i64 (b : Int))).setCell ⟨W.heap.size + 1, 1, none⟩ (.slice A5 n5 c5)).setCell ⟨W.heap.size + 1, 2, none⟩ (.string ⟨oo.toArray⟩)) := ⟨_, rfl⟩
  rw [← hw9] at HM9 ⊢
  clear hw9 HM1 HM0 by0 by1 by2 fx0 fx1 fx2
  obtain ⟨by0, by1, by2⟩ := HM9.out.boxAt (t := 25) (g := W.heap.size + 1) (b := (b : Int)) (A := A5) (n := n5) (c := c5) (o := oo) (by simp)
  refine bodyPost_ret (v := AutoV (b : Int) A5 n5 c5 oo) (by simp [results, Tryd.results12, go_sem, by0, by1, by2]) rfl ?_
  rw [← HOO.out]
  exact ⟨A5, n5, c5, rs, rfl, HM9.out.drop (by simp), HX.out⟩
end Go.Proofs.YtcicoplmpinnmaaDoor
