/-
  The walk of the law FnRules. No conditions.
-/
import Derived.Test.YtbaleboljcoigaaRlC
import Derived.Deep.DeepCutAuto
import Derived.Deep.RegionHeld3
namespace Go.Proofs.Ytbaleboljcoigaa
open Go.RowKit

set_option maxRecDepth 100000 in
set_option maxHeartbeats 40000000 in
theorem walk_FnRules (A : Option Addr) (n c : Nat) (l : List UInt8) (w : World) (h : BytesArg w A n c l) : Calls Try.prog 3 #[.slice A n c] w fun e w' => e = .returned (.bool true) ∧ Below w.heap.size w w' := by
  obtain ⟨hrd, hnc, hcm⟩ := h
  by_cases hbig : n ≤ 1048576
  case neg =>
    go_enter Try.func3, Try.ntmps3
    go_wp2_with fail
    go_ret
    exact ⟨rfl, Below.refl _ _⟩
  have HR := Lib.hid hrd
  clear hrd
  go_enter Try.func3, Try.ntmps3
  go_wp2_with fail
  refine (MakePatch_any A n c l 0 2 w HR.out hbig (by omega) (by omega) (by omega)).mono ?_
  rintro e w1 ⟨A2, n2, c2, p, rfl, hp, o1⟩
  have hpk := patK_pOk (by omega) hp
  have hn2 : p.length = n2 := by have := o1.len; simpa [svs] using this
  have HN2 := Lib.hid hn2
  have P1 := (Pz.start w).add o1 (pOk_lensR hpk.1)
  have HP := Lib.hid hpk.1
  have hpl := pOk_len hpk.1
  have hp5 := hpk.2.1
  have hw5 := hpk.2.2
  have hw1 := pOk_wd hpk.1
  clear o1 hp hpk
  go_wp2_with fail
  refine (cRulesOfI _ _ _ p _ (P1.sin (p := p) (by simp))).mono ?_
  rintro e w2 ⟨A3, n3, c3, A4, n4, c4, rfl, hm⟩
  have P2 := P1.add2 hm (rulesOf_lens p).1 (rulesOf_lens p).2
  have HOK := Lib.hid (rulesOf_ok p)
  have HF0 := Lib.hid (own_faults HP.out)
  have HFN := Lib.hid (nil_faults HP.out)
  have HOF := Lib.hid (own_first HP.out)
  obtain ⟨a, ha⟩ : ∃ a, a = (rulesOf p).1 := ⟨_, rfl⟩
  obtain ⟨b, hb⟩ : ∃ b, b = (rulesOf p).2 := ⟨_, rfl⟩
  rw [← ha, ← hb] at P2 HOK HF0 HOF
  clear hm P1 ha hb
  -- region 5
  obtain ⟨a2, rfl, hab2, hca2⟩ := (P2.own (A := A2) (n := n2) (c := c2) (p := p) (by simp)).1.1.str (k := 0) (by omega)
  obtain ⟨r0, hr0⟩ : ∃ r0, r0 = p[0]'(by omega) := ⟨_, rfl⟩
  have hr5 : r0.length = wd p := by rw [hr0, (pOk_row HP.out (List.getElem_mem _)).2.1]
  rw [← hr0] at hca2
  have hca20 : w2.cell? a2 = some (.string ⟨r0.toArray⟩) := hca2
  have HR0 := Lib.hid (show p[0]? = some r0 by rw [hr0]; exact List.getElem?_eq_getElem _)
  rw [← hr5, hn2] at HFN HOF
  have q1 := mul25 (x := (n2 : Int)) (y := (r0.length : Int) - 1) (by omega) (by omega) (by omega) (by omega)
  have q2 := mul25 (x := (n2 : Int) - 1) (y := (r0.length : Int)) (by omega) (by omega) (by omega) (by omega)
  have f1 : IntKind.i64.wrap ((r0.length : Int) - 1) = (r0.length : Int) - 1 := IntWalk.i64_in _ (by omega)
  have f2 : IntKind.i64.wrap ((n2 : Int) - 1) = (n2 : Int) - 1 := IntWalk.i64_in _ (by omega)
  have f3 : IntKind.i64.wrap ((n2 : Int) * ((r0.length : Int) - 1)) = (n2 : Int) * ((r0.length : Int) - 1) := IntWalk.i64_in _ (by omega)
  have f4 : IntKind.i64.wrap (((n2 : Int) - 1) * (r0.length : Int)) = ((n2 : Int) - 1) * (r0.length : Int) := IntWalk.i64_in _ (by omega)
  have f5 : IntKind.i64.wrap ((n2 : Int) * ((r0.length : Int) - 1) + ((n2 : Int) - 1) * (r0.length : Int)) = (n2 : Int) * ((r0.length : Int) - 1) + ((n2 : Int) - 1) * (r0.length : Int) := IntWalk.i64_in _ (by omega)
  have f6 : (0 : Int) < (n2 : Int) := by omega
  have f7 : 0 < n2 := by omega
  have hr15 : 1 ≤ r0.length ∧ r0.length ≤ 5 := by omega
  have HR5 := Lib.hid hr5
  have HFB := Lib.hid (show (faultsOf p a b == 0) = true by rw [HF0.out]; rfl)
  clear hca2 hr0 hr5 q1 q2
  go_upto_region 5 with (fail)
  go_cut [72] (fun s wc => s = .bool false ∧ Pz w wc [(A4, n4, c4, b), (A3, n3, c3, a), (some a2, n2, c2, p)])
  case first => as_aux_lemma => --DONE
    go_wp2_with fail
    go_region_held3 (fun w' => w'.cell? a2 = some (.string ⟨r0.toArray⟩)) (first | exact (P5.own (A := some a2) (n := n2) (c := c2) (p := p) (by simp)).cellR HR0.out | exact (P4.own (A := some a2) (n := n2) (c := c2) (p := p) (by simp)).cellR HR0.out | exact (P3.own (A := some a2) (n := n2) (c := c2) (p := p) (by simp)).cellR HR0.out | (go_keep; done)) (first
      | (go_at_call 6; (with_reducible refine (zRulesOk (A1 := A3) (A2 := A4) ((P2.later (bdR _)).sin (A := A3) (n := n3) (c := c3) (p := a) (by simp)) ((P2.later (bdR _)).sin (A := A4) (n := n4) (c := c4) (p := b) (by simp)) HOK.out).mono ?_); rintro e w' ⟨rfl, rfl⟩)
      | (go_at_call 7; (with_reducible refine (zObeys (b := true) ((P2.later (bdR _)).sin (A := some a2) (n := n2) (c := c2) (p := p) (by simp)) ((P2.later (bdR _)).sin (A := A3) (n := n3) (c := c3) (p := a) (by simp)) ((P2.later (bdR _)).sin (A := A4) (n := n4) (c := c4) (p := b) (by simp)) HFB.out).mono ?_); rintro e w3 ⟨rfl, hb3⟩; have P3 := (P2.later (bdR _)).later hb3)
      | (go_at_call 8; (with_reducible refine (zFaults (z := 0) (P3.sin (A := some a2) (n := n2) (c := c2) (p := p) (by simp)) (P3.sin (A := A3) (n := n3) (c := c3) (p := a) (by simp)) (P3.sin (A := A4) (n := n4) (c := c4) (p := b) (by simp)) HF0.out).mono ?_); rintro e w4 ⟨rfl, hb4⟩; have P4 := P3.later hb4)
      | (go_at_call 8; (with_reducible refine (zFaults (P4.sin (A := some a2) (n := n2) (c := c2) (p := p) (by simp)) (SIn.nilR _) (SIn.nilR _) HFN.out).mono ?_); rintro e w5 ⟨rfl, hb5⟩; have P5 := P4.later hb5))
    go_wp2_with fail
    go_meet
    exact ⟨rfl, P5⟩
  case rest => as_aux_lemma =>
    clear P2 hca20
    obtain ⟨rfl, P5⟩ := hcut
    go_wp2_with fail
    refine (MakeRules_any A n c l 30 _ (HR.out.later P5.1) hbig (by omega)).mono ?_
    rintro e w6 ⟨p', A6, n6, c6, A7, n7, c7, rfl, hm⟩
    have P6 := P5.add2 hm (rulesOf_lens p').1 (rulesOf_lens p').2
    have HRK := Lib.hid (rulesOf_ok p')
    have hl6 := rulesOf_len p'
    obtain ⟨cc, hcc⟩ : ∃ x, x = (rulesOf p').1 := ⟨_, rfl⟩
    obtain ⟨dd, hdd⟩ : ∃ x, x = (rulesOf p').2 := ⟨_, rfl⟩
    rw [← hcc, ← hdd] at P6 HRK hl6
    have hn6 : cc.length = n6 := P6.len (A := A6) (c := c6) (p := cc) (by simp)
    have hn7 : dd.length = n7 := P6.len (A := A7) (c := c7) (p := dd) (by simp)
    have HL6 := Lib.hid hn6
    have HL7 := Lib.hid hn7
    have hn6b : n6 ≤ 4096 := by omega
    have hn7b : n7 ≤ 4096 := by omega
    clear hm P5 hcc hdd hl6 hn6 hn7
    go_wp2_with fail
    refine (MakeSize_any A n c l 60 1 3 _ (HR.out.later P6.1) hbig (by omega) (by omega) (by omega)).mono ?_
    rintro e w7 ⟨vw, rfl, hv1, hv2, hb7⟩
    have P7 := P6.later hb7
    clear P6 hb7
    go_wp2_with fail
    refine (MakeSize_any A n c l 61 1 3 _ (HR.out.later P7.1) hbig (by omega) (by omega) (by omega)).mono ?_
    rintro e w8 ⟨vh, rfl, hh1, hh2, hb8⟩
    have P8 := P7.later hb8
    clear P7 hb8
    obtain ⟨N, hN⟩ : ∃ N : Nat, countOb vw vh cc dd = (N : Int) := ⟨_, countOb_grids HRK.out hv1 hv2 hh1 hh2⟩
    have HC1 := Lib.hid hN
    have HC2 := Lib.hid (show countOb vh vw dd cc = (N : Int) by rw [countOb_flip HRK.out hv1 hv2 hh1 hh2]; exact hN)
    obtain ⟨q, ok, hfo, hok, hql, hqf⟩ := first_pack HRK.out hv1 hv2 hh1 hh2
    rw [hN] at hok
    have HFO := Lib.hid hfo
    have HQL := Lib.hid hql
    have HQF := Lib.hid hqf
    have HOk := Lib.hid hok
    clear hN hfo hok hql hqf
    go_wp2_with fail
    refine (zCount (A1 := A6) (A2 := A7) (P8.sin (n := n6) (c := c6) (p := cc) (by simp)) (P8.sin (n := n7) (c := c7) (p := dd) (by simp)) HC1.out).mono ?_
    rintro e w9 ⟨rfl, hb9⟩
    have P9 := P8.later hb9
    clear P8 hb9
    go_wp2_with fail
    refine (zFirst (A1 := A6) (A2 := A7) (P9.sin (n := n6) (c := c6) (p := cc) (by simp)) (P9.sin (n := n7) (c := c7) (p := dd) (by simp)) HFO.out).mono ?_
    rintro e w10 ⟨A10, n10, c10, rfl, o10⟩
    have P10 := P9.add o10 HQL.out
    clear P9 o10
    go_upto_region 12 with (fail)
    go_cut [147] (fun s wc => s = .bool false ∧ Pz w wc [(A7, n7, c7, dd), (A6, n6, c6, cc), (A4, n4, c4, b), (A3, n3, c3, a), (some a2, n2, c2, p)])
    case first => as_aux_lemma => --DONE
      obtain ⟨F, hF⟩ : ∃ F, faultsOf p cc dd = F := ⟨_, rfl⟩
      obtain ⟨B, hB⟩ : ∃ B, (F == 0) = B := ⟨_, rfl⟩
      have HF := Lib.hid hF
      have HB := Lib.hid (show (faultsOf p cc dd == 0) = B by rw [hF]; exact hB)
      have hok := HOk.out
      have hok2 : decide (0 < N) = ok := by rw [← hok]; simp
      clear hF
      go_wp2_with fail
      refine (zCount (A1 := A7) (A2 := A6) (P10.sin (n := n7) (c := c7) (p := dd) (by simp)) (P10.sin (n := n6) (c := c6) (p := cc) (by simp)) HC2.out).mono ?_
      rintro e w11 ⟨rfl, hb11⟩
      have P11 := P10.later hb11
      clear P10 hb11
      cases ok
      case false =>
        go_wp2_with fail
        refine (zObeys (b := B) (P11.sin (A := some a2) (n := n2) (c := c2) (p := p) (by simp)) (P11.sin (A := A6) (n := n6) (c := c6) (p := cc) (by simp)) (P11.sin (A := A7) (n := n7) (c := c7) (p := dd) (by simp)) HB.out).mono ?_
        rintro e w12 ⟨rfl, hb12⟩
        have P12 := P11.later hb12
        clear P11 hb12
        go_wp2_with fail
        refine (zFaults (z := F) (P12.sin (A := some a2) (n := n2) (c := c2) (p := p) (by simp)) (P12.sin (A := A6) (n := n6) (c := c6) (p := cc) (by simp)) (P12.sin (A := A7) (n := n7) (c := c7) (p := dd) (by simp)) HF.out).mono ?_
        rintro e w13 ⟨rfl, hb13⟩
        have P13 := (P12.later hb13).sub (qs := [(A7, n7, c7, dd), (A6, n6, c6, cc), (A4, n4, c4, b), (A3, n3, c3, a), (some a2, n2, c2, p)]) (by simp)
        clear P12 hb13
        cases B
        all_goals
          go_wp2_with fail
          go_meet
          exact ⟨rfl, P13⟩
      case true =>
        obtain ⟨⟨r, hr, hrl⟩, hqh, hqf0⟩ := HQF.out rfl
        have hl10 : q.length = n10 := P11.len (A := A10) (c := c10) (p := q) (by simp)
        obtain rfl : n10 = vh := by omega
        obtain ⟨a10, rfl, -, -⟩ := (P11.own (A := A10) (n := n10) (c := c10) (p := q) (by simp)).1.1.str (k := 0) (by omega)
        have hc10 := (P11.own (A := some a10) (n := n10) (c := c10) (p := q) (by simp)).cellR hr
        have HQ0 := Lib.hid (show (faultsOf q cc dd == 0) = true by rw [hqf0]; rfl)
        have i0 : (0 : Int) < (n10 : Int) := by omega
        have i1 : 0 < n10 := by omega
        clear hr hqh hqf0 hl10
        subst hrl
        go_wp2_with fail
        refine (zObeys (b := true) (P11.sin (A := some a10) (n := n10) (c := c10) (p := q) (by simp)) (P11.sin (A := A6) (n := n6) (c := c6) (p := cc) (by simp)) (P11.sin (A := A7) (n := n7) (c := c7) (p := dd) (by simp)) HQ0.out).mono ?_
        rintro e w12 ⟨rfl, hb12⟩
        have P12 := P11.later hb12
        clear P11 hb12
        go_wp2_with fail
        refine (zObeys (b := B) (P12.sin (A := some a2) (n := n2) (c := c2) (p := p) (by simp)) (P12.sin (A := A6) (n := n6) (c := c6) (p := cc) (by simp)) (P12.sin (A := A7) (n := n7) (c := c7) (p := dd) (by simp)) HB.out).mono ?_
        rintro e w13 ⟨rfl, hb13⟩
        have P13 := P12.later hb13
        clear P12 hb13
        go_wp2_with fail
        refine (zFaults (z := F) (P13.sin (A := some a2) (n := n2) (c := c2) (p := p) (by simp)) (P13.sin (A := A6) (n := n6) (c := c6) (p := cc) (by simp)) (P13.sin (A := A7) (n := n7) (c := c7) (p := dd) (by simp)) HF.out).mono ?_
        rintro e w14 ⟨rfl, hb14⟩
        have P14 := (P13.later hb14).sub (qs := [(A7, n7, c7, dd), (A6, n6, c6, cc), (A4, n4, c4, b), (A3, n3, c3, a), (some a2, n2, c2, p)]) (by simp)
        clear P13 hb14
        cases B
        all_goals
          go_wp2_with fail
          go_meet
          exact ⟨rfl, P14⟩
    case rest => as_aux_lemma =>
      clear P10
      obtain ⟨rfl, P14⟩ := hcut
      go_upto_region 14 with (fail)
      obtain ⟨T, hT⟩ : ∃ T : Bool, decide (n2 ≤ 3 ∧ r0.length ≤ 3) = T := ⟨_, rfl⟩
      have HT := Lib.hid hT
      clear hT
      go_cut [157] (fun s wc => s = .bool T ∧ Pz w wc [(A7, n7, c7, dd), (A6, n6, c6, cc), (A4, n4, c4, b), (A3, n3, c3, a), (some a2, n2, c2, p)])
      case first => as_aux_lemma => --DONE
        have hc20 := (P14.own (A := some a2) (n := n2) (c := c2) (p := p) (by simp)).cellR HR0.out
        have hT := HT.out
        by_cases t1 : n2 ≤ 3
        · by_cases t2 : r0.length ≤ 3
          · have d1 : decide ((n2 : Int) ≤ 3) = true := by simp; omega
            have d2 : decide ((r0.length : Int) ≤ 3) = true := by simp; omega
            obtain rfl : T = true := by rw [← hT]; simp [t1, t2]
            clear hT HT
            go_wp2_with fail
            go_meet
            exact ⟨rfl, P14⟩
          · have d1 : decide ((n2 : Int) ≤ 3) = true := by simp; omega
            have d2 : decide ((r0.length : Int) ≤ 3) = false := by simp; omega
            obtain rfl : T = false := by rw [← hT]; simp [t2]
            clear hT HT
            go_wp2_with fail
            go_meet
            exact ⟨rfl, P14⟩
        · have d1 : decide ((n2 : Int) ≤ 3) = false := by simp; omega
          obtain rfl : T = false := by rw [← hT]; simp [t1]
          clear hT HT
          go_wp2_with fail
          go_meet
          exact ⟨rfl, P14⟩
      case rest => as_aux_lemma =>
        clear P14
        obtain ⟨rfl, P15⟩ := hcut
        go_upto_if 157 with (fail)
        go_cut [] (fun wc => Pz w wc [(A7, n7, c7, dd), (A6, n6, c6, cc), (A4, n4, c4, b), (A3, n3, c3, a), (some a2, n2, c2, p)])
        case first => as_aux_lemma => --DONE
          cases T
          case false =>
            go_wp2_with fail
            go_meet
            exact P15
          case true =>
            have hT := HT.out
            simp only [decide_eq_true_eq] at hT
            obtain ⟨hM, q2, hq2, hq2o, hlt⟩ := HOF.out hT.2 hT.1
            obtain ⟨M, hM2⟩ : ∃ M, countOb (r0.length : Int) (n2 : Int) a b = M := ⟨_, rfl⟩
            rw [hM2] at hM
            obtain ⟨x, hx⟩ : ∃ x, fmtP q2 = x := ⟨_, rfl⟩
            obtain ⟨y, hy⟩ : ∃ y, fmtP p = y := ⟨_, rfl⟩
            rw [hx, hy] at hlt
            have hb1 : Op.bytesLess x y = true ∨ (x == y) = true := by
              rcases lt_tri x y with h | h | h
              · left; rw [bytesLess_eq]; simpa using h
              · right; simpa using h
              · exact absurd h hlt
            have d3 : decide (M < 1) = false := by simp; omega
            have HM2 := Lib.hid hM2
            have HQ2 := Lib.hid hq2
            have HQO := Lib.hid hq2o
            have HX := Lib.hid hx
            have HY := Lib.hid hy
            have hc20 := (P15.own (A := some a2) (n := n2) (c := c2) (p := p) (by simp)).cellR HR0.out
            clear hM2 hq2 hq2o hx hy hlt hM hT HT
            go_wp2_with fail
            refine (zCount (A1 := A3) (A2 := A4) (P15.sin (A := A3) (n := n3) (c := c3) (p := a) (by simp)) (P15.sin (A := A4) (n := n4) (c := c4) (p := b) (by simp)) HM2.out).mono ?_
            rintro e w16 ⟨rfl, hb16⟩
            have P16 := P15.later hb16
            have hc21 := (P16.own (A := some a2) (n := n2) (c := c2) (p := p) (by simp)).cellR HR0.out
            clear P15 hb16 hc20
            go_wp2_with fail
            refine (zFirst (A1 := A3) (A2 := A4) (P16.sin (A := A3) (n := n3) (c := c3) (p := a) (by simp)) (P16.sin (A := A4) (n := n4) (c := c4) (p := b) (by simp)) HQ2.out).mono ?_
            rintro e w17 ⟨A17, n17, c17, rfl, o17⟩
            have P17 := P16.add o17 (pOk_lensR HQO.out)
            clear P16 o17 hc21
            go_wp2_with fail
            refine (zFormat (P17.own (A := A17) (n := n17) (c := c17) (p := q2) (by simp)) HX.out).mono ?_
            rintro e w18 ⟨rfl, hb18⟩
            have P18 := P17.later hb18
            clear P17 hb18
            go_wp2_with fail
            refine (zFormat (P18.own (A := some a2) (n := n2) (c := c2) (p := p) (by simp)) HY.out).mono ?_
            rintro e w19 ⟨rfl, hb19⟩
            have P19 := (P18.later hb19).sub (qs := [(A7, n7, c7, dd), (A6, n6, c6, cc), (A4, n4, c4, b), (A3, n3, c3, a), (some a2, n2, c2, p)]) (by simp)
            clear P18 hb19
            rcases hb1 with hb1 | hb1
            all_goals
              go_wp2_with fail
              go_meet
              exact P19
        case rest => as_aux_lemma =>
          clear P15
          have P16 := hcut
          clear hcut
          go_upto_region 19 with (fail)
          go_cut [229] (fun s wc => s = .bool false ∧ Pz w wc [(A7, n7, c7, dd), (A6, n6, c6, cc), (A4, n4, c4, b), (A3, n3, c3, a), (some a2, n2, c2, p)])
          case first => as_aux_lemma => --DONE
            have HN := Lib.hid HC1.out
            rcases (show vw = 1 ∨ vw = 2 ∨ vw = 3 by omega) with rfl | rfl | rfl <;> rcases (show vh = 1 ∨ vh = 2 ∨ vh = 3 by omega) with rfl | rfl | rfl
            case inl.inl =>
              have e : countOb 1 1 cc dd = (N : Int) := HN.out
              rw [count11 HRK.out] at e
              obtain rfl : N = 4 := by omega
              clear e
              go_wp2_with fail
              go_meet
              exact ⟨rfl, P16⟩
            case inr.inl.inl =>
              have e : countOb 2 1 cc dd = (N : Int) := HN.out
              rw [count21 HRK.out, HL6.out] at e
              obtain rfl : N = n6 := by omega
              clear e
              go_wp2_with fail
              go_meet
              exact ⟨rfl, P16⟩
            case inl.inr.inl =>
              have e : countOb 1 2 cc dd = (N : Int) := HN.out
              rw [count12 HRK.out, HL7.out] at e
              obtain rfl : N = n7 := by omega
              clear e
              go_wp2_with fail
              go_meet
              exact ⟨rfl, P16⟩
            all_goals
              go_wp2_with fail
              go_meet
              exact ⟨rfl, P16⟩
          case rest => as_aux_lemma =>
            clear P16
            obtain ⟨rfl, P17⟩ := hcut
            obtain ⟨j, hj, hjs, hjl, hjm⟩ := join_facts HRK.out
            have HJ := Lib.hid hj
            have HJS := Lib.hid hjs
            have HJM := Lib.hid hjm
            have hjl2 : j.length ≤ n6 + n7 := by have h1 := HL6.out; have h2 := HL7.out; omega
            have hj2 : Lens j := fun s hs => by
              have h0 := HRK.out
              unfold rulesOk at h0
              rw [Bool.and_eq_true] at h0
              have h1 : (insF (cc ++ dd)) = j := by have := hj; unfold joinRules at this; rw [if_pos HRK.out] at this; exact congrArg Prod.fst this
              rw [← h1, insF_mem] at hs
              rcases List.mem_append.1 hs with hs | hs
              · have := (pairsOk_row h0.1 s hs).2; omega
              · have := (pairsOk_row h0.2 s hs).2; omega
            have HJ2 := Lib.hid hj2
            clear hj hjs hjm hjl hj2
            go_wp2_with fail
            refine (zJoin (P17.snil (A := A6) (n := n6) (c := c6) (p := cc) (by simp)) (P17.snil (A := A7) (n := n7) (c := c7) (p := dd) (by simp)) (by omega) HJ.out).mono ?_
            rintro e w18 ⟨A18, n18, c18, rfl, o18⟩
            have P18 := P17.add o18 ⟨by omega, HJ2.out⟩
            have hn18 : j.length = n18 := P18.len (A := A18) (c := c18) (p := j) (by simp)
            have hn18b : n18 ≤ n6 + n7 := by omega
            clear P17 o18 hn18
            go_wp2_with fail
            refine (rising_srt _ (P18.sin (A := A18) (n := n18) (c := c18) (p := j) (by simp)).1 (by omega) HJS.out).mono ?_
            rintro e w19 ⟨rfl, hb19⟩
            have P19 := P18.later hb19
            clear P18 hb19
            have d5 : decide ((n6 : Int) + (n7 : Int) < (n18 : Int)) = false := by simp; omega
            have d6 : decide (n6 + n7 < n18) = false := by simp; omega
            go_wp2_with fail
            go_loopw [255] (fun i wr => ∃ k : Nat, k ≤ n6 ∧ i = .int .i64 k ∧ Pz w wr [(A18, n18, c18, j), (A7, n7, c7, dd), (A6, n6, c6, cc), (A4, n4, c4, b), (A3, n3, c3, a), (some a2, n2, c2, p)]) (fun i _ => n6 - (intOf i).toNat)
            case atStart => exact ⟨0, Nat.zero_le _, rfl, P19⟩
            case round =>
              clear P19
              obtain ⟨k, hk, rfl, P20⟩ := hrel
              by_cases hlt : k < n6
              · have hkl : k < cc.length := by rw [HL6.out]; exact hlt
                obtain ⟨a6, rfl, hab6, hca6⟩ := (P20.own (A := A6) (n := n6) (c := c6) (p := cc) (by simp)).1.1.str (k := k) hkl
                have HIN := Lib.hid (show decide (cc[k] ∈ j) = true from decide_eq_true (HJM.out _ (List.getElem_mem hkl)))
                obtain ⟨x, hx⟩ : ∃ x, x = cc[k] := ⟨_, rfl⟩
                rw [← hx] at hca6 HIN
                clear hx
                go_wp2_with fail
                refine (in_is HIN.out _ (P20.sin (A := A18) (n := n18) (c := c18) (p := j) (by simp)).1 (by omega)).mono ?_
                rintro e w' ⟨rfl, rfl⟩
                go_wp2_with fail
                exact ⟨⟨k + 1, by omega, by go_num, P20⟩, by simp [intOf]; omega⟩
              · go_upto_region 30 with (fail)
                have P21 : Pz w wr [(A7, n7, c7, dd), (A6, n6, c6, cc)] := P20.sub (by simp)
                obtain ⟨S, hS⟩ : ∃ S, same4 cc dd = S := ⟨_, rfl⟩
                have HS := Lib.hid hS
                have HS1 := Lib.hid (show canRep cc dd 1 = S by rw [canRep_one HRK.out]; exact hS)
                clear hS P20
                go_cut [278] (fun s wc => s = .bool false ∧ Pz w wc [(A7, n7, c7, dd), (A6, n6, c6, cc)])
                case first => as_aux_lemma => --DONE
                  cases S
                  case false =>
                    go_wp2_with fail
                    refine (zRepeat (P21.sin (A := A6) (n := n6) (c := c6) (p := cc) (by simp)) (P21.sin (A := A7) (n := n7) (c := c7) (p := dd) (by simp)) HS1.out).mono ?_
                    rintro e w22 ⟨rfl, hb22⟩
                    have P22 := P21.later hb22
                    clear P21 hb22
                    go_wp2_with fail
                    go_meet
                    exact ⟨rfl, P22⟩
                  case true =>
                    have HS2 := Lib.hid (show canRep cc dd 2 = true from canRep_more (p := 2) HRK.out (by omega) (by omega) HS.out)
                    have HS3 := Lib.hid (show canRep cc dd 3 = true from canRep_more (p := 3) HRK.out (by omega) (by omega) HS.out)
                    go_wp2_with fail
                    refine (zRepeat (P21.sin (A := A6) (n := n6) (c := c6) (p := cc) (by simp)) (P21.sin (A := A7) (n := n7) (c := c7) (p := dd) (by simp)) HS1.out).mono ?_
                    rintro e w22 ⟨rfl, hb22⟩
                    have P22 := P21.later hb22
                    clear P21 hb22
                    go_wp2_with fail
                    refine (zRepeat (P22.sin (A := A6) (n := n6) (c := c6) (p := cc) (by simp)) (P22.sin (A := A7) (n := n7) (c := c7) (p := dd) (by simp)) HS2.out).mono ?_
                    rintro e w23 ⟨rfl, hb23⟩
                    have P23 := P22.later hb23
                    clear P22 hb23
                    go_wp2_with fail
                    refine (zRepeat (P23.sin (A := A6) (n := n6) (c := c6) (p := cc) (by simp)) (P23.sin (A := A7) (n := n7) (c := c7) (p := dd) (by simp)) HS3.out).mono ?_
                    rintro e w24 ⟨rfl, hb24⟩
                    have P24 := P23.later hb24
                    clear P23 hb24
                    go_wp2_with fail
                    go_meet
                    exact ⟨rfl, P24⟩
                case rest => as_aux_lemma =>
                  clear P21
                  obtain ⟨rfl, P24⟩ := hcut
                  have P25 := P24.add (Own.made (w0 := wc) (w := wc) (Below.refl _ _) 9 (svs four4) (by simp [svs, four4])) ⟨by decide, fun s hs => by simp only [four4, List.mem_cons, List.mem_nil_iff, or_false] at hs; rcases hs with rfl | rfl | rfl | rfl <;> decide⟩
                  obtain ⟨a9, ha9⟩ : ∃ a : Addr, a = ⟨wc.heap.size, 0, none⟩ := ⟨_, rfl⟩
                  rw [← ha9] at P25
                  clear P24
                  go_wp2_with fail
                  rw [← ha9]
                  go_loopw [281, 20] (fun i t wr => ∃ k : Nat, k ≤ 4 ∧ i = .int .i64 k ∧ t = .bool (accX cc dd k) ∧ Pz w wr [(some a9, 4, 4, four4), (A7, n7, c7, dd), (A6, n6, c6, cc)]) (fun i _ _ => 4 - (intOf i).toNat)
                  case atStart => exact ⟨0, Nat.zero_le _, rfl, rfl, P25⟩
                  case round =>
                    clear P25 ha9
                    obtain ⟨k, hk, rfl, rfl, P26⟩ := hrel
                    obtain ⟨B, hB⟩ : ∃ B, accX cc dd k = B := ⟨_, rfl⟩
                    have HB := Lib.hid hB
                    rw [hB]
                    clear hB
                    by_cases hlt : k < 4
                    · have hkl : k < four4.length := hlt
                      have HSN := Lib.hid (acc_snoc (c := cc) (d := dd) hkl)
                      obtain ⟨a', ha', _, hca⟩ := (P26.own (A := some a9) (n := 4) (c := 4) (p := four4) (by simp)).1.1.str (k := k) hkl
                      injection ha' with ha'
                      subst ha'
                      obtain ⟨x, hx⟩ : ∃ x, x = four4[k] := ⟨_, rfl⟩
                      rw [← hx] at hca HSN
                      clear hx hkl
                      have d1 : decide ((k : Int) < 4) = true := by simp; omega
                      cases B
                      case true =>
                        have HN := Lib.hid (show accX cc dd (k + 1) = true by rw [HSN.out, HB.out]; rfl)
                        go_wp2_with fail
                        exact ⟨⟨k + 1, by omega, by go_num, by rw [HN.out], P26⟩, by simp [intOf]; omega⟩
                      case false =>
                        obtain ⟨C, hC⟩ : ∃ C, decide (x ∈ cc) = C := ⟨_, rfl⟩
                        obtain ⟨D, hD⟩ : ∃ D, decide (x ∈ dd) = D := ⟨_, rfl⟩
                        have HC := Lib.hid hC
                        have HD := Lib.hid hD
                        have HN := Lib.hid (show accX cc dd (k + 1) = (C && D) by rw [HSN.out, HB.out, sameX, hC, hD]; simp)
                        clear hC hD
                        cases C
                        case false =>
                          go_wp2_with fail
                          refine (in_is HC.out _ (P26.sin (A := A6) (n := n6) (c := c6) (p := cc) (by simp)).1 (by omega)).mono ?_
                          rintro e w' ⟨rfl, rfl⟩
                          go_wp2_with fail
                          exact ⟨⟨k + 1, by omega, by go_num, by rw [HN.out]; rfl, P26⟩, by simp [intOf]; omega⟩
                        case true =>
                          go_wp2_with fail
                          refine (in_is HC.out _ (P26.sin (A := A6) (n := n6) (c := c6) (p := cc) (by simp)).1 (by omega)).mono ?_
                          rintro e w' ⟨rfl, rfl⟩
                          go_wp2_with fail
                          refine (in_is HD.out _ (P26.sin (A := A7) (n := n7) (c := c7) (p := dd) (by simp)).1 (by omega)).mono ?_
                          rintro e w' ⟨rfl, rfl⟩
                          go_wp2_with fail
                          exact ⟨⟨k + 1, by omega, by go_num, by rw [HN.out]; rfl, P26⟩, by simp [intOf]; omega⟩
                    · obtain rfl : k = 4 := by omega
                      obtain rfl : B = S := by rw [← HB.out, acc_all]; exact HS.out
                      obtain ⟨T3, hT3⟩ : ∃ T, canRep cc dd 3 = T := ⟨_, rfl⟩
                      have HT3 := Lib.hid hT3
                      obtain ⟨Z, hZ⟩ : ∃ Z, countOb 3 3 cc dd = Z := ⟨_, rfl⟩
                      have HZ := Lib.hid hZ
                      have HZP := Lib.hid (show T3 = true → decide (0 < Z) = true from fun h => by rw [← hZ]; exact decide_eq_true (canRep_three HRK.out (by rw [hT3]; exact h)))
                      clear hT3 hZ
                      cases B <;> cases T3
                      case false.false | true.false =>
                        go_wp2_with fail
                        refine (zRepeat (P26.sin (A := A6) (n := n6) (c := c6) (p := cc) (by simp)) (P26.sin (A := A7) (n := n7) (c := c7) (p := dd) (by simp)) HS1.out).mono ?_
                        rintro e w27 ⟨rfl, hb27⟩
                        have P27 := P26.later hb27
                        clear P26 hb27
                        go_wp2_with fail
                        refine (zRepeat (P27.sin (A := A6) (n := n6) (c := c6) (p := cc) (by simp)) (P27.sin (A := A7) (n := n7) (c := c7) (p := dd) (by simp)) HT3.out).mono ?_
                        rintro e w28 ⟨rfl, hb28⟩
                        have P28 := P27.later hb28
                        clear P27 hb28
                        go_wp2_with fail
                        go_ret
                        exact ⟨rfl, P28.1⟩
                      case false.true | true.true =>
                        have hzp := HZP.out rfl
                        go_wp2_with fail
                        refine (zRepeat (P26.sin (A := A6) (n := n6) (c := c6) (p := cc) (by simp)) (P26.sin (A := A7) (n := n7) (c := c7) (p := dd) (by simp)) HS1.out).mono ?_
                        rintro e w27 ⟨rfl, hb27⟩
                        have P27 := P26.later hb27
                        clear P26 hb27
                        go_wp2_with fail
                        refine (zRepeat (P27.sin (A := A6) (n := n6) (c := c6) (p := cc) (by simp)) (P27.sin (A := A7) (n := n7) (c := c7) (p := dd) (by simp)) HT3.out).mono ?_
                        rintro e w28 ⟨rfl, hb28⟩
                        have P28 := P27.later hb28
                        clear P27 hb28
                        go_wp2_with fail
                        refine (zCount (P28.sin (A := A6) (n := n6) (c := c6) (p := cc) (by simp)) (P28.sin (A := A7) (n := n7) (c := c7) (p := dd) (by simp)) HZ.out).mono ?_
                        rintro e w29 ⟨rfl, hb29⟩
                        have P29 := P28.later hb29
                        clear P28 hb29
                        go_wp2_with fail
                        go_ret
                        exact ⟨rfl, P29.1⟩
end Go.Proofs.Ytbaleboljcoigaa
