/-
  Contracts of ParentPatch (program and reference). No conditions.
-/
import Derived.Test.YtbjhjpakjinpiaaPCon
import Derived.Test.YtbjhjpakjinpiaaPLet
import Derived.Test.YtbjhjpakjinpiaaHelpS
namespace Go.Proofs.Ytbjhjpakjinpiaa
open Go.RowKit

theorem parentOf_no {b p : Pch} {x y : Int} (h : okP b p x y = false) : parentOf b p x y = ([], false) := by simp [parentOf, h]
theorem parentOf_no2 {b p : Pch} {x y : Nat} (h : parB b p x y = false) : parentOf b p x y = ([], false) := by simp [parentOf, h]
theorem pgood_bad {b p : Pch} {x y k j : Nat} (hk : k < nR p y) (hj : j < nC p x) (h : lcell b p x ((y : Int) + 2 * (k : Int)) j < 0) : parB b p x y = false := by
  have h1 : rgood b p x ((y : Int) + 2 * (k : Int)) (nC p x) = false := range_all_bad hj (by simp; omega)
  have h2 : pgood b p x y (nR p y) = false := range_all_bad hk h1
  unfold parB; rw [h2]; simp
theorem byte_ofNat {z : Nat} (h : z ≤ 3) : z = 0 ∨ z = 1 ∨ z = 2 ∨ z = 3 := by omega
theorem prow_add {b p : Pch} {x : Nat} {v : Int} {j z : Nat} (h : lcell b p x v j = (z : Int)) : prow b p x v (j + 1) = prow b p x v j ++ [UInt8.ofNat (97 + z)] := by rw [prow_snoc, h]; rfl
theorem rgood_add {b p : Pch} {x : Nat} {v : Int} {j z : Nat} (h0 : rgood b p x v j = true) (h : lcell b p x v j = (z : Int)) : rgood b p x v (j + 1) = true := by
  unfold rgood at h0 ⊢; rw [range_all_snoc, h0, h]; simp


theorem isOffset_any (x y : Int) (w : World) : Calls Try.prog 25 #[.int .i64 x, .int .i64 y] w fun e w' => e = .returned (.bool (offOk x y)) ∧ w = w' := by
  cases h1 : wi x 0 1 <;> cases h2 : wi y 0 1
  all_goals
    have H1 := Lib.hid h1
    have H2 := Lib.hid h2
    go_enter Try.func25, Try.ntmps25
    go_wp2_with (go_at_call 29; refine (within_any _ _ _ _).mono ?_; rintro e w' ⟨rfl, rfl⟩)
    go_ret
    exact ⟨ret_bool (by rw [offOk, H1.out, H2.out]; rfl), rfl⟩

set_option maxHeartbeats 3200000 in
theorem cParentPatchI (A0 : Option Addr) (n0 c0 : Nat) (b : Pch) (A1 : Option Addr) (n1 c1 : Nat) (p : Pch) (x y : Int) (W : World) (hb : SIn W A0 n0 c0 b) (hp : SIn W A1 n1 c1 p) :
    Calls Try.prog 7 #[.slice A0 n0 c0, .slice A1 n1 c1, .int .i64 x, .int .i64 y] W (RetSB 9 W (parentOf b p x y).1 (parentOf b p x y).2) := by
  have hcb := iRuleOk_any A0 n0 c0 _ b W hb.1 hb.2.1 hb.longs
  have hcp := iPatchOk_any A1 n1 c1 _ p W hp.1 hp.2.1 hp.longs
  have hlen := Lib.hid hp.1.lenS
  cases hbo : rOk b
  case false =>
    have HE := Lib.hid (parentOf_no (b := b) (p := p) (x := x) (y := y) (by simp [okP, hbo]))
    rw [hbo] at hcb
    have HC := Lib.hid hcb
    clear hcb hcp
    go_enter Try.func7, Try.ntmps7
    go_wp2_with (go_at_call 23; refine HC.out.mono ?_; rintro e w' ⟨rfl, rfl⟩)
    go_ret2
    rw [HE.out]
    exact ⟨_, _, _, rfl, Own.nil (Below.refl _ _) _⟩
  rw [hbo] at hcb
  have HCB := Lib.hid hcb
  clear hcb
  cases hpo : pOk p
  case false =>
    have HE := Lib.hid (parentOf_no (b := b) (p := p) (x := x) (y := y) (by simp [okP, hpo]))
    rw [hpo] at hcp
    have HC := Lib.hid hcp
    clear hcp hbo
    go_enter Try.func7, Try.ntmps7
    go_wp2_with (first | (go_at_call 23; refine HCB.out.mono ?_; rintro e w' ⟨rfl, rfl⟩) | (go_at_call 12; refine HC.out.mono ?_; rintro e w' ⟨rfl, rfl⟩))
    go_ret2
    rw [HE.out]
    exact ⟨_, _, _, rfl, Own.nil (Below.refl _ _) _⟩
  rw [hpo] at hcp
  have HCP := Lib.hid hcp
  clear hcp
  cases hof : offOk x y
  case false =>
    have HE := Lib.hid (parentOf_no (b := b) (p := p) (x := x) (y := y) (by simp [okP, hof]))
    clear hbo hpo
    go_enter Try.func7, Try.ntmps7
    go_wp2_with (first | (go_at_call 23; refine HCB.out.mono ?_; rintro e w' ⟨rfl, rfl⟩) | (go_at_call 12; refine HCP.out.mono ?_; rintro e w' ⟨rfl, rfl⟩) | (go_at_call 25; refine (isOffset_any _ _ _).mono ?_; rintro e w' ⟨rfl, rfl⟩))
    go_ret2
    rw [HE.out]
    exact ⟨_, _, _, rfl, Own.nil (Below.refl _ _) _⟩
  have hof2 := hof
  simp only [offOk, Bool.and_eq_true] at hof2
  have hx2 := wi_yes hof2.1
  have hy2 := wi_yes hof2.2
  obtain ⟨x, rfl⟩ := Int.eq_ofNat_of_zero_le hx2.1
  obtain ⟨y, rfl⟩ := Int.eq_ofNat_of_zero_le hy2.1
  have hx1 : x ≤ 1 := by omega
  have hy1 : y ≤ 1 := by omega
  have hpl := pOk_len hpo
  have hwd := pOk_wd hpo
  have hn32 : n1 ≤ 32 := by have := hlen.out; omega
  have hn0 : 0 < n1 := by have := hlen.out; omega
  have hb4 := (rOk_len hbo).2
  obtain ⟨a, rfl, hab, hc0⟩ := hp.1.str (k := 0) (by omega)
  obtain ⟨r0, hr0⟩ : ∃ r0, r0 = p[0] := ⟨_, rfl⟩
  have HW0 := Lib.hid (show wd p = r0.length by rw [hr0]; exact wd_zero (p := p) (by omega))
  rw [← hr0] at hc0
  have hc00 : W.cell? a = some (.string ⟨r0.toArray⟩) := hc0
  rw [HW0.out] at hwd
  have HP := Lib.hid hp
  have HB := Lib.hid hb
  have HPO := Lib.hid hpo
  have HBO := Lib.hid hbo
  have HOK := Lib.hid (show okP b p (x : Int) (y : Int) = true by simp only [okP, Bool.and_eq_true]; exact ⟨hbo, hpo, hof⟩)
  clear hp hb hpo hbo hx2 hy2 hc0 hr0 hpl hof2
  have HNR := Lib.hid (show nR p y = (n1 - y) / 2 by unfold nR; rw [hlen.out])
  have HNC := Lib.hid (show nC p x = (r0.length - x) / 2 by unfold nC; rw [HW0.out])
  go_enter Try.func7, Try.ntmps7
  go_wp2_with (first | (go_at_call 23; refine HCB.out.mono ?_; rintro e w' ⟨rfl, rfl⟩) | (go_at_call 12; refine HCP.out.mono ?_; rintro e w' ⟨rfl, rfl⟩) | (go_at_call 25; refine (isOffset_any _ _ _).mono ?_; rintro e w' ⟨rfl, rfl⟩))
  clear HCB HCP hof
  go_loopw [11, 10] (fun i out wr => ∃ (k : Nat) (A' : Option Addr) (c' : Nat), k ≤ (n1 - y) / 2 ∧ i = .int .i64 ((y : Int) + 2 * (k : Int)) ∧ out = .slice A' k c' ∧ pgood b p x y k = true ∧ Own W wr 9 A' k c' (svs (prows b p x y k))) (fun i _ _ => n1 + 2 - (intOf i).toNat)
  case atStart => exact ⟨0, _, _, Nat.zero_le _, by simp, rfl, rfl, Own.made0 (Below.refl _ _) _⟩
  case round =>
    obtain ⟨k, A', c', hk, rfl, rfl, hg, hown⟩ := hrel
    have HG := Lib.hid hg
    have HO := Lib.hid hown
    clear hg hown
    by_cases hlt : y + 2 * k + 2 ≤ n1
    · have hd : decide ((y : Int) + 2 * (k : Int) + 2 ≤ (n1 : Int)) = true := by simp; omega
      go_wp2
      go_loopw [13, 12] (fun i s wr => ∃ j : Nat, j ≤ (r0.length - x) / 2 ∧ i = .int .i64 ((x : Int) + 2 * (j : Int)) ∧ s = .string ⟨(prow b p x ((y : Int) + 2 * (k : Int)) j).toArray⟩ ∧ rgood b p x ((y : Int) + 2 * (k : Int)) j = true ∧ Own W wr 9 A' k c' (svs (prows b p x y k))) (fun i _ _ => r0.length + 2 - (intOf i).toNat)
      case atStart => exact ⟨0, Nat.zero_le _, by simp, rfl, rfl, HO.out⟩
      case round =>
        clear HO
        obtain ⟨j, hj, rfl, rfl, hgr, hown⟩ := hrel
        have HGR := Lib.hid hgr
        have HO := Lib.hid hown
        have hcw : wr.cell? a = some (.string ⟨r0.toArray⟩) := (hown.2.cell (p := a) hab).trans hc00
        clear hgr hown
        by_cases hlt2 : x + 2 * j + 2 ≤ r0.length
        · obtain ⟨z, hz⟩ : ∃ z, z = lcell b p x ((y : Int) + 2 * (k : Int)) j := ⟨_, rfl⟩
          have hz3 := lcell_lt b p x ((y : Int) + 2 * (k : Int)) j hb4
          rw [← hz] at hz3
          have HZ := Lib.hid hz
          clear hz
          go_wp2_with fail
          refine (letterOf_any _ _ _ b _ _ _ p _ _ _ (HB.out.later HO.out.2) (HP.out.later HO.out.2) (rOk_four HBO.out) HPO.out (by omega) (by omega)).mono ?_
          rintro e w2 ⟨he, hb2⟩
          have he2 : e = .returned (.int .i64 z) := by rw [he, HZ.out]; rfl
          clear he
          subst he2
          have HO2 := Lib.hid (HO.out.later hb2)
          clear hb2
          by_cases hneg : z < 0
          · have HE := Lib.hid (parentOf_no2 (pgood_bad (b := b) (p := p) (x := x) (y := y) (k := k) (j := j) (by rw [HNR.out]; omega) (by rw [HNC.out]; omega) (by rw [← HZ.out]; exact hneg)))
            go_wp2
            go_ret2
            rw [HE.out]
            exact ⟨_, _, _, rfl, Own.nil HO2.out.2 _⟩
          · obtain ⟨z, rfl⟩ := Int.eq_ofNat_of_zero_le (show 0 ≤ z by omega)
            have HA := Lib.hid (prow_add HZ.out.symm)
            have HGA := Lib.hid (rgood_add HGR.out HZ.out.symm)
            have hz3 : z ≤ 3 := by simpa using hz3
            have hpl2 := prow_len b p x ((y : Int) + 2 * (k : Int)) j
            obtain ⟨R, hR⟩ : ∃ R, R = prow b p x ((y : Int) + 2 * (k : Int)) j := ⟨_, rfl⟩
            rw [← hR] at HA hpl2 ⊢
            have hlim : ¬ 9223372036854775807 < R.length + 1 := by omega
            clear hR hpl2 HZ hneg
            rcases byte_ofNat hz3 with rfl | rfl | rfl | rfl
            all_goals
              go_wp2
              exact ⟨⟨j + 1, by omega, by congr 1 <;> omega, by rw [HA.out]; rfl, HGA.out, HO2.out⟩, by simp [intOf]; omega⟩
        · obtain rfl : j = (r0.length - x) / 2 := by omega
          have HPG := Lib.hid (show pgood b p x y (k + 1) = true by unfold pgood at HG ⊢; rw [range_all_snoc, HG.out, HNC.out, HGR.out]; rfl)
          have HPS := Lib.hid (show prows b p x y (k + 1) = prows b p x y k ++ [prow b p x ((y : Int) + 2 * (k : Int)) ((r0.length - x) / 2)] by rw [prows_snoc, HNC.out])
          have hown := HO.out
          clear HO HG
          go_wp2_with (at_builtin; refine app_one (.tmp 61) (.tmp 63) _ _ _ 16 rfl rfl Try.underlying23 infoS rfl rfl hown rfl rfl (by omega) (by omega) ?_; intro A2 c2 w1 hown1)
          exact ⟨⟨k + 1, A2, c2, by omega, by congr 1 <;> omega, rfl, HPG.out, by rw [HPS.out, svs_snoc]; exact hown1⟩, by simp [intOf]; omega⟩
    · obtain rfl : k = (n1 - y) / 2 := by omega
      have hcq := iPatchOk_any A' ((n1 - y) / 2) c' _ (prows b p x y ((n1 - y) / 2)) wr HO.out.rd (by omega) (fun s hs => by
        obtain ⟨i, _, rfl⟩ := List.mem_map.1 hs
        rw [prow_len, HNC.out]; omega)
      have hq : pOk (prows b p x y ((n1 - y) / 2)) = (decide (y + 2 ≤ p.length) && decide (x + 2 ≤ wd p)) := by rw [← HNR.out]; exact pOk_prows hb4 HPO.out
      have hpe : parB b p x y = (decide (y + 2 ≤ p.length) && decide (x + 2 ≤ wd p)) := by
        unfold parB; rw [HNR.out, HG.out, Bool.and_true]
      rw [← hpe] at hq
      rw [hq] at hcq
      have HCQ := Lib.hid hcq
      clear hcq hq hpe
      cases hpb : parB b p x y
      · rw [hpb] at HCQ
        have HE := Lib.hid (parentOf_no2 hpb)
        clear hpb
        go_wp2_with (go_at_call 12; refine HCQ.out.mono ?_; rintro e w' ⟨rfl, rfl⟩)
        go_ret2
        rw [HE.out]
        exact ⟨_, _, _, rfl, Own.nil HO.out.2 _⟩
      · rw [hpb] at HCQ
        have HE := Lib.hid (show parentOf b p x y = (prows b p x y ((n1 - y) / 2), true) by
          have h2 := HOK.out
          simp [parentOf, hpb, h2, HNR.out])
        clear hpb
        go_wp2_with (go_at_call 12; refine HCQ.out.mono ?_; rintro e w' ⟨rfl, rfl⟩)
        go_ret2
        rw [HE.out]
        exact ⟨_, _, _, rfl, HO.out⟩
end Go.Proofs.Ytbjhjpakjinpiaa
