/-
  Contracts of l22Fits and FitsAt (program and reference). No conditions.
-/
import Derived.Test.YtbjhjpakjinpiaaPPar
namespace Go.Proofs.Ytbjhjpakjinpiaa
open Go.RowKit

theorem parentOf_offs {b p : Pch} {x y : Int} (h : (parentOf b p x y).2 = true) : rOk b = true ∧ pOk p = true ∧ (0 ≤ x ∧ x ≤ 1) ∧ (0 ≤ y ∧ y ≤ 1) := by
  have h1 := (parentOf_ok h).1
  simp only [okP, offOk, Bool.and_eq_true] at h1
  exact ⟨h1.1, h1.2.1, wi_yes h1.2.2.1, wi_yes h1.2.2.2⟩
theorem fits_bad {b p : Pch} {x y i k : Nat} (hi : i < nV p y) (hk : k < nU p x) (h : fcell b p x ((y : Int) - 2 + 2 * (i : Int)) k < 0) : fitsAt b p x y = false := by
  have h1 : fitsRow b p x ((y : Int) - 2 + 2 * (i : Int)) (nU p x) = false := range_all_bad hk (by simp; omega)
  have h2 : fitsAll b p x y (nV p y) = false := range_all_bad hi h1
  unfold fitsAt; simp [h2]
theorem fitsAt_no {b p : Pch} {x y : Int} (h : (parentOf b p x y).2 = false) : fitsAt b p x y = false := by simp [fitsAt, h]


set_option maxHeartbeats 3200000 in
theorem cFitsAtI (A0 : Option Addr) (n0 c0 : Nat) (b : Pch) (A1 : Option Addr) (n1 c1 : Nat) (p : Pch) (x y : Int) (W : World) (hb : SIn W A0 n0 c0 b) (hp : SIn W A1 n1 c1 p) :
    Calls Try.prog 10 #[.slice A0 n0 c0, .slice A1 n1 c1, .int .i64 x, .int .i64 y] W fun e w' => e = .returned (.bool (fitsAt b p x y)) ∧ Below W.heap.size W w' := by
  have hcp := cParentPatchI A0 n0 c0 b A1 n1 c1 p x y W hb hp
  have hlen := Lib.hid hp.1.lenS
  have HP := Lib.hid hp
  have HB := Lib.hid hb
  cases hpar : (parentOf b p x y).2
  case false =>
    have HE := Lib.hid (fitsAt_no hpar)
    rw [hpar] at hcp
    have HC := Lib.hid hcp
    clear hcp hb hp hpar
    go_enter Try.func10, Try.ntmps10
    go_wp2_with (go_at_call 7; refine HC.out.mono ?_; rintro e w1 ⟨A2, n2, c2, rfl, ho⟩)
    go_ret
    exact ⟨ret_bool HE.out.symm, ho.2⟩
  rw [hpar] at hcp
  obtain ⟨hbo, hpo, hx2, hy2⟩ := parentOf_offs hpar
  have HC := Lib.hid hcp
  have HPar := Lib.hid hpar
  obtain ⟨x, rfl⟩ := Int.eq_ofNat_of_zero_le hx2.1
  obtain ⟨y, rfl⟩ := Int.eq_ofNat_of_zero_le hy2.1
  have hx1 : x ≤ 1 := by omega
  have hy1 : y ≤ 1 := by omega
  have hpl := pOk_len hpo
  have hwd := pOk_wd hpo
  have hn32 : n1 ≤ 32 := by have := hlen.out; omega
  have hn0 : 0 < n1 := by have := hlen.out; omega
  obtain ⟨a, rfl, hab, hc0⟩ := hp.1.str (k := 0) (by omega)
  obtain ⟨r0, hr0⟩ : ∃ r0, r0 = p[0] := ⟨_, rfl⟩
  have HW0 := Lib.hid (show wd p = r0.length by rw [hr0]; exact wd_zero (p := p) (by omega))
  rw [← hr0] at hc0
  have hc00 : W.cell? a = some (.string ⟨r0.toArray⟩) := hc0
  rw [HW0.out] at hwd
  have HPO := Lib.hid hpo
  have HBO := Lib.hid hbo
  have HNV := Lib.hid (show nV p y = (n1 + 3 - y) / 2 by unfold nV; rw [hlen.out])
  have HNU := Lib.hid (show nU p x = (r0.length + 3 - x) / 2 by unfold nU; rw [HW0.out])
  clear hp hb hpo hbo hx2 hy2 hc0 hr0 hpl hcp hpar
  go_enter Try.func10, Try.ntmps10
  go_wp2_with (go_at_call 7; refine HC.out.mono ?_; rintro e w1 ⟨A2, n2, c2, rfl, ho⟩)
  have HO1 := Lib.hid ho.2
  clear HC ho
  go_loopw [11] (fun i wr => ∃ k : Nat, k ≤ (n1 + 3 - y) / 2 ∧ i = .int .i64 ((y : Int) - 2 + 2 * (k : Int)) ∧ fitsAll b p x y k = true ∧ Below W.heap.size W wr) (fun i _ => (n1 + 2 - intOf i).toNat)
  case atStart => exact ⟨0, Nat.zero_le _, by simp, rfl, HO1.out⟩
  case round =>
    clear HO1
    obtain ⟨k, hk, rfl, hg, hbel⟩ := hrel
    have HG := Lib.hid hg
    have HBel := Lib.hid hbel
    clear hg hbel
    by_cases hlt : (y : Int) - 2 + 2 * (k : Int) < (n1 : Int)
    · have hd : decide ((y : Int) - 2 + 2 * (k : Int) < (n1 : Int)) = true := by simp; omega
      go_wp2
      go_loopw [12] (fun i wr => ∃ j : Nat, j ≤ (r0.length + 3 - x) / 2 ∧ i = .int .i64 ((x : Int) - 2 + 2 * (j : Int)) ∧ fitsRow b p x ((y : Int) - 2 + 2 * (k : Int)) j = true ∧ Below W.heap.size W wr) (fun i _ => (r0.length + 2 - intOf i).toNat)
      case atStart => exact ⟨0, Nat.zero_le _, by simp, rfl, HBel.out⟩
      case round =>
        clear HBel
        obtain ⟨j, hj, rfl, hgr, hbel⟩ := hrel
        have HGR := Lib.hid hgr
        have HBel := Lib.hid hbel
        have hcw : wr.cell? a = some (.string ⟨r0.toArray⟩) := (hbel.cell (p := a) hab).trans hc00
        have hsz := hbel.size
        clear hgr hbel
        by_cases hlt2 : (x : Int) - 2 + 2 * (j : Int) < (r0.length : Int)
        · obtain ⟨z, hz⟩ : ∃ z, z = fcell b p x ((y : Int) - 2 + 2 * (k : Int)) j := ⟨_, rfl⟩
          have HZ := Lib.hid hz
          clear hz
          go_wp2_with fail
          refine (letterOf_any _ _ _ b _ _ _ p _ _ _ (HB.out.later HBel.out) (HP.out.later HBel.out) (rOk_four HBO.out) HPO.out (by omega) (by omega)).mono ?_
          rintro e w2 ⟨he, hb2⟩
          have he2 : e = .returned (.int .i64 z) := by rw [he, HZ.out]; rfl
          clear he
          subst he2
          have HB2 := Lib.hid (HBel.out.trans (hb2.mono hsz))
          clear hb2
          by_cases hneg : z < 0
          · have HE := Lib.hid (fits_bad (b := b) (p := p) (x := x) (y := y) (i := k) (k := j) (by rw [HNV.out]; omega) (by rw [HNU.out]; omega) (by rw [← HZ.out]; exact hneg))
            go_wp2
            go_ret
            exact ⟨ret_bool HE.out.symm, HB2.out⟩
          · have HGA := Lib.hid (show fitsRow b p x ((y : Int) - 2 + 2 * (k : Int)) (j + 1) = true by
              have h1 := HGR.out
              unfold fitsRow at h1 ⊢
              rw [range_all_snoc, h1, ← HZ.out]; simp; omega)
            go_wp2
            exact ⟨⟨j + 1, by omega, by congr 1 <;> omega, HGA.out, HB2.out⟩, by simp [intOf]; omega⟩
        · obtain rfl : j = (r0.length + 3 - x) / 2 := by omega
          have HPG := Lib.hid (show fitsAll b p x y (k + 1) = true by have h1 := HG.out; unfold fitsAll at h1 ⊢; rw [range_all_snoc, h1, HNU.out, HGR.out]; rfl)
          go_wp2
          exact ⟨⟨k + 1, by omega, by congr 1 <;> omega, HPG.out, HBel.out⟩, by simp [intOf]; omega⟩
    · obtain rfl : k = (n1 + 3 - y) / 2 := by omega
      have HE := Lib.hid (show fitsAt b p x y = true by
        have h1 := HPar.out
        have h2 := HG.out
        rw [← HNV.out] at h2
        simp [fitsAt, h1, h2])
      go_wp2
      go_ret
      exact ⟨ret_bool HE.out.symm, HBel.out⟩

end Go.Proofs.Ytbjhjpakjinpiaa
