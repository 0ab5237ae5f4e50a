/-
  Contracts of slices.Clone at []string and of AncestorPatch (program and reference). No conditions.
-/
import Derived.Test.YtbjhjpakjinpiaaPPar
import Derived.Test.YtbjhjpakjinpiaaIns
namespace Go.Proofs.Ytbjhjpakjinpiaa
open Go.RowKit

theorem ancF_stop {b q : Pch} (h : goes b q = false) (f : Nat) : ancF b f q = (q, 0) := by
  cases f with
  | zero => rfl
  | succ f => unfold ancF; rw [h]; rfl
theorem ancF_go {b q : Pch} (h : goes b q = true) {k : Nat} (hk : k < 32) : ancF b (32 - k) q = ((ancF b (32 - (k + 1)) (parentOf b q 0 0).1).1, (ancF b (32 - (k + 1)) (parentOf b q 0 0).1).2 + 1) := by
  obtain ⟨f, hf⟩ : ∃ f, 32 - k = f + 1 := ⟨31 - k, by omega⟩
  have h2 : 32 - (k + 1) = f := by omega
  rw [hf, h2, ancF, h]; rfl
def AncAt (b p q : Pch) (k : Nat) : Prop := ancF b 32 p = ((ancF b (32 - k) q).1, (ancF b (32 - k) q).2 + k)
theorem AncAt.start (b p : Pch) : AncAt b p p 0 := by simp [AncAt]
theorem AncAt.step {b p q : Pch} {k : Nat} (h : AncAt b p q k) (hg : goes b q = true) (hk : k < 32) : AncAt b p (parentOf b q 0 0).1 (k + 1) := by
  unfold AncAt at h ⊢
  rw [h, ancF_go hg hk]
  simp only [Prod.mk.injEq, true_and]
  omega
theorem AncAt.stop {b p q : Pch} {k : Nat} (h : AncAt b p q k) (hg : goes b q = false) : ancF b 32 p = (q, k) := by
  unfold AncAt at h
  rw [h, ancF_stop hg]; simp
theorem anc_eq {b p q : Pch} {k : Nat} (hb : rOk b = true) (hp : pOk p = true) (h : ancF b 32 p = (q, k)) : anc b p = (q, (k : Int)) := by
  unfold anc; rw [hb, hp, h]; rfl
theorem anc_no {b p : Pch} (h : (rOk b && pOk p) = false) : anc b p = ([], -1) := by unfold anc; rw [h]; rfl

set_option maxHeartbeats 800000 in
theorem clone_any (a : Addr) (n c : Nat) (p : Pch) (W : World) (hp : SIn W (some a) n c p) :
    Calls Try.prog 33 #[.slice (some a) n c] W (RetS 9 W p) := by
  have HP := Lib.hid hp
  have hn := hp.2.1
  have HXA := Lib.hid (show (some a : Option Addr) = none → c = 0 from fun h => by cases h)
  have hnil := fun w => Lib.run_eql_slice_nil (P := Try.prog) w 23 9 (some a) n c 0 0 Try.underlying23
  clear hp
  go_enter Try.func33, Try.ntmps33
  go_wp2_with (at_builtin; (refine app_own (.tmp 5) (.tmp 6) _ _ _ 16 rfl rfl Try.underlying23 infoS rfl rfl (Own.made0 (w0 := W) (Below.refl _ _) 9) rfl HXA.out (HP.out.1.later (Below.allocI W _)) (svs_one p) (by omega) (by omega) ?_; intro A2 c2 w1 hown1 _; simp only [Nat.zero_add, List.nil_append] at hown1))
  go_ret
  exact ⟨_, _, _, rfl, hown1⟩

set_option maxHeartbeats 3200000 in
theorem cAncestorPatchI (A0 : Option Addr) (n0 c0 : Nat) (b : Pch) (A1 : Option Addr) (n1 c1 : Nat) (p : Pch) (W : World) (hb : SIn W A0 n0 c0 b) (hp : SIn W A1 n1 c1 p) :
    Calls Try.prog 16 #[.slice A0 n0 c0, .slice A1 n1 c1] W (RetSI 9 W (anc b p).1 (anc b p).2) := by
  have hcb := iRuleOk_any A0 n0 c0 _ b W hb.1 hb.2.1 hb.longs
  have hcp := iPatchOk_any A1 n1 c1 _ p W hp.1 hp.2.1 hp.longs
  have hlen := Lib.hid hp.1.lenS
  cases hbo : rOk b
  case false =>
    have HE := Lib.hid (anc_no (b := b) (p := p) (by simp [hbo]))
    rw [hbo] at hcb
    have HC := Lib.hid hcb
    clear hcb hcp
    go_enter Try.func16, Try.ntmps16
    go_wp2_with (go_at_call 23; refine HC.out.mono ?_; rintro e w' ⟨rfl, rfl⟩)
    go_ret2
    rw [HE.out]
    exact ⟨_, _, _, rfl, Own.nil (Below.refl _ _) _⟩
  rw [hbo] at hcb
  have HCB := Lib.hid hcb
  clear hcb
  cases hpo : pOk p
  case false =>
    have HE := Lib.hid (anc_no (b := b) (p := p) (by simp [hpo]))
    rw [hpo] at hcp
    have HC := Lib.hid hcp
    clear hcp hbo
    go_enter Try.func16, Try.ntmps16
    go_wp2_with (first | (go_at_call 23; refine HCB.out.mono ?_; rintro e w' ⟨rfl, rfl⟩) | (go_at_call 12; refine HC.out.mono ?_; rintro e w' ⟨rfl, rfl⟩))
    go_ret2
    rw [HE.out]
    exact ⟨_, _, _, rfl, Own.nil (Below.refl _ _) _⟩
  rw [hpo] at hcp
  have HCP := Lib.hid hcp
  clear hcp
  have hpl := pOk_len hpo
  have hn32 : n1 ≤ 32 := by have := hlen.out; omega
  have hn0 : 0 < n1 := by have := hlen.out; omega
  obtain ⟨a, rfl, hab, hzz⟩ := hp.1.str (k := 0) (by omega)
  clear hzz
  have HP := Lib.hid hp
  have HB := Lib.hid hb
  have HPO := Lib.hid hpo
  have HBO := Lib.hid hbo
  clear hp hb hpo hbo hpl
  go_enter Try.func16, Try.ntmps16
  go_wp2_with (first | (go_at_call 23; refine HCB.out.mono ?_; rintro e w' ⟨rfl, rfl⟩) | (go_at_call 12; refine HCP.out.mono ?_; rintro e w' ⟨rfl, rfl⟩) | (go_at_call 33; refine (clone_any _ _ _ p _ HP.out).mono ?_; rintro e w1 ⟨A2, n2, c2, rfl, hown1⟩))
  clear HCB HCP
  have HO1 := Lib.hid hown1
  clear hown1
  go_loopw [1, 6] (fun out i wr => ∃ (k : Nat) (q : Pch) (A' : Option Addr) (m c' : Nat), i = .int .i64 k ∧ out = .slice A' m c' ∧ Own W wr 9 A' m c' (svs q) ∧ pOk q = true ∧ q.length + k ≤ 32 ∧ AncAt b p q k) (fun out _ _ => match out with | .slice _ m _ => m | _ => 0)
  case atStart => exact ⟨0, p, _, _, _, rfl, rfl, HO1.out, HPO.out, by have := hlen.out; omega, AncAt.start b p⟩
  case round =>
    clear HO1
    obtain ⟨k, q, A', m, c', rfl, rfl, hown, hqo, hqk, hanc⟩ := hrel
    have hqm : q.length = m := by have := hown.len; simpa [svs] using this
    have hq1 := pOk_len hqo
    obtain ⟨a2, rfl, hab2, hq0⟩ := hown.rd.str (k := 0) (by omega)
    obtain ⟨r0, hr0⟩ : ∃ r0, r0 = q[0] := ⟨_, rfl⟩
    have HW0 := Lib.hid (show wd q = r0.length by rw [hr0]; exact wd_zero (p := q) (by omega))
    rw [← hr0] at hq0
    have hqc : wr.cell? a2 = some (.string ⟨r0.toArray⟩) := hq0
    have hcap := hown.cap
    have HIN := Lib.hid (SIn.of hown.rd (by omega) (fun s hs => by have := pOk_row hqo hs; omega) hown.cap)
    have HO := Lib.hid hown
    have HQO := Lib.hid hqo
    have HA := Lib.hid hanc
    have HQM := Lib.hid hqm
    have hm1 : 1 ≤ m := by omega
    have hm32 : m + k ≤ 32 := by omega
    have hr32 : r0.length ≤ 32 := by have := pOk_wd hqo; rw [HW0.out] at this; omega
    clear hr0 hq0 hown hqo hanc hqm hq1 hqk
    by_cases hpar : m % 2 = 0
    · by_cases hpar2 : r0.length % 2 = 0
      · have g1 : ((m : Int) % 2 == 1) = false := by simp; omega
        have g2 : ((r0.length : Int) % 2 == 1) = false := by simp; omega
        have hcp := cParentPatchI A0 n0 c0 b (some a2) m c' q 0 0 wr (HB.out.later HO.out.2) HIN.out
        have hgo : goes b q = (parentOf b q 0 0).2 := by
          unfold goes
          rw [HQM.out, HW0.out, decide_eq_true hpar, decide_eq_true hpar2]; rfl
        clear hpar hpar2
        cases hpp : (parentOf b q 0 0).2
        · rw [hpp] at hcp hgo
          have HCP := Lib.hid hcp
          have HE := Lib.hid (anc_eq HBO.out HPO.out (HA.out.stop hgo))
          clear hcp hgo hpp
          go_wp2_with (go_at_call 7; refine HCP.out.mono ?_; rintro e w1 ⟨A3, n3, c3, rfl, ho⟩)
          go_ret2
          rw [HE.out]
          exact ⟨_, _, _, rfl, HO.out.later ho.2⟩
        · rw [hpp] at hcp hgo
          have HCP := Lib.hid hcp
          have HST := Lib.hid (HA.out.step hgo (by omega))
          have HQ2 := Lib.hid (parentOf_pOk hpp)
          have hgl := goes_len hgo
          rw [HQM.out] at hgl
          obtain ⟨hgl1, hgl2⟩ := hgl
          clear hcp hgo hpp
          have HGL := Lib.hid hgl1
          clear hgl1
          go_wp2_with (go_at_call 7; refine HCP.out.mono ?_; rintro e w1 ⟨A3, n3, c3, rfl, ho⟩)
          have h3 : n3 = m / 2 := by have h1 := ho.len; rw [← HGL.out]; simpa [svs] using h1.symm
          exact ⟨⟨k + 1, _, A3, n3, c3, by go_num, rfl, ho.up HO.out.2, HQ2.out, by rw [HGL.out]; omega, HST.out⟩, by simp; omega⟩
      · have g1 : ((m : Int) % 2 == 1) = false := by simp; omega
        have g2 : ((r0.length : Int) % 2 == 1) = true := by simp; omega
        have hgo : goes b q = false := by
          unfold goes
          rw [HW0.out, decide_eq_false hpar2]; simp
        have HE := Lib.hid (anc_eq HBO.out HPO.out (HA.out.stop hgo))
        clear hgo hpar hpar2
        go_wp2
        go_ret2
        rw [HE.out]
        exact ⟨_, _, _, rfl, HO.out⟩
    · have g1 : ((m : Int) % 2 == 1) = true := by simp; omega
      have hgo : goes b q = false := by
        unfold goes
        rw [HQM.out, decide_eq_false hpar]; simp
      have HE := Lib.hid (anc_eq HBO.out HPO.out (HA.out.stop hgo))
      clear hgo hpar
      go_wp2
      go_ret2
      rw [HE.out]
      exact ⟨_, _, _, rfl, HO.out⟩
end Go.Proofs.Ytbjhjpakjinpiaa
