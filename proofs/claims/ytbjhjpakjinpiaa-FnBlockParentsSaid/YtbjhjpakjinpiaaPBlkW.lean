/-
  The walk of the law FnBlockParents. No conditions.
-/
import Derived.Test.YtbjhjpakjinpiaaPBlkC
import Derived.Deep.DeepCutAuto
namespace Go.Proofs.Ytbjhjpakjinpiaa
open Go.RowKit

theorem bd1P (w : World) : Below w.heap.size w w.drew := (Below.refl _ _).drew
theorem SOwn.cell0P {W : World} {a : Addr} {n c : Nat} {p : PCh} {r : List UInt8} (h : SOwn W (some a) n c p) (hr : p[0]? = some r) : W.cell? a = some (.string ⟨r.toArray⟩) := by
  obtain ⟨h0, h1⟩ := List.getElem?_eq_some_iff.1 hr
  obtain ⟨a', ha', _, hc⟩ := h.1.1.str (k := 0) h0
  injection ha' with ha'
  subst ha'
  rw [h1] at hc
  exact hc

set_option maxRecDepth 100000 in
set_option maxHeartbeats 4000000 in
theorem walk_FnBlockParents (A : Option Addr) (n c : Nat) (l : List UInt8) (w : World) (h : BytesArg w A n c l) : Calls Try.prog 3 #[.slice A n c] w fun e w' => e = .returned (.bool true) ∧ Below w.heap.size w w' := by
  obtain ⟨hrd, hnc, hcm⟩ := h
  by_cases hbig : n ≤ 1048576
  case neg =>
    go_enter Try.func3, Try.ntmps3
    go_wp2_with fail
    go_ret
    exact ⟨rfl, Below.refl _ _⟩
  have HR := Lib.hid hrd
  clear hrd
  go_enter Try.func3, Try.ntmps3
  go_wp2_with fail
  refine (MakeRule_any A n c l 0 w HR.out hbig (by omega)).mono ?_
  rintro e w1 ⟨A1, n1, c1, b, rfl, hb, o1⟩
  have hn1 : b.length = n1 := by have := o1.len; simpa [svs] using this
  have HB := Lib.hid hb
  have P1 := (Pts.start w).add o1 (rOk_lens hb)
  have hb4 := rOk_len hb
  clear o1 hb
  go_wp2_with fail
  refine (MakePatch_any A n c l 20 n1 w1 (HR.out.later P1.1) hbig (by omega) (by omega) (by omega)).mono ?_
  rintro e w2 ⟨A2, n2, c2, p, rfl, hp, o2⟩
  rw [← hn1] at hp
  have hpk := patK_ok HB.out hp
  have hn2 : p.length = n2 := by have := o2.len; simpa [svs] using this
  have HN2 := Lib.hid hn2
  have P2 := P1.add o2 (pOk_lens hpk.1)
  have HP := Lib.hid hpk
  have hpl := pOk_len hpk.1
  have hp5 := hpk.2.2.1
  have hw5 := hpk.2.2.2
  have hw1 := pOk_wd hpk.1
  have HAP := Lib.hid (apOk_of HB.out hpk.1 hpk.2.1 (by omega) (by omega))
  have HQ := Lib.hid (apply_ok HB.out hpk.1 hpk.2.1 (by omega) (by omega))
  have HPA := Lib.hid (parent_apply HB.out hpk.1 hpk.2.1 (by omega) (by omega))
  have HRO := Lib.hid (rec_ok HB.out hpk.1 hpk.2.1 (by omega) (by omega))
  have HRA := Lib.hid (apOk_of (p := recP b p) HB.out HRO.out (rec_has HB.out (List.all_eq_true.1 hpk.2.1)) (by rw [rec_len]; omega) (by rw [rect_wd (rec_rect (b := b) (pOk_rect hpk.1)) (by rw [rec_len]; omega)]; omega))
  have HRE := Lib.hid (apply_rec HB.out (List.all_eq_true.1 hpk.2.1))
  have HFI := Lib.hid (fits_apply HB.out hpk.1 hpk.2.1 (by omega) (by omega))
  clear o2 hp hpk P1
  go_wp2_with fail
  refine (tApply (P2.own (p := b) (by simp)) (P2.own (p := p) (by simp)) HAP.out).mono ?_
  rintro e w3 ⟨A3, n3, c3, rfl, o3⟩
  have HN3 := Lib.hid (show (applyB b p).length = n3 by have := o3.len; simpa [svs] using this)
  have P3 := P2.add o3 (pOk_lens HQ.out)
  clear o3 P2
  go_wp2_with fail
  refine (tParent (P3.own (p := b) (by simp)) (P3.own (p := applyB b p) (by simp)) HPA.out).mono ?_
  rintro e w4 ⟨A4, n4, c4, rfl, o4⟩
  have P4 := P3.add o4 (pOk_lens HRO.out)
  clear o4 P3
  go_wp2_with fail
  refine (tApply (P4.own (p := b) (by simp)) (P4.own (p := recP b p) (by simp)) HRA.out).mono ?_
  rintro e w5 ⟨A5, n5, c5, rfl, o5⟩
  rw [HRE.out] at o5
  have P5 := P4.add o5 (pOk_lens HQ.out)
  clear o5 P4
  have HNF := Lib.hid (show forcedB b = true → b.Nodup from fun h => by simp only [forcedB, Bool.and_eq_true, decide_eq_true_eq] at h; exact h.2)
  go_upto_region 8 with (fail)
  go_cut [91] (fun s wc => s = .bool false ∧ Pts w wc [(A3, n3, c3, applyB b p), (A2, n2, c2, p), (A1, n1, c1, b)])
  case first => as_aux_lemma =>
    go_wp2_with fail
    refine (equal_same _ _ _ _ _ _ _ _ (P5.own (A := A5) (n := n5) (c := c5) (p := applyB b p) (by simp)) (P5.own (A := A3) (n := n3) (c := c3) (p := applyB b p) (by simp))).mono ?_
    rintro e w' ⟨rfl, rfl⟩
    cases hf : forcedB b
    case false =>
      have HF := Lib.hid hf
      clear hf
      go_wp2_with fail
      refine (tForced (P5.own (A := A1) (n := n1) (c := c1) (p := b) (by simp)) HF.out).mono ?_
      rintro e w6 ⟨rfl, hb6⟩
      have P6 := P5.later hb6
      clear P5 hb6
      go_wp2_with fail
      refine (tFits (P6.own (A := A1) (n := n1) (c := c1) (p := b) (by simp)) (P6.own (A := A3) (n := n3) (c := c3) (p := applyB b p) (by simp)) HFI.out).mono ?_
      rintro e w7 ⟨rfl, hb7⟩
      have P7 : Pts w w7 [(A3, n3, c3, applyB b p), (A2, n2, c2, p), (A1, n1, c1, b)] := (P6.later hb7).sub (by simp)
      go_wp2_with fail
      go_meet
      exact ⟨rfl, P7⟩
    case true =>
      have HF := Lib.hid hf
      clear hf
      have HID := Lib.hid (rec_id HB.out (HNF.out HF.out) HP.out.1 (List.all_eq_true.1 HP.out.2.1))
      go_wp2_with fail
      refine (tForced (P5.own (A := A1) (n := n1) (c := c1) (p := b) (by simp)) HF.out).mono ?_
      rintro e w6 ⟨rfl, hb6⟩
      have P6 := P5.later hb6
      clear P5 hb6
      have q1 := P6.own (A := A4) (n := n4) (c := c4) (p := recP b p) (by simp)
      rw [HID.out] at q1
      go_wp2_with fail
      refine (equal_same _ _ _ _ _ _ _ _ q1 (P6.own (A := A2) (n := n2) (c := c2) (p := p) (by simp))).mono ?_
      rintro e w' ⟨rfl, rfl⟩
      clear q1 HID
      go_wp2_with fail
      refine (tFits (P6.own (A := A1) (n := n1) (c := c1) (p := b) (by simp)) (P6.own (A := A3) (n := n3) (c := c3) (p := applyB b p) (by simp)) HFI.out).mono ?_
      rintro e w7 ⟨rfl, hb7⟩
      have P7 : Pts w w7 [(A3, n3, c3, applyB b p), (A2, n2, c2, p), (A1, n1, c1, b)] := (P6.later hb7).sub (by simp)
      go_wp2_with fail
      go_meet
      exact ⟨rfl, P7⟩
  case rest => as_aux_lemma =>
    clear P5
    obtain ⟨rfl, P7⟩ := hcut
    go_wp2_with fail
    refine (tOffs (P7.own (A := A1) (n := n1) (c := c1) (p := b) (by simp)) (P7.own (A := A3) (n := n3) (c := c3) (p := applyB b p) (by simp))).mono ?_
    rintro e w8 ⟨A8, n8, c8, rfl, hG, hb8⟩
    have P8 := P7.later hb8
    clear P7 hb8
    obtain ⟨a8, g0, d0, rfl, hk0, hk1, hk2, _⟩ := hG.at2 (k := 0) (offs_first HFI.out)
    have hl8 := offs_len b (applyB b p)
    have hl9 : 0 < (offs b (applyB b p)).length := (List.getElem?_eq_some_iff.1 (offs_first HFI.out)).1
    have HL8 := Lib.hid hG.len
    have hn8 : 1 ≤ n8 ∧ n8 ≤ 4 := by have := HL8.out; omega
    obtain ⟨hn81, hn84⟩ := hn8
    have HG := Lib.hid hG
    have hk0' : w8.cell? a8 = some (.slice (some g0) 2 d0) := hk0
    clear hG hl8 hl9 hk0
    have f1 : ¬ n8 < 1 := by omega
    have f2 : ¬ 4 < n8 := by omega
    have f3 : 0 < n8 := by omega
    go_wp2_with fail
    clear hk0' hk1 hk2 f1 f2
    go_loopw [12] (fun i wr => ∃ x : Nat, x ≤ 2 ∧ i = .int .i64 x ∧ Pts w wr [(A3, n3, c3, applyB b p), (A2, n2, c2, p), (A1, n1, c1, b)] ∧ Grd wr (some a8) n8 (offs b (applyB b p))) (fun i _ => 2 - (intOf i).toNat)
    case atStart => exact ⟨0, Nat.zero_le _, rfl, P8, HG.out⟩
    case round => as_aux_lemma =>
      clear P8 HG
      obtain ⟨x, hx, rfl, hP, hG⟩ := hrel
      have HG := Lib.hid hG
      clear hG
      by_cases hxl : x < 2
      · have hd : decide ((x : Int) < 2) = true := by simp; omega
        go_wp2_with fail
        go_loopw [13] (fun i w9 => ∃ y : Nat, y ≤ 2 ∧ i = .int .i64 y ∧ Pts w w9 [(A3, n3, c3, applyB b p), (A2, n2, c2, p), (A1, n1, c1, b)] ∧ Grd w9 (some a8) n8 (offs b (applyB b p))) (fun i _ => 2 - (intOf i).toNat)
        case atStart => exact ⟨0, Nat.zero_le _, rfl, hP, HG.out⟩
        case round => as_aux_lemma =>
          clear hP HG
          obtain ⟨y, hy, rfl, hP, hG⟩ := hrel
          have HG := Lib.hid hG
          clear hG
          by_cases hyl : y < 2
          · have hd2 : decide ((y : Int) < 2) = true := by simp; omega
            have HEN := Lib.hid (fnd_end (b := b) (q := applyB b p) (n := n8) (by rw [HL8.out]; exact Nat.le_refl _) hxl hyl)
            go_wp2_with fail
            go_loop [136, 14] (fun i f => ∃ k : Nat, k ≤ n8 ∧ i = .int .i64 k ∧ f = .bool (fnd (offs b (applyB b p)) x y k)) (fun i _ => n8 - (intOf i).toNat)
            case atStart => exact ⟨0, Nat.zero_le _, rfl, rfl⟩
            case round => as_aux_lemma =>
              obtain ⟨k, hk, rfl, rfl⟩ := hrel
              by_cases hkl : k < n8
              · obtain ⟨u, v, hu, hv, huv, hfit⟩ := offs_at (b := b) (q := applyB b p) (k := k) (by rw [HL8.out]; exact hkl)
                obtain ⟨a8', g, d, ha8, hc0, hc1, hc2, _⟩ := HG.out.at2 huv
                injection ha8 with ha8
                subst ha8
                have HNX := Lib.hid (fnd_next (x := x) (y := y) huv)
                clear huv hfit
                obtain ⟨F, hF⟩ : ∃ F, F = fnd (offs b (applyB b p)) x y k := ⟨_, rfl⟩
                rw [← hF] at HNX
                rw [← hF]
                clear hF
                cases F
                · by_cases hux : u = x
                  · subst hux
                    by_cases hvy : v = y
                    · subst hvy
                      have HN := Lib.hid (show fnd (offs b (applyB b p)) u v (k + 1) = true by rw [HNX.out]; simp)
                      clear HNX
                      go_wp2
                      go_round
                      case rel => exact ⟨k + 1, by omega, by go_num, by rw [HN.out]⟩
                      case measure => simp [intOf]; omega
                    · have HN := Lib.hid (show fnd (offs b (applyB b p)) u y (k + 1) = false by rw [HNX.out]; simp [hvy])
                      have t1 : ((v : Int) == (y : Int)) = false := by simp; omega
                      have t2 : (v == y) = false := by simpa using hvy
                      clear HNX
                      go_wp2
                      go_round
                      case rel => exact ⟨k + 1, by omega, by go_num, by rw [HN.out]⟩
                      case measure => simp [intOf]; omega
                  · have HN := Lib.hid (show fnd (offs b (applyB b p)) x y (k + 1) = false by rw [HNX.out]; simp [hux])
                    have t1 : ((u : Int) == (x : Int)) = false := by simp; omega
                    have t2 : (u == x) = false := by simpa using hux
                    clear HNX
                    go_wp2
                    go_round
                    case rel => exact ⟨k + 1, by omega, by go_num, by rw [HN.out]⟩
                    case measure => simp [intOf]; omega
                · have HN := Lib.hid (show fnd (offs b (applyB b p)) x y (k + 1) = true by rw [HNX.out]; rfl)
                  clear HNX
                  go_wp2
                  go_round
                  case rel => exact ⟨k + 1, by omega, by go_num, by rw [HN.out]⟩
                  case measure => simp [intOf]; omega
              · obtain rfl : k = n8 := by omega
                rw [HEN.out]
                obtain ⟨F, hF⟩ : ∃ F, F = fitsAt b (applyB b p) (x : Int) (y : Int) := ⟨_, rfl⟩
                rw [← hF]
                have HFX := Lib.hid hF.symm
                clear hF HEN
                cases F
                all_goals
                  go_wp2_with fail
                  refine (tFits (hP.own (A := A1) (n := n1) (c := c1) (p := b) (by simp)) (hP.own (A := A3) (n := n3) (c := c3) (p := applyB b p) (by simp)) HFX.out).mono ?_
                  rintro e w10 ⟨rfl, hb10⟩
                  have hP2 := hP.later hb10
                  have HG2 := Lib.hid (HG.out.later hb10)
                  clear hb10
                  go_wp2_with fail
                  exact ⟨⟨y + 1, by omega, by go_num, hP2, HG2.out⟩, by simp [intOf]; omega⟩
          · obtain rfl : y = 2 := by omega
            go_wp2_with fail
            exact ⟨⟨x + 1, by omega, by go_num, hP, HG.out⟩, by simp [intOf]; omega⟩
      · go_wp2_with fail
        clear hx hxl
        go_loopw [170] (fun i w9 => ∃ k : Nat, k ≤ n8 ∧ i = .int .i64 k ∧ Pts w w9 [(A3, n3, c3, applyB b p), (A2, n2, c2, p), (A1, n1, c1, b)] ∧ Grd w9 (some a8) n8 (offs b (applyB b p))) (fun i _ => n8 - (intOf i).toNat)
        case atStart => exact ⟨0, Nat.zero_le _, rfl, hP, HG.out⟩
        case round => as_aux_lemma =>
          clear hP HG
          obtain ⟨k, hk, rfl, hP, hG⟩ := hrel
          have HG := Lib.hid hG
          clear hG
          by_cases hkl : k < n8
          · obtain ⟨u, v, hu, hv, huv, hfit⟩ := offs_at (b := b) (q := applyB b p) (k := k) (by rw [HL8.out]; exact hkl)
            obtain ⟨a8', g, d, ha8, hc0, hc1, hc2, hgb⟩ := HG.out.at2 huv
            injection ha8 with ha8
            subst ha8
            obtain ⟨s, hs⟩ : ∃ s, s = (parentOf b (applyB b p) (u : Int) (v : Int)).1 := ⟨_, rfl⟩
            have hpar2 : (parentOf b (applyB b p) (u : Int) (v : Int)).2 = true := by simp only [fitsAt, Bool.and_eq_true] at hfit; exact hfit.1
            have HS := Lib.hid (show pOk s = true by rw [hs]; exact parentOf_pOk hpar2)
            have HPS := Lib.hid (show parentOf b (applyB b p) (u : Int) (v : Int) = (s, true) by rw [hs, ← hpar2])
            clear huv hfit hs hpar2
            go_wp2_with fail
            go_region_held3 (fun w' => w'.cell? g = some (.int .i64 u) ∧ w'.cell? ⟨g.block, g.off + 1, none⟩ = some (.int .i64 v)) (first | exact ⟨kc1, kc2⟩ | exact ⟨hc1, hc2⟩ | (go_keep; done))
              (first | (go_at_call 7; (with_reducible refine (tParent ((hP.later (bd1P _)).own (A := A1) (n := n1) (c := c1) (p := b) (by simp)) ((hP.later (bd1P _)).own (A := A3) (n := n3) (c := c3) (p := applyB b p) (by simp)) HPS.out).mono ?_); rintro e w10 ⟨A10, n10, c10, rfl, o10⟩; have kc1 : w10.cell? g = some (.int .i64 u) := (o10.2.cell hgb).trans hc1; have kc2 : w10.cell? ⟨g.block, g.off + 1, none⟩ = some (.int .i64 v) := (o10.2.cell (p := ⟨g.block, g.off + 1, none⟩) hgb).trans hc2))
            have P10 := (hP.later (bd1P _)).add o10 (pOk_lens HS.out)
            have G10 := Lib.hid ((HG.out.later (bd1P _)).later o10.2)
            clear o10 kc1 kc2 hc0 hc1 hc2
            go_wp2_with fail
            refine (tPatch (P10.own (A := A10) (n := n10) (c := c10) (p := s) (by simp)) HS.out).mono ?_
            rintro e w' ⟨rfl, rfl⟩
            go_wp2_with fail
            exact ⟨⟨k + 1, by omega, by go_num, P10.drop, G10.out⟩, by simp [intOf]; omega⟩
          · clear hk HG HL8 hn81 hn84 f3
            have hp0 : 0 < p.length := by omega
            obtain ⟨a2, rfl, _, hca2⟩ := (hP.own (A := A2) (n := n2) (c := c2) (p := p) (by simp)).1.1.str (k := 0) hp0
            obtain ⟨a3, rfl, _, hca3⟩ := (hP.own (A := A3) (n := n3) (c := c3) (p := applyB b p) (by simp)).1.1.str (k := 0) (by rw [applyB_len]; omega)
            obtain ⟨r0, hr0⟩ : ∃ r0, r0 = p[0]'hp0 := ⟨_, rfl⟩
            obtain ⟨s0, hs0⟩ : ∃ s0, s0 = (applyB b p)[0]'(by rw [applyB_len]; omega) := ⟨_, rfl⟩
            have hr5 : r0.length = wd p := by rw [hr0, (pOk_row HP.out.1 (List.getElem_mem _)).2.1]
            have hs5 : s0.length = 2 * wd p := by rw [hs0, (apply_rect (m := wd p) HB.out (List.all_eq_true.1 HP.out.2.1) (pOk_rect HP.out.1)) _ (List.getElem_mem _)]
            have hs1 : 1 ≤ s0.length := by omega
            have hs10 : s0.length ≤ 10 := by omega
            have hr10 : r0.length ≤ 5 := by omega
            have HR5 := Lib.hid hr5
            have HS5 := Lib.hid hs5
            have hn31 : 1 ≤ n3 ∧ n3 ≤ 10 := by have := HN3.out; rw [applyB_len] at this; omega
            obtain ⟨hn31, hn310⟩ := hn31
            rw [← hr0] at hca2
            rw [← hs0] at hca3
            have hca20 : wr.cell? a2 = some (.string ⟨r0.toArray⟩) := hca2
            have HS0 := Lib.hid (show (applyB b p)[0]? = some s0 by rw [hs0]; exact List.getElem?_eq_getElem _)
            have g2 : 0 < n2 := by omega
            have g3 : 0 < n3 := by omega
            clear hca2 hca3 hr0 hs0 hr5 hs5
            obtain ⟨T, hT⟩ : ∃ T, T = (decide (1 < n2) && decide (1 < r0.length)) := ⟨_, rfl⟩
            have HT := Lib.hid hT
            clear hT
            go_upto_region 34 with (fail)
            go_cut [203] (fun s wc => s = .bool T ∧ Pts w wc [(some a3, n3, c3, applyB b p), (some a2, n2, c2, p), (A1, n1, c1, b)])
            case first => as_aux_lemma =>
              rcases (show (1 < n2 ∧ 1 < r0.length) ∨ (1 < n2 ∧ ¬ 1 < r0.length) ∨ ¬ 1 < n2 by omega) with ⟨m1, m2⟩ | ⟨m1, m2⟩ | m1
              · have HV := Lib.hid (show true = T by rw [HT.out]; simp [m1, m2])
                go_wp2_with fail
                go_meet
                exact ⟨by rw [← HV.out]; try (congr 1; simp <;> omega), hP⟩
              · have HV := Lib.hid (show false = T by rw [HT.out]; simp [m2])
                go_wp2_with fail
                go_meet
                exact ⟨by rw [← HV.out]; try (congr 1; simp <;> omega), hP⟩
              · have HV := Lib.hid (show false = T by rw [HT.out]; simp [m1])
                go_wp2_with fail
                go_meet
                exact ⟨by rw [← HV.out]; try (congr 1; simp <;> omega), hP⟩
            case rest => as_aux_lemma =>
            clear hP hca20
            obtain ⟨rfl, hP⟩ := hcut
            go_upto_if 203 with (fail)
            go_cut [] (fun wc => Pts w wc [(some a3, n3, c3, applyB b p), (some a2, n2, c2, p), (A1, n1, c1, b)])
            case first => as_aux_lemma =>
              cases T
              · go_wp2_with fail
                go_meet
                exact hP
              · have hm12 : 1 < n2 ∧ 1 < r0.length := by have := HT.out; simpa using this.symm
                obtain ⟨m1, m2⟩ := hm12
                have hca30 := (hP.own (A := some a3) (n := n3) (c := c3) (p := applyB b p) (by simp)).cell0P HS0.out
                have HFC := Lib.hid (fits_cut HB.out HP.out.1 HP.out.2.1 (by omega) (by omega) (by have := HN2.out; omega) (by have := HR5.out; omega))
                have HCO := Lib.hid (cut_ok HB.out HP.out.1 HP.out.2.1 (by omega) (by omega))
                go_wp2_with fail
                refine (tCut HB.out HP.out.1 HP.out.2.1 (by omega) (by omega) (hP.own (A := some a3) (n := n3) (c := c3) (p := applyB b p) (by simp)) (by have := HS5.out; omega) (by have := HN3.out; rw [applyB_len] at this; omega)).mono ?_
                rintro e w10 ⟨A10, n10, c10, rfl, o10⟩
                have P10 := hP.add o10 (pOk_lens HCO.out)
                clear o10 hP
                go_wp2_with fail
                refine (tFits (P10.own (A := A1) (n := n1) (c := c1) (p := b) (by simp)) (P10.own (A := A10) (n := n10) (c := c10) (p := cutP b p) (by simp)) HFC.out).mono ?_
                rintro e w11 ⟨rfl, hb11⟩
                have P14 := (P10.later hb11).drop
                clear P10 hb11 HFC HCO
                go_wp2_with fail
                go_meet
                exact P14
            case rest => as_aux_lemma =>
              have P14 := hcut
              clear hcut hP HT
              go_wp2_with fail
              refine (MakeSize_any A n c l 50 0 4 _ (HR.out.later P14.1) hbig (by omega) (by omega) (by omega)).mono ?_
              rintro e w15 ⟨m, rfl, hm1, hm2, hb15⟩
              have P15 := P14.later hb15
              clear P14 hb15
              have HGO := Lib.hid (growP_pOk HB.out (letOk_a HB.out) (m := m) (by omega))
              go_wp2_with fail
              refine (tGrowN (P15.own (A := A1) (n := n1) (c := c1) (p := b) (by simp)) HB.out m (by omega)).mono ?_
              rintro e w16 ⟨A16, n16, c16, rfl, o16⟩
              have P16 := P15.add o16 (pOk_lens HGO.out)
              clear o16 P15
              obtain ⟨u, k, hanc⟩ : ∃ u k, anc b (growP b [97] m) = (u, k) := ⟨_, _, rfl⟩
              obtain ⟨gx, gt, hgr⟩ : ∃ gx gt, grown b (growP b [97] m) = (gx, gt) := ⟨_, _, rfl⟩
              have hany := anc_any HB.out (m := m) hm2
              rw [hanc] at hany
              obtain ⟨k1, k2, k3, k4⟩ := hany
              have HANC := Lib.hid hanc
              have HGR := Lib.hid hgr
              clear hanc hgr
              go_wp2_with fail
              refine (tAnc (P16.own (A := A1) (n := n1) (c := c1) (p := b) (by simp)) (P16.own (A := A16) (n := n16) (c := c16) (p := growP b [97] m) (by simp)) HANC.out).mono ?_
              rintro e w17 ⟨A17, n17, c17, rfl, o17⟩
              have hn17 : u.length = n17 := by have := o17.len; simpa [svs] using this
              have P17 := P16.later o17.2
              have HN17 := Lib.hid hn17
              have k5 : ¬ n17 < 1 := by omega
              have k6 : ¬ k < 0 := by show ¬ k < 0; exact Int.not_lt.2 k1
              have k7 : n17 ≤ 32 := by omega
              clear o17 P16 hn17 k3 k4
              go_wp2_with fail
              refine (tGrown (P17.own (A := A1) (n := n1) (c := c1) (p := b) (by simp)) (P17.own (A := A16) (n := n16) (c := c16) (p := growP b [97] m) (by simp)) HGR.out).mono ?_
              rintro e w18 ⟨rfl, hb18⟩
              have P18 := P17.later hb18
              clear P17 hb18
              obtain ⟨ss, hss⟩ : ∃ ss, seams b [97] 3 = ss := ⟨_, rfl⟩
              have hs3 := seams_three HB.out
              rw [hss] at hs3
              have HSS := Lib.hid hss
              have HS3 := Lib.hid hs3
              clear hss hs3
              go_upto_region 42 with (fail)
              go_cut [281] (fun s wc => s = .bool false ∧ Pts w wc [(A16, n16, c16, growP b [97] m), (some a3, n3, c3, applyB b p), (some a2, n2, c2, p), (A1, n1, c1, b)])
              case first => as_aux_lemma =>
                rcases (show (forcedB b = true) ∨ (forcedB b = false ∧ m = 0) ∨ (forcedB b = false ∧ ¬ m = 0) by cases forcedB b <;> simp <;> omega) with hf2 | ⟨hf2, hm0⟩ | ⟨hf2, hm0⟩
                · have h1 := anc_grow HB.out hm2 (Or.inl (HNF.out hf2))
                  have h2 := grown_grow HB.out hm2 (Or.inl (HNF.out hf2))
                  rw [HANC.out] at h1
                  rw [HGR.out] at h2
                  injection h1 with h1 h3
                  injection h2 with h2 h4
                  subst h1 h2 h3 h4
                  obtain rfl : n17 = 1 := HN17.out.symm
                  have HF2 := Lib.hid hf2
                  clear hf2 HANC HGR k1 k2 k5 k6 k7 HN17
                  go_wp2_with fail
                  refine (tForced (P18.own (A := A1) (n := n1) (c := c1) (p := b) (by simp)) HF2.out).mono ?_
                  rintro e w19 ⟨rfl, hb19⟩
                  have P19 := P18.later hb19
                  clear P18 hb19
                  go_wp2_with fail
                  go_meet
                  exact ⟨rfl, P19⟩
                · have h1 := anc_grow HB.out hm2 (Or.inr hm0)
                  have h2 := grown_grow HB.out hm2 (Or.inr hm0)
                  rw [HANC.out] at h1
                  rw [HGR.out] at h2
                  injection h1 with h1 h3
                  injection h2 with h2 h4
                  subst h1 h2 h3 h4
                  subst hm0
                  obtain rfl : n17 = 1 := HN17.out.symm
                  have HF2 := Lib.hid hf2
                  clear hf2 HANC HGR k1 k2 k5 k6 k7 HN17
                  go_wp2_with fail
                  refine (tForced (P18.own (A := A1) (n := n1) (c := c1) (p := b) (by simp)) HF2.out).mono ?_
                  rintro e w19 ⟨rfl, hb19⟩
                  have P19 := P18.later hb19
                  clear P18 hb19
                  go_wp2_with fail
                  go_meet
                  exact ⟨rfl, P19⟩
                · have HF2 := Lib.hid hf2
                  have j1 : ((m : Int) == 0) = false := by simp; omega
                  have j2 : (m == 0) = false := by simpa using hm0
                  clear hf2 HANC HGR HN17
                  go_wp2_with fail
                  refine (tForced (P18.own (A := A1) (n := n1) (c := c1) (p := b) (by simp)) HF2.out).mono ?_
                  rintro e w19 ⟨rfl, hb19⟩
                  have P19 := P18.later hb19
                  clear P18 hb19
                  go_wp2_with fail
                  go_meet
                  exact ⟨by congr 1; simp; omega, P19⟩
              case rest => as_aux_lemma =>
                clear P18 HANC HGR k1 k2 k5 k6 k7 HN17
                obtain ⟨rfl, P19⟩ := hcut
                go_wp2_with fail
                refine (tSeams (P19.own (A := A1) (n := n1) (c := c1) (p := b) (by simp)) HSS.out).mono ?_
                rintro e w20 ⟨A20, n20, c20, rfl, o20⟩
                have hn20 : ss.length = n20 := by have := o20.len; simpa [svs] using this
                have P20 := P19.later o20.2
                have hn201 : 1 ≤ n20 ∧ n20 ≤ 1048576 := by have h1 := HS3.out.2.1; have h2 := HS3.out.2.2.1; omega
                obtain ⟨hn201, hn202⟩ := hn201
                have HO20 := Lib.hid o20
                have HN20 := Lib.hid hn20
                clear o20 hn20 P19
                go_wp2_with fail
                go_loop [286] (fun i => ∃ k : Nat, k ≤ n20 ∧ i = .int .i64 k) (fun i => n20 - (intOf i).toNat)
                case atStart => exact ⟨0, Nat.zero_le _, rfl⟩
                case round => as_aux_lemma =>
                  obtain ⟨k, hk, rfl⟩ := hrel
                  by_cases hkl : k < n20
                  · have hkl2 : k < ss.length := by rw [HN20.out]; exact hkl
                    obtain ⟨a20, rfl, _, hcell⟩ := HO20.out.rd.str (k := k) hkl2
                    have hl2 := HS3.out.2.2.2 _ (List.getElem_mem hkl2)
                    obtain ⟨z, hz⟩ : ∃ z, z = ss[k] := ⟨_, rfl⟩
                    rw [← hz] at hcell hl2
                    clear hz hkl2
                    go_wp2
                    go_round
                    case rel => exact ⟨k + 1, by omega, by go_num⟩
                    case measure => simp [intOf]; omega
                  · have j7 : 0 < n20 := by omega
                    go_wp2_with fail
                    refine (rising_yes _ _ _ ss _ HO20.out.rd hn202 HS3.out.1).mono ?_
                    rintro e w21 ⟨rfl, hb21⟩
                    have P21 := P20.later hb21
                    clear P20 hb21
                    go_wp2_with fail
                    refine (tSeams (P21.own (A := A1) (n := n1) (c := c1) (p := b) (by simp)) (seams_one b)).mono ?_
                    rintro e w22 ⟨A22, n22, c22, rfl, o22⟩
                    obtain rfl : n22 = 0 := by have := o22.len; simpa [svs] using this.symm
                    have P22 := P21.later o22.2
                    clear o22 P21
                    go_wp2_with fail
                    go_ret
                    exact ⟨rfl, P22.1⟩
end Go.Proofs.Ytbjhjpakjinpiaa
