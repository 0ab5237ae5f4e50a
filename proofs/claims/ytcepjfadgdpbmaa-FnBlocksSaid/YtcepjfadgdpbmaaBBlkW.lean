/-
  The walk of the law FnBlocks. No conditions.
-/
import Derived.Test.YtcepjfadgdpbmaaBBlkC
namespace Go.Proofs.Ytcepjfadgdpbmaa
open Go.RowKit

theorem bd1 (w : World) : Below w.heap.size w w.drew := (Below.refl _ _).drew
theorem SOwn.cell0 {W : World} {a : Addr} {n c : Nat} {p : PCh} {r : List UInt8} (h : SOwn W (some a) n c p) (hr : p[0]? = some r) : W.cell? a = some (.string ⟨r.toArray⟩) := by
  obtain ⟨h0, h1⟩ := List.getElem?_eq_some_iff.1 hr
  obtain ⟨a', ha', _, hc⟩ := h.1.1.str (k := 0) h0
  injection ha' with ha'
  subst ha'
  rw [h1] at hc
  exact hc

set_option maxRecDepth 100000 in
set_option maxHeartbeats 4000000 in
theorem walk_FnBlocks (A : Option Addr) (n c : Nat) (l : List UInt8) (w : World) (h : BytesArg w A n c l) : Calls Try.prog 14 #[.slice A n c] w fun e w' => e = .returned (.bool true) ∧ Below w.heap.size w w' := by
  obtain ⟨hrd, hnc, hcm⟩ := h
  by_cases hbig : n ≤ 1048576
  case neg =>
    go_enter Try.func14, Try.ntmps14
    go_wp2_with fail
    go_ret
    exact ⟨rfl, Below.refl _ _⟩
  have HR := Lib.hid hrd
  clear hrd
  go_enter Try.func14, Try.ntmps14
  go_wp2_with fail
  refine (MakeRule_any A n c l 0 w HR.out hbig (by omega)).mono ?_
  rintro e w1 ⟨A1, n1, c1, b, rfl, hb, o1⟩
  have hn1 : b.length = n1 := by have := o1.len; simpa [svs] using this
  have HB := Lib.hid hb
  have P1 := (Pts.start w).add o1 (rOk_lens hb)
  have hb4 := rOk_len hb
  clear o1 hb
  go_wp2_with fail
  refine (MakePatch_any A n c l 20 n1 w1 (HR.out.later P1.1) hbig (by omega) (by omega) (by omega)).mono ?_
  rintro e w2 ⟨A2, n2, c2, p, rfl, hp, o2⟩
  rw [← hn1] at hp
  have hpk := patK_ok HB.out hp
  have hn2 : p.length = n2 := by have := o2.len; simpa [svs] using this
  have P2 := P1.add o2 (pOk_lens hpk.1)
  have HP := Lib.hid hpk
  have hpl := pOk_len hpk.1
  have hp5 := hpk.2.2.1
  have HAP := Lib.hid (apOk_of HB.out hpk.1 hpk.2.1 (by omega) (by have := hpk.2.2.2; omega))
  have HQ := Lib.hid (apply_ok HB.out hpk.1 hpk.2.1 (by omega) (by have := hpk.2.2.2; omega))
  have HF := Lib.hid (pOk_flip hpk.1)
  have HC := Lib.hid (rOk_flip HB.out)
  have HFA := Lib.hid (flip_apply (m := wd p) HB.out (List.all_eq_true.1 hpk.2.1) (pOk_rect hpk.1) (by omega))
  have HFF := Lib.hid (flip2 hpk.1)
  have HAC := Lib.hid (apOk_of (b := b.map flipW) (p := flipP p) HC.out HF.out (by rw [List.length_map]; exact flip_has hpk.1 hpk.2.1) (by rw [flipP_len]; have := hpk.2.2.2; omega) (by rw [flip_wd hpk.1]; omega))
  have HFQ := Lib.hid (show pOk (flipP (applyB b p)) = true from pOk_flip HQ.out)
  clear o2 hp hpk P1
  go_wp2_with fail
  refine (tApply (P2.own (by simp)) (P2.own (by simp)) HAP.out).mono ?_
  rintro e w3 ⟨A3, n3, c3, rfl, o3⟩
  have hn3 : (applyB b p).length = n3 := by have := o3.len; simpa [svs] using this
  have P3 := P2.add o3 (pOk_lens HQ.out)
  clear o3 P2
  go_wp2_with fail
  refine (tFlipR (P3.own (p := b) (by simp)) HB.out).mono ?_
  rintro e w4 ⟨A4, n4, c4, rfl, o4⟩
  have P4 := P3.add o4 (rOk_lens HC.out)
  clear o4 P3
  go_wp2_with fail
  refine (tFlipP (P4.own (p := p) (by simp)) HP.out.1).mono ?_
  rintro e w5 ⟨A5, n5, c5, rfl, o5⟩
  have P5 := P4.add o5 (pOk_lens HF.out)
  clear o5 P4
  go_wp2_with fail
  refine (tApply (P5.own (p := b.map flipW) (by simp)) (P5.own (p := flipP p) (by simp)) HAC.out).mono ?_
  rintro e w6 ⟨A6, n6, c6, rfl, o6⟩
  rw [← HFA.out] at o6
  have P6 := P5.add o6 (pOk_lens HFQ.out)
  clear o6 P5
  -- region 9
  rw [applyB_len, hn2] at hn3
  subst hn3
  obtain ⟨a2, rfl, hab2, hca2⟩ := (P6.own (A := A2) (n := n2) (c := c2) (p := p) (by simp)).1.1.str (k := 0) (by omega)
  obtain ⟨a3, rfl, hab3, hca3⟩ := (P6.own (A := A3) (n := 2 * n2) (c := c3) (p := applyB b p) (by simp)).1.1.str (k := 0) (by rw [applyB_len]; omega)
  obtain ⟨r0, hr0⟩ : ∃ r0, r0 = p[0]'(by omega) := ⟨_, rfl⟩
  obtain ⟨s0, hs0⟩ : ∃ s0, s0 = (applyB b p)[0]'(by rw [applyB_len]; omega) := ⟨_, rfl⟩
  have hq2 : s0.length = 2 * r0.length := by
    rw [hs0, hr0, (apply_rect (m := wd p) HB.out (List.all_eq_true.1 HP.out.2.1) (pOk_rect HP.out.1)) _ (List.getElem_mem _), (pOk_row HP.out.1 (List.getElem_mem _)).2.1]
  have hr5 : r0.length = wd p := by rw [hr0, (pOk_row HP.out.1 (List.getElem_mem _)).2.1]
  have hw5 := HP.out.2.2.2
  have hw1 := pOk_wd HP.out.1
  rw [← hr0] at hca2
  rw [← hs0] at hca3
  have hca20 : w6.cell? a2 = some (.string ⟨r0.toArray⟩) := hca2
  have hca30 : w6.cell? a3 = some (.string ⟨s0.toArray⟩) := hca3
  have f1 : IntKind.i64.wrap (2 * (n2 : Int)) = 2 * (n2 : Int) := IntWalk.i64_in _ (by omega)
  have f2 : IntKind.i64.wrap (2 * (r0.length : Int)) = 2 * (r0.length : Int) := IntWalk.i64_in _ (by omega)
  have f3 : (s0.length : Int) = 2 * (r0.length : Int) := by omega
  have f4 : (0 : Int) < ((2 * n2 : Nat) : Int) := by omega
  have f5 : (0 : Int) < (n2 : Int) := by omega
  have f6 : 0 < n2 := by omega
  have f7 : 0 < 2 * n2 := by omega
  have f8 : (0 : Int) < 2 * (n2 : Int) := by omega
  have f9 : (((2 * n2 : Nat) : Int) != 2 * (n2 : Int)) = false := by simp
  have f10 : ((s0.length : Int) != 2 * (r0.length : Int)) = false := by simp; omega
  have HR0 := Lib.hid (show p[0]? = some r0 by rw [hr0]; exact List.getElem?_eq_getElem _)
  have HS0 := Lib.hid (show (applyB b p)[0]? = some s0 by rw [hs0]; exact List.getElem?_eq_getElem _)
  have HR5 := Lib.hid hr5
  clear hca2 hca3 hr0 hs0 hq2 hr5
  go_wp2_with fail
  go_region_held3 (fun w' => w'.cell? a2 = some (.string ⟨r0.toArray⟩) ∧ w'.cell? a3 = some (.string ⟨s0.toArray⟩)) (first | exact ⟨(P8.own (A := some a2) (n := n2) (c := c2) (p := p) (by simp)).cell0 HR0.out, (P8.own (A := some a3) (n := 2 * n2) (c := c3) (p := applyB b p) (by simp)).cell0 HS0.out⟩ | exact ⟨(P7.own (A := some a2) (n := n2) (c := c2) (p := p) (by simp)).cell0 HR0.out, (P7.own (A := some a3) (n := 2 * n2) (c := c3) (p := applyB b p) (by simp)).cell0 HS0.out⟩ | (go_keep; done))
    (first | (go_at_call 18; (with_reducible refine (tPatch (A := some a2) ((P6.later (bd1 _)).own (A := some a2) (n := n2) (c := c2) (p := p) (by simp)) HP.out.1).mono ?_); rintro e w' ⟨rfl, rfl⟩) | (go_at_call 18; (with_reducible refine (tPatch (A := some a3) ((P6.later (bd1 _)).own (A := some a3) (n := 2 * n2) (c := c3) (p := applyB b p) (by simp)) HQ.out).mono ?_); rintro e w' ⟨rfl, rfl⟩) | (go_at_call 21; (with_reducible refine (tRule (A := A1) ((P6.later (bd1 _)).own (A := A1) (n := n1) (c := c1) (p := b) (by simp)) HB.out).mono ?_); rintro e w' ⟨rfl, rfl⟩) | (go_at_call 31; (with_reducible refine (tFlipP (A := some a3) ((P6.later (bd1 _)).own (A := some a3) (n := 2 * n2) (c := c3) (p := applyB b p) (by simp)) HQ.out).mono ?_); rintro e w7 ⟨A7, n7, c7, rfl, o7⟩; have P7 := (P6.later (bd1 _)).add o7 (pOk_lens HFQ.out)) | (go_at_call 31; (with_reducible refine (tFlipP (A := A5) (P7.own (A := A5) (n := n5) (c := c5) (p := flipP p) (by simp)) HF.out).mono ?_); rintro e w8 ⟨A8, n8, c8, rfl, o8⟩; rw [HFF.out] at o8; have P8 := P7.add o8 (pOk_lens HP.out.1)) | (go_at_call 44; have q3 := P7.own (A := A7) (n := n7) (c := c7) (p := flipP (applyB b p)) (by simp); have q4 := P7.own (A := A6) (n := n6) (c := c6) (p := flipP (applyB b p)) (by simp); (with_reducible refine (equal_same _ _ _ _ _ _ _ _ q3 q4).mono ?_); clear q3 q4; rintro e w' ⟨rfl, rfl⟩) | (go_at_call 44; have q3 := P8.own (A := A8) (n := n8) (c := c8) (p := p) (by simp); have q4 := P8.own (A := some a2) (n := n2) (c := c2) (p := p) (by simp); (with_reducible refine (equal_same _ _ _ _ _ _ _ _ q3 q4).mono ?_); clear q3 q4; rintro e w' ⟨rfl, rfl⟩))
  have P9 : Pts w w8 [(A5, n5, c5, flipP p), (some a3, 2 * n2, c3, applyB b p), (some a2, n2, c2, p), (A1, n1, c1, b)] := P8.sub (by simp)
  clear P8 P7 P6 o7 o8 hca20 hca30
  go_wp2_with fail
  go_loopw [121] (fun i wr => ∃ y : Nat, y ≤ n2 ∧ i = .int .i64 y ∧ Pts w wr [(A5, n5, c5, flipP p), (some a3, 2 * n2, c3, applyB b p), (some a2, n2, c2, p), (A1, n1, c1, b)]) (fun i _ => n2 - (intOf i).toNat)
  case atStart => exact ⟨0, Nat.zero_le _, rfl, P9⟩
  case round =>
    clear P9
    obtain ⟨y, hy, rfl, hP⟩ := hrel
    by_cases hyl : y < n2
    · have hyp : y < p.length := by omega
      obtain ⟨a', ha', hab, hcell⟩ := (hP.own (A := some a2) (n := n2) (c := c2) (p := p) (by simp)).1.1.str (k := y) hyp
      injection ha' with ha'
      subst ha'
      obtain ⟨r, hr⟩ : ∃ r, r = p[y] := ⟨_, rfl⟩
      have HRY := Lib.hid (show p[y]? = some r by rw [hr]; exact List.getElem?_eq_getElem _)
      have HHB := Lib.hid (show hasB b.length r = true by rw [hr]; exact List.all_eq_true.1 HP.out.2.1 _ (List.getElem_mem _))
      have HLT := Lib.hid (show r.all isLet = true by rw [hr]; exact isW_all (pOk_row HP.out.1 (List.getElem_mem _)).1)
      have hr32 : r.length ≤ 32 := by rw [hr]; have := pOk_row HP.out.1 (List.getElem_mem hyp); omega
      rw [← hr] at hcell
      clear hr
      go_wp2
      go_loopw [14] (fun j w2 => ∃ x : Nat, x ≤ r.length ∧ j = .int .i64 x ∧ Pts w w2 [(A5, n5, c5, flipP p), (some a3, 2 * n2, c3, applyB b p), (some a2, n2, c2, p), (A1, n1, c1, b)]) (fun j _ => r.length - (intOf j).toNat)
      case atStart => exact ⟨0, Nat.zero_le _, rfl, hP⟩
      case round =>
        clear hP hcell
        obtain ⟨x, hx, rfl, hQ⟩ := hrel
        by_cases hxl : x < r.length
        · obtain ⟨u, v, s, t, hbk, hjb⟩ := row_blk HB.out HHB.out hxl
          have hbd := let_at HLT.out hxl
          have HCP := Lib.hid (fun W (h : SOwn W (some a3) (2 * n2) c3 (applyB b p)) => tPart2 (y := y) HB.out HP.out.1 HP.out.2.1 (by omega) (by omega) h HRY.out hxl hbk)
          have HBE := Lib.hid (show b[r[x].toNat - 97] = [u, v, s, t] by rw [← hbk, blk_eq hjb])
          clear hbk
          go_wp2_with fail
          refine (HCP.out _ (hQ.own (A := some a3) (n := 2 * n2) (c := c3) (p := applyB b p) (by simp))).mono ?_
          rintro e w9 ⟨A9, n9, c9, rfl, o9⟩
          obtain ⟨rfl, g9, rfl, hc90, hc91⟩ := own2 o9
          have hQ2 := hQ.later o9.2
          obtain ⟨a1, ha1, _, hcb⟩ := (hQ2.own (A := A1) (n := n1) (c := c1) (p := b) (by simp)).1.1.str (k := r[x].toNat - 97) hjb
          rw [HBE.out] at hcb
          clear o9 hQ
          subst ha1
          have ix1 : IntKind.u8.wrap ((r[x].toNat : Int) - 97) = (r[x].toNat : Int) - 97 := IntWalk.u8_in _ (by omega)
          have ix2 : (0 : Int) ≤ (r[x].toNat : Int) - 97 := by omega
          have ix3 : (r[x].toNat : Int) - 97 < (n1 : Int) := by omega
          have ix5 : 97 ≤ r[x].toNat := hbd.1
          have ix6 : (97 : Int) ≤ (r[x].toNat : Int) := by omega
          have ix4 : ((r[x].toNat : Int) - 97).toNat = r[x].toNat - 97 := by omega
          go_wp2_with fail
          go_region_held3 (fun w' => w'.cell? ⟨g9, 0, none⟩ = some (.string ⟨[u, v].toArray⟩) ∧ w'.cell? ⟨g9, 1, none⟩ = some (.string ⟨[s, t].toArray⟩) ∧ w'.cell? (a1.add (r[x].toNat - 97)) = some (.string ⟨[u, v, s, t].toArray⟩)) (first | exact ⟨hc90, hc91, hcb⟩ | go_keep) (fail)
          go_wp2
          exact ⟨⟨x + 1, by omega, by go_num, hQ2.later (bd1 _)⟩, by simp [intOf]; omega⟩
        · go_wp2
          exact ⟨⟨y + 1, by omega, by go_num, hQ⟩, by simp [intOf]; omega⟩
    · clear hy
      go_wp2_with fail
      refine (MakeSize_any A n c l 50 1 3 _ (HR.out.later hP.1) hbig (by omega) (by omega) (by omega)).mono ?_
      rintro e w10 ⟨vw, rfl, hv1, hv2, hb10⟩
      have P10 := hP.later hb10
      clear hP hb10
      go_wp2_with fail
      refine (MakeSize_any A n c l 51 1 3 _ (HR.out.later P10.1) hbig (by omega) (by omega) (by omega)).mono ?_
      rintro e w11 ⟨vh, rfl, hh1, hh2, hb11⟩
      have P11 := P10.later hb11
      clear P10 hb11
      obtain ⟨v, hc1, hc2, hcase⟩ := counts (w := vw) (h := vh) HB.out HP.out.1 HP.out.2.1 hp5 hw5 hv1 hv2 hh1 hh2
      have hcc := fun W (h : SOwn W (some a2) n2 c2 p) => cCountPartsI (some a2) n2 c2 p vw vh W h.1
      rw [hc1] at hcc
      have HC1 := Lib.hid hcc
      clear hcc hc1
      have hcc := fun W (h : SOwn W A5 n5 c5 (flipP p)) => cCountPartsI A5 n5 c5 (flipP p) vh vw W h.1
      rw [hc2] at hcc
      have HC2 := Lib.hid hcc
      clear hcc hc2
      go_wp2_with fail
      refine (HC1.out _ (P11.own (A := some a2) (n := n2) (c := c2) (p := p) (by simp))).mono ?_
      rintro e w12 ⟨rfl, hb12⟩
      have P12 := P11.later hb12
      clear P11 hb12
      go_wp2_with fail
      refine (HC2.out _ (P12.own (A := A5) (n := n5) (c := c5) (p := flipP p) (by simp))).mono ?_
      rintro e w13 ⟨rfl, hb13⟩
      have P13 := P12.later hb13
      clear P12 hb13
      have hca := (P13.own (A := some a2) (n := n2) (c := c2) (p := p) (by simp)).cell0 HR0.out
      obtain ⟨X, hX⟩ : ∃ X, X = countParts (applyB b p) (2 * (vw : Int)) (2 * (vh : Int)) := ⟨_, rfl⟩
      have hcc := fun W (h : SOwn W (some a3) (2 * n2) c3 (applyB b p)) => cCountPartsI (some a3) (2 * n2) c3 (applyB b p) (2 * (vw : Int)) (2 * (vh : Int)) W h.1
      rw [← hX] at hcc hcase
      have HC3 := Lib.hid hcc
      have hcase3 : (v = 0 ∧ (r0.length : Int) < (vw : Int)) ∨ (v = 0 ∧ ¬ (r0.length : Int) < (vw : Int) ∧ (n2 : Int) < (vh : Int)) ∨ (¬ (r0.length : Int) < (vw : Int) ∧ ¬ (n2 : Int) < (vh : Int) ∧ 0 < v ∧ 1 ≤ X) := by have := HR5.out; omega
      have j5 : IntKind.i64.wrap (2 * (vw : Int)) = 2 * (vw : Int) := IntWalk.i64_in _ (by omega)
      have j6 : IntKind.i64.wrap (2 * (vh : Int)) = 2 * (vh : Int) := IntWalk.i64_in _ (by omega)
      clear hcc hX hcase
      obtain ⟨tt, htt⟩ : ∃ tt, tt = classW 2 16 := ⟨_, rfl⟩
      obtain ⟨zz, hzz⟩ : ∃ zz, zz = growP rMorse [97] 4 := ⟨_, rfl⟩
      have hM := morse_16
      have hM2 := morse_2
      have hMP := growP_pOk morse_ok (letOk_a morse_ok) (m := 4) (by omega)
      rw [← hzz, ← htt] at hM
      rw [← hzz] at hM2 hMP
      have HM := Lib.hid hM
      have HM2 := Lib.hid hM2
      have HMP := Lib.hid hMP
      have HTT := Lib.hid htt
      have HZZ := Lib.hid hzz
      have HGP := Lib.hid (growP_pOk HB.out (letOk_a HB.out) (m := 3) (by omega))
      have HG8 := Lib.hid (growP_rows HB.out (letOk_a HB.out) 3).1
      clear hM hM2 hMP htt hzz
      rcases hcase3 with ⟨rfl, k1⟩ | ⟨rfl, k1, k2⟩ | ⟨j1, j2, k3, k4⟩
      focus
        go_wp2_with fail
        have P14 := P13
        clear P13
      rotate_left
      focus
        go_wp2_with fail
        have P14 := P13
        clear P13
      rotate_left
      focus
        have m1 : ((v : Int) == 0) = false := by simp; omega
        have m2 : decide (r0.length < vw) = false := by simp; omega
        have m3 : decide (n2 < vh) = false := by simp; omega
        have m4 : ¬ v = 0 := by omega
        have m5 : (0 : Int) < (v : Int) := by omega
        have m6 : ¬ X < 1 := by omega
        go_wp2_with fail
        refine (HC3.out _ (P13.own (A := some a3) (n := 2 * n2) (c := c3) (p := applyB b p) (by simp))).mono ?_
        rintro e w14 ⟨rfl, hb14⟩
        have P14 := P13.later hb14
        clear P13 hb14
        go_wp2_with fail
      rotate_left
      all_goals
        refine (tGrow (P14.own (A := A1) (n := n1) (c := c1) (p := b) (by simp)) HB.out 3 (by omega)).mono ?_
        rintro e w15 ⟨A15, n15, c15, rfl, o15⟩
        have hn15 : n15 = 8 := by have := o15.len; rw [svs_len, HG8.out] at this; simpa using this.symm
        subst hn15
        have P15 := P14.add o15 (pOk_lens HGP.out)
        clear o15 P14
        go_wp2_with fail
        refine (tGrow (P15.own (A := A1) (n := n1) (c := c1) (p := b) (by simp)) HB.out 2 (by omega)).mono ?_
        rintro e w16 ⟨A16, n16, c16, rfl, o16⟩
        have P16 := P15.add o16 (pOk_lens (growP_pOk HB.out (letOk_a HB.out) (m := 2) (by omega)))
        clear o16 P15
        go_wp2_with fail
        refine (tApply (P16.own (A := A1) (n := n1) (c := c1) (p := b) (by simp)) (P16.own (A := A16) (n := n16) (c := c16) (p := growP b [97] 2) (by simp)) (growP_ok HB.out (letOk_a HB.out) (by omega))).mono ?_
        rintro e w17 ⟨A17, n17, c17, rfl, o17⟩
        have o17' : Own w16 w17 9 A17 n17 c17 (svs (growP b [97] 3)) := o17
        have P17 := P16.add o17' (pOk_lens HGP.out)
        clear o17 o17' P16
        go_wp2_with fail
        refine (equal_same _ _ _ _ _ _ _ _ (P17.own (A := A15) (n := 8) (c := c15) (p := growP b [97] 3) (by simp)) (P17.own (A := A17) (n := n17) (c := c17) (p := growP b [97] 3) (by simp))).mono ?_
        rintro e w' ⟨rfl, rfl⟩
        go_wp2_with fail
        refine (cFormatPatchI _ _ _ _ _ (P17.own (A := A15) (n := 8) (c := c15) (p := growP b [97] 3) (by simp))).mono ?_
        rintro e w18 ⟨rfl, hb18⟩
        obtain ⟨z0, zt, hz⟩ : ∃ a l, fmtP (growP b [97] 3) = a :: l := List.exists_cons_of_ne_nil (fmt_ne HGP.out)
        rw [hz]
        have P18 := P17.later hb18
        clear hz hb18 P17
        go_wp2_with fail
        refine (tMorse _).mono ?_
        rintro e w19 ⟨A19, n19, c19, rfl, o19⟩
        have P19 := P18.add o19 (rOk_lens morse_ok)
        clear o19 P18
        go_wp2_with fail
        refine (tGrow (P19.own (A := A19) (n := n19) (c := c19) (p := rMorse) (by simp)) morse_ok 4 (by omega)).mono ?_
        rintro e w20 ⟨A20, n20, c20, rfl, o20⟩
        rw [← HZZ.out] at o20
        have hn20 : n20 = 16 := by have := o20.len; rw [svs_len, HM.out.1] at this; exact this.symm
        subst hn20
        have P20 := P19.add o20 (pOk_lens HMP.out)
        clear o20 P19
        go_wp2_with fail
        refine (tClass _ HTT.out).mono ?_
        rintro e w21 ⟨rfl, hb21⟩
        have P21 := P20.later hb21
        clear hb21 P20
        obtain ⟨a20, rfl, _, _⟩ := (P21.own (A := A20) (n := 16) (c := c20) (p := zz) (by simp)).1.1.str (k := 0) (by rw [HM.out.1]; omega)
        have hcz := (P21.own (A := some a20) (n := 16) (c := c20) (p := zz) (by simp)).cell0 HM.out.2.1
        go_wp2_with fail
        refine (tFlipP (P21.own (A := some a20) (n := 16) (c := c20) (p := zz) (by simp)) HMP.out).mono ?_
        rintro e w22 ⟨A22, n22, c22, rfl, o22⟩
        rw [HM.out.2.2] at o22
        have P22 := P21.add o22 (pOk_lens HMP.out)
        clear o22 P21
        go_wp2_with fail
        refine (equal_same _ _ _ _ _ _ _ _ (P22.own (A := A22) (n := n22) (c := c22) (p := zz) (by simp)) (P22.own (A := some a20) (n := 16) (c := c20) (p := zz) (by simp))).mono ?_
        rintro e w' ⟨rfl, rfl⟩
        go_wp2_with fail
        have hcc := cCountPartsI (some a20) 16 c20 zz 1 1 _ (P22.own (A := some a20) (n := 16) (c := c20) (p := zz) (by simp)).1
        rw [HM2.out] at hcc
        refine hcc.mono ?_
        rintro e w23 ⟨rfl, hb23⟩
        have P23 := P22.later hb23
        clear hcc hb23
        go_wp2_with fail
        go_ret
        exact ⟨rfl, P23.1⟩
end Go.Proofs.Ytcepjfadgdpbmaa
