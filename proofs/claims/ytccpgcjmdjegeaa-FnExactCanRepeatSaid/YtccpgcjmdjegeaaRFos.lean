/-
  Contract of the reference's FirstObeying. No conditions.
-/
import Derived.Test.YtccpgcjmdjegeaaRFst
import Derived.Test.YtccpgcjmdjegeaaRCob
namespace Go.Proofs.Ytccpgcjmdjegeaa
open Go.RowKit

theorem last_at {l : Pch} {m : Nat} (hl : l.length = m) (hm : 0 < m) : l.getLastD [] = l[m - 1]'(by omega) := by
  subst hl
  rw [List.getLastD_eq_getLast?, List.getLast?_eq_getElem?, List.getElem?_eq_getElem (by omega)]; rfl
theorem cnd_low {col rows : Pch} {p : Nat} {out : Pch} {k : Nat} (h : ¬ 0 < (lev col rows p).getD k 0) : cnd col rows p out k = false := by
  unfold cnd; rw [decide_eq_false h]; rfl
theorem cnd_first {col rows : Pch} {p : Nat} {out : Pch} {k : Nat} (h : 0 < (lev col rows p).getD k 0) (h0 : out.length = 0) : cnd col rows p out k = true := by
  unfold cnd; rw [decide_eq_true h, decide_eq_true h0]; rfl
theorem cnd_stand {col rows : Pch} {p : Nat} {out : Pch} {k : Nat} {b : Bool} (h : 0 < (lev col rows p).getD k 0) (h0 : ¬ out.length = 0) (hk : k < rows.length) (hs : stand col (out.getLastD []) rows[k] = b) : cnd col rows p out k = b := by
  unfold cnd; rw [decide_eq_true h, decide_eq_false h0, getD_at hk, hs]; simp
theorem chosen_is {col rows : Pch} {p : Nat} {out : Pch} {k : Nat} (hk : k < rows.length) (h : cnd col rows p out k = true) (hb : ∀ j, j < k → cnd col rows p out j = false) : chosen col rows p out = k := by
  unfold chosen
  exact (List.findIdx_eq (by simpa using hk)).2 ⟨by simpa using h, fun j hj => by simpa using hb j hj⟩

set_option maxRecDepth 4096 in
set_option maxHeartbeats 3200000 in
theorem cFirstObeyingS (a h : Int) (A0 : Option Addr) (n0 c0 : Nat) (r : Pch) (A1 : Option Addr) (n1 c1 : Nat) (q : Pch) (W : World) (h0 : SIn W A0 n0 c0 r) (h1 : SIn W A1 n1 c1 q) :
    Calls Try.prog 14 #[.int .i64 a, .int .i64 h, .slice A0 n0 c0, .slice A1 n1 c1] W (RetSB 9 W (firstOb a h r q).1 (firstOb a h r q).2) := by
  have hco := cCountObeyingS a h A0 n0 c0 r A1 n1 c1 q W h0 h1
  have HS0 := Lib.hid h0
  have HS1 := Lib.hid h1
  clear h0 h1
  cases hf : firstOk a h r q
  case false =>
    have hle : countOb a h r q ≤ 0 := by
      unfold countOb
      unfold firstOk at hf
      split
      · rename_i hk; rw [hk] at hf; simpa using hf
      · omega
    have HE := Lib.hid (show firstOb a h r q = ([], false) by unfold firstOb; rw [hf]; rfl)
    obtain ⟨x, hx⟩ : ∃ x, x = countOb a h r q := ⟨_, rfl⟩
    rw [← hx] at hco hle
    have d1 : decide (x ≤ 0) = true := by simp; omega
    have HC := Lib.hid hco
    clear hco hf hx
    rw [HE.out]
    go_enter Try.func14, Try.ntmps14
    go_wp2_with fail
    refine HC.out.mono ?_
    rintro e w1 ⟨rfl, hb1⟩
    go_wp2
    go_ret2
    exact ⟨none, 0, 0, rfl, Own.nil hb1 _⟩
  case true =>
    have hf2 := hf
    unfold firstOk at hf2
    simp only [Bool.and_eq_true, decide_eq_true_eq] at hf2
    obtain ⟨hk, hs⟩ := hf2
    have hp := okC_parts (okC_yes hk).1
    have hx1 : 0 < countOb a h r q := by unfold countOb; rw [if_pos hk]; exact hs
    obtain ⟨n, rfl⟩ : ∃ n : Nat, a = n := ⟨a.toNat, by omega⟩
    obtain ⟨H, rfl⟩ : ∃ m : Nat, h = m := ⟨h.toNat, by omega⟩
    have hn : n ≤ 3 := by omega
    have hH1 : 1 ≤ H := by omega
    have hH : H ≤ 20 := by omega
    obtain ⟨rows, hrows⟩ : ∃ rows, rows = rowsN r n := ⟨_, rfl⟩
    have HRows := Lib.hid hrows
    have HE := Lib.hid (show firstOb n H r q = (fo q rows H H, true) by unfold firstOb; rw [if_pos hf, hrows]; rfl)
    have HOK := Lib.hid (show okH q rows H = true by rw [hrows]; exact (okC_yes hk).2)
    have HSum := Lib.hid (show 0 < (lev q rows (H - 1)).sum by rw [hrows]; exact hs)
    obtain ⟨x, hx⟩ : ∃ x, x = countOb n H r q := ⟨_, rfl⟩
    rw [← hx] at hco hx1
    have d1 : decide (x ≤ 0) = false := by simp; omega
    have HC := Lib.hid hco
    clear hco hf hx hk hs hp
    rw [HE.out]
    go_enter Try.func14, Try.ntmps14
    go_wp2_with fail
    refine HC.out.mono ?_
    rintro e w0 ⟨rfl, hb0⟩
    have HB0 := Lib.hid hb0
    clear hb0
    go_wp2_with fail
    refine (l23Rows_any n hn _ _ _ r _ (HS0.out.later HB0.out)).mono ?_
    rintro e w1 ⟨A2, L, c2, rfl, o1⟩
    have hs := rowsN_sin hn o1
    rw [← HRows.out] at o1 hs
    have HS := Lib.hid hs.1
    have hL := hs.2
    have HM1 := Lib.hid ((show Mem W w0 [] from ⟨HB0.out, by simp, List.Pairwise.nil⟩).add o1)
    have HLen := Lib.hid hs.1.1.lenS
    have HRow := Lib.hid (show ∀ x ∈ rows, x.length = n by rw [HRows.out]; exact fun x hx => (rowsN_row hx).1)
    clear hs o1 hrows
    go_wp2_with fail
    refine (l23Counts_any _ _ _ rows H _ _ _ q n _ HS.out (HS1.out.later HM1.out.bel) hL (by omega) HRow.out hH1 hH).mono ?_
    rintro e w2 ⟨A3, n3, c3, rs, rfl, hm2, hx2, he2⟩
    rw [if_pos HOK.out] at hx2
    have hn3 : n3 = H := by have h1 := hm2.rd0.1; have h2 := xs_len hx2; rw [levs_len] at h2; simp only [List.length_map] at h1; omega
    subst hn3
    have HM2 := Lib.hid (HM1.out.addAll hm2)
    have HX := Lib.hid hx2
    clear hm2 hx2 he2 HM1
    have HM3 := Lib.hid (HM2.out.add (Own.made0 (w0 := w2) (w := w2) (Below.refl _ _) 9))
    clear HM2
    have e0 : IntKind.i64.wrap ((n3 : Int) - 1) = (n3 : Int) - 1 := IntWalk.i64_in _ (by omega)
    go_wp2
    clear e0
    go_loopw [13, 12] (fun i out wr => ∃ (p m : Nat) (A4 : Option Addr) (c4 : Nat), p + m = n3 ∧ i = .int .i64 ((p : Int) - 1) ∧ out = .slice A4 m c4 ∧ Mem W wr (⟨9, A4, m, c4, svs (fo q rows n3 m)⟩ :: (⟨54, A3, n3, c3, rs.map SVal⟩ :: rs ++ [⟨9, A2, L, c2, svs rows⟩]))) (fun i _ _ => (intOf i + 1).toNat)
    case atStart => exact ⟨n3, 0, _, _, by omega, rfl, rfl, HM3.out⟩
    case round =>
      clear HM3
      obtain ⟨p1, m, A4, c4, hpm, rfl, rfl, hmem⟩ := hrel
      have HM4 := Lib.hid hmem
      clear hmem
      by_cases hp1 : 0 < p1
      · obtain ⟨p, hp⟩ : ∃ p, p = p1 - 1 := ⟨_, rfl⟩
        have hpe : (p1 : Int) - 1 = (p : Int) := by omega
        rw [hpe]
        have dge : decide ((0 : Int) ≤ (p : Int)) = true := by simp
        have hpm2 : p + 1 + m = n3 := by omega
        have hpn : p < n3 := by omega
        have HPH := Lib.hid (show n3 - (m + 1) = p by omega)
        have HHas := Lib.hid (fo_has (j := m) (h := n3) (by omega) HSum.out (fo_ok HSum.out m (by omega)))
        rw [HPH.out] at HHas
        have HFo := Lib.hid (fo_ok (col := q) (rows := rows) (h := n3) HSum.out m (by omega))
        have HFL := Lib.hid (fo_len q rows n3 m)
        have HFN := Lib.hid (show fo q rows n3 (m + 1) = fo q rows n3 m ++ [rows.getD (chosen q rows p (fo q rows n3 m)) []] by rw [fo, HPH.out])
        obtain ⟨out, hout⟩ : ∃ out, out = fo q rows n3 m := ⟨_, rfl⟩
        have HOut := Lib.hid hout
        rw [← hout] at HHas HFL HFN HM4
        clear hp hpm hp1 hpe hout
        obtain ⟨wo, rfl⟩ : ∃ wo, wo = wr := ⟨_, rfl⟩
        have e9 : IntKind.i64.wrap ((p : Int) - 1) = (p : Int) - 1 := IntWalk.i64_in _ (by omega)
        go_wp2
        go_loopw [38, 12] (fun i out2 wr => ∃ k : Nat, k ≤ L ∧ i = .int .i64 k ∧ out2 = .slice A4 m c4 ∧ Mem W wr (⟨9, A4, m, c4, svs out⟩ :: (⟨54, A3, n3, c3, rs.map SVal⟩ :: rs ++ [⟨9, A2, L, c2, svs rows⟩])) ∧ Hid (∀ j, j < k → cnd q rows p out j = false)) (fun i _ _ => L - (intOf i).toNat)
        case atStart => exact ⟨0, Nat.zero_le _, rfl, rfl, HM4.out, Lib.hid (fun j hj => absurd hj (Nat.not_lt_zero _))⟩
        case round =>
          clear HM4
          obtain ⟨k, hk, rfl, rfl, hmem, hno⟩ := hrel
          have HMk := Lib.hid hmem
          clear hmem
          by_cases hlt : k < L
          · have hkl : k < rows.length := by rw [HLen.out]; exact hlt
            obtain ⟨a2, hA2, hab2, hck⟩ := (HMk.out.rd (r := ⟨9, A2, L, c2, svs rows⟩) (by simp)).str (k := k) hkl
            obtain ⟨a3, A5, m5, c5, hA3, hab3, hcm, hrd⟩ := grid_at (Mem.rdG HMk.out (List.mem_cons_of_mem _ List.mem_cons_self) (fun r hr => List.mem_cons_of_mem _ (List.mem_cons_of_mem _ (List.mem_append_left _ hr)))) HX.out (q := p) (by rw [levs_len]; exact hpn)
            rw [levs_get _ _ hpn] at hrd
            have hm5 : m5 = L := by rw [← hrd.lenI, lev_len]; exact HLen.out
            obtain ⟨a5, hA5, hab5, hc5⟩ := hrd.int (k := k) (by rw [lev_len]; exact hkl)
            rw [← getD_at (d := 0) (by rw [lev_len]; exact hkl)] at hc5
            subst hA2 hA3 hA5 hm5
            have HLow := Lib.hid (fun h => cnd_low (col := q) (rows := rows) (p := p) (out := out) (k := k) h)
            have HFst := Lib.hid (fun h h0 => cnd_first (col := q) (rows := rows) (p := p) (out := out) (k := k) h h0)
            have HStd := Lib.hid (fun b h h0 hs => cnd_stand (col := q) (rows := rows) (p := p) (out := out) (k := k) (b := b) h h0 hkl hs)
            have HCh := Lib.hid (fun (h : cnd q rows p out k = true) => show fo q rows n3 (m + 1) = out ++ [rows[k]] by rw [HFN.out, chosen_is (p := p) hkl h hno.out, getD_at hkl])
            have HNxt := Lib.hid (fun (h : cnd q rows p out k = false) => show ∀ j, j < k + 1 → cnd q rows p out j = false from fun j hj => by
              by_cases he : j = k
              · subst he; exact h
              · exact hno.out j (by omega))
            obtain ⟨y, hy⟩ : ∃ y, y = (lev q rows p).getD k 0 := ⟨_, rfl⟩
            rw [← hy] at hc5 HLow HFst HStd
            obtain ⟨x, hx⟩ : ∃ x, x = rows[k] := ⟨_, rfl⟩
            have HXQ := Lib.hid (show x.length = n by rw [hx]; exact HRow.out _ (List.getElem_mem hkl))
            rw [← hx] at hck HStd HCh
            clear hy hx hrd hno
            by_cases hyp : 0 < y
            · have dy : decide ((0 : Int) < y) = true := by simpa using hyp
              by_cases hm0 : m = 0
              · have dm : ((m : Int) == 0) = true := by simp [hm0]
                have HN := Lib.hid (HCh.out (HFst.out hyp (by rw [HFL.out]; exact hm0)))
                clear HLow HFst HStd HCh HNxt hm0
                go_wp2_with (at_builtin; refine app_mem [] (⟨54, some a3, n3, c3, rs.map SVal⟩ :: rs ++ [⟨9, some a2, m5, c2, svs rows⟩]) (.tmp 67) (.tmp 69) _ _ _ 16 rfl rfl Try.underlying22 infoS rfl rfl (HMk.out.alloc _) rfl (by omega) (Rd.one _ _ _) (by simp [Value.oneCell']) (by omega) (by omega) ?_; intro A6 c6 w6 hm6)
                refine ⟨⟨p, m + 1, A6, c6, by omega, rfl, rfl, ?_⟩, by simp [intOf]⟩
                rw [HN.out, svs_snoc]
                exact hm6
              · have dm : ((m : Int) == 0) = false := by simp; omega
                have hlast := last_at HFL.out (show 0 < m by omega)
                have hml : m - 1 < out.length := by rw [HFL.out]; omega
                obtain ⟨a4, hA4, hab4, hc4⟩ := HMk.out.rd0.str (k := m - 1) hml
                subst hA4
                have HUQ := Lib.hid (show (out.getLastD []).length = n by
                  rcases HFo.out with h | ⟨k2, hk2, h2, _⟩
                  · exact absurd h hm0
                  · rw [HOut.out, h2, getD_at hk2]; exact HRow.out _ (List.getElem_mem hk2))
                rw [← hlast] at hc4
                obtain ⟨u, hu⟩ : ∃ u, u = out.getLastD [] := ⟨_, rfl⟩
                rw [← hu] at hc4 HUQ HStd
                have e1 : IntKind.i64.wrap ((m : Int) - 1) = (m : Int) - 1 := IntWalk.i64_in _ (by have := HFL.out; omega)
                have e2 : ((m : Int) - 1).toNat = m - 1 := by omega
                have e3 : (0 : Int) ≤ (m : Int) - 1 := by omega
                have e4 : (m : Int) - 1 < (m : Int) := by omega
                clear hlast hu hml
                cases hst : stand q u x
                · have HCon := Lib.hid (l23Above_is hst wr (HS1.out.later HMk.out.bel) (by rw [HUQ.out]; omega) (by rw [HXQ.out, HUQ.out]))
                  have HN := Lib.hid (HNxt.out (HStd.out _ hyp (by rw [HFL.out]; exact hm0) hst))
                  clear hst HLow HFst HStd HCh HNxt
                  go_wp2_with fail
                  refine HCon.out.mono ?_
                  rintro e w7 ⟨rfl, hb7⟩
                  go_wp2
                  exact ⟨⟨k + 1, by omega, by go_num, rfl, HMk.out.later hb7, HN⟩, by simp [intOf]; omega⟩
                · have HCon := Lib.hid (l23Above_is hst wr (HS1.out.later HMk.out.bel) (by rw [HUQ.out]; omega) (by rw [HXQ.out, HUQ.out]))
                  have HN := Lib.hid (HCh.out (HStd.out _ hyp (by rw [HFL.out]; exact hm0) hst))
                  clear hst HLow HFst HStd HCh HNxt
                  go_wp2_with fail
                  refine HCon.out.mono ?_
                  rintro e w7 ⟨rfl, hb7⟩
                  have HM7 := Lib.hid (HMk.out.later hb7)
                  go_wp2_with (at_builtin; refine app_mem [] (⟨54, some a3, n3, c3, rs.map SVal⟩ :: rs ++ [⟨9, some a2, m5, c2, svs rows⟩]) (.tmp 67) (.tmp 69) _ _ _ 16 rfl rfl Try.underlying22 infoS rfl rfl (HM7.out.alloc _) rfl (by omega) (Rd.one _ _ _) (by simp [Value.oneCell']) (by omega) (by omega) ?_; intro A6 c6 w6 hm6)
                  refine ⟨⟨p, m + 1, A6, c6, by omega, rfl, rfl, ?_⟩, by simp [intOf]⟩
                  rw [HN.out, svs_snoc]
                  exact hm6
            · have dy : decide ((0 : Int) < y) = false := by simpa using hyp
              have HN := Lib.hid (HNxt.out (HLow.out hyp))
              clear HLow HFst HStd HCh HNxt
              go_wp2
              exact ⟨⟨k + 1, by omega, by go_num, rfl, HMk.out, HN⟩, by simp [intOf]; omega⟩
          · obtain ⟨k2, hk2, h2⟩ := HHas.out
            rw [hno.out k2 (by have := HLen.out; omega)] at h2
            exact absurd h2 (by simp)
      · have HEnd := Lib.hid (show m = n3 by omega)
        have hp0 : (p1 : Int) - 1 = -1 := by omega
        rw [hp0]
        go_wp2
        go_ret2
        exact ⟨A4, m, c4, rfl, by rw [HEnd.out] at HM4 ⊢; exact Mem.own (pre := []) HM4.out⟩
end Go.Proofs.Ytccpgcjmdjegeaa
