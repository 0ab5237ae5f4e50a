/-
  Contract of the reference's l23Counts. Conditions: at most 64 words of one length, 1 to 20 levels.
-/
import Derived.Test.YtccpgcjmdjegeaaRBel
namespace Go.Proofs.Ytccpgcjmdjegeaa
open Go.RowKit

theorem lev_snoc0 (rows : Pch) (col : Pch) : levs col rows 1 = [lev col rows 0] := by simp [levs, List.range_succ]
theorem repl_snoc (k : Nat) : ivs (List.replicate (k + 1) 1) = ivs (List.replicate k 1) ++ [.int .i64 1] := by rw [List.replicate_succ', ivs_snoc]
theorem okH_one {col rows : Pch} (h : rows.length ≤ 64) : okH col rows 1 = true := by
  have h2 : (lev col rows 0).sum ≤ most := by
    have := sum_take_le (l := lev col rows 0) (b := 1) (fun z hz => by have := List.eq_of_mem_replicate hz; omega) (by omega) rows.length
    rw [sum_take_all (by rw [lev_len]; exact Nat.le_refl _)] at this
    unfold most; omega
  simp [okH, List.range_succ, okLev, h2]
theorem take_sum_snoc {l : List Int} {k : Nat} (hk : k < l.length) : l.take (k + 1) = l.take k ++ [l.getD k 0] := by rw [take_snoc l k hk, getD_at hk]
/-- the walk's rows: the newest row stands last -/
def LastR (e : TypeId) (rs : List Row) (A : Option Addr) (m c : Nat) (zs : List Int) : List Row := rs ++ [⟨e, A, m, c, ivs zs⟩]

theorem l13Most_any (w : World) : Calls Try.prog 44 #[] w fun e w' => e = .returned (.int .i64 1000000000000) ∧ w = w' := by
  go_enter Try.func44, Try.ntmps44
  go_wp2
  go_ret
  exact ⟨rfl, rfl⟩
theorem l23Above_is {u t : List UInt8} {A : Option Addr} {n c : Nat} {col : Pch} {b : Bool} (hb : stand col u t = b) (w : World) (hc : SIn w A n c col) (hu : u.length ≤ 64) (ht : t.length = u.length) :
    Calls Try.prog 46 #[.string ⟨u.toArray⟩, .string ⟨t.toArray⟩, .slice A n c] w fun e w' => e = .returned (.bool b) ∧ Below w.heap.size w w' := by
  have h := l23Above_any u t A n c col w hc hu ht
  rw [hb] at h
  exact h
set_option maxRecDepth 4096 in
set_option maxHeartbeats 3200000 in
theorem l23Counts_any (A : Option Addr) (L c : Nat) (rows : Pch) (h : Nat) (A1 : Option Addr) (n1 c1 : Nat) (col : Pch) (q : Nat) (W : World) (hr : SIn W A L c rows) (hc : SIn W A1 n1 c1 col)
    (hL : L ≤ 64) (hq : q ≤ 64) (hrow : ∀ x ∈ rows, x.length = q) (hh1 : 1 ≤ h) (hh : h ≤ 20) :
    Calls Try.prog 43 #[.slice A L c, .int .i64 h, .slice A1 n1 c1] W (RetG 3 54 W (if okH col rows h = true then levs col rows h else [])) := by
  have HLen := Lib.hid (hr.1.lenS)
  have HR := Lib.hid hr
  have HC := Lib.hid hc
  have HRow := Lib.hid hrow
  obtain ⟨zss, hzss⟩ : ∃ zss, zss = (if okH col rows h = true then levs col rows h else []) := ⟨_, rfl⟩
  rw [← hzss]
  have HZ := Lib.hid hzss
  clear hr hc hrow hzss
  go_enter Try.func43, Try.ntmps43
  go_wp2
  go_loopw [20, 7] (fun i now wr => ∃ (k : Nat) (A3 : Option Addr) (c3 : Nat), k ≤ L ∧ i = .int .i64 k ∧ now = .slice A3 k c3 ∧ Own W wr 3 A3 k c3 (ivs (List.replicate k 1))) (fun i _ _ => L - (intOf i).toNat)
  case atStart => exact ⟨0, _, _, Nat.zero_le _, rfl, rfl, Own.made0 (Below.refl _ _) _⟩
  case round =>
    obtain ⟨k, A3, c3, hk, rfl, rfl, hown⟩ := hrel
    have HO := Lib.hid hown
    clear hown
    by_cases hlt : k < L
    · go_wp2_with (at_builtin; refine app_one (.tmp 22) (.tmp 23) 54 3 (.int .i64 0) 8 rfl rfl Try.underlying54 infoI rfl rfl HO.out rfl rfl (by omega) (by omega) ?_; intro A4 c4 w4 hown4)
      exact ⟨⟨k + 1, A4, c4, by omega, by go_num, rfl, by rw [repl_snoc]; exact hown4⟩, by simp [intOf]; omega⟩
    · have HO1 := Lib.hid (show Own W wr 3 A3 L c3 (ivs (lev col rows 0)) by rw [lev, HLen.out, show L = k by omega]; exact HO.out)
      have hkL : k = L := by omega
      subst hkL
      clear HO
      have HM0 := Lib.hid (by
        have h1 := (Mem.start W).add HO1.out
        have h2 := h1.add (Own.made (w0 := wr) (w := wr) (Below.refl _ _) 54 [.slice A3 k c3] (by simp))
        exact h2)
      go_wp2
      go_loopw [9, 7, 8] (fun i now out wr => ∃ (n p : Nat) (A2 : Option Addr) (c2 : Nat) (rs : List Row) (A3 : Option Addr) (c3 : Nat), n ≤ h ∧ n = p + 1 ∧ i = .int .i64 n ∧ now = .slice A3 k c3 ∧ out = .slice A2 n c2 ∧ Mem W wr (⟨54, A2, n, c2, (LastR 3 rs A3 k c3 (lev col rows p)).map SVal⟩ :: LastR 3 rs A3 k c3 (lev col rows p)) ∧ rs.map Row.xs = (levs col rows p).map ivs ∧ (∀ r ∈ rs, r.e = 3) ∧ okH col rows n = true) (fun i _ _ _ => h - (intOf i).toNat)
      case atStart => exact ⟨1, 0, _, _, [], A3, c3, hh1, rfl, rfl, rfl, rfl, HM0.out, rfl, by simp, okH_one (by rw [HLen.out]; exact hL)⟩
      case round =>
        clear HM0 HO1
        obtain ⟨n, p, A2, c2, rs, A3, c3, hn, hnp, rfl, rfl, rfl, hmem, hxs, hes, hok⟩ := hrel
        have HM := Lib.hid hmem
        have HX := Lib.hid hxs
        have HE := Lib.hid hes
        have HOK := Lib.hid hok
        have HNP := Lib.hid hnp
        clear hmem hxs hes hok
        by_cases hlt : n < h
        · have hd1 : decide ((n : Int) < (h : Int)) = true := by simp; omega
          have hn1 : 1 ≤ n := by omega
          clear hnp
          obtain ⟨prev, hprev⟩ : ∃ prev, prev = lev col rows p := ⟨_, rfl⟩
          have HPrev := Lib.hid hprev
          obtain ⟨nx, hnx⟩ : ∃ nx, nx = lev col rows n := ⟨_, rfl⟩
          have HNx := Lib.hid hnx
          have HNN := Lib.hid (show ∀ z ∈ nx, 0 ≤ z by rw [hnx]; exact lev_nonneg col rows n)
          have HPN := Lib.hid (show ∀ z ∈ prev, 0 ≤ z by rw [hprev]; exact lev_nonneg col rows p)
          have HPS := Lib.hid (show prev.sum ≤ most by rw [hprev]; exact okH_at HOK.out (by rw [HNP.out]; omega))
          have HPL := Lib.hid (show prev.length = k by rw [hprev, lev_len]; exact HLen.out)
          have HNL := Lib.hid (show nx.length = k by rw [hnx, lev_len]; exact HLen.out)
          have HEnt := Lib.hid (show ∀ i, (hi : i < rows.length) → entK col rows prev rows[i] k = nx.getD i 0 by intro i hi; rw [hnx, HNP.out, lev_get hi, hprev, ← HLen.out])
          have HM1 := Lib.hid (by have h := HM.out; rw [← hprev] at h; exact h)
          clear hprev hnx HM
          have HMs := Lib.hid (by
            have h2 := HM1.out.add (Own.made0 (w0 := wr) (w := wr) (Below.refl _ _) 3)
            exact h2)
          obtain ⟨wo, rfl⟩ : ∃ wo, wo = wr := ⟨_, rfl⟩
          go_wp2
          go_loopw [36, 11, 10] (fun i all next wr => ∃ (i0 : Nat) (A4 : Option Addr) (c4 : Nat), i0 ≤ k ∧ i = .int .i64 i0 ∧ all = .int .i64 (nx.take i0).sum ∧ next = .slice A4 i0 c4 ∧ (nx.take i0).sum ≤ 1000000000000 ∧ Mem W wr (⟨3, A4, i0, c4, ivs (nx.take i0)⟩ :: ⟨54, A2, n, c2, (LastR 3 rs A3 k c3 prev).map SVal⟩ :: LastR 3 rs A3 k c3 prev)) (fun i _ _ _ => k - (intOf i).toNat)
          case atStart => exact ⟨0, _, _, Nat.zero_le _, rfl, by simp, rfl, by simp, HMs.out⟩
          case round =>
            clear HMs HM1
            obtain ⟨i, A4, c4, hi, rfl, rfl, rfl, hsm, hmem⟩ := hrel
            have HM2 := Lib.hid hmem
            clear hmem
            by_cases hlt2 : i < k
            · have hd2 : decide ((i : Int) < (k : Int)) = true := by simp; omega
              have hil : i < rows.length := by rw [HLen.out]; exact hlt2
              obtain ⟨a, rfl, hab, hca⟩ := (HR.out.later HM2.out.bel).1.str (k := i) hil
              have HEi := Lib.hid (HEnt.out i hil)
              obtain ⟨u, hu⟩ : ∃ u, u = rows[i] := ⟨_, rfl⟩
              have huq : u.length ≤ 64 := by have := HRow.out _ (List.getElem_mem hil); rw [hu]; omega
              have HUQ := Lib.hid (show u.length = q by rw [hu]; exact HRow.out _ (List.getElem_mem hil))
              rw [← hu] at hca HEi
              have hil2 : i < nx.length := by rw [HNL.out]; exact hlt2
              have HTS := Lib.hid (take_sum_snoc hil2)
              have HSum := Lib.hid (sum_take_succ hil2)
              have hs0 : 0 ≤ (nx.take i).sum := sum_take_nonneg HNN.out i
              have hx0 : 0 ≤ nx.getD i 0 := getD_nonneg HNN.out i
              have hx1 : nx.getD i 0 ≤ 1000000000000 := by rw [← HEi.out]; exact entK_most HPN.out HPS.out u k
              have hmono : (nx.take (i + 1)).sum ≤ nx.sum := sum_take_mono HNN.out
              have HMono := Lib.hid hmono
              obtain ⟨s0, hs⟩ : ∃ s0, s0 = (nx.take i).sum := ⟨_, rfl⟩
              rw [← hs] at hs0 hsm HSum ⊢
              obtain ⟨y0, hy⟩ : ∃ y0, y0 = nx.getD i 0 := ⟨_, rfl⟩
              rw [← hy] at hx0 hx1 HSum HEi HTS
              clear hu hs hy hil hmono hil2
              obtain ⟨wm, rfl⟩ : ∃ wm, wm = wr := ⟨_, rfl⟩
              go_wp2
              go_loopw [42, 14] (fun j sum wr => ∃ k2 : Nat, k2 ≤ k ∧ j = .int .i64 k2 ∧ sum = .int .i64 (entK col rows prev u k2) ∧ Mem W wr (⟨3, A4, i, c4, ivs (nx.take i)⟩ :: ⟨54, A2, n, c2, (LastR 3 rs A3 k c3 prev).map SVal⟩ :: LastR 3 rs A3 k c3 prev)) (fun j _ _ => k - (intOf j).toNat)
              case atStart => exact ⟨0, Nat.zero_le _, rfl, rfl, HM2.out⟩
              case round =>
                clear HM2 hca
                obtain ⟨k2, hk2, rfl, rfl, hmem⟩ := hrel
                have HMk := Lib.hid hmem
                clear hmem
                by_cases hlt3 : k2 < k
                · have hkl : k2 < rows.length := by rw [HLen.out]; exact hlt3
                  obtain ⟨a', ha', hab', hcb⟩ := (HR.out.later HMk.out.bel).1.str (k := k2) hkl
                  obtain rfl := Option.some.inj ha'
                  obtain ⟨t, ht⟩ : ∃ t, t = rows[k2] := ⟨_, rfl⟩
                  have HTQ := Lib.hid (show t.length = q by rw [ht]; exact HRow.out _ (List.getElem_mem hkl))
                  rw [← ht] at hcb
                  cases hst : stand col u t
                  · have HCon := Lib.hid (l23Above_is hst wr (HC.out.later HMk.out.bel) huq (by rw [HTQ.out, HUQ.out]))
                    have HN := Lib.hid (entK_no (prev := prev) hkl (by rw [← ht]; exact hst))
                    clear hst ht
                    go_wp2_with fail
                    refine HCon.out.mono ?_
                    rintro e w2 ⟨rfl, hb2⟩
                    go_wp2
                    exact ⟨⟨k2 + 1, by omega, by go_num, by rw [HN.out], HMk.out.later hb2⟩, by simp [intOf]; omega⟩
                  · have HCon := Lib.hid (l23Above_is hst wr (HC.out.later HMk.out.bel) huq (by rw [HTQ.out, HUQ.out]))
                    have HN := Lib.hid (entK_yes (prev := prev) hkl (by rw [← ht]; exact hst))
                    clear hst ht
                    have hb0 := entK_nonneg HPN.out u k2 (col := col) (rows := rows)
                    have hb1 := entK_most HPN.out HPS.out u k2 (col := col) (rows := rows)
                    have hb3 : prev.getD k2 0 ≤ most ∧ 0 ≤ prev.getD k2 0 := by
                      have h2 := entK_most HPN.out HPS.out u (k2 + 1) (col := col) (rows := rows)
                      rw [HN.out] at h2
                      exact ⟨by omega, getD_nonneg HPN.out k2⟩
                    have hkp : k2 < prev.length := by rw [HPL.out]; exact hlt3
                    go_wp2_with fail
                    refine HCon.out.mono ?_
                    rintro e w2 ⟨rfl, hb2⟩
                    have HMl := Lib.hid (HMk.out.later hb2)
                    clear hb2 HCon hcb
                    obtain ⟨a3, hA3, hab3, hc3⟩ := (HMl.out.rd (r := ⟨3, A3, k, c3, ivs prev⟩) (by simp [LastR])).int (k := k2) hkp
                    subst hA3
                    rw [← getD_at (d := 0) hkp] at hc3
                    obtain ⟨y, hy⟩ : ∃ y, y = prev.getD k2 0 := ⟨_, rfl⟩
                    obtain ⟨x, hx⟩ : ∃ x, x = entK col rows prev u k2 := ⟨_, rfl⟩
                    rw [← hy] at hc3 hb3 HN
                    rw [← hx] at hb0 hb1 HN ⊢
                    unfold most at hb1 hb3
                    have e6 : IntKind.i64.wrap (x + y) = x + y := IntWalk.i64_in _ (by omega)
                    clear hy hx
                    go_wp2
                    exact ⟨⟨k2 + 1, by omega, by go_num, by rw [HN.out], HMl.out⟩, by simp [intOf]; omega⟩
                · have hkL : k2 = k := by omega
                  have HK := Lib.hid (show entK col rows prev u k2 = y0 by rw [hkL]; exact HEi.out)
                  rw [HK.out]
                  have e1 : IntKind.i64.wrap (s0 + y0) = s0 + y0 := IntWalk.i64_in _ (by omega)
                  have d3 : decide ((1000000000000 : Int) < y0) = false := by simp; omega
                  clear hkL
                  by_cases hbig : s0 + y0 ≤ 1000000000000
                  · have d4 : decide ((1000000000000 : Int) < s0 + y0) = false := by simp; omega
                    go_wp2_with (first | (go_at_call 44; refine (l13Most_any _).mono ?_; rintro e w9 ⟨rfl, rfl⟩) | (at_builtin; refine app_mem [] (⟨54, A2, n, c2, (LastR 3 rs A3 k c3 prev).map SVal⟩ :: LastR 3 rs A3 k c3 prev) (.tmp 69) (.tmp 71) 54 3 (.int .i64 0) 8 rfl rfl Try.underlying54 infoI rfl rfl (HMk.out.alloc _) rfl (by omega) (Rd.one _ _ _) (fun u hu => by simp at hu; subst hu; rfl) (by omega) (by omega) ?_; intro A5 c5 w5 hm5))
                    refine ⟨⟨i + 1, A5, c5, by omega, by go_num, by rw [HSum.out], rfl, by rw [HSum.out]; exact hbig, ?_⟩, by simp [intOf]; omega⟩
                    rw [HTS.out, ivs_snoc]
                    exact hm5
                  · have d4 : decide ((1000000000000 : Int) < s0 + y0) = true := by simp; omega
                    have HF := Lib.hid (show zss = [] by rw [HZ.out, okH_bad hlt (by rw [← HNx.out]; have := HMono.out; rw [HSum.out] at this; unfold most; omega)]; rfl)
                    go_wp2_with (go_at_call 44; refine (l13Most_any _).mono ?_; rintro e w9 ⟨rfl, rfl⟩)
                    go_ret
                    exact ⟨none, 0, 0, [], rfl, (HMk.out.drop (List.nil_sublist _)).add (Own.nil (Below.refl _ _) _), by rw [HF.out]; rfl, by simp⟩
            · have hik : i = k := by omega
              have HMa := Lib.hid (by have h := HM2.out; rw [List.take_of_length_le (show nx.length ≤ i by rw [HNL.out]; omega)] at h; exact h)
              have HO2 := Lib.hid (show okH col rows (n + 1) = true by
                rw [okH_snoc, HOK.out]; simp only [okLev, Bool.true_and, decide_eq_true_eq]; rw [← HNx.out, ← sum_take_all (l := nx) (k := i) (by rw [HNL.out]; omega)]; unfold most; exact hsm)
              clear HM2 HEnt
              subst hik
              go_wp2_with (at_builtin; refine app_mem [⟨3, A4, i, c4, ivs nx⟩] (LastR 3 rs A3 i c3 prev) (.tmp 75) (.tmp 77) 52 54 (.slice none 0 0) 24 rfl rfl Try.underlying52 infoSIr rfl rfl (HMa.out.alloc _) rfl (by omega) (Rd.one _ _ _) (fun u hu => by simp at hu; subst hu; rfl) (by omega) (by omega) ?_; intro A5 c5 w5 hm5)
              refine ⟨⟨n + 1, n, A5, c5, LastR 3 rs A3 i c3 prev, A4, c4, by omega, rfl, by go_num, rfl, rfl, ?_, ?_, ?_, HO2.out⟩, by simp [intOf]; omega⟩
              · have h := Mem.perm hm5 (perm_newR _ _ _)
                rw [← HNx.out]
                simpa [SVal, LastR] using h
              · rw [HNP.out, levs_snoc, List.map_append, ← HX.out, ← HPrev.out]
                simp [LastR]
              · intro r hr
                rcases List.mem_append.1 hr with hr | hr
                · exact HE.out r hr
                · simp at hr; subst hr; rfl
        · have hnh : n = h := by omega
          have HX2 := Lib.hid (show (LastR 3 rs A3 k c3 (lev col rows p)).map Row.xs = zss.map ivs by
            rw [HZ.out, ← hnh, if_pos HOK.out, HNP.out, levs_snoc, List.map_append, ← HX.out]
            simp [LastR])
          have HE2 := Lib.hid (show ∀ r ∈ LastR 3 rs A3 k c3 (lev col rows p), r.e = 3 by
            intro r hr
            rcases List.mem_append.1 hr with hr | hr
            · exact HE.out r hr
            · simp at hr; subst hr; rfl)
          clear hnh hnp
          go_wp2
          go_ret
          exact ⟨A2, n, c2, _, rfl, HM.out, HX2.out, HE2.out⟩
end Go.Proofs.Ytccpgcjmdjegeaa
