/-
  Contract of the program's CanRepeat. No conditions.
-/
import Derived.Test.YtbaleboljcoigaaRCai
namespace Go.Proofs.Ytbaleboljcoigaa
open Go.RowKit

/-- the rows next reached, when j rows have been looked at -/
def nextR (rows q now : Pch) (j : Nat) : Pch := (rows.take j).filter fun t => now.any fun u => stand q u t
theorem nextR_snoc {rows q now : Pch} {j : Nat} (hj : j < rows.length) {t : List UInt8} (ht : rows[j] = t) {b : Bool} (hb : (now.any fun u => stand q u t) = b) : nextR rows q now (j + 1) = if b = true then nextR rows q now j ++ [t] else nextR rows q now j := by
  unfold nextR
  rw [take_snoc rows j hj, List.filter_append, ht]
  cases b <;> simp [hb]
theorem nextR_all {rows q first : Pch} : True := trivial
theorem nextR_done {rows q : Pch} {first : List UInt8} {i j : Nat} (hj : rows.length ≤ j) : nextR rows q (reach rows q first i) j = reach rows q first (i + 1) := by
  unfold nextR; rw [List.take_of_length_le hj]; rfl

set_option maxRecDepth 4096 in
set_option maxHeartbeats 3200000 in
theorem cCanRepeatI (A0 : Option Addr) (n0 c0 : Nat) (r : Pch) (A1 : Option Addr) (n1 c1 : Nat) (q : Pch) (p : Int) (W : World) (h0 : SIn W A0 n0 c0 r) (h1 : SIn W A1 n1 c1 q) :
    Calls Try.prog 17 #[.slice A0 n0 c0, .slice A1 n1 c1, .int .i64 p] W fun e w' => e = .returned (.bool (canRep r q p)) ∧ Below W.heap.size W w' := by
  obtain ⟨res, hres⟩ : ∃ res, res = canRep r q p := ⟨_, rfl⟩
  rw [← hres]
  have HM0 := Lib.hid ((((Mem.start W).cellN 23 (.slice A0 n0 c0) (b := W.heap.size) rfl).cellN 23 (.slice A1 n1 c1) (b := W.heap.size + 1) (by simp)).cellN 3 (.int .i64 p) (b := W.heap.size + 1 + 1) (by simp))
  obtain ⟨W1, hW1⟩ : ∃ W1, W1 = ((W.alloc (.cells #[.slice A0 n0 c0] 23)).alloc (.cells #[.slice A1 n1 c1] 23)).alloc (.cells #[.int .i64 p] 3) := ⟨_, rfl⟩
  have HW1 := Lib.hid hW1
  rw [← hW1] at HM0
  have hcr := iRulesOk_any A0 n0 c0 r A1 n1 c1 q W1 (h0.later HM0.out.bel) (h1.later HM0.out.bel)
  have hc0 := HM0.out.cellR (e := 23) (b := W.heap.size) (v := .slice A0 n0 c0) (by simp)
  have hc1 := HM0.out.cellR (e := 23) (b := W.heap.size + 1) (v := .slice A1 n1 c1) (by simp)
  have hc2 := HM0.out.cellR (e := 3) (b := W.heap.size + 1 + 1) (v := .int .i64 p) (by simp)
  have HS0 := Lib.hid h0
  have HS1 := Lib.hid h1
  clear h0 h1
  cases g1 : rulesOk r q <;> cases g2 : wi p 1 3
  all_goals
    rw [g1] at hcr
    have HE := Lib.hid (show canOk r q p = (rulesOk r q && wi p 1 3) from rfl)
    rw [g1, g2] at HE
    have H1 := Lib.hid hcr
    have H2 := Lib.hid (within_lit g2 W1)
  case true.true =>
    have hp := wi_yes g2
    obtain ⟨n, rfl⟩ : ∃ n : Nat, p = n := ⟨p.toNat, by omega⟩
    have hn1 : 1 ≤ n := by omega
    have hn : n ≤ 3 := by omega
    have HRes := Lib.hid (show res = (rowsR r n).any fun s => cyc (rowsR r n) q s s n by rw [hres]; unfold canRep; rw [HE.out]; rfl)
    clear g1 g2 hcr hres HE hp
    have HRo := Lib.hid (rowsOf_any n hn A0 n0 c0 r W1 (HS0.out.later HM0.out.bel))
    rw [hW1] at HRo
    go_enter Try.func17, Try.ntmps17
    rw [hW1] at hc0 hc1 hc2 H1 H2
    go_wp2_with (first | (go_at_call 35; (with_reducible refine H2.out.mono ?_); rintro e w' ⟨rfl, rfl⟩) | (go_at_call 6; (with_reducible refine H1.out.mono ?_); rintro e w' ⟨rfl, rfl⟩))
    refine HRo.out.mono ?_
    rw [← hW1]
    clear HRo hc0 hc1 hc2 H1 H2 HW1 hW1
    obtain ⟨b0, hb0⟩ : ∃ b, b = W.heap.size := ⟨_, rfl⟩
    obtain ⟨b1, hb1⟩ : ∃ b, b = W.heap.size + 1 := ⟨_, rfl⟩
    obtain ⟨b2, hb2⟩ : ∃ b, b = W.heap.size + 1 + 1 := ⟨_, rfl⟩
    rw [← hb2] at HM0 ⊢
    rw [← hb1] at HM0 ⊢
    rw [← hb0] at HM0 ⊢
    clear hb0 hb1 hb2
    rintro e w2 ⟨A, n2, c2, rfl, hown⟩
    have hn2 : n2 ≤ 64 := (rowsN_sin hn hown).2
    have HD := Lib.hid (deleteFunc_any 38 #[.pointer (some ⟨b0, 0, none⟩), .pointer (some ⟨b2, 0, none⟩)] (fun _ _ => rfl) W1 w2 A n2 c2 (rowsN r n) (fun s => !decide (wrapP n s ∈ r)) hown hn2 (by
      intro w hb x hx
      have hm := HM0.out.later hb
      exact canRep1_any W w _ b0 b2 x A0 n0 c0 r n hm (by simp) (by simp) (HS0.out.later hm.bel) (rowsN_row hx).1 hn1 hn))
    rw [show ((rowsN r n).filter fun x => !(fun s => !decide (wrapP n s ∈ r)) x) = rowsR r n by unfold rowsR; congr 1; funext s; simp] at HD
    have hcz := (HM0.out.later hown.bel).cellR (e := 3) (b := b2) (v := .int .i64 (n : Int)) (by simp)
    have HFR := Lib.hid (show ∀ x ∈ rowsR r n, x.length = n from fun x hx => (rowsN_row (List.mem_filter.1 hx).1).1)
    have HL64 := Lib.hid (show (rowsR r n).length ≤ 64 from Nat.le_trans (List.length_filter_le _ _) (rowsN_len r hn))
    obtain ⟨rows, hrows⟩ : ∃ rows, rows = rowsR r n := ⟨_, rfl⟩
    rw [← hrows] at HD HFR HL64 HRes
    clear hrows hown
    go_wp2_with (go_at_call 36; refine HD.out.mono ?_; rintro e w3 ⟨m, c3, rfl, hown⟩)
    have HM3 := Lib.hid (HM0.out.add hown)
    clear hcz HD hown
    obtain ⟨TL, hTL⟩ : ∃ TL, TL = (⟨9, A, m, c3, svs rows⟩ : Row) :: [CellR 3 b2 (.int .i64 (n : Int)), CellR 23 b1 (.slice A1 n1 c1), CellR 23 b0 (.slice A0 n0 c0)] := ⟨_, rfl⟩
    have HTr := Lib.hid (show (⟨9, A, m, c3, svs rows⟩ : Row) ∈ TL by rw [hTL]; simp)
    have HT2 := Lib.hid (show CellR 3 b2 (.int .i64 (n : Int)) ∈ TL by rw [hTL]; simp)
    have HT1 := Lib.hid (show CellR 23 b1 (.slice A1 n1 c1) ∈ TL by rw [hTL]; simp)
    rw [← hTL] at HM3
    have HLen := Lib.hid (show rows.length = m from (HM3.out.rd HTr.out).lenS)
    have hm64 : m ≤ 64 := by rw [← HLen.out]; exact HL64.out
    clear hTL HM0
    go_loopw [30] (fun k wr => ∃ kn : Nat, kn ≤ m ∧ k = .int .i64 kn ∧ Mem W wr TL ∧ Hid (∀ j (_ : j < kn) (hj2 : j < rows.length), cyc rows q rows[j] rows[j] n = false)) (fun k _ => m - (intOf k).toNat)
    case atStart => exact ⟨0, Nat.zero_le _, by go_num, HM3.out, Lib.hid (fun j hj => absurd hj (Nat.not_lt_zero _))⟩
    case round =>
      clear HM3
      obtain ⟨kn, hkm, rfl, hmem, hno⟩ := hrel
      have HM := Lib.hid hmem
      clear hmem
      by_cases hlt : kn < m
      · have hkl : kn < rows.length := by rw [HLen.out]; exact hlt
        obtain ⟨a2, hA2, hab2, hck⟩ := (HM.out.rd HTr.out).str (k := kn) hkl
        subst hA2
        have HM4 := Lib.hid (show Mem W (wr.alloc (.cells #[.string ⟨rows[kn].toArray⟩] 9)) (⟨9, some ⟨wr.heap.size, 0, none⟩, 1, 1, svs (reach rows q rows[kn] 0)⟩ :: TL) from HM.out.cellN 9 (.string ⟨rows[kn].toArray⟩) (b := wr.heap.size) rfl)
        have hcn := HM4.out.cellR (e := 3) (b := b2) (v := .int .i64 (n : Int)) (by simp [HT2.out])
        have HHit := Lib.hid (fun h => any_hit (f := fun s => cyc rows q s s n) hkl h)
        rw [← HRes.out] at HHit
        have HNxt := Lib.hid (fun (h : cyc rows q rows[kn] rows[kn] n = false) => show ∀ j (_ : j < kn + 1) (hj2 : j < rows.length), cyc rows q rows[j] rows[j] n = false from fun j hj hj2 => by
          by_cases he : j = kn
          · subst he; exact h
          · exact hno.out j (by omega) hj2)
        have HFin := Lib.hid (show rows[kn] ∈ rows from List.getElem_mem hkl)
        obtain ⟨t, ht⟩ : ∃ t, t = rows[kn] := ⟨_, rfl⟩
        rw [← ht] at hck HHit HNxt HFin HM4 hcn
        clear ht hno
        go_wp2
        clear hcn hck
        go_loopw [37, 10] (fun i s wr => ∃ (ni : Nat) (A4 : Option Addr) (m4 c4 : Nat), ni ≤ n ∧ i = .int .i64 ni ∧ s = .slice A4 m4 c4 ∧ Mem W wr (⟨9, A4, m4, c4, svs (reach rows q t ni)⟩ :: TL)) (fun i _ _ => n - (intOf i).toNat)
        case atStart => exact ⟨0, _, _, _, Nat.zero_le _, by go_num, rfl, HM4.out⟩
        case round =>
          clear HM4
          obtain ⟨ni, A4, m4, c4, hni, rfl, rfl, hmem⟩ := hrel
          have HM5 := Lib.hid hmem
          clear hmem
          by_cases hlt2 : ni < n
          · have HM6 := Lib.hid (HM5.out.nilN 9 (b := wr.heap.size) rfl)
            have HNL := Lib.hid (fun x hx => reach_row (q := q) (j := ni) (x := x) HFin.out hx)
            have HRL := Lib.hid (by have h := reach_len rows q t ni; rw [HM5.out.rd0.lenS] at h; exact h)
            have HDn := Lib.hid (fun j => nextR_done (rows := rows) (q := q) (first := t) (i := ni) (j := j))
            obtain ⟨now, hnow⟩ : ∃ now, now = reach rows q t ni := ⟨_, rfl⟩
            rw [← hnow] at HM6 HNL HDn
            clear hnow HM5
            go_wp2
            go_loopw [42, 11] (fun j s wr => ∃ (nj : Nat) (A5 : Option Addr) (m5 c5 : Nat), nj ≤ m ∧ j = .int .i64 nj ∧ s = .slice A5 m5 c5 ∧ m5 ≤ nj ∧ Mem W wr (⟨9, A5, m5, c5, svs (nextR rows q now nj)⟩ :: ⟨9, A4, m4, c4, svs now⟩ :: TL)) (fun j _ _ => m - (intOf j).toNat)
            case atStart => exact ⟨0, _, _, _, Nat.zero_le _, by go_num, rfl, Nat.le_refl _, HM6.out⟩
            case round =>
              clear HM6
              obtain ⟨nj, A5, m5, c5, hnj, rfl, rfl, hm5, hmem⟩ := hrel
              have HM7 := Lib.hid hmem
              clear hmem
              by_cases hlt3 : nj < m
              · have hjl : nj < rows.length := by rw [HLen.out]; exact hlt3
                obtain ⟨a9, hA9, _, hcj⟩ := (HM7.out.rd (r := ⟨9, some a2, m, c3, svs rows⟩) (by simp [HTr.out])).str (k := nj) hjl
                obtain rfl := Option.some.inj hA9
                have HU := Lib.hid (show rows[nj].length = n from HFR.out _ (List.getElem_mem hjl))
                have HSn := Lib.hid (fun b hb => nextR_snoc (rows := rows) (q := q) (now := now) hjl rfl (b := b) hb)
                obtain ⟨u, hu⟩ : ∃ u, u = rows[nj] := ⟨_, rfl⟩
                rw [← hu] at hcj HU HSn
                clear hu
                go_wp2_with fail
                have HM8 := Lib.hid (HM7.out.cellN 9 (.string ⟨u.toArray⟩) (b := wr.heap.size) rfl)
                obtain ⟨b3, hb3⟩ : ∃ b3, b3 = wr.heap.size := ⟨_, rfl⟩
                obtain ⟨w8, hw8⟩ : ∃ w8, w8 = wr.alloc (.cells #[.string ⟨u.toArray⟩] 9) := ⟨_, rfl⟩
                rw [← hb3] at HM8 ⊢
                rw [← hw8] at HM8 ⊢
                clear hb3 hw8 hcj
                have HC := Lib.hid (containsFunc_any 41 #[.pointer (some ⟨b3, 0, none⟩), .pointer (some ⟨b1, 0, none⟩)] (fun _ _ => rfl) A4 m4 c4 w8.heap.size now (fun x => stand q x u) w8 (HM8.out.rd (r := ⟨9, A4, m4, c4, svs now⟩) (by simp)) (Nat.le_refl _) (by have := HRL.out; have := HLen.out; omega) (by
                  intro w hb x hx
                  have hm := HM8.out.later hb
                  have hxl := HFR.out x (HNL.out x hx)
                  exact canRep2_any W w _ b3 b1 x u A1 n1 c1 q hm (by simp) (by simp [HT1.out]) (HS1.out.later hm.bel) (by omega) (by have := HU.out; omega)))
                refine HC.out.mono ?_
                clear HC
                rintro e w9 ⟨rfl, hb9⟩
                have HM9 := Lib.hid (HM8.out.later hb9)
                clear hb9 HM8
                have hcu := HM9.out.cellR (e := 9) (b := b3) (v := .string ⟨u.toArray⟩) (by simp)
                cases hany : now.any fun x => stand q x u
                · have HN := Lib.hid (by have h := HSn.out _ hany; rwa [if_neg (by decide)] at h)
                  clear hany
                  go_wp2
                  exact ⟨⟨nj + 1, A5, m5, c5, by omega, by go_num, rfl, by omega, by rw [HN.out]; exact HM9.out.drop (by simp)⟩, by simp [intOf]; omega⟩
                · have HN := Lib.hid (by have h := HSn.out _ hany; rwa [if_pos rfl] at h)
                  clear hany
                  go_wp2_with (at_builtin; refine app_mem [CellR 9 b3 (.string ⟨u.toArray⟩)] (⟨9, A4, m4, c4, svs now⟩ :: TL) (.tmp 49) (.tmp 51) _ _ _ 16 rfl rfl Try.underlying23 infoS rfl rfl (HM9.out.alloc _) rfl (by omega) (Rd.one _ _ _) (by simp [Value.oneCell']) (by omega) (by omega) ?_; intro A6 c6 w6 hm6)
                  exact ⟨⟨nj + 1, A6, m5 + 1, c6, by omega, by go_num, rfl, by omega, by rw [HN.out, svs_snoc]; exact hm6.drop (by simp)⟩, by simp [intOf]; omega⟩
              · have HN := Lib.hid (HDn.out nj (by have := HLen.out; omega))
                have HM8 := Lib.hid (by have h := HM7.out; rw [HN.out] at h; exact h.drop (rs' := ⟨9, A5, m5, c5, svs (reach rows q t (ni + 1))⟩ :: TL) (by simp))
                go_wp2
                exact ⟨⟨ni + 1, A5, m5, c5, by omega, by go_num, rfl, HM8.out⟩, by simp [intOf]; omega⟩
          · obtain rfl : ni = n := by omega
            have HRC := Lib.hid (reach_cyc rows q t ni)
            have HRL := Lib.hid (by have h := reach_len rows q t ni; rw [HM5.out.rd0.lenS] at h; exact h)
            have hRd := HM5.out.rd0
            have HM8 := Lib.hid (HM5.out.drop (rs' := TL) (by simp))
            clear HM5
            cases hcy : cyc rows q t t ni
            · have HCt := Lib.hid (contains_is (c := c4) (ss := reach rows q t ni) (x := t) (by rw [HRC.out, hcy]) wr hRd (by have := HRL.out; have := HLen.out; omega))
              have HN := Lib.hid (HNxt.out hcy)
              clear hcy HHit HNxt hRd HRC
              go_wp2_with (go_at_call 39; refine HCt.out.mono ?_; rintro e w9 ⟨rfl, rfl⟩)
              exact ⟨⟨kn + 1, by omega, by go_num, HM8.out, HN⟩, by simp [intOf]; omega⟩
            · have HCt := Lib.hid (contains_is (c := c4) (ss := reach rows q t ni) (x := t) (by rw [HRC.out, hcy]) wr hRd (by have := HRL.out; have := HLen.out; omega))
              have HN := Lib.hid (HHit.out hcy)
              clear hcy HHit HNxt hRd HRC
              go_wp2_with (go_at_call 39; refine HCt.out.mono ?_; rintro e w9 ⟨rfl, rfl⟩)
              go_ret
              exact ⟨by (rw [HN.out]; try rfl), HM8.out.bel⟩
      · have HN := Lib.hid (show res = false by rw [HRes.out]; exact any_none (fun j hj => hno.out j (by have := HLen.out; omega) hj))
        clear hno
        go_wp2
        go_ret
        exact ⟨by (rw [HN.out]; try rfl), HM.out.bel⟩
  all_goals
    have HR := Lib.hid (show res = false by rw [hres]; unfold canRep; rw [HE.out]; rfl)
    clear g1 g2 hcr hres HE
    go_enter Try.func17, Try.ntmps17
    rw [hW1] at hc0 hc1 hc2 H1 H2
    go_wp2_with (first | (go_at_call 35; (with_reducible refine H2.out.mono ?_); rintro e w' ⟨rfl, rfl⟩) | (go_at_call 6; (with_reducible refine H1.out.mono ?_); rintro e w' ⟨rfl, rfl⟩))
    go_ret
    exact ⟨by (rw [HR.out]; try rfl), by rw [← hW1]; exact HM0.out.bel⟩
end Go.Proofs.Ytbaleboljcoigaa
