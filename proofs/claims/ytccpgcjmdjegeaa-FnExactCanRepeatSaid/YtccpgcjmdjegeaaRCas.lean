/-
  Contracts of the reference's l23Cycle and CanRepeat. Conditions: rows of one length, at most three steps.
-/
import Derived.Test.YtccpgcjmdjegeaaRCan
import Derived.Test.YtccpgcjmdjegeaaRCou
namespace Go.Proofs.Ytccpgcjmdjegeaa
open Go.RowKit

theorem any_hit {rows : Pch} {f : List UInt8 → Bool} {k : Nat} (hk : k < rows.length) (h : f rows[k] = true) : rows.any f = true := List.any_eq_true.2 ⟨_, List.getElem_mem hk, h⟩
theorem any_none {rows : Pch} {f : List UInt8 → Bool} (h : ∀ j (hj : j < rows.length), f rows[j] = false) : rows.any f = false := by
  rw [List.any_eq_false]
  intro x hx
  obtain ⟨j, hj, rfl⟩ := List.getElem_of_mem hx
  simp [h j hj]

set_option maxRecDepth 4096 in
set_option maxHeartbeats 1600000 in
theorem cycle_any (A : Option Addr) (L c : Nat) (rows : Pch) (A1 : Option Addr) (n1 c1 : Nat) (col : Pch) (start : List UInt8) (q : Nat) (hq : q ≤ 64) (hL : L ≤ 1048576) (hrow : ∀ x ∈ rows, x.length = q) : ∀ (N : Nat), N ≤ 3 → ∀ (u : List UInt8) (w : World), u.length = q → SIn w A L c rows → SIn w A1 n1 c1 col →
    Calls Try.prog 33 #[.slice A L c, .string ⟨start.toArray⟩, .string ⟨u.toArray⟩, .int .i64 (N : Int), .slice A1 n1 c1] w fun e w' => e = .returned (.bool (cyc rows col start u N)) ∧ Below w.heap.size w w' := by
  intro N
  induction N with
  | zero =>
    intro _ u w _ _ _
    by_cases hus : u = start
    · have hbe : (u == start) = true := by simp [hus]
      have HE := Lib.hid (show cyc rows col start u 0 = true by simp [cyc, hus])
      clear hus
      rw [HE.out]
      go_enter Try.func33, Try.ntmps33
      go_wp2
      go_ret
      exact ⟨rfl, Below.refl _ _⟩
    · have hbe : (u == start) = false := by simp [hus]
      have HE := Lib.hid (show cyc rows col start u 0 = false by simp [cyc, hus])
      clear hus
      rw [HE.out]
      go_enter Try.func33, Try.ntmps33
      go_wp2
      go_ret
      exact ⟨rfl, Below.refl _ _⟩
  | succ N ih =>
    intro hN u w hu hr hc
    obtain ⟨nn, hnn⟩ : ∃ nn, nn = N + 1 := ⟨_, rfl⟩
    have hnz : ((nn : Int) == 0) = false := by simp; omega
    have e1 : IntKind.i64.wrap ((nn : Int) - 1) = (nn : Int) - 1 := IntWalk.i64_in _ (by omega)
    have HIH := Lib.hid (show ∀ (t : List UInt8) (b : Bool) (w1 : World), cyc rows col start t N = b → t.length = q → Below w.heap.size w w1 →
        Calls Try.prog 33 #[.slice A L c, .string ⟨start.toArray⟩, .string ⟨t.toArray⟩, .int .i64 ((nn : Int) - 1), .slice A1 n1 c1] w1 fun e w' => e = .returned (.bool b) ∧ Below w1.heap.size w1 w' by
      intro t b w1 hb ht hb1
      have h := ih (by omega) t w1 ht (hr.later hb1) (hc.later hb1)
      rw [hb] at h
      rwa [show (nn : Int) - 1 = (N : Int) by omega])
    obtain ⟨res, hres⟩ : ∃ res, res = cyc rows col start u (N + 1) := ⟨_, rfl⟩
    rw [← hres, ← hnn]
    have HRes := Lib.hid (show res = rows.any fun t => stand col u t && cyc rows col start t N from hres)
    have HLen := Lib.hid hr.1.lenS
    have HR := Lib.hid hr
    have HC := Lib.hid hc
    have HU := Lib.hid hu
    clear hr hc ih hres hnn hu hN
    go_enter Try.func33, Try.ntmps33
    go_wp2
    go_loopw [20] (fun i wr => ∃ k : Nat, k ≤ L ∧ i = .int .i64 k ∧ Below w.heap.size w wr ∧ Hid (∀ j (_ : j < k) (hj2 : j < rows.length), (stand col u rows[j] && cyc rows col start rows[j] N) = false)) (fun i _ => L - (intOf i).toNat)
    case atStart => exact ⟨0, Nat.zero_le _, rfl, Below.refl _ _, Lib.hid (fun j hj => absurd hj (Nat.not_lt_zero _))⟩
    case round =>
      obtain ⟨k, hk, rfl, hbel, hno⟩ := hrel
      have HB := Lib.hid hbel
      clear hbel
      by_cases hlt : k < L
      · have hkl : k < rows.length := by rw [HLen.out]; exact hlt
        obtain ⟨a, rfl, hab, hca⟩ := (HR.out.later HB.out).1.str (k := k) hkl
        have HHit := Lib.hid (fun h => any_hit (f := fun t => stand col u t && cyc rows col start t N) hkl h)
        have HNxt := Lib.hid (fun (h : (stand col u rows[k] && cyc rows col start rows[k] N) = false) => show ∀ j (_ : j < k + 1) (hj2 : j < rows.length), (stand col u rows[j] && cyc rows col start rows[j] N) = false from fun j hj hj2 => by
          by_cases he : j = k
          · subst he; exact h
          · exact hno.out j (by omega) hj2)
        rw [← HRes.out] at HHit
        obtain ⟨t, ht⟩ : ∃ t, t = rows[k] := ⟨_, rfl⟩
        have HTQ := Lib.hid (show t.length = q by rw [ht]; exact hrow _ (List.getElem_mem hkl))
        rw [← ht] at hca HHit HNxt
        clear ht hno
        have HCon := Lib.hid (fun b h => l23Above_is (u := u) (t := t) (b := b) h wr (HC.out.later HB.out) (by rw [HU.out]; exact hq) (by rw [HTQ.out, HU.out]))
        cases hst : stand col u t
        · have HC1 := Lib.hid (HCon.out _ hst)
          have HN := Lib.hid (HNxt.out (by rw [hst]; rfl))
          clear hst HHit HNxt HCon
          go_wp2_with (go_at_call 46; (with_reducible refine HC1.out.mono ?_); rintro e w2 ⟨rfl, hb2⟩)
          exact ⟨⟨k + 1, by omega, by go_num, HB.out.trans (hb2.mono HB.out.size), HN⟩, by simp [intOf]; omega⟩
        · have HC1 := Lib.hid (HCon.out _ hst)
          cases hcy : cyc rows col start t N
          · have HC2 := Lib.hid (fun w1 h => HIH.out t _ w1 hcy HTQ.out h)
            have HN := Lib.hid (HNxt.out (by rw [hst, hcy]; rfl))
            clear hst hcy HHit HNxt HCon
            go_wp2_with fail
            refine HC1.out.mono ?_
            rintro e w2 ⟨rfl, hb2⟩
            have HB2 := Lib.hid (HB.out.trans (hb2.mono HB.out.size))
            clear hb2
            go_wp2_with fail
            refine (HC2.out _ HB2.out).mono ?_
            rintro e w3 ⟨rfl, hb3⟩
            go_wp2
            exact ⟨⟨k + 1, by omega, by go_num, HB2.out.trans (hb3.mono HB2.out.size), HN⟩, by simp [intOf]; omega⟩
          · have HC2 := Lib.hid (fun w1 h => HIH.out t _ w1 hcy HTQ.out h)
            have HN := Lib.hid (HHit.out (by rw [hst, hcy]; rfl))
            clear hst hcy HHit HNxt HCon
            go_wp2_with fail
            refine HC1.out.mono ?_
            rintro e w2 ⟨rfl, hb2⟩
            have HB2 := Lib.hid (HB.out.trans (hb2.mono HB.out.size))
            clear hb2
            go_wp2_with fail
            refine (HC2.out _ HB2.out).mono ?_
            rintro e w3 ⟨rfl, hb3⟩
            go_wp2
            go_ret
            exact ⟨by (rw [HN.out]; try rfl), HB2.out.trans (hb3.mono HB2.out.size)⟩
      · have HN := Lib.hid (show res = false by rw [HRes.out]; exact any_none (fun j hj => hno.out j (by have := HLen.out; omega) hj))
        clear hno
        go_wp2
        go_ret
        exact ⟨by (rw [HN.out]; try rfl), HB.out⟩

theorem rowsR_snoc {r : Pch} {n j : Nat} {s : List UInt8} {l : Pch} (hj : j < l.length) (hs : l[j] = s) : (l.take (j + 1)).filter (fun s => decide (wrapP n s ∈ r)) = (l.take j).filter (fun s => decide (wrapP n s ∈ r)) ++ (if decide (wrapP n s ∈ r) = true then [s] else []) := by
  rw [take_snoc l j hj, List.filter_append, hs]
  by_cases h : wrapP n s ∈ r <;> simp [h]
theorem wrap_cuts {s : List UInt8} {n : Nat} (hs : s.length = n) (hn : 1 ≤ n) : s.drop (n - 1) = [s.getD (n - 1) 0] ∧ s.take 1 = [s.getD 0 0] := by
  subst hs
  constructor
  · rw [List.drop_eq_getElem_cons (by omega), getD_at (by omega), List.drop_of_length_le (by omega)]
  · cases s with
    | nil => simp at hn
    | cons a l => simp
set_option maxRecDepth 4096 in
set_option maxHeartbeats 3200000 in
theorem cCanRepeatS (A0 : Option Addr) (n0 c0 : Nat) (r : Pch) (A1 : Option Addr) (n1 c1 : Nat) (q : Pch) (p : Int) (W : World) (h0 : SIn W A0 n0 c0 r) (h1 : SIn W A1 n1 c1 q) :
    Calls Try.prog 8 #[.slice A0 n0 c0, .slice A1 n1 c1, .int .i64 p] W fun e w' => e = .returned (.bool (canRep r q p)) ∧ Below W.heap.size W w' := by
  have hcr := sRulesOk_any A0 n0 c0 r A1 n1 c1 q W h0 h1
  obtain ⟨res, hres⟩ : ∃ res, res = canRep r q p := ⟨_, rfl⟩
  rw [← hres]
  have HS0 := Lib.hid h0
  have HS1 := Lib.hid h1
  clear h0 h1
  cases g1 : rulesOk r q <;> cases g2 : wi p 1 3
  all_goals
    rw [g1] at hcr
    have HE := Lib.hid (show canOk r q p = (rulesOk r q && wi p 1 3) from rfl)
    rw [g1, g2] at HE
    have H1 := Lib.hid hcr
    have H2 := Lib.hid (l01In_lit g2 W)
  case true.true =>
    have hp := wi_yes g2
    obtain ⟨n, rfl⟩ : ∃ n : Nat, p = n := ⟨p.toNat, by omega⟩
    have hn1 : 1 ≤ n := by omega
    have hn : n ≤ 3 := by omega
    have HRes := Lib.hid (show res = (rowsR r n).any fun s => cyc (rowsR r n) q s s n by rw [hres]; unfold canRep; rw [HE.out]; rfl)
    clear g1 g2 hcr hres HE hp
    go_enter Try.func8, Try.ntmps8
    go_wp2_with (first | (go_at_call 30; (with_reducible refine H2.out.mono ?_); rintro e w' ⟨rfl, rfl⟩) | (go_at_call 29; (with_reducible refine H1.out.mono ?_); rintro e w' ⟨rfl, rfl⟩))
    have HMd := Lib.hid (Own.made0 (w0 := W) (w := W) (Below.refl _ _) 9)
    refine (l23Rows_any n hn _ _ _ r _ (HS0.out.later HMd.out.2)).mono ?_
    rintro e w1 ⟨A2, L, c2, rfl, o1⟩
    have hs := rowsN_sin hn o1
    have hL := hs.2
    have HM1 := Lib.hid ((((Mem.start W).add HMd.out).add o1).perm (List.Perm.swap _ _ _))
    have HRow := Lib.hid (show ∀ x ∈ rowsN r n, x.length = n from fun x hx => (rowsN_row hx).1)
    have HDef := Lib.hid (show rowsR r n = (rowsN r n).filter fun s => decide (wrapP n s ∈ r) from rfl)
    obtain ⟨all, hall⟩ : ∃ all, all = rowsN r n := ⟨_, rfl⟩
    rw [← hall] at HM1 HRow HDef
    obtain ⟨fin, hfin⟩ : ∃ fin, fin = rowsR r n := ⟨_, rfl⟩
    rw [← hfin] at HDef HRes
    have HLen := Lib.hid (show all.length = L from HM1.out.rd1.lenS)
    clear hs o1 HMd hall hfin
    go_wp2_with fail
    go_loopw [26, 7] (fun i out wr => ∃ (j : Nat) (A3 : Option Addr) (m3 c3 : Nat), j ≤ L ∧ i = .int .i64 j ∧ out = .slice A3 m3 c3 ∧ m3 ≤ j ∧ Mem W wr [⟨9, A3, m3, c3, svs ((all.take j).filter fun s => decide (wrapP n s ∈ r))⟩, ⟨9, A2, L, c2, svs all⟩]) (fun i _ _ => L - (intOf i).toNat)
    case atStart => exact ⟨0, _, _, _, Nat.zero_le _, rfl, rfl, Nat.le_refl _, HM1.out⟩
    case round =>
      clear HM1
      obtain ⟨j, A3, m3, c3, hj, rfl, rfl, hm3, hmem⟩ := hrel
      have HM := Lib.hid hmem
      clear hmem
      by_cases hlt : j < L
      · have hjl : j < all.length := by rw [HLen.out]; exact hlt
        obtain ⟨a2, hA2, hab2, hck⟩ := HM.out.rd1.str (k := j) hjl
        subst hA2
        obtain ⟨s, hs⟩ : ∃ s, s = all[j] := ⟨_, rfl⟩
        have hsn : s.length = n := by rw [hs]; exact HRow.out _ (List.getElem_mem hjl)
        have HSn := Lib.hid (rowsR_snoc (r := r) (n := n) hjl hs.symm)
        obtain ⟨hd1, hd2⟩ := wrap_cuts hsn hn1
        obtain ⟨x, hx⟩ : ∃ x, x = s.getD (n - 1) 0 := ⟨_, rfl⟩
        obtain ⟨y, hy⟩ : ∃ y, y = s.getD 0 0 := ⟨_, rfl⟩
        have HW := Lib.hid (show wrapP n s = [x, y] by rw [hx, hy]; rfl)
        rw [← hx] at hd1
        rw [← hy] at hd2
        rw [← hs] at hck
        have hts : s.take s.length = s := List.take_length
        have e1 : IntKind.i64.wrap ((n : Int) - 1) = (n : Int) - 1 := IntWalk.i64_in _ (by omega)
        have e2 : ((n : Int) - 1).toNat = n - 1 := by omega
        have e3 : (0 : Int) ≤ (n : Int) - 1 := by omega
        have e4 : (n : Int) - 1 ≤ (s.length : Int) := by omega
        have e5 : (1 : Int) ≤ (s.length : Int) := by omega
        have e6 : n - 1 ≤ s.length := by omega
        have e7 : 1 ≤ s.length := by omega
        have e8 : (1 : Int) ≤ (n : Int) := by omega
        have HQ := Lib.hid (HS0.out.later (HM.out.bel.trans ((bdR wr).mono HM.out.bel.size))).1
        have hn0 := HS0.out.2.1
        have hcat : ¬ 9223372036854775807 < [x].length + [y].length := by simp
        have HSN := Lib.hid hsn
        clear hx hy hs hsn hts
        cases hin : decide ([x, y] ∈ r)
        · have HIN := Lib.hid hin
          have HN := Lib.hid (show (all.take (j + 1)).filter (fun s => decide (wrapP n s ∈ r)) = (all.take j).filter (fun s => decide (wrapP n s ∈ r)) by rw [HSn.out, HW.out, hin]; simp)
          clear hin HSn
          go_wp2
          go_region_held3 (fun _ => True) (trivial) ((go_at_call 32; (with_reducible refine (l06At_is _ _ _ _ _ _ false HIN.out _ HQ.out hn0).mono ?_); rintro e w' ⟨z, rfl, hr, rfl⟩; simp only [Bool.false_eq_true, if_false] at hr))
          clear e1
          go_wp2
          exact ⟨⟨j + 1, A3, m3, c3, by omega, by go_num, rfl, by omega, by rw [HN.out]; exact HM.out.drew⟩, by simp [intOf]; omega⟩
        · have HIN := Lib.hid hin
          have HN := Lib.hid (show (all.take (j + 1)).filter (fun s => decide (wrapP n s ∈ r)) = (all.take j).filter (fun s => decide (wrapP n s ∈ r)) ++ [s] by rw [HSn.out, HW.out, hin]; simp)
          clear hin HSn
          go_wp2
          go_region_held3 (fun _ => True) (trivial) ((go_at_call 32; (with_reducible refine (l06At_is _ _ _ _ _ _ true HIN.out _ HQ.out hn0).mono ?_); rintro e w' ⟨z, rfl, hr, rfl⟩; simp only [if_true] at hr))
          clear e1
          go_wp2_with (at_builtin; refine app_mem [] [⟨9, some a2, L, c2, svs all⟩] (.tmp 40) (.tmp 42) _ _ _ 16 rfl rfl Try.underlying22 infoS rfl rfl (HM.out.drew.alloc _) rfl (by omega) (Rd.one _ _ _) (by simp [Value.oneCell']) (by omega) (by omega) ?_; intro A5 c5 w5 hm5)
          exact ⟨⟨j + 1, A5, m3 + 1, c5, by omega, by go_num, rfl, by omega, by rw [HN.out, svs_snoc]; exact hm5⟩, by simp [intOf]; omega⟩
      · have HMf := Lib.hid (by have h := HM.out; rw [List.take_of_length_le (show all.length ≤ j by rw [HLen.out]; omega), ← HDef.out] at h; exact h)
        have HFR := Lib.hid (show ∀ x ∈ fin, x.length = n by rw [HDef.out]; exact fun x hx => HRow.out _ (List.mem_filter.1 hx).1)
        have hm64 : m3 ≤ 64 := by omega
        have HFL := Lib.hid (show fin.length = m3 from HMf.out.rd0.lenS)
        have HSF := Lib.hid (show SIn wr A3 m3 c3 fin from SIn.of HMf.out.rd0 (by omega) (fun s hs => by have := HFR.out s hs; omega) (Mem.own (pre := []) HMf.out).cap)
        have HB := Lib.hid HMf.out.bel
        clear HM HMf hm3
        go_wp2
        obtain ⟨wo, rfl⟩ : ∃ wo, wo = wr := ⟨_, rfl⟩
        go_loopw [47] (fun i wr => ∃ k : Nat, k ≤ m3 ∧ i = .int .i64 k ∧ Below wo.heap.size wo wr ∧ Hid (∀ j (_ : j < k) (hj2 : j < fin.length), cyc fin q fin[j] fin[j] n = false)) (fun i _ => m3 - (intOf i).toNat)
        case atStart => exact ⟨0, Nat.zero_le _, rfl, Below.refl _ _, Lib.hid (fun j hj => absurd hj (Nat.not_lt_zero _))⟩
        case round =>
          obtain ⟨k, hk, rfl, hbel, hno⟩ := hrel
          have HBk := Lib.hid hbel
          clear hbel
          by_cases hlt3 : k < m3
          · have hkl : k < fin.length := by rw [HFL.out]; exact hlt3
            obtain ⟨a3, hA3, hab3, hck⟩ := (HSF.out.later HBk.out).1.str (k := k) hkl
            subst hA3
            have HCy := Lib.hid (cycle_any (some a3) m3 c3 fin A1 n1 c1 q fin[k] n (by omega) (by omega) HFR.out n hn fin[k] wr (HFR.out _ (List.getElem_mem hkl)) (HSF.out.later HBk.out) ((HS1.out.later HB.out).later HBk.out))
            have HHit := Lib.hid (fun h => any_hit (f := fun s => cyc fin q s s n) hkl h)
            rw [← HRes.out] at HHit
            have HNxt := Lib.hid (fun (h : cyc fin q fin[k] fin[k] n = false) => show ∀ j (_ : j < k + 1) (hj2 : j < fin.length), cyc fin q fin[j] fin[j] n = false from fun j hj hj2 => by
              by_cases he : j = k
              · subst he; exact h
              · exact hno.out j (by omega) hj2)
            obtain ⟨t, ht⟩ : ∃ t, t = fin[k] := ⟨_, rfl⟩
            rw [← ht] at hck HCy HHit HNxt
            clear ht hno
            cases hcy : cyc fin q t t n
            · rw [hcy] at HCy
              have HN := Lib.hid (HNxt.out hcy)
              clear hcy HHit HNxt
              go_wp2_with fail
              refine HCy.out.mono ?_
              rintro e w3 ⟨rfl, hb3⟩
              go_wp2
              exact ⟨⟨k + 1, by omega, by go_num, HBk.out.trans (hb3.mono HBk.out.size), HN⟩, by simp [intOf]; omega⟩
            · rw [hcy] at HCy
              have HN := Lib.hid (HHit.out hcy)
              clear hcy HHit HNxt
              go_wp2_with fail
              refine HCy.out.mono ?_
              rintro e w3 ⟨rfl, hb3⟩
              have HB3 := Lib.hid (HB.out.trans ((HBk.out.trans (hb3.mono HBk.out.size)).mono HB.out.size))
              clear hb3
              go_wp2
              go_ret
              exact ⟨by (rw [HN.out]; try rfl), HB3.out⟩
          · have HN := Lib.hid (show res = false by rw [HRes.out]; exact any_none (fun j hj => hno.out j (by have := HFL.out; omega) hj))
            clear hno
            go_wp2
            go_ret
            exact ⟨by (rw [HN.out]; try rfl), HB.out.trans (HBk.out.mono HB.out.size)⟩
  all_goals
    have HR := Lib.hid (show res = false by rw [hres]; unfold canRep; rw [HE.out]; rfl)
    clear g1 g2 hcr hres HE
    go_enter Try.func8, Try.ntmps8
    go_wp2_with (first | (go_at_call 30; (with_reducible refine H2.out.mono ?_); rintro e w' ⟨rfl, rfl⟩) | (go_at_call 29; (with_reducible refine H1.out.mono ?_); rintro e w' ⟨rfl, rfl⟩))
    go_ret
    exact ⟨by (rw [HR.out]; try rfl), Below.refl _ _⟩
end Go.Proofs.Ytccpgcjmdjegeaa
