/-
  Contracts of CountObeying (program and reference). No conditions.
-/
import Derived.Test.YtccpgcjmdjegeaaRObs
namespace Go.Proofs.Ytccpgcjmdjegeaa
open Go.RowKit

theorem okC_yes {w h : Int} {r q : Pch} (hk : okC w h r q = true) : obOk w h r q = true ∧ okH q (rowsN r w.toNat) h.toNat = true := by
  unfold okC at hk; simpa using hk
theorem okC_no {w h : Int} {r q : Pch} (hk : obOk w h r q = false) : okC w h r q = false := by unfold okC; rw [hk]; rfl

set_option maxHeartbeats 1600000 in
theorem cCountObeyingI (a h : Int) (A0 : Option Addr) (n0 c0 : Nat) (r : Pch) (A1 : Option Addr) (n1 c1 : Nat) (q : Pch) (W : World) (h0 : SIn W A0 n0 c0 r) (h1 : SIn W A1 n1 c1 q) :
    Calls Try.prog 13 #[.int .i64 a, .int .i64 h, .slice A0 n0 c0, .slice A1 n1 c1] W fun e w' => e = .returned (.int .i64 (countOb a h r q)) ∧ Below W.heap.size W w' := by
  have hco := obeying_any a h A0 n0 c0 r A1 n1 c1 q W h0 h1
  obtain ⟨x, hx⟩ : ∃ x, x = countOb a h r q := ⟨_, rfl⟩
  rw [← hx]
  clear h0 h1
  cases hk : okC a h r q
  case false =>
    rw [hk] at hco
    have HX := Lib.hid (show x = -1 by rw [hx]; unfold countOb; rw [hk]; rfl)
    have HC := Lib.hid hco
    clear hx hk hco
    go_enter Try.func13, Try.ntmps13
    go_wp2_with fail
    refine HC.out.mono ?_
    rintro e w1 ⟨A, n, c, A2, n2, c2, rs, rfl, hm, _, _⟩
    have HM := Lib.hid hm
    clear hm
    go_wp2
    go_ret
    exact ⟨by (rw [HX.out]; try rfl), HM.out.bel⟩
  case true =>
    have hp := okC_parts (okC_yes hk).1
    obtain ⟨m, rfl⟩ : ∃ m : Nat, h = m := ⟨h.toNat, by omega⟩
    obtain ⟨z, hz⟩ : ∃ z, z = lev q (rowsN r a.toNat) (m - 1) := ⟨_, rfl⟩
    have HX := Lib.hid (show x = z.sum by rw [hx, hz]; unfold countOb; rw [if_pos hk]; rfl)
    have HG := Lib.hid (show gridC a m r q = levs q (rowsN r a.toNat) m by unfold gridC; rw [if_pos hk]; rfl)
    have HNN := Lib.hid (show ∀ y ∈ z, 0 ≤ y by rw [hz]; exact lev_nonneg _ _ _)
    have hmp : m - 1 < m := by omega
    have hzs : z.sum ≤ 1000000000000 := by rw [hz]; exact okH_at (okC_yes hk).2 (by rw [show ((m : Int)).toNat = m from rfl]; omega)
    have HZS := Lib.hid hzs
    have HZ := Lib.hid hz
    rw [hk] at hco
    have HC := Lib.hid hco
    clear hx hk hco hz hzs
    go_enter Try.func13, Try.ntmps13
    go_wp2_with fail
    refine HC.out.mono ?_
    rintro e w1 ⟨A, n, c, A2, n2, c2, rs, rfl, hm, hx2, _⟩
    rw [HG.out] at hx2
    have hn2 : n2 = m := by have h1 := hm.rd0.1; have h2 := xs_len hx2; rw [levs_len] at h2; simp only [List.length_map] at h1; omega
    obtain ⟨a2, A3, m3, c3, hA2, hab2, hcm, hrd3⟩ := grid_at (Mem.rdG hm List.mem_cons_self (fun r hr => List.mem_cons_of_mem _ (List.mem_append_left _ hr))) hx2 (q := m - 1) (by rw [levs_len]; exact hmp)
    rw [levs_get _ _ hmp, ← HZ.out] at hrd3
    subst hA2 hn2
    have HB := Lib.hid hm.bel
    have HR3 := Lib.hid hrd3
    have HZL := Lib.hid hrd3.lenI
    have h64 : m3 ≤ 64 := by rw [← HZL.out, HZ.out, lev_len]; exact rowsN_len r (by omega)
    have e1 : IntKind.i64.wrap ((n2 : Int) - 1) = (n2 : Int) - 1 := IntWalk.i64_in _ (by omega)
    have e2 : ((n2 : Int) - 1).toNat = n2 - 1 := by omega
    have e3 : (0 : Int) ≤ (n2 : Int) - 1 := by omega
    have e4 : (n2 : Int) - 1 < (n2 : Int) := by omega
    clear hm hx2 hrd3
    go_wp2
    go_loop [32, 12] (fun j s => ∃ k : Nat, k ≤ m3 ∧ j = .int .i64 k ∧ s = .int .i64 (z.take k).sum) (fun j _ => m3 - (intOf j).toNat)
    case atStart => exact ⟨0, Nat.zero_le _, rfl, by simp⟩
    case round =>
      obtain ⟨k, hk, rfl, rfl⟩ := hrel
      by_cases hlt : k < m3
      · have hkz : k < z.length := by rw [HZL.out]; exact hlt
        obtain ⟨a3, hA3, hab3, hc3⟩ := HR3.out.int (k := k) hkz
        subst hA3
        have h1 := sum_take_nonneg HNN.out k
        have h2 := sum_take_nonneg HNN.out (k + 1)
        have h3 := sum_take_mono HNN.out (k := k + 1)
        have h4 := HZS.out
        have HS := Lib.hid (sum_take_succ hkz)
        rw [HS.out] at h2 h3
        rw [← getD_at (d := 0) hkz] at hc3
        obtain ⟨y, hy⟩ : ∃ y, y = z.getD k 0 := ⟨_, rfl⟩
        obtain ⟨s, hs⟩ : ∃ s, s = (z.take k).sum := ⟨_, rfl⟩
        rw [← hy] at hc3 HS h2 h3
        rw [← hs] at HS h1 h2 h3 ⊢
        have e5 : IntKind.i64.wrap (s + y) = s + y := IntWalk.i64_in _ (by omega)
        clear hy hs
        go_wp2
        exact ⟨⟨k + 1, by omega, by go_num, by rw [HS.out]⟩, by simp [intOf]; omega⟩
      · have HF := Lib.hid (show (z.take k).sum = x by rw [HX.out]; exact sum_take_all (by rw [HZL.out]; omega))
        go_wp2
        go_ret
        exact ⟨by (rw [HF.out]; try rfl), HB.out⟩
set_option maxHeartbeats 1600000 in
theorem cCountObeyingS (a h : Int) (A0 : Option Addr) (n0 c0 : Nat) (r : Pch) (A1 : Option Addr) (n1 c1 : Nat) (q : Pch) (W : World) (h0 : SIn W A0 n0 c0 r) (h1 : SIn W A1 n1 c1 q) :
    Calls Try.prog 12 #[.int .i64 a, .int .i64 h, .slice A0 n0 c0, .slice A1 n1 c1] W fun e w' => e = .returned (.int .i64 (countOb a h r q)) ∧ Below W.heap.size W w' := by
  have hco := l23Ok_any a h A0 n0 c0 r A1 n1 c1 q W h0 h1
  obtain ⟨x, hx⟩ : ∃ x, x = countOb a h r q := ⟨_, rfl⟩
  rw [← hx]
  have HS0 := Lib.hid h0
  have HS1 := Lib.hid h1
  clear h0 h1
  cases hob : obOk a h r q
  case false =>
    rw [hob] at hco
    have HX := Lib.hid (show x = -1 by rw [hx]; unfold countOb; rw [okC_no hob]; rfl)
    have HC := Lib.hid hco
    clear hx hob hco
    go_enter Try.func12, Try.ntmps12
    go_wp2_with fail
    refine HC.out.mono ?_
    rintro e w1 ⟨rfl, rfl⟩
    go_wp2
    go_ret
    exact ⟨by (rw [HX.out]; try rfl), Below.refl _ _⟩
  case true =>
    have hp := okC_parts hob
    obtain ⟨n, rfl⟩ : ∃ n : Nat, a = n := ⟨a.toNat, by omega⟩
    obtain ⟨m, rfl⟩ : ∃ m : Nat, h = m := ⟨h.toNat, by omega⟩
    have hn : n ≤ 3 := by omega
    have hm1 : 1 ≤ m := by omega
    have hm : m ≤ 20 := by omega
    rw [hob] at hco
    have HC := Lib.hid hco
    have HOK := Lib.hid (show okC n m r q = okH q (rowsN r n) m by unfold okC; rw [hob]; rfl)
    have HXX := Lib.hid (show x = if okH q (rowsN r n) m = true then (lev q (rowsN r n) (m - 1)).sum else -1 by rw [hx, ← HOK.out]; rfl)
    clear hx hob hco hp
    go_enter Try.func12, Try.ntmps12
    go_wp2_with fail
    refine HC.out.mono ?_
    rintro e w1 ⟨rfl, rfl⟩
    go_wp2_with fail
    refine (l23Rows_any n hn _ _ _ r _ HS0.out).mono ?_
    rintro e w1 ⟨A2, n2, c2, rfl, o1⟩
    have hs := rowsN_sin hn o1
    have HS := Lib.hid hs.1
    have hn2 := hs.2
    have HM1 := Lib.hid ((Mem.start W).add o1)
    clear hs o1
    have hcc := l23Counts_any _ _ _ (rowsN r n) m _ _ _ q n _ HS.out (HS1.out.later HM1.out.bel) hn2 (by omega) (fun x hx => (rowsN_row hx).1) hm1 hm
    cases hok : okH q (rowsN r n) m
    case false =>
      rw [hok] at hcc
      have HCC := Lib.hid hcc
      have HX := Lib.hid (show x = -1 by rw [HXX.out, hok]; rfl)
      clear hcc hok
      go_wp2_with fail
      refine HCC.out.mono ?_
      rintro e w2 ⟨A3, n3, c3, rs, rfl, hm2, hx2, he2⟩
      have hn3 : n3 = 0 := by have h1 := hm2.rd0.1; have h2 := xs_len hx2; simp only [List.length_map] at h1; simp at h2; subst h2; simpa using h1.symm
      have HB := Lib.hid (HM1.out.bel.trans (hm2.bel.mono HM1.out.bel.size))
      subst hn3
      clear hm2 hx2 he2
      go_wp2
      go_ret
      exact ⟨by (rw [HX.out]; try rfl), HB.out⟩
    case true =>
      rw [hok] at hcc
      have HCC := Lib.hid hcc
      obtain ⟨z, hz⟩ : ∃ z, z = lev q (rowsN r n) (m - 1) := ⟨_, rfl⟩
      have HX := Lib.hid (show x = z.sum by rw [HXX.out, hok, hz]; rfl)
      have HNN := Lib.hid (show ∀ y ∈ z, 0 ≤ y by rw [hz]; exact lev_nonneg _ _ _)
      have hmp : m - 1 < m := by omega
      have hzs : z.sum ≤ 1000000000000 := by rw [hz]; exact okH_at hok hmp
      have HZS := Lib.hid hzs
      have HZ := Lib.hid hz
      clear hcc hok hz hzs
      go_wp2_with fail
      refine HCC.out.mono ?_
      rintro e w2 ⟨A3, n3, c3, rs, rfl, hm2, hx2, he2⟩
      rw [if_pos trivial] at hx2
      have hn3 : n3 = m := by have h1 := hm2.rd0.1; have h2 := xs_len hx2; rw [levs_len] at h2; simp only [List.length_map] at h1; omega
      obtain ⟨a2, A4, m3, c4, hA2, hab2, hcm, hrd3⟩ := grid_at (Mem.rdG hm2 List.mem_cons_self (fun r hr => List.mem_cons_of_mem _ hr)) hx2 (q := m - 1) (by rw [levs_len]; exact hmp)
      rw [levs_get _ _ hmp, ← HZ.out] at hrd3
      have HB := Lib.hid (HM1.out.bel.trans (hm2.bel.mono HM1.out.bel.size))
      subst hA2 hn3
      have HR3 := Lib.hid hrd3
      have HZL := Lib.hid hrd3.lenI
      have h64 : m3 ≤ 64 := by rw [← HZL.out, HZ.out, lev_len]; exact rowsN_len r hn
      have e1 : IntKind.i64.wrap ((n3 : Int) - 1) = (n3 : Int) - 1 := IntWalk.i64_in _ (by omega)
      have e2 : ((n3 : Int) - 1).toNat = n3 - 1 := by omega
      have e3 : (0 : Int) ≤ (n3 : Int) - 1 := by omega
      have e4 : (n3 : Int) - 1 < (n3 : Int) := by omega
      have d0 : ((n3 : Int) == 0) = false := by simp; omega
      clear hm2 hx2 hrd3 he2
      go_wp2
      go_loop [34, 10] (fun j s => ∃ k : Nat, k ≤ m3 ∧ j = .int .i64 k ∧ s = .int .i64 (z.take k).sum) (fun j _ => m3 - (intOf j).toNat)
      case atStart => exact ⟨0, Nat.zero_le _, rfl, by simp⟩
      case round =>
        obtain ⟨k, hk, rfl, rfl⟩ := hrel
        by_cases hlt : k < m3
        · have hkz : k < z.length := by rw [HZL.out]; exact hlt
          obtain ⟨a3, hA3, hab3, hc3⟩ := HR3.out.int (k := k) hkz
          subst hA3
          have h1 := sum_take_nonneg HNN.out k
          have h2 := sum_take_nonneg HNN.out (k + 1)
          have h3 := sum_take_mono HNN.out (k := k + 1)
          have h4 := HZS.out
          have HS := Lib.hid (sum_take_succ hkz)
          rw [HS.out] at h2 h3
          rw [← getD_at (d := 0) hkz] at hc3
          obtain ⟨y, hy⟩ : ∃ y, y = z.getD k 0 := ⟨_, rfl⟩
          obtain ⟨s, hs⟩ : ∃ s, s = (z.take k).sum := ⟨_, rfl⟩
          rw [← hy] at hc3 HS h2 h3
          rw [← hs] at HS h1 h2 h3 ⊢
          have e5 : IntKind.i64.wrap (s + y) = s + y := IntWalk.i64_in _ (by omega)
          clear hy hs
          go_wp2
          exact ⟨⟨k + 1, by omega, by go_num, by rw [HS.out]⟩, by simp [intOf]; omega⟩
        · have HF := Lib.hid (show (z.take k).sum = z.sum from sum_take_all (by rw [HZL.out]; omega))
          rw [HF.out]
          have h4 := HZS.out
          obtain ⟨s, hs⟩ : ∃ s, s = z.sum := ⟨_, rfl⟩
          rw [← hs] at h4 ⊢
          have HX3 := Lib.hid (show s = x by rw [hs, HX.out])
          have d1 : decide ((1000000000000 : Int) < s) = false := by simp; omega
          clear hs
          go_wp2_with (go_at_call 44; refine (l13Most_any _).mono ?_; rintro e w9 ⟨rfl, rfl⟩)
          go_ret
          exact ⟨by (rw [HX3.out]; try rfl), HB.out⟩
end Go.Proofs.Ytccpgcjmdjegeaa
