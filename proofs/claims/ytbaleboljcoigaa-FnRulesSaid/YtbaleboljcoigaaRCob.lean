/-
  Contracts of CountObeying (program and reference). No conditions.
-/
import Derived.Test.YtbaleboljcoigaaRObs
namespace Go.Proofs.Ytbaleboljcoigaa
open Go.RowKit

theorem okC_yes {w h : Int} {r q : Pch} (hk : okC w h r q = true) : obOk w h r q = true ∧ okH q (rowsN r w.toNat) h.toNat = true := by
  unfold okC at hk; simpa using hk
theorem okC_no {w h : Int} {r q : Pch} (hk : obOk w h r q = false) : okC w h r q = false := by unfold okC; rw [hk]; rfl

set_option maxHeartbeats 1600000 in
theorem cCountObeyingI (a h : Int) (A0 : Option Addr) (n0 c0 : Nat) (r : Pch) (A1 : Option Addr) (n1 c1 : Nat) (q : Pch) (W : World) (h0 : SIn W A0 n0 c0 r) (h1 : SIn W A1 n1 c1 q) :
    Calls Try.prog 11 #[.int .i64 a, .int .i64 h, .slice A0 n0 c0, .slice A1 n1 c1] W fun e w' => e = .returned (.int .i64 (countOb a h r q)) ∧ Below W.heap.size W w' := by
  have hco := obeying_any a h A0 n0 c0 r A1 n1 c1 q W h0 h1
  obtain ⟨x, hx⟩ : ∃ x, x = countOb a h r q := ⟨_, rfl⟩
  rw [← hx]
  clear h0 h1
  cases hk : okC a h r q
  case false =>
    rw [hk] at hco
    have HX := Lib.hid (show x = -1 by rw [hx]; unfold countOb; rw [hk]; rfl)
    have HC := Lib.hid hco
    clear hx hk hco
    go_enter Try.func11, Try.ntmps11
    go_wp2_with fail
    refine HC.out.mono ?_
    rintro e w1 ⟨A, n, c, A2, n2, c2, rs, rfl, hm, _, _⟩
    have HM := Lib.hid hm
    clear hm
    go_wp2
    go_ret
    exact ⟨by (rw [HX.out]; try rfl), HM.out.bel⟩
  case true =>
    have hp := okC_parts (okC_yes hk).1
    obtain ⟨m, rfl⟩ : ∃ m : Nat, h = m := ⟨h.toNat, by omega⟩
    obtain ⟨z, hz⟩ : ∃ z, z = lev q (rowsN r a.toNat) (m - 1) := ⟨_, rfl⟩
    have HX := Lib.hid (show x = z.sum by rw [hx, hz]; unfold countOb; rw [if_pos hk]; rfl)
    have HG := Lib.hid (show gridC a m r q = levs q (rowsN r a.toNat) m by unfold gridC; rw [if_pos hk]; rfl)
    have HNN := Lib.hid (show ∀ y ∈ z, 0 ≤ y by rw [hz]; exact lev_nonneg _ _ _)
    have hmp : m - 1 < m := by omega
    have hzs : z.sum ≤ 1000000000000 := by rw [hz]; exact okH_at (okC_yes hk).2 (by rw [show ((m : Int)).toNat = m from rfl]; omega)
    have HZS := Lib.hid hzs
    have HZ := Lib.hid hz
    rw [hk] at hco
    have HC := Lib.hid hco
    clear hx hk hco hz hzs
    go_enter Try.func11, Try.ntmps11
    go_wp2_with fail
    refine HC.out.mono ?_
    rintro e w1 ⟨A, n, c, A2, n2, c2, rs, rfl, hm, hx2, _⟩
    rw [HG.out] at hx2
    have hn2 : n2 = m := by have h1 := hm.rd0.1; have h2 := xs_len hx2; rw [levs_len] at h2; simp only [List.length_map] at h1; omega
    obtain ⟨a2, A3, m3, c3, hA2, hab2, hcm, hrd3⟩ := grid_at (Mem.rdG hm List.mem_cons_self (fun r hr => List.mem_cons_of_mem _ (List.mem_append_left _ hr))) hx2 (q := m - 1) (by rw [levs_len]; exact hmp)
    rw [levs_get _ _ hmp, ← HZ.out] at hrd3
    subst hA2 hn2
    have HB := Lib.hid hm.bel
    have HR3 := Lib.hid hrd3
    have HZL := Lib.hid hrd3.lenI
    have h64 : m3 ≤ 64 := by rw [← HZL.out, HZ.out, lev_len]; exact rowsN_len r (by omega)
    have e1 : IntKind.i64.wrap ((n2 : Int) - 1) = (n2 : Int) - 1 := IntWalk.i64_in _ (by omega)
    have e2 : ((n2 : Int) - 1).toNat = n2 - 1 := by omega
    have e3 : (0 : Int) ≤ (n2 : Int) - 1 := by omega
    have e4 : (n2 : Int) - 1 < (n2 : Int) := by omega
    clear hm hx2 hrd3
    go_wp2
    go_loop [32, 12] (fun j s => ∃ k : Nat, k ≤ m3 ∧ j = .int .i64 k ∧ s = .int .i64 (z.take k).sum) (fun j _ => m3 - (intOf j).toNat)
    case atStart => exact ⟨0, Nat.zero_le _, rfl, by simp⟩
    case round =>
      obtain ⟨k, hk, rfl, rfl⟩ := hrel
      by_cases hlt : k < m3
      · have hkz : k < z.length := by rw [HZL.out]; exact hlt
        obtain ⟨a3, hA3, hab3, hc3⟩ := HR3.out.int (k := k) hkz
        subst hA3
        have h1 := sum_take_nonneg HNN.out k
        have h2 := sum_take_nonneg HNN.out (k + 1)
        have h3 := sum_take_mono HNN.out (k := k + 1)
        have h4 := HZS.out
        have HS := Lib.hid (sum_take_succ hkz)
        rw [HS.out] at h2 h3
        rw [← getD_at (d := 0) hkz] at hc3
        obtain ⟨y, hy⟩ : ∃ y, y = z.getD k 0 := ⟨_, rfl⟩
        obtain ⟨s, hs⟩ : ∃ s, s = (z.take k).sum := ⟨_, rfl⟩
        rw [← hy] at hc3 HS h2 h3
        rw [← hs] at HS h1 h2 h3 ⊢
        have e5 : IntKind.i64.wrap (s + y) = s + y := IntWalk.i64_in _ (by omega)
        clear hy hs
        go_wp2
        exact ⟨⟨k + 1, by omega, by go_num, by rw [HS.out]⟩, by simp [intOf]; omega⟩
      · have HF := Lib.hid (show (z.take k).sum = x by rw [HX.out]; exact sum_take_all (by rw [HZL.out]; omega))
        go_wp2
        go_ret
        exact ⟨by (rw [HF.out]; try rfl), HB.out⟩
end Go.Proofs.Ytbaleboljcoigaa
