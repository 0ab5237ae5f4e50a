/-
  Contracts of power, l18Letter and KernelSize (program and reference). No conditions.
-/
import Derived.Test.YtcicoplmpinnmaaDoorARun
import Derived.Test.YtcicoplmpinnmaaDoorBytes
import Derived.Test.YtcicoplmpinnmaaDoorIns
import Derived.Test.YtcicoplmpinnmaaDoorSet
namespace Go.Proofs.YtcicoplmpinnmaaDoor
open Go.RowKit

theorem mul_castA {x y z : Nat} (h : z = x * y) : (x : Int) * (y : Int) = (z : Int) := by rw [h, Int.natCast_mul]
/-- every k-th letter from the r-th on -/
def kword (zss : Tab) (o : List UInt8) (b k r m : Nat) : List UInt8 := (List.range m).map fun n => aLet zss o b (k * n + r)
theorem kword_len (zss : Tab) (o : List UInt8) (b k r m : Nat) : (kword zss o b k r m).length = m := by simp [kword]
theorem kword_snoc (zss : Tab) (o : List UInt8) (b k r m : Nat) : kword zss o b k r (m + 1) = kword zss o b k r m ++ [aLet zss o b (k * m + r)] := by simp [kword, List.range_succ]
def kRow (zss : Tab) (o : List UInt8) (b k : Nat) : Nat → List (List UInt8) → List (List UInt8)
  | 0, s => s
  | r + 1, s => insS (kword zss o b k r 41) (kRow zss o b k r s)
def kAll (zss : Tab) (o : List UInt8) (b : Nat) : Nat → List (List UInt8)
  | 0 => []
  | e + 1 => kRow zss o b (b ^ e) (b ^ e) (kAll zss o b e)
theorem srt_kRow {zss : Tab} {o : List UInt8} {b k : Nat} {s : List (List UInt8)} (hs : Srt s) : ∀ r, Srt (kRow zss o b k r s)
  | 0 => hs
  | r + 1 => srt_insS _ (srt_kRow hs r)
theorem srt_kAll {zss : Tab} {o : List UInt8} {b : Nat} : ∀ e, Srt (kAll zss o b e)
  | 0 => List.Pairwise.nil
  | e + 1 => srt_kRow (srt_kAll e) _
theorem len_kRow {zss : Tab} {o : List UInt8} {b k : Nat} {s : List (List UInt8)} (hs : Srt s) : ∀ r, (kRow zss o b k r s).length ≤ s.length + r
  | 0 => Nat.le_refl _
  | r + 1 => by
    have h1 := len_kRow (zss := zss) (o := o) (b := b) (k := k) hs r
    have h2 := len_insS (kword zss o b k r 41) (srt_kRow (zss := zss) (o := o) (b := b) (k := k) hs r)
    show (insS _ _).length ≤ _
    rw [h2]; split <;> omega
theorem len_kAll {zss : Tab} {o : List UInt8} {b : Nat} (hb : b ≤ 4) : ∀ e, e ≤ 3 → (kAll zss o b e).length ≤ 16 * e
  | 0, _ => Nat.le_refl _
  | e + 1, he => by
    have h1 := len_kAll (zss := zss) (o := o) (b := b) hb e (by omega)
    have h2 := len_kRow (zss := zss) (o := o) (b := b) (k := b ^ e) (srt_kAll (zss := zss) (o := o) (b := b) e) (b ^ e)
    have h3 : b ^ e ≤ 4 ^ 2 := Nat.le_trans (Nat.pow_le_pow_left hb e) (Nat.pow_le_pow_right (by omega) (by omega))
    show (kRow _ _ _ _ _ _).length ≤ _
    omega
def kerSize (b : Int) (zss : Tab) (o : List UInt8) : Int := if aOk b zss o = true then ((kAll zss o b.toNat 3).length : Int) else -1

set_option maxHeartbeats 800000 in
theorem power_any (b e : Nat) (hb : b ≤ 4) (he : e ≤ 3) (w : World) : Calls Tryd.prog 29 #[.int .i64 (b : Int), .int .i64 (e : Int)] w fun r w' => r = .returned (.int .i64 (b ^ e : Nat)) ∧ w = w' := by
  go_enter Tryd.func29, Tryd.ntmps29
  go_wp2
  go_loop [7, 5] (fun i x => ∃ j : Nat, j ≤ e ∧ i = .int .i64 j ∧ x = .int .i64 (b ^ j : Nat)) (fun i _ => e - (intOf i).toNat)
  case atStart => exact ⟨0, Nat.zero_le _, rfl, rfl⟩
  case round =>
    obtain ⟨j, hj, rfl, rfl⟩ := hrel
    by_cases hlt : j < e
    · have h3 : b ^ (j + 1) ≤ 4 ^ 3 := Nat.le_trans (Nat.pow_le_pow_left hb _) (Nat.pow_le_pow_right (by omega) (by omega))
      have HS := Lib.hid (Nat.pow_succ (n := b) (m := j))
      obtain ⟨x, hx⟩ : ∃ x, x = b ^ j := ⟨_, rfl⟩
      obtain ⟨y, hy⟩ : ∃ y, y = b ^ (j + 1) := ⟨_, rfl⟩
      rw [← hx, ← hy] at HS
      rw [← hy] at h3
      rw [← hx]
      have e1 : (x : Int) * (b : Int) = (y : Int) := mul_castA HS.out
      have e2 : IntKind.i64.wrap (y : Int) = (y : Int) := IntWalk.i64_in _ (by omega)
      have HY := Lib.hid hy
      clear hx hy
      go_wp2
      go_round
      case rel => exact ⟨j + 1, by omega, by go_num, by rw [← HY.out]⟩
      case measure => simp [intOf]; omega
    · obtain rfl : j = e := by omega
      go_wp2
      go_ret
      exact ⟨rfl, rfl⟩
set_option maxRecDepth 4096 in
set_option maxHeartbeats 3200000 in
theorem cKernelI (b : Int) (A : Option Addr) (n c : Nat) (zss : Tab) (o : List UInt8) (W : World) (hg : GIn W A n c zss) (ho : o.length ≤ 9223372036854775807) :
    Calls Tryd.prog 13 #[AutoV b A n c o] W fun e w' => e = .returned (.int .i64 (kerSize b zss o)) ∧ Below W.heap.size W w' := by
  obtain ⟨res, hres⟩ : ∃ res, res = kerSize b zss o := ⟨_, rfl⟩
  rw [← hres]
  have HW1 := Lib.hid (Below.boxed W (.cells #[.int .i64 b, .slice A n c, .string ⟨o.toArray⟩] 25))
  have HBx := Lib.hid (BoxAt.made W 25 b A n c o)
  have hcon := iAutoOk_any b A n c zss o _ (hg.later HW1.out) ho
  cases hok : aOk b zss o
  case false =>
    rw [hok] at hcon
    have HE := Lib.hid (show res = -1 by rw [hres]; unfold kerSize; rw [hok]; rfl)
    have HC := Lib.hid hcon
    clear hcon hres hok hg
    go_enter Tryd.func13, Tryd.ntmps13
    go_wp2_with fail
    refine HC.out.mono ?_
    rintro e w1 ⟨rfl, hb1⟩
    go_wp2
    go_ret
    exact ⟨by (rw [HE.out]; try rfl), HW1.out.trans (hb1.mono HW1.out.size)⟩
  case true =>
    rw [hok] at hcon
    obtain ⟨bn, rfl, hgd, hol, _⟩ := aOk_good hok
    have HE := Lib.hid (show res = ((kAll zss o bn 3).length : Int) by rw [hres]; unfold kerSize; rw [hok]; rfl)
    have HC := Lib.hid hcon
    have HG := Lib.hid hg
    have HGd := Lib.hid hgd
    have hb2 := hgd.1
    have hb4 := hgd.2.1
    clear hcon hres hok hg hgd
    have hmm := @run_makeMap Tryd.prog
    go_enter Tryd.func13, Tryd.ntmps13
    go_wp2_with fail
    refine HC.out.mono ?_
    rintro e w1 ⟨rfl, hb1⟩
    have HB1 := Lib.hid (HW1.out.trans (hb1.mono HW1.out.size))
    have HBx1 := Lib.hid (HBx.out.later hb1)
    clear hb1 HC HBx HW1
    obtain ⟨g, hgs⟩ : ∃ g, g = W.heap.size := ⟨_, rfl⟩
    rw [← hgs] at HBx1 ⊢
    have HGS := Lib.hid hgs
    clear hgs
    go_wp2_with fail
    go_loopw [13] (fun i wr => ∃ e : Nat, e ≤ 3 ∧ i = .int .i64 e ∧ SetAt Tryd.prog 9 4 wr w1.heap.size (16 * e) (kAll zss o bn e) ∧ Below w1.heap.size w1 wr) (fun i _ => 3 - (intOf i).toNat)
    case atStart => exact ⟨0, Nat.zero_le _, rfl, SetAt.made w1, Below.boxed w1 _⟩
    case round =>
      obtain ⟨e, he, rfl, hset, hbel⟩ := hrel
      have HS := Lib.hid hset
      have HB2 := Lib.hid hbel
      clear hset hbel
      by_cases hlt : e < 3
      · obtain ⟨bx0, bx1, bx2⟩ := HBx1.out.later HB2.out
        have hkk : bn ^ e ≤ 4 ^ 2 := Nat.le_trans (Nat.pow_le_pow_left hb4 e) (Nat.pow_le_pow_right (by omega) (by omega))
        have HP := Lib.hid (power_any bn e hb4 he wr)
        have HStep := Lib.hid (show kRow zss o bn (bn ^ e) (bn ^ e) (kAll zss o bn e) = kAll zss o bn (e + 1) from rfl)
        have HSr := Lib.hid (fun r => srt_kRow (zss := zss) (o := o) (b := bn) (k := bn ^ e) (srt_kAll (zss := zss) (o := o) (b := bn) e) r)
        obtain ⟨k, hk⟩ : ∃ k, k = bn ^ e := ⟨_, rfl⟩
        rw [← hk] at hkk HP HStep HSr
        have hk16 : k ≤ 16 := hkk
        clear hk hkk
        go_wp2_with (go_at_call 29; refine HP.out.mono ?_; rintro e w' ⟨rfl, rfl⟩)
        go_loopw [21] (fun i wr => ∃ r : Nat, r ≤ k ∧ i = .int .i64 r ∧ SetAt Tryd.prog 9 4 wr w1.heap.size (16 * e + r) (kRow zss o bn k r (kAll zss o bn e)) ∧ Below w1.heap.size w1 wr) (fun i _ => k - (intOf i).toNat)
        case atStart => exact ⟨0, Nat.zero_le _, rfl, HS.out, HB2.out⟩
        case round =>
          obtain ⟨r, hr, rfl, hset, hbel⟩ := hrel
          have HS2 := Lib.hid hset
          have HB3 := Lib.hid hbel
          clear hset hbel
          by_cases hlt2 : r < k
          · go_wp2_with fail
            obtain ⟨wo, rfl⟩ : ∃ wo, wo = wr := ⟨_, rfl⟩
            go_loopw [25, 7] (fun i x wr => ∃ (m : Nat) (A5 : Option Addr) (c5 : Nat), m ≤ 41 ∧ i = .int .i64 m ∧ x = .slice A5 m c5 ∧ Own wo wr 5 A5 m c5 (bvs (kword zss o bn k r m))) (fun i _ _ => 41 - (intOf i).toNat)
            case atStart => exact ⟨0, _, _, Nat.zero_le _, rfl, rfl, Own.made0 (Below.refl _ _) _⟩
            case round =>
              obtain ⟨m, A5, c5, hm, rfl, rfl, hown⟩ := hrel
              have HO := Lib.hid hown
              clear hown
              by_cases hlt3 : m < 41
              · have HBw := Lib.hid (HB1.out.trans ((HB3.out.trans (HO.out.bel.mono HB3.out.size)).mono HB1.out.size))
                obtain ⟨bx0, bx1, bx2⟩ := HBx1.out.later (HB3.out.trans (HO.out.bel.mono HB3.out.size))
                have hKm : k * m ≤ 16 * 41 := Nat.mul_le_mul hk16 (by omega)
                obtain ⟨Q, hQ⟩ : ∃ Q, Q = k * m := ⟨_, rfl⟩
                have HSn := Lib.hid (kword_snoc zss o bn k r m)
                rw [← hQ] at hKm HSn
                have HL := Lib.hid (letter_any bn A n c zss o HGd.out hol (Q + r) wr (by omega) (HG.out.later HBw.out))
                have e1 : (k : Int) * (m : Int) = (Q : Int) := mul_castA hQ
                have e2 : IntKind.i64.wrap (Q : Int) = (Q : Int) := IntWalk.i64_in _ (by omega)
                have e3 : (Q : Int) + (r : Int) = ((Q + r : Nat) : Int) := by simp
                have e4 : IntKind.i64.wrap ((Q + r : Nat) : Int) = ((Q + r : Nat) : Int) := IntWalk.i64_in _ (by omega)
                obtain ⟨N, hN⟩ : ∃ N, N = Q + r := ⟨_, rfl⟩
                rw [← hN] at e3 e4 HL HSn
                clear hQ hN
                go_wp2_with fail
                refine HL.out.mono ?_
                rintro e w4 ⟨rfl, hb4⟩
                have HO4 := Lib.hid (HO.out.later hb4)
                clear hb4 HL
                go_wp2_with (at_builtin; refine app_one (.tmp 28) (.tmp 36) _ _ _ 1 rfl rfl Tryd.underlying22 infoB rfl rfl HO4.out rfl rfl (by omega) (by omega) ?_; intro A6 c6 w6 hown6)
                exact ⟨⟨m + 1, A6, c6, by omega, by go_num, rfl, by rw [HSn.out, bvs_snoc]; exact hown6⟩, by simp [intOf]; omega⟩
              · obtain rfl : m = 41 := by omega
                have hconv := conv_bytes (P := Tryd.prog) (c := c5) 22 9 5 Tryd.underlying22 Tryd.underlying5 Tryd.underlying9 HO.out.rd
                have HS3 := Lib.hid (HS2.out.later HO.out.bel)
                have HB4 := Lib.hid (HB3.out.trans (HO.out.bel.mono HB3.out.size))
                have HKL := Lib.hid (kword_len zss o bn k r 41)
                go_wp2_with (at_mapUpdate; refine setAt_put _ rfl _ _ _ _ rfl Tryd.underlying9 Tryd.underlying4 Tryd.underlying58 rfl HS3.out (by omega) (HSr.out r) _ (by rw [HKL.out]; decide) rfl true rfl ?_; intro w3 hs3 hg3)
                exact ⟨⟨r + 1, by omega, by go_num, hs3, HB4.out.grown hg3 HB4.out.size (fun k hk => by cases hk; exact Nat.le_refl _)⟩, by simp [intOf]; omega⟩
          · obtain rfl : r = k := by omega
            go_wp2_with fail
            exact ⟨⟨e + 1, by omega, by go_num, HStep.out ▸ HS2.out.mono (by omega), HB3.out⟩, by simp [intOf]; omega⟩
      · obtain rfl : e = 3 := by omega
        go_wp2_with (at_len; refine setAt_len rfl _ _ rfl Tryd.underlying58 rfl HS.out ?_)
        go_ret
        exact ⟨by (rw [HE.out]; try rfl), HB1.out.trans (HB2.out.mono HB1.out.size)⟩
end Go.Proofs.YtcicoplmpinnmaaDoor
