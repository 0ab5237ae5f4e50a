/-
  Contracts of power, l18Letter and KernelSize (program and reference). No conditions.
-/
import Derived.Test.YtdebdnglchkdaaaARun
import Derived.Test.YtdebdnglchkdaaaBytes
import Derived.Test.YtdebdnglchkdaaaIns
import Derived.Test.YtdebdnglchkdaaaSet
namespace Go.Proofs.Ytdebdnglchkdaaa
open Go.RowKit

theorem mul_castA {x y z : Nat} (h : z = x * y) : (x : Int) * (y : Int) = (z : Int) := by rw [h, Int.natCast_mul]
/-- every k-th letter from the r-th on -/
def kword (zss : Tab) (o : List UInt8) (b k r m : Nat) : List UInt8 := (List.range m).map fun n => aLet zss o b (k * n + r)
theorem kword_len (zss : Tab) (o : List UInt8) (b k r m : Nat) : (kword zss o b k r m).length = m := by simp [kword]
theorem kword_snoc (zss : Tab) (o : List UInt8) (b k r m : Nat) : kword zss o b k r (m + 1) = kword zss o b k r m ++ [aLet zss o b (k * m + r)] := by simp [kword, List.range_succ]
def kRow (zss : Tab) (o : List UInt8) (b k : Nat) : Nat → List (List UInt8) → List (List UInt8)
  | 0, s => s
  | r + 1, s => insS (kword zss o b k r 41) (kRow zss o b k r s)
def kAll (zss : Tab) (o : List UInt8) (b : Nat) : Nat → List (List UInt8)
  | 0 => []
  | e + 1 => kRow zss o b (b ^ e) (b ^ e) (kAll zss o b e)
theorem srt_kRow {zss : Tab} {o : List UInt8} {b k : Nat} {s : List (List UInt8)} (hs : Srt s) : ∀ r, Srt (kRow zss o b k r s)
  | 0 => hs
  | r + 1 => srt_insS _ (srt_kRow hs r)
theorem srt_kAll {zss : Tab} {o : List UInt8} {b : Nat} : ∀ e, Srt (kAll zss o b e)
  | 0 => List.Pairwise.nil
  | e + 1 => srt_kRow (srt_kAll e) _
theorem len_kRow {zss : Tab} {o : List UInt8} {b k : Nat} {s : List (List UInt8)} (hs : Srt s) : ∀ r, (kRow zss o b k r s).length ≤ s.length + r
  | 0 => Nat.le_refl _
  | r + 1 => by
    have h1 := len_kRow (zss := zss) (o := o) (b := b) (k := k) hs r
    have h2 := len_insS (kword zss o b k r 41) (srt_kRow (zss := zss) (o := o) (b := b) (k := k) hs r)
    show (insS _ _).length ≤ _
    rw [h2]; split <;> omega
theorem len_kAll {zss : Tab} {o : List UInt8} {b : Nat} (hb : b ≤ 4) : ∀ e, e ≤ 3 → (kAll zss o b e).length ≤ 16 * e
  | 0, _ => Nat.le_refl _
  | e + 1, he => by
    have h1 := len_kAll (zss := zss) (o := o) (b := b) hb e (by omega)
    have h2 := len_kRow (zss := zss) (o := o) (b := b) (k := b ^ e) (srt_kAll (zss := zss) (o := o) (b := b) e) (b ^ e)
    have h3 : b ^ e ≤ 4 ^ 2 := Nat.le_trans (Nat.pow_le_pow_left hb e) (Nat.pow_le_pow_right (by omega) (by omega))
    show (kRow _ _ _ _ _ _).length ≤ _
    omega
def kerSize (b : Int) (zss : Tab) (o : List UInt8) : Int := if aOk b zss o = true then ((kAll zss o b.toNat 3).length : Int) else -1

set_option maxHeartbeats 800000 in
theorem power_any (b e : Nat) (hb : b ≤ 4) (he : e ≤ 3) (w : World) : Calls Try.prog 30 #[.int .i64 (b : Int), .int .i64 (e : Int)] w fun r w' => r = .returned (.int .i64 (b ^ e : Nat)) ∧ w = w' := by
  go_enter Try.func30, Try.ntmps30
  go_wp2
  go_loop [7, 5] (fun i x => ∃ j : Nat, j ≤ e ∧ i = .int .i64 j ∧ x = .int .i64 (b ^ j : Nat)) (fun i _ => e - (intOf i).toNat)
  case atStart => exact ⟨0, Nat.zero_le _, rfl, rfl⟩
  case round =>
    obtain ⟨j, hj, rfl, rfl⟩ := hrel
    by_cases hlt : j < e
    · have h3 : b ^ (j + 1) ≤ 4 ^ 3 := Nat.le_trans (Nat.pow_le_pow_left hb _) (Nat.pow_le_pow_right (by omega) (by omega))
      have HS := Lib.hid (Nat.pow_succ (n := b) (m := j))
      obtain ⟨x, hx⟩ : ∃ x, x = b ^ j := ⟨_, rfl⟩
      obtain ⟨y, hy⟩ : ∃ y, y = b ^ (j + 1) := ⟨_, rfl⟩
      rw [← hx, ← hy] at HS
      rw [← hy] at h3
      rw [← hx]
      have e1 : (x : Int) * (b : Int) = (y : Int) := mul_castA HS.out
      have e2 : IntKind.i64.wrap (y : Int) = (y : Int) := IntWalk.i64_in _ (by omega)
      have HY := Lib.hid hy
      clear hx hy
      go_wp2
      go_round
      case rel => exact ⟨j + 1, by omega, by go_num, by rw [← HY.out]⟩
      case measure => simp [intOf]; omega
    · obtain rfl : j = e := by omega
      go_wp2
      go_ret
      exact ⟨rfl, rfl⟩
set_option maxRecDepth 4096 in
set_option maxHeartbeats 1600000 in
theorem l18Letter_any (b : Nat) (A : Option Addr) (n c : Nat) (zss : Tab) (o : List UInt8) (hgd : Good b zss) (hol : o.length = zss.length) (k : Nat) (W : World) (hk2 : k ≤ 4611686018427387903) (hg : GIn W A n c zss) :
    Calls Try.prog 26 #[AutoV b A n c o, .int .i64 (k : Int)] W fun e w' => e = .returned (.string ⟨[aLet zss o b k].toArray⟩) ∧ Below W.heap.size W w' := by
  have HW1 := Lib.hid (Below.boxed W (.cells #[.int .i64 (b : Int), .slice A n c, .string ⟨o.toArray⟩] 27))
  have HBx := Lib.hid (BoxAt.made W 27 b A n c o)
  have HCon := Lib.hid (l18Run_any b A n c zss o hgd k _ hk2 (hg.later HW1.out))
  have hsl : aEnd zss b k < o.length := by rw [hol]; exact aEnd_lt hgd k
  have HE := Lib.hid (show [aLet zss o b k] = List.drop (aEnd zss b k) (List.take (aEnd zss b k + 1) o) by
    rw [show aLet zss o b k = o[aEnd zss b k] from getD_inA hsl, take_snoc o _ hsl, List.drop_append_of_le_length (by rw [List.length_take]; omega), List.drop_eq_nil_of_le (by rw [List.length_take]; omega)]; rfl)
  have ho8 : o.length ≤ 8 := by rw [hol]; exact hgd.2.2.2.1
  obtain ⟨s, hs⟩ : ∃ s, s = aEnd zss b k := ⟨_, rfl⟩
  rw [← hs] at HCon hsl HE
  clear hs hg hgd hol
  go_enter Try.func26, Try.ntmps26
  go_wp2_with fail
  refine HCon.out.mono ?_
  rintro e w1 ⟨rfl, hb1⟩
  obtain ⟨bx0, bx1, bx2⟩ := HBx.out.later hb1
  have i1 : (0 : Int) ≤ (s : Int) := by omega
  have i2 : (s : Int) + 1 ≤ (o.length : Int) := by omega
  have e1 : IntKind.i64.wrap ((s : Int) + 1) = (s : Int) + 1 := IntWalk.i64_in _ (by omega)
  have e2 : ((s : Int) + 1).toNat = s + 1 := by omega
  have e3 : s ≤ o.length := by omega
  go_wp2
  go_ret
  exact ⟨by (rw [HE.out]; try rfl), HW1.out.trans (hb1.mono HW1.out.size)⟩
set_option maxRecDepth 4096 in
set_option maxHeartbeats 3200000 in
theorem cKernelI (b : Int) (A : Option Addr) (n c : Nat) (zss : Tab) (o : List UInt8) (W : World) (hg : GIn W A n c zss) (ho : o.length ≤ 9223372036854775807) :
    Calls Try.prog 10 #[AutoV b A n c o] W fun e w' => e = .returned (.int .i64 (kerSize b zss o)) ∧ Below W.heap.size W w' := by
  obtain ⟨res, hres⟩ : ∃ res, res = kerSize b zss o := ⟨_, rfl⟩
  rw [← hres]
  have HW1 := Lib.hid (Below.boxed W (.cells #[.int .i64 b, .slice A n c, .string ⟨o.toArray⟩] 27))
  have HBx := Lib.hid (BoxAt.made W 27 b A n c o)
  have hcon := iAutoOk_any b A n c zss o _ (hg.later HW1.out) ho
  cases hok : aOk b zss o
  case false =>
    rw [hok] at hcon
    have HE := Lib.hid (show res = -1 by rw [hres]; unfold kerSize; rw [hok]; rfl)
    have HC := Lib.hid hcon
    clear hcon hres hok hg
    go_enter Try.func10, Try.ntmps10
    go_wp2_with fail
    refine HC.out.mono ?_
    rintro e w1 ⟨rfl, hb1⟩
    go_wp2
    go_ret
    exact ⟨by (rw [HE.out]; try rfl), HW1.out.trans (hb1.mono HW1.out.size)⟩
  case true =>
    rw [hok] at hcon
    obtain ⟨bn, rfl, hgd, hol, _⟩ := aOk_good hok
    have HE := Lib.hid (show res = ((kAll zss o bn 3).length : Int) by rw [hres]; unfold kerSize; rw [hok]; rfl)
    have HC := Lib.hid hcon
    have HG := Lib.hid hg
    have HGd := Lib.hid hgd
    have hb2 := hgd.1
    have hb4 := hgd.2.1
    clear hcon hres hok hg hgd
    have hmm := @run_makeMap Try.prog
    go_enter Try.func10, Try.ntmps10
    go_wp2_with fail
    refine HC.out.mono ?_
    rintro e w1 ⟨rfl, hb1⟩
    have HB1 := Lib.hid (HW1.out.trans (hb1.mono HW1.out.size))
    have HBx1 := Lib.hid (HBx.out.later hb1)
    clear hb1 HC HBx HW1
    obtain ⟨g, hgs⟩ : ∃ g, g = W.heap.size := ⟨_, rfl⟩
    rw [← hgs] at HBx1 ⊢
    have HGS := Lib.hid hgs
    clear hgs
    go_wp2_with fail
    go_loopw [13] (fun i wr => ∃ e : Nat, e ≤ 3 ∧ i = .int .i64 e ∧ SetAt Try.prog 9 4 wr w1.heap.size (16 * e) (kAll zss o bn e) ∧ Below w1.heap.size w1 wr) (fun i _ => 3 - (intOf i).toNat)
    case atStart => exact ⟨0, Nat.zero_le _, rfl, SetAt.made w1, Below.boxed w1 _⟩
    case round =>
      obtain ⟨e, he, rfl, hset, hbel⟩ := hrel
      have HS := Lib.hid hset
      have HB2 := Lib.hid hbel
      clear hset hbel
      by_cases hlt : e < 3
      · obtain ⟨bx0, bx1, bx2⟩ := HBx1.out.later HB2.out
        have hkk : bn ^ e ≤ 4 ^ 2 := Nat.le_trans (Nat.pow_le_pow_left hb4 e) (Nat.pow_le_pow_right (by omega) (by omega))
        have HP := Lib.hid (power_any bn e hb4 he wr)
        have HStep := Lib.hid (show kRow zss o bn (bn ^ e) (bn ^ e) (kAll zss o bn e) = kAll zss o bn (e + 1) from rfl)
        have HSr := Lib.hid (fun r => srt_kRow (zss := zss) (o := o) (b := bn) (k := bn ^ e) (srt_kAll (zss := zss) (o := o) (b := bn) e) r)
        obtain ⟨k, hk⟩ : ∃ k, k = bn ^ e := ⟨_, rfl⟩
        rw [← hk] at hkk HP HStep HSr
        have hk16 : k ≤ 16 := hkk
        clear hk hkk
        go_wp2_with (go_at_call 30; refine HP.out.mono ?_; rintro e w' ⟨rfl, rfl⟩)
        go_loopw [21] (fun i wr => ∃ r : Nat, r ≤ k ∧ i = .int .i64 r ∧ SetAt Try.prog 9 4 wr w1.heap.size (16 * e + r) (kRow zss o bn k r (kAll zss o bn e)) ∧ Below w1.heap.size w1 wr) (fun i _ => k - (intOf i).toNat)
        case atStart => exact ⟨0, Nat.zero_le _, rfl, HS.out, HB2.out⟩
        case round =>
          obtain ⟨r, hr, rfl, hset, hbel⟩ := hrel
          have HS2 := Lib.hid hset
          have HB3 := Lib.hid hbel
          clear hset hbel
          by_cases hlt2 : r < k
          · go_wp2_with fail
            obtain ⟨wo, rfl⟩ : ∃ wo, wo = wr := ⟨_, rfl⟩
            go_loopw [25, 7] (fun i x wr => ∃ (m : Nat) (A5 : Option Addr) (c5 : Nat), m ≤ 41 ∧ i = .int .i64 m ∧ x = .slice A5 m c5 ∧ Own wo wr 5 A5 m c5 (bvs (kword zss o bn k r m))) (fun i _ _ => 41 - (intOf i).toNat)
            case atStart => exact ⟨0, _, _, Nat.zero_le _, rfl, rfl, Own.made0 (Below.refl _ _) _⟩
            case round =>
              obtain ⟨m, A5, c5, hm, rfl, rfl, hown⟩ := hrel
              have HO := Lib.hid hown
              clear hown
              by_cases hlt3 : m < 41
              · have HBw := Lib.hid (HB1.out.trans ((HB3.out.trans (HO.out.bel.mono HB3.out.size)).mono HB1.out.size))
                obtain ⟨bx0, bx1, bx2⟩ := HBx1.out.later (HB3.out.trans (HO.out.bel.mono HB3.out.size))
                have hKm : k * m ≤ 16 * 41 := Nat.mul_le_mul hk16 (by omega)
                obtain ⟨Q, hQ⟩ : ∃ Q, Q = k * m := ⟨_, rfl⟩
                have HSn := Lib.hid (kword_snoc zss o bn k r m)
                rw [← hQ] at hKm HSn
                have HL := Lib.hid (letter_any bn A n c zss o HGd.out hol (Q + r) wr (by omega) (HG.out.later HBw.out))
                have e1 : (k : Int) * (m : Int) = (Q : Int) := mul_castA hQ
                have e2 : IntKind.i64.wrap (Q : Int) = (Q : Int) := IntWalk.i64_in _ (by omega)
                have e3 : (Q : Int) + (r : Int) = ((Q + r : Nat) : Int) := by simp
                have e4 : IntKind.i64.wrap ((Q + r : Nat) : Int) = ((Q + r : Nat) : Int) := IntWalk.i64_in _ (by omega)
                obtain ⟨N, hN⟩ : ∃ N, N = Q + r := ⟨_, rfl⟩
                rw [← hN] at e3 e4 HL HSn
                clear hQ hN
                go_wp2_with fail
                refine HL.out.mono ?_
                rintro e w4 ⟨rfl, hb4⟩
                have HO4 := Lib.hid (HO.out.later hb4)
                clear hb4 HL
                go_wp2_with (at_builtin; refine app_one (.tmp 28) (.tmp 36) _ _ _ 1 rfl rfl Try.underlying52 infoB rfl rfl HO4.out rfl rfl (by omega) (by omega) ?_; intro A6 c6 w6 hown6)
                exact ⟨⟨m + 1, A6, c6, by omega, by go_num, rfl, by rw [HSn.out, bvs_snoc]; exact hown6⟩, by simp [intOf]; omega⟩
              · obtain rfl : m = 41 := by omega
                have hconv := conv_bytes (P := Try.prog) (c := c5) 52 9 5 Try.underlying52 Try.underlying5 Try.underlying9 HO.out.rd
                have HS3 := Lib.hid (HS2.out.later HO.out.bel)
                have HB4 := Lib.hid (HB3.out.trans (HO.out.bel.mono HB3.out.size))
                have HKL := Lib.hid (kword_len zss o bn k r 41)
                go_wp2_with (at_mapUpdate; refine setAt_put _ rfl _ _ _ _ rfl Try.underlying9 Try.underlying4 Try.underlying50 rfl HS3.out (by omega) (HSr.out r) _ (by rw [HKL.out]; decide) rfl true rfl ?_; intro w3 hs3 hg3)
                exact ⟨⟨r + 1, by omega, by go_num, hs3, HB4.out.grown hg3 HB4.out.size (fun k hk => by cases hk; exact Nat.le_refl _)⟩, by simp [intOf]; omega⟩
          · obtain rfl : r = k := by omega
            go_wp2_with fail
            exact ⟨⟨e + 1, by omega, by go_num, HStep.out ▸ HS2.out.mono (by omega), HB3.out⟩, by simp [intOf]; omega⟩
      · obtain rfl : e = 3 := by omega
        go_wp2_with (at_len; refine setAt_len rfl _ _ rfl Try.underlying50 rfl HS.out ?_)
        go_ret
        exact ⟨by (rw [HE.out]; try rfl), HB1.out.trans (HB2.out.mono HB1.out.size)⟩
set_option maxRecDepth 4096 in
set_option maxHeartbeats 3200000 in
theorem cKernelS (b : Int) (A : Option Addr) (n c : Nat) (zss : Tab) (o : List UInt8) (W : World) (hg : GIn W A n c zss) (ho : o.length ≤ 9223372036854775807) :
    Calls Try.prog 8 #[AutoV b A n c o] W fun e w' => e = .returned (.int .i64 (kerSize b zss o)) ∧ Below W.heap.size W w' := by
  obtain ⟨res, hres⟩ : ∃ res, res = kerSize b zss o := ⟨_, rfl⟩
  rw [← hres]
  have HW1 := Lib.hid (Below.boxed W (.cells #[.int .i64 b, .slice A n c, .string ⟨o.toArray⟩] 27))
  have HBx := Lib.hid (BoxAt.made W 27 b A n c o)
  have hcon := sAutoOk_any b A n c zss o _ (hg.later HW1.out) ho
  cases hok : aOk b zss o
  case false =>
    rw [hok] at hcon
    have HE := Lib.hid (show res = -1 by rw [hres]; unfold kerSize; rw [hok]; rfl)
    have HC := Lib.hid hcon
    clear hcon hres hok hg
    go_enter Try.func8, Try.ntmps8
    go_wp2_with fail
    refine HC.out.mono ?_
    rintro e w1 ⟨rfl, hb1⟩
    go_wp2
    go_ret
    exact ⟨by (rw [HE.out]; try rfl), HW1.out.trans (hb1.mono HW1.out.size)⟩
  case true =>
    rw [hok] at hcon
    obtain ⟨bn, rfl, hgd, hol, _⟩ := aOk_good hok
    have HE := Lib.hid (show res = ((kAll zss o bn 3).length : Int) by rw [hres]; unfold kerSize; rw [hok]; rfl)
    have HC := Lib.hid hcon
    have HG := Lib.hid hg
    have HGd := Lib.hid hgd
    have hb2 := hgd.1
    have hb4 := hgd.2.1
    clear hcon hres hok hg hgd
    go_enter Try.func8, Try.ntmps8
    go_wp2_with fail
    refine HC.out.mono ?_
    rintro e w1 ⟨rfl, hb1⟩
    have HB1 := Lib.hid (HW1.out.trans (hb1.mono HW1.out.size))
    have HBx1 := Lib.hid (HBx.out.later hb1)
    clear hb1 HC HBx HW1
    obtain ⟨g, hgs⟩ : ∃ g, g = W.heap.size := ⟨_, rfl⟩
    rw [← hgs] at HBx1 ⊢
    have HGS := Lib.hid hgs
    clear hgs
    go_wp2_with fail
    go_loopw [5, 4, 3] (fun i k l wr => ∃ (e : Nat) (A5 : Option Addr) (m5 c5 : Nat), e ≤ 3 ∧ i = .int .i64 e ∧ k = .int .i64 (bn ^ e : Nat) ∧ l = .slice A5 m5 c5 ∧ Own w1 wr 9 A5 m5 c5 (svs (kAll zss o bn e))) (fun i _ _ _ => 3 - (intOf i).toNat)
    case atStart => exact ⟨0, _, _, _, Nat.zero_le _, rfl, rfl, rfl, Own.made0 (Below.refl _ _) _⟩
    case round =>
      obtain ⟨e, A5, m5, c5, he, rfl, rfl, rfl, hown⟩ := hrel
      have HO := Lib.hid hown
      have HLn := Lib.hid (show (kAll zss o bn e).length = m5 by have h := hown.len; simpa [svs] using h)
      clear hown
      by_cases hlt : e < 3
      · have hkk : bn ^ e ≤ 4 ^ 2 := Nat.le_trans (Nat.pow_le_pow_left hb4 e) (Nat.pow_le_pow_right (by omega) (by omega))
        have HPow := Lib.hid (Nat.pow_succ (n := bn) (m := e))
        have HStep := Lib.hid (show kRow zss o bn (bn ^ e) (bn ^ e) (kAll zss o bn e) = kAll zss o bn (e + 1) from rfl)
        have HSr := Lib.hid (fun r => srt_kRow (zss := zss) (o := o) (b := bn) (k := bn ^ e) (srt_kAll (zss := zss) (o := o) (b := bn) e) r)
        have HLr := Lib.hid (fun r => len_kRow (zss := zss) (o := o) (b := bn) (k := bn ^ e) (srt_kAll (zss := zss) (o := o) (b := bn) e) r)
        have hm5 : m5 ≤ 48 := by have := HLn.out; have := len_kAll (zss := zss) (o := o) hb4 e he; omega
        obtain ⟨k, hk⟩ : ∃ k, k = bn ^ e := ⟨_, rfl⟩
        rw [← hk] at hkk HStep HSr HPow HLr ⊢
        have hk16 : k ≤ 16 := hkk
        have dE : decide ((e : Int) < 3) = true := by simp; omega
        clear hk hkk
        go_wp2_with fail
        go_loopw [6, 3] (fun i l wr => ∃ (r : Nat) (A6 : Option Addr) (m6 c6 : Nat), r ≤ k ∧ i = .int .i64 r ∧ l = .slice A6 m6 c6 ∧ Own w1 wr 9 A6 m6 c6 (svs (kRow zss o bn k r (kAll zss o bn e)))) (fun i _ _ => k - (intOf i).toNat)
        case atStart => exact ⟨0, _, _, _, Nat.zero_le _, rfl, rfl, HO.out⟩
        case round =>
          obtain ⟨r, A6, m6, c6, hr, rfl, rfl, hown⟩ := hrel
          have HO2 := Lib.hid hown
          have hm6 : m6 ≤ 1048575 := by have h := hown.len; have h2 := HLr.out r; have h3 := HLn.out; simp only [svs, List.length_map] at h; omega
          clear hown
          by_cases hlt2 : r < k
          · have dR : decide ((r : Int) < (k : Int)) = true := by simp; omega
            go_wp2_with fail
            obtain ⟨wo, rfl⟩ : ∃ wo, wo = wr := ⟨_, rfl⟩
            go_loopw [8, 7] (fun i x wr => ∃ m : Nat, m ≤ 41 ∧ i = .int .i64 m ∧ x = .string ⟨(kword zss o bn k r m).toArray⟩ ∧ Below wo.heap.size wo wr) (fun i _ _ => 41 - (intOf i).toNat)
            case atStart => exact ⟨0, Nat.zero_le _, rfl, rfl, Below.refl _ _⟩
            case round =>
              obtain ⟨m, hm, rfl, rfl, hbel⟩ := hrel
              have HB3 := Lib.hid hbel
              clear hbel
              by_cases hlt3 : m < 41
              · have HBw := Lib.hid (HB1.out.trans ((HO2.out.bel.trans (HB3.out.mono HO2.out.bel.size)).mono HB1.out.size))
                obtain ⟨bx0, bx1, bx2⟩ := HBx1.out.later (HO2.out.bel.trans (HB3.out.mono HO2.out.bel.size))
                have hKm : k * m ≤ 16 * 41 := Nat.mul_le_mul hk16 (by omega)
                obtain ⟨Q, hQ⟩ : ∃ Q, Q = k * m := ⟨_, rfl⟩
                have HSn := Lib.hid (kword_snoc zss o bn k r m)
                have HKl := Lib.hid (kword_len zss o bn k r m)
                rw [← hQ] at hKm HSn
                have HL := Lib.hid (l18Letter_any bn A n c zss o HGd.out hol (Q + r) wr (by omega) (HG.out.later HBw.out))
                have e1 : (k : Int) * (m : Int) = (Q : Int) := mul_castA hQ
                have e2 : IntKind.i64.wrap (Q : Int) = (Q : Int) := IntWalk.i64_in _ (by omega)
                have e3 : (Q : Int) + (r : Int) = ((Q + r : Nat) : Int) := by simp
                have e4 : IntKind.i64.wrap ((Q + r : Nat) : Int) = ((Q + r : Nat) : Int) := IntWalk.i64_in _ (by omega)
                obtain ⟨N, hN⟩ : ∃ N, N = Q + r := ⟨_, rfl⟩
                rw [← hN] at e3 e4 HL HSn
                obtain ⟨y, hy⟩ : ∃ y, y = kword zss o bn k r m := ⟨_, rfl⟩
                rw [← hy] at HSn HKl ⊢
                obtain ⟨q, hq⟩ : ∃ q, q = aLet zss o bn N := ⟨_, rfl⟩
                rw [← hq] at HSn HL
                have hcat : ¬ 9223372036854775807 < y.length + [q].length := by rw [HKl.out]; simp; omega
                clear hQ hN hy hq
                go_wp2_with fail
                refine HL.out.mono ?_
                rintro e w4 ⟨rfl, hb4⟩
                have HB4 := Lib.hid (HB3.out.trans (hb4.mono HB3.out.size))
                clear hb4 HL
                go_wp2
                exact ⟨⟨m + 1, by omega, by go_num, by rw [HSn.out], HB4.out⟩, by simp [intOf]; omega⟩
              · obtain rfl : m = 41 := by omega
                have HKL := Lib.hid (kword_len zss o bn k r 41)
                have HSN := Lib.hid (show kRow zss o bn k (r + 1) (kAll zss o bn e) = insS (kword zss o bn k r 41) (kRow zss o bn k r (kAll zss o bn e)) from rfl)
                have HI := Lib.hid (l05Insert_any w1 A6 m6 c6 _ (kword zss o bn k r 41) wr (HO2.out.later HB3.out) (by omega) HO2.out.capMax (HSr.out r))
                rw [← HSN.out] at HI
                go_wp2_with fail
                refine HI.out.mono ?_
                rintro e w5 ⟨A7, m7, c7, rfl, ho7⟩
                have HO7 := Lib.hid ho7
                clear ho7 HI
                go_wp2
                exact ⟨⟨r + 1, A7, m7, c7, by omega, by go_num, rfl, HO7.out⟩, by simp [intOf]; omega⟩
          · obtain rfl : r = k := by omega
            obtain ⟨bx0, bx1, bx2⟩ := HBx1.out.later HO2.out.bel
            obtain ⟨P, hP⟩ : ∃ P, P = bn ^ (e + 1) := ⟨_, rfl⟩
            rw [← hP] at HPow
            have hPle : P ≤ 64 := by rw [HPow.out]; exact Nat.mul_le_mul hk16 hb4
            have e1 : (r : Int) * (bn : Int) = (P : Int) := mul_castA HPow.out
            have e2 : IntKind.i64.wrap (P : Int) = (P : Int) := IntWalk.i64_in _ (by omega)
            have HPP := Lib.hid hP
            clear hP
            go_wp2_with fail
            exact ⟨⟨e + 1, A6, m6, c6, by omega, by go_num, by rw [← HPP.out], rfl, HStep.out ▸ HO2.out⟩, by simp [intOf]; omega⟩
      · obtain rfl : e = 3 := by omega
        have HR := Lib.hid (show res = (m5 : Int) by rw [HE.out, HLn.out])
        go_wp2
        go_ret
        exact ⟨by (rw [HR.out]; try rfl), HB1.out.trans (HO.out.bel.mono HB1.out.size)⟩
end Go.Proofs.Ytdebdnglchkdaaa
