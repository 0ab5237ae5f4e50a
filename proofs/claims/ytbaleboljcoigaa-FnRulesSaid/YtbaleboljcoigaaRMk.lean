/-
  Contracts of l23Draw and MakeRules (drawn rules), rising and in (the laws' helpers). No conditions beyond the code's length.
-/
import Derived.Test.YtbaleboljcoigaaRPl
import Derived.Test.YtbaleboljcoigaaBGrow
import Derived.Deep.QuietTactic
namespace Go.Proofs.Ytbaleboljcoigaa
open Go.RowKit

theorem letOk_aR {b : Pch} (hb : rOk b = true) : letOk b [97] = true := by
  have := rOk_len hb
  unfold letOk hasB isW
  simp [isLet]; omega
theorem growP_pOkR {b : Pch} (hb : rOk b = true) {m : Nat} (hm : m < 5) : pOk (growP b [97] m) = true := by
  have := growP_ok hb (letOk_aR hb) hm
  unfold apOk at this
  simp only [Bool.and_eq_true] at this
  exact this.2.1
theorem pOk_lensR {p : Pch} (h : pOk p = true) : p.length ≤ 1048576 ∧ Lens p := ⟨by have := pOk_len h; omega, fun s hs => by have := pOk_row h hs; omega⟩
def DrawR (w : World) (g : Nat) (e : Ending) (w' : World) : Prop := ∃ p w1, TurnG w w1 g ∧ RetS2 9 w1 (rulesOf p) e w'

theorem sGrowR {A : Option Addr} {n c : Nat} {b : Pch} {W : World} (hb : SIn W A n c b) (hk : rOk b = true) (m : Nat) (hm : m ≤ 4) : Calls Try.prog 49 #[.slice A n c, .string ⟨#[97]⟩, .int .i64 (1 + (m : Int))] W (RetSB 9 W (growP b [97] (m + 1)) true) := by
  have h := cGrowBlockS A n c b [97] (1 + (m : Int)) W hb (by simp)
  rw [show growBlock b [97] (1 + (m : Int)) = (growP b [97] (m + 1), true) by
    unfold growBlock
    rw [hk, letOk_aR hk, wi_mk (show (0 : Int) ≤ 1 + (m : Int) by omega) (show 1 + (m : Int) ≤ 5 by omega), show (1 + (m : Int)).toNat = m + 1 by omega]; rfl] at h
  exact h
set_option maxHeartbeats 1600000 in
theorem l23Draw_any (g : Nat) (w : World) (h : CurAt w g) : Calls Try.prog 26 #[.pointer (some ⟨g, 0, none⟩)] w (DrawR w g) := by
  have hg := h.lt
  have HC := Lib.hid (l01Once_any g 2 w (by omega) h)
  clear h
  go_enter Try.func26, Try.ntmps26
  go_wp2_with fail
  refine HC.out.mono ?_
  rintro e w1 ⟨b, rfl, hc1, ht1⟩
  have HC1 := Lib.hid hc1
  have HT1 := Lib.hid ht1
  have hs1 := ht1.size
  clear HC hc1 ht1
  cases b
  · go_wp2_with fail
    refine (l01Below_any g 3 _ (by omega) HC1.out).mono ?_
    rintro e w2 ⟨v, rfl, hv0, hv1, hv2, hc2, ht2⟩
    have hv3 := hv1 (by omega)
    obtain ⟨v, rfl⟩ := Int.eq_ofNat_of_zero_le hv0
    have HC2 := Lib.hid hc2
    have HT2 := Lib.hid (HT1.out.trans ht2)
    clear hc2 ht2 hv1 hv2
    have hw := l21Draw_any g (v + 1) w2 (by omega) (by omega) HC2.out
    have hcast : (((v + 1 : Nat)) : Int) = 1 + (v : Int) := by omega
    rw [hcast] at hw
    have HW := Lib.hid hw
    clear hw hcast
    go_wp2_with fail
    refine HW.out.mono ?_
    rintro e w3 ⟨A3, n3, c3, p, rfl, hp, hG⟩
    have hpk := pOk_lensR (patK_pOk (by omega) hp).1
    have hn3 : n3 ≤ 1048576 := by have h1 := hG.own.len; simp only [svs, List.length_map] at h1; omega
    have HT3 := Lib.hid (HT2.out.trans hG.2.1)
    have HS3 := Lib.hid (SIn.of hG.own.rd hn3 hpk.2 hG.own.cap)
    clear hG hp hpk HW
    go_wp2_with fail
    refine (cRulesOfS _ _ _ p _ HS3.out).mono ?_
    rintro e w4 ⟨A, n, c, B, m, d, rfl, hm⟩
    have HM := Lib.hid hm
    clear hm
    go_wp2
    go_ret2
    exact ⟨p, w3, HT3.out, A, n, c, B, m, d, rfl, HM.out⟩
  · go_wp2_with fail
    refine (l21Rule_any g _ HC1.out).mono ?_
    rintro e w2 ⟨A2, n2, c2, b, rfl, hb, hG⟩
    have HB := Lib.hid hb
    have HG := Lib.hid hG
    have hg2 : g < w1.heap.size := by omega
    have hn2 : n2 ≤ 1048576 := by have h1 := hG.own.len; have h2 := rOk_len hb; simp only [svs, List.length_map] at h1; omega
    have hl2 : Lens b := fun s hs => by have := rOk_row hb hs; omega
    clear hb hG
    go_wp2_with fail
    refine (l01Below_any g 3 _ (by omega) HG.out.2.2).mono ?_
    rintro e w3 ⟨v, rfl, hv0, hv1, hv2, hc3, ht3⟩
    have hv3 := hv1 (by omega)
    obtain ⟨v, rfl⟩ := Int.eq_ofNat_of_zero_le hv0
    have HG3 := Lib.hid (HG.out.turn hg2 ht3 hc3)
    have HT3 := Lib.hid (HT1.out.trans HG3.out.2.1)
    have HS3 := Lib.hid (SIn.of HG3.out.own.rd hn2 hl2 HG3.out.own.cap)
    clear hc3 ht3 hv1 hv2 HG
    have hgp := growP_pOkR HB.out (m := v + 1) (by omega)
    have HGP := Lib.hid hgp
    have hgl := (pOk_lensR hgp).1
    clear hgp
    go_wp2_with fail
    refine (sGrowR HS3.out HB.out v (by omega)).mono ?_
    rintro e w4 ⟨A4, n4, c4, rfl, o4⟩
    have hn4 : n4 ≤ 1048576 := by have h1 := o4.len; simp only [svs, List.length_map] at h1; omega
    have HT4 := Lib.hid (HT3.out.trans (TurnG.of o4.2))
    have HS4 := Lib.hid (SIn.of o4.rd hn4 (pOk_lensR HGP.out).2 o4.cap)
    clear o4
    go_wp2_with fail
    refine (cRulesOfS _ _ _ _ _ HS4.out).mono ?_
    rintro e w5 ⟨A, n, c, B, m, d, rfl, hm⟩
    have HM := Lib.hid hm
    clear hm
    go_wp2
    go_ret2
    exact ⟨_, w4, HT4.out, A, n, c, B, m, d, rfl, HM.out⟩
theorem MakeRules_any (A : Option Addr) (n c : Nat) (l : List UInt8) (m : Nat) (W : World) (hr : Rd W W.heap.size A n (bvs l)) (hn : n ≤ 1048576) (hm : m ≤ 100000) :
    Calls Try.prog 9 #[.slice A n c, .int .i64 (m : Int)] W fun e w' => ∃ p, RetS2 9 W (rulesOf p) e w' := by
  have HC := Lib.hid (l31New_any A n c l m W hr hn hm)
  clear hr
  go_enter Try.func9, Try.ntmps9
  go_wp2_with fail
  refine HC.out.mono ?_
  rintro e w2 ⟨g, rfl, hg, hcur, hbel⟩
  have HCu := Lib.hid hcur
  have HB := Lib.hid hbel
  clear hcur hbel HC
  go_wp2_with fail
  refine (l23Draw_any g _ HCu.out).mono ?_
  rintro e w3 ⟨p, w4, ht, A2, n2, c2, B2, m2, d2, rfl, hm⟩
  have HM := Lib.hid (Mem.add2 (show Mem W w4 [] from ⟨below_turn HB.out ht hg, by simp, List.Pairwise.nil⟩) hm)
  clear hm ht
  go_wp2
  go_ret2
  exact ⟨p, A2, n2, c2, B2, m2, d2, rfl, HM.out⟩
theorem in_is {A : Option Addr} {n c B : Nat} {ss : Pch} {x : List UInt8} {t : Bool} (ht : decide (x ∈ ss) = t) (w : World) (hr : Rd w B A n (svs ss)) (hn : n ≤ 1048576) : Calls Try.prog 16 #[.slice A n c, .string ⟨x.toArray⟩] w fun e w' => e = .returned (.bool t) ∧ w = w' := by
  have hlen := Lib.hid hr.lenS
  have HR := Lib.hid hr
  have HT := Lib.hid ht
  clear hr ht
  go_enter Try.func16, Try.ntmps16
  go_wp2
  go_loop [9] (fun i => ∃ k : Nat, k ≤ n ∧ i = .int .i64 k ∧ Hid (x ∉ ss.take k)) (fun i => n - (intOf i).toNat)
  case atStart => exact ⟨0, Nat.zero_le _, rfl, Lib.hid (by simp)⟩
  case round =>
    obtain ⟨k, hk, rfl, HN⟩ := hrel
    by_cases hlt : k < n
    · have hkl : k < ss.length := by rw [hlen.out]; exact hlt
      obtain ⟨a, rfl, hab, hcell⟩ := HR.out.str (k := k) hkl
      by_cases he : x = ss[k]
      · have HE := Lib.hid (show true = t by rw [← HT.out]; exact (decide_eq_true (by rw [he]; exact List.getElem_mem _)).symm)
        obtain ⟨y, hy⟩ : ∃ y, y = ss[k] := ⟨_, rfl⟩
        rw [← hy] at hcell he
        have hxy : (x == y) = true := by simpa using he
        clear hy he HN
        go_wp2
        go_ret
        exact ⟨ret_bool HE.out, rfl⟩
      · have HN2 := Lib.hid (show x ∉ ss.take (k + 1) by
          rw [take_snoc ss k hkl, List.mem_append, List.mem_singleton]
          rintro (h | h)
          · exact HN.out h
          · exact he h)
        obtain ⟨y, hy⟩ : ∃ y, y = ss[k] := ⟨_, rfl⟩
        rw [← hy] at hcell he
        have hxy : (x == y) = false := by simpa using he
        clear hy he HN
        go_wp2
        go_round
        case rel => exact ⟨k + 1, by omega, by go_num, HN2⟩
        case measure => simp [intOf]; omega
    · have HE := Lib.hid (show false = t by
        rw [← HT.out]
        refine (decide_eq_false fun h => HN.out ?_).symm
        rw [List.take_of_length_le (by rw [hlen.out]; omega)]; exact h)
      go_wp2
      go_ret
      exact ⟨ret_bool HE.out, rfl⟩
theorem rising_srt {A : Option Addr} {n c : Nat} {ss : Pch} (w : World) (hr : Rd w w.heap.size A n (svs ss)) (hn : n ≤ 1048576) (hs : Srt ss) : Calls Try.prog 15 #[.slice A n c] w fun e w' => e = .returned (.bool true) ∧ Below w.heap.size w w' := by
  have hlen := Lib.hid hr.lenS
  have HR := Lib.hid hr
  have HS := Lib.hid hs
  clear hr hs
  go_enter Try.func15, Try.ntmps15
  go_wp2
  go_loopw [3] (fun i wr => ∃ k : Nat, k ≤ n + 1 ∧ 1 ≤ k ∧ i = .int .i64 k ∧ Below w.heap.size w wr) (fun i _ => n + 1 - (intOf i).toNat)
  case atStart => exact ⟨1, by omega, Nat.le_refl _, rfl, Below.refl _ _⟩
  case round =>
    obtain ⟨k, hk, hk1, rfl, hbel⟩ := hrel
    by_cases hlt : k < n
    · have hkl : k < ss.length := by rw [hlen.out]; exact hlt
      have hk0 : k - 1 < ss.length := by omega
      obtain ⟨a, rfl, hab, hcell⟩ := (HR.out.later hbel).str (k := k) hkl
      obtain ⟨a2, ha2, _, hcell2⟩ := (HR.out.later hbel).str (k := k - 1) hk0
      obtain rfl := Option.some.inj ha2
      have hxy : ss[k - 1] < ss[k] := srt_lt HS.out hkl (by omega)
      obtain ⟨x, hx⟩ : ∃ x, x = ss[k - 1] := ⟨_, rfl⟩
      obtain ⟨y, hy⟩ : ∃ y, y = ss[k] := ⟨_, rfl⟩
      rw [← hx] at hcell2 hxy
      rw [← hy] at hcell hxy
      have hb1 : Op.bytesLess y x = false := by rw [bytesLess_eq]; simpa using lt_no hxy
      have hb2 : Op.bytesLess x y = true := by rw [bytesLess_eq]; simpa using hxy
      have hb3 : (y == x) = false := by simpa using (lt_neq hxy).symm
      have hb4 : (x == y) = false := by simpa using lt_neq hxy
      have hd : decide ((k : Int) < (n : Int)) = true := by simp; omega
      have i1 : (0 : Int) ≤ (k : Int) := by omega
      have i2 : (k : Int) < (n : Int) := by omega
      have e1 : IntKind.i64.wrap ((k : Int) - 1) = (k : Int) - 1 := IntWalk.i64_in _ (by omega)
      have e2 : ((k : Int) - 1).toNat = k - 1 := by omega
      have e3 : (0 : Int) ≤ (k : Int) - 1 := by omega
      have e4 : (k : Int) - 1 < (n : Int) := by omega
      clear hx hy hxy
      go_wp2
      go_quiet (fail)
      obtain ⟨q, rfl⟩ : ∃ q, q = nq := ⟨_, rfl⟩
      go_wp2
      exact ⟨⟨k + 1, by omega, by omega, by go_num, ⟨hbel.os, hbel.tape, hbel.output, hbel.size, hbel.block⟩⟩, by simp [intOf]; omega⟩
    · have hd : decide ((k : Int) < (n : Int)) = false := by simp; omega
      go_wp2
      go_ret
      exact ⟨rfl, hbel⟩
end Go.Proofs.Ytbaleboljcoigaa
