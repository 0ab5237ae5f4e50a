/-
  Contracts of AutoWord and RunAuto (program) and of MakeNum (drawn numbers). Conditions: a valid automaton, small numbers.
-/
import Derived.Test.YtcicoplmpinnmaaDoorARun
import Derived.Test.YtcicoplmpinnmaaDoorBytes
import Derived.Test.YtcicoplmpinnmaaDoorAHelp
import Derived.Test.YtcicoplmpinnmaaDoorMkA
import Derived.Test.YtcicoplmpinnmaaDoorAIso
namespace Go.Proofs.YtcicoplmpinnmaaDoor
open Go.RowKit

/-- the first N letters -/
def aWord (zss : Tab) (o : List UInt8) (b N : Nat) : List UInt8 := (List.range N).map fun k => aLet zss o b k
theorem aWord_snoc (zss : Tab) (o : List UInt8) (b N : Nat) : aWord zss o b (N + 1) = aWord zss o b N ++ [aLet zss o b N] := by simp [aWord, List.range_succ]
theorem aWord_len (zss : Tab) (o : List UInt8) (b N : Nat) : (aWord zss o b N).length = N := by simp [aWord]
set_option maxRecDepth 4096 in
set_option maxHeartbeats 1600000 in
theorem iAutoWord_any {b : Nat} {A : Option Addr} {n c : Nat} {zss : Tab} {o : List UInt8} (W : World) (hg : GIn W A n c zss) (hk : aOk b zss o = true) (N : Nat) (hN : N ≤ 400) {t : List UInt8} (ht : aWord zss o b N = t) :
    Calls Tryd.prog 6 #[AutoV b A n c o, .int .i64 (N : Int)] W fun e w' => e = .returned (.tuple #[.string ⟨t.toArray⟩, .bool true]) ∧ Below W.heap.size W w' := by
  obtain ⟨bn, hb, hgd, hol, hw⟩ := aOk_good hk
  obtain rfl : b = bn := by omega
  have HGd := Lib.hid hgd
  have HOl := Lib.hid hol
  have HM0 := Lib.hid ((Mem.start W).box 25 (b : Int) A n c o)
  have HG := Lib.hid (hg.later HM0.out.bel)
  have hc := iAutoOk_any (b : Int) A n c zss o _ (hg.later HM0.out.bel) (by have := isW_len hw; omega)
  rw [hk] at hc
  have HC := Lib.hid hc
  have H1 := Lib.hid (within_is (n := (N : Int)) (lo := 0) (hi := 400) (b := true) (wi_mk (by omega) (by omega)))
  have HT := Lib.hid ht
  obtain ⟨bx0, bx1, bx2⟩ := HM0.out.boxAt (t := 25) (g := W.heap.size) (b := (b : Int)) (A := A) (n := n) (c := c) (o := o) (by simp)
  clear hk hgd hol hw hc ht hb hg
  go_enter Tryd.func6, Tryd.ntmps6
  go_wp2_with fail
  refine HC.out.mono ?_
  rintro e w1 ⟨rfl, hb1⟩
  have HM1 := Lib.hid (HM0.out.later hb1)
  have HG1 := Lib.hid (HG.out.later hb1)
  clear hb1 HM0 HG HC bx0 bx1 bx2
  have HO0 := Lib.hid (Own.made0 (w0 := w1) (w := w1) (Below.refl _ _) 5)
  go_wp2_with (go_at_call 21; (with_reducible refine (H1.out _).mono ?_); rintro e w' ⟨rfl, rfl⟩)
  go_loopw [18, 6] (fun i out wr => ∃ (k : Nat) (A6 : Option Addr) (c6 : Nat), k ≤ N ∧ i = .int .i64 k ∧ out = .slice A6 k c6 ∧ Own w1 wr 5 A6 k c6 (bvs (aWord zss o b k))) (fun i _ _ => N - (intOf i).toNat)
  case atStart => exact ⟨0, _, _, Nat.zero_le _, rfl, rfl, HO0.out⟩
  case round =>
    clear HO0
    obtain ⟨k, A6, c6, hkN, rfl, rfl, hown⟩ := hrel
    have HO := Lib.hid hown
    have HM2 := Lib.hid (HM1.out.later hown.bel)
    obtain ⟨bx0, bx1, bx2⟩ := HM2.out.boxAt (t := 25) (g := W.heap.size) (b := (b : Int)) (A := A) (n := n) (c := c) (o := o) (by simp)
    clear hown
    by_cases hlt : k < N
    · have HSn := Lib.hid (aWord_snoc zss o b k)
      go_wp2_with fail
      refine (letter_any b A n c zss o HGd.out HOl.out k _ (by omega) (HG1.out.later HO.out.bel)).mono ?_
      rintro e w3 ⟨rfl, hb3⟩
      have hown3 := HO.out.later hb3
      clear hb3
      go_wp2_with (at_builtin; refine app_one (.tmp 21) (.tmp 25) _ _ _ 1 rfl rfl Tryd.underlying22 infoB rfl rfl hown3 rfl rfl (by omega) (by omega) ?_; intro A' c' w4 hown4)
      exact ⟨⟨k + 1, A', c', by omega, by go_num, rfl, by rw [HSn.out, bvs_snoc]; exact hown4⟩, by simp [intOf]; omega⟩
    · obtain rfl : k = N := by omega
      have hconv := conv_bytes (P := Tryd.prog) 22 9 5 Tryd.underlying22 Tryd.underlying5 Tryd.underlying9 HO.out.rd (c := c6)
      rw [HT.out] at hconv
      go_wp2
      go_ret2
      exact ⟨rfl, HM2.out.bel⟩
set_option maxRecDepth 4096 in
set_option maxHeartbeats 1600000 in
theorem iRunAuto_any {b : Nat} {A : Option Addr} {n c : Nat} {zss : Tab} {o : List UInt8} (W : World) (hg : GIn W A n c zss) (hk : aOk b zss o = true) (k : Nat) (hk2 : k ≤ 1000000000) {x : UInt8} (hx : aLet zss o b k = x) :
    Calls Tryd.prog 11 #[AutoV b A n c o, .int .i64 (k : Int)] W fun e w' => e = .returned (.tuple #[.string ⟨[x].toArray⟩, .bool true]) ∧ Below W.heap.size W w' := by
  obtain ⟨bn, hb, hgd, hol, hw⟩ := aOk_good hk
  obtain rfl : b = bn := by omega
  have hlet : isLet x = true := by rw [← hx]; exact getD_letA hw (by rw [hol]; exact aEnd_lt hgd k)
  have HGd := Lib.hid hgd
  have HOl := Lib.hid hol
  have HM0 := Lib.hid ((Mem.start W).box 25 (b : Int) A n c o)
  have HG := Lib.hid (hg.later HM0.out.bel)
  have hc := iAutoOk_any (b : Int) A n c zss o _ (hg.later HM0.out.bel) (by have := isW_len hw; omega)
  rw [hk] at hc
  have HC := Lib.hid hc
  have H1 := Lib.hid (within_is (n := (k : Int)) (lo := 0) (hi := 1000000000) (b := true) (wi_mk (by omega) (by omega)))
  have HX := Lib.hid hx
  obtain ⟨bx0, bx1, bx2⟩ := HM0.out.boxAt (t := 25) (g := W.heap.size) (b := (b : Int)) (A := A) (n := n) (c := c) (o := o) (by simp)
  clear hk hgd hol hw hc hx hb hg
  go_enter Tryd.func11, Tryd.ntmps11
  go_wp2_with fail
  refine HC.out.mono ?_
  rintro e w1 ⟨rfl, hb1⟩
  have HM1 := Lib.hid (HM0.out.later hb1)
  have HG1 := Lib.hid (HG.out.later hb1)
  clear hb1 HM0 HG HC bx0 bx1 bx2
  obtain ⟨bx0, bx1, bx2⟩ := HM1.out.boxAt (t := 25) (g := W.heap.size) (b := (b : Int)) (A := A) (n := n) (c := c) (o := o) (by simp)
  go_wp2_with (go_at_call 21; (with_reducible refine (H1.out _).mono ?_); rintro e w' ⟨rfl, rfl⟩)
  refine (letter_any b A n c zss o HGd.out HOl.out k _ (by omega) HG1.out).mono ?_
  rintro e w3 ⟨rfl, hb3⟩
  rw [HX.out]
  have HM3 := Lib.hid (HM1.out.later hb3)
  obtain ⟨i, hi, rfl⟩ : ∃ i, i < 4 ∧ x = UInt8.ofNat (97 + i) := by
    simp only [isLet, decide_eq_true_eq] at hlet
    exact ⟨x.toNat - 97, by omega, by rw [show 97 + (x.toNat - 97) = x.toNat by omega]; simp⟩
  clear hb3 hlet HX
  rcases (show i = 0 ∨ i = 1 ∨ i = 2 ∨ i = 3 by omega) with rfl | rfl | rfl | rfl
  all_goals
    go_wp2_with fail
    go_ret2
    exact ⟨rfl, HM3.out.bel⟩
theorem MakeNum_any (A : Option Addr) (n c : Nat) (l : List UInt8) (m : Nat) (W : World) (hr : Rd W W.heap.size A n (bvs l)) (hn : n ≤ 1048576) (hm : m ≤ 100000) :
    Calls Tryd.prog 10 #[.slice A n c, .int .i64 (m : Int)] W fun e w' => ∃ v : Nat, e = .returned (.int .i64 (v : Int)) ∧ v ≤ 65535 ∧ Below W.heap.size W w' := by
  have HC := Lib.hid (l31New_any A n c l m W hr hn hm)
  clear hr
  go_enter Tryd.func10, Tryd.ntmps10
  go_wp2_with fail
  refine HC.out.mono ?_
  rintro e w2 ⟨g, rfl, hg, hcur, hbel⟩
  have HCu := Lib.hid hcur
  have HB := Lib.hid hbel
  clear hcur hbel HC
  go_wp2_with fail
  refine (l01Byte_any g _ HCu.out).mono ?_
  rintro e w3 ⟨v1, rfl, h10, h11, hc3, ht3⟩
  have HC3 := Lib.hid hc3
  have HB3 := Lib.hid (below_turn HB.out ht3 hg)
  clear hc3 ht3
  obtain ⟨v1, rfl⟩ := Int.eq_ofNat_of_zero_le h10
  go_wp2_with fail
  refine (l01Byte_any g _ HC3.out).mono ?_
  rintro e w4 ⟨v2, rfl, h20, h21, hc4, ht4⟩
  have HB4 := Lib.hid (below_turn HB3.out ht4 hg)
  clear hc4 ht4
  obtain ⟨v2, rfl⟩ := Int.eq_ofNat_of_zero_le h20
  have e1 : IntKind.i64.wrap ((v1 : Int) * 256) = (v1 : Int) * 256 := IntWalk.i64_in _ (by omega)
  have e2 : IntKind.i64.wrap ((v1 : Int) * 256 + (v2 : Int)) = (v1 : Int) * 256 + (v2 : Int) := IntWalk.i64_in _ (by omega)
  go_wp2
  go_ret
  exact ⟨v1 * 256 + v2, ret_int (by simp), by omega, HB4.out⟩
end Go.Proofs.YtcicoplmpinnmaaDoor
