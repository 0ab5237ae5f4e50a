/-
  Drawn rules, patches and sizes: contracts of l21Rule, l21Draw, MakeRule, MakePatch, MakeSize. No conditions beyond the code's length.
-/
import Derived.Test.YtbaleboljcoigaaMkB
import Derived.Test.YtbaleboljcoigaaBName
namespace Go.Proofs.Ytbaleboljcoigaa
open Go.RowKit

theorem rOk_words {b : List (List UInt8)} {n : Nat} (hn : 1 ≤ n) (hn4 : n ≤ 4) (hb : b.length = n) (h : ∀ s ∈ b, s.length = 4 ∧ wordK n s) : rOk b = true := by
  unfold rOk
  simp only [Bool.and_eq_true]
  refine ⟨List.all_eq_true.2 fun s hs => ?_, wi_mk (by omega) (by omega), List.all_eq_true.2 fun s hs => ?_⟩
  · obtain ⟨h1, h2⟩ := h s hs
    unfold w4 isW
    simp only [Bool.and_eq_true, decide_eq_true_eq]
    refine ⟨⟨List.all_eq_true.2 fun c hc => ?_, by omega⟩, h1⟩
    have := h2 c hc
    simp only [isLet, decide_eq_true_eq]; omega
  · obtain ⟨h1, h2⟩ := h s hs
    unfold hasB
    refine List.all_eq_true.2 fun c hc => ?_
    have := h2 c hc
    simp only [decide_eq_true_eq]; omega
def RuleN (w : World) (g : Nat) (e : Ending) (w' : World) : Prop := ∃ A n c b, e = .returned (.slice A n c) ∧ rOk b = true ∧ GOwn w w' g 9 A n c (svs b)
theorem GOwn.of {w0 w1 w : World} {g : Nat} {e : TypeId} {A : Option Addr} {n c : Nat} {xs : List Value} (ht : TurnG w0 w1 g) (hc : CurAt w1 g) (ho : Own w1 w e A n c xs) : GOwn w0 w g e A n c xs :=
  ⟨less_row ho.1 ht.size, ht.trans (TurnG.of ho.2), hc.later ho.2⟩

set_option maxHeartbeats 1600000 in
theorem l21Rule_any (g : Nat) (w : World) (h : CurAt w g) : Calls Try.prog 50 #[.pointer (some ⟨g, 0, none⟩)] w (RuleN w g) := by
  have hg := h.lt
  have HC := Lib.hid (l01Once_any g 2 w (by omega) h)
  clear h
  go_enter Try.func50, Try.ntmps50
  go_wp2_with fail
  refine HC.out.mono ?_
  rintro e w1 ⟨b, rfl, hc1, ht1⟩
  have HC1 := Lib.hid hc1
  have HT1 := Lib.hid ht1
  have hs1 := ht1.size
  clear HC hc1 ht1
  cases b
  · go_wp2_with fail
    refine (l01Below_any g 3 _ (by omega) HC1.out).mono ?_
    rintro e w2 ⟨v, rfl, hv0, hv1, hv2, hc2, ht2⟩
    have hv3 := hv1 (by omega)
    obtain ⟨v, rfl⟩ := Int.eq_ofNat_of_zero_le hv0
    have HC2 := Lib.hid hc2
    have HT2 := Lib.hid (HT1.out.trans ht2)
    have hs2 := ht2.size
    clear hc2 ht2 hv1 hv2
    go_wp2
    go_loopw [7, 6] (fun i out wr => ∃ (j : Nat) (A : Option Addr) (c : Nat) (b : List (List UInt8)), j ≤ v + 1 ∧ i = .int .i64 j ∧ out = .slice A j c ∧ b.length = j ∧ (∀ s ∈ b, s.length = 4 ∧ wordK (v + 1) s) ∧ GOwn w wr g 9 A j c (svs b)) (fun i _ _ => v + 1 - (intOf i).toNat)
    case atStart => exact ⟨0, _, _, [], Nat.zero_le _, rfl, rfl, rfl, by simp, GOwn.start HC2.out HT2.out (by omega) _⟩
    case round =>
      obtain ⟨j, A, c, b, hj, rfl, rfl, hbl, hb, hown⟩ := hrel
      have HO := Lib.hid hown
      have HB := Lib.hid hb
      have HBL := Lib.hid hbl
      clear hown hb hbl
      by_cases hlt : j < v + 1
      · have hw := l02Word_any g 4 (v + 1) wr (by omega) (by omega) (by omega) HO.out.2.2
        have hcast : (((v + 1 : Nat)) : Int) = 1 + (v : Int) := by omega
        rw [hcast] at hw
        have HW := Lib.hid hw
        clear hw hcast
        go_wp2_with fail
        refine HW.out.mono ?_
        rintro e w3 ⟨s, rfl, hs1, hs2, hc3, ht3⟩
        have hG := HO.out.turn hg ht3 hc3
        have HG := Lib.hid hG
        have hown := hG.own
        have HB2 := Lib.hid (show ∀ s' ∈ b ++ [s], s'.length = 4 ∧ wordK (v + 1) s' from fun s' hs' => by
          rcases List.mem_append.1 hs' with hs' | hs'
          · exact HB.out s' hs'
          · simp at hs'; subst hs'; exact ⟨hs1, hs2⟩)
        clear hG hc3 ht3 hs1 hs2
        go_wp2_with (at_builtin; refine app_one (.tmp 27) (.tmp 31) _ _ _ 16 rfl rfl Try.underlying23 infoS rfl rfl hown rfl rfl (by omega) (by omega) ?_; intro A' c' w4 hown4)
        exact ⟨⟨j + 1, A', c', b ++ [s], by omega, by go_num, rfl, by simp [HBL.out], HB2.out, by rw [svs_snoc]; exact HG.out.after hg hown4⟩, by simp [intOf]; omega⟩
      · obtain rfl : j = v + 1 := by omega
        go_wp2
        go_ret
        exact ⟨_, _, _, b, rfl, rOk_words (by omega) (by omega) HBL.out HB.out, HO.out⟩
  · have HR3 := Lib.hid (Own.made (w0 := w1) (w := w1) (Below.refl _ _) 9 (svs [morse, chair, cross]) (by simp [svs])).rd
    go_wp2_with fail
    refine (l01Str_any g _ 3 3 [morse, chair, cross] _ (HC1.out.later ((Below.refl _ _).alloc (Nat.le_refl _) _)) (by show w1.heap.size ≠ g; omega) HR3.out (by omega) (by omega)).mono ?_
    rintro e w2 ⟨s, hs, rfl, hc2, ht2⟩
    have HC2 := Lib.hid hc2
    have HT2 := Lib.hid ((HT1.out.trans (TurnG.of ((Below.refl _ _).alloc (Nat.le_refl _) _))).trans ht2)
    have HS := Lib.hid (show rOk (namedRule s).1 = true by
      simp only [List.mem_cons, List.mem_nil_iff, or_false] at hs
      rcases hs with rfl | rfl | rfl <;> decide)
    have hsl : s.length ≤ 1048576 := by
      simp only [List.mem_cons, List.mem_nil_iff, or_false] at hs
      rcases hs with rfl | rfl | rfl <;> decide
    clear hs hc2 ht2
    go_wp2_with fail
    refine (cNamedS s _ hsl).mono ?_
    rintro e w3 ⟨A, n, c, rfl, ho⟩
    have HO := Lib.hid (GOwn.of HT2.out HC2.out ho)
    clear ho
    go_wp2
    go_ret
    exact ⟨_, _, _, _, rfl, HS.out, HO.out⟩


def PatK (k : Nat) (p : List (List UInt8)) : Prop := 1 ≤ p.length ∧ p.length ≤ 5 ∧ ∃ m, 1 ≤ m ∧ m ≤ 5 ∧ ∀ r ∈ p, r.length = m ∧ wordK k r
set_option maxHeartbeats 1600000 in
theorem l21Draw_any (g k : Nat) (w : World) (hk : 1 ≤ k) (hk4 : k ≤ 100) (h : CurAt w g) :
    Calls Try.prog 18 #[.pointer (some ⟨g, 0, none⟩), .int .i64 (k : Int)] w fun e w' => ∃ A n c p, e = .returned (.slice A n c) ∧ PatK k p ∧ GOwn w w' g 9 A n c (svs p) := by
  have hg := h.lt
  have H := Lib.hid h
  clear h
  go_enter Try.func18, Try.ntmps18
  go_wp2_with fail
  refine (l01Below_any g 5 _ (by omega) H.out).mono ?_
  rintro e w1 ⟨v, rfl, hv0, hv1, hv2, hc1, ht1⟩
  have hv5 := hv1 (by omega)
  obtain ⟨v, rfl⟩ := Int.eq_ofNat_of_zero_le hv0
  have HC1 := Lib.hid hc1
  have HT1 := Lib.hid ht1
  have hs1 := ht1.size
  clear hc1 ht1 hv1 hv2
  have HG1 := Lib.hid (GOwn.start HC1.out HT1.out hs1 9)
  go_wp2_with fail
  refine (l01Below_any g 5 _ (by omega) HG1.out.2.2).mono ?_
  rintro e w2 ⟨u, rfl, hu0, hu1, hu2, hc2, ht2⟩
  have hu5 := hu1 (by omega)
  obtain ⟨u, rfl⟩ := Int.eq_ofNat_of_zero_le hu0
  have HG2 := Lib.hid (HG1.out.turn hg ht2 hc2)
  clear hc2 ht2 hu1 hu2 HG1
  go_wp2
  go_loopw [7, 6] (fun i out wr => ∃ (j : Nat) (A : Option Addr) (c : Nat) (p : List (List UInt8)), j ≤ u + 1 ∧ i = .int .i64 (1 + (u : Int) - (j : Int)) ∧ out = .slice A j c ∧ p.length = j ∧ (∀ s ∈ p, s.length = v + 1 ∧ wordK k s) ∧ GOwn w wr g 9 A j c (svs p)) (fun i _ _ => (intOf i).toNat)
  case atStart => exact ⟨0, _, _, [], Nat.zero_le _, by simp, rfl, rfl, by simp, HG2.out⟩
  case round =>
    clear HG2
    obtain ⟨j, A, c, p, hj, rfl, rfl, hpl, hp, hown⟩ := hrel
    have HO := Lib.hid hown
    have HP := Lib.hid hp
    have HPL := Lib.hid hpl
    clear hown hp hpl
    by_cases hlt : j < u + 1
    · have hw := l02Word_any g (v + 1) k wr (by omega) hk hk4 HO.out.2.2
      have hcast : (((v + 1 : Nat)) : Int) = 1 + (v : Int) := by omega
      rw [hcast] at hw
      have HW := Lib.hid hw
      clear hw hcast
      go_wp2_with fail
      refine HW.out.mono ?_
      rintro e w3 ⟨s, rfl, hs1, hs2, hc3, ht3⟩
      have hG := HO.out.turn hg ht3 hc3
      have HG := Lib.hid hG
      have hown := hG.own
      have HP2 := Lib.hid (show ∀ s' ∈ p ++ [s], s'.length = v + 1 ∧ wordK k s' from fun s' hs' => by
        rcases List.mem_append.1 hs' with hs' | hs'
        · exact HP.out s' hs'
        · simp at hs'; subst hs'; exact ⟨hs1, hs2⟩)
      clear hG hc3 ht3 hs1 hs2
      go_wp2_with (at_builtin; refine app_one (.tmp 19) (.tmp 24) _ _ _ 16 rfl rfl Try.underlying23 infoS rfl rfl hown rfl rfl (by omega) (by omega) ?_; intro A' c' w4 hown4)
      exact ⟨⟨j + 1, A', c', p ++ [s], by omega, by congr 1 <;> omega, rfl, by simp [HPL.out], HP2.out, by rw [svs_snoc]; exact HG.out.after hg hown4⟩, by simp [intOf]; omega⟩
    · obtain rfl : j = u + 1 := by omega
      go_wp2
      go_ret
      exact ⟨_, _, _, p, rfl, ⟨by have := HPL.out; omega, by have := HPL.out; omega, v + 1, by omega, by omega, HP.out⟩, HO.out⟩
theorem MakePatch_any (A : Option Addr) (n c : Nat) (l : List UInt8) (m k : Nat) (W : World) (hr : Rd W W.heap.size A n (bvs l)) (hn : n ≤ 1048576) (hm : m ≤ 100000) (hk : 1 ≤ k) (hk4 : k ≤ 100) :
    Calls Try.prog 4 #[.slice A n c, .int .i64 (m : Int), .int .i64 (k : Int)] W fun e w' => ∃ A' n' c' p, e = .returned (.slice A' n' c') ∧ PatK k p ∧ Own W w' 9 A' n' c' (svs p) := by
  have HC := Lib.hid (l31New_any A n c l m W hr hn hm)
  clear hr
  go_enter Try.func4, Try.ntmps4
  go_wp2_with fail
  refine HC.out.mono ?_
  rintro e w2 ⟨g, rfl, hg, hcur, hbel⟩
  have HCu := Lib.hid hcur
  have HB := Lib.hid hbel
  clear hcur hbel HC
  go_wp2_with fail
  refine (l21Draw_any g k _ hk hk4 HCu.out).mono ?_
  rintro e w3 ⟨A2, n2, c2, p, rfl, hp, hG⟩
  have HP := Lib.hid hp
  have HO := Lib.hid (show Own W w3 9 A2 n2 c2 (svs p) from ⟨less_row hG.1 HB.out.size, below_turn HB.out hG.2.1 hg⟩)
  clear hp hG
  go_wp2
  go_ret
  exact ⟨_, _, _, p, rfl, HP.out, HO.out⟩
set_option maxHeartbeats 1600000 in
theorem MakeSize_any (A : Option Addr) (n c : Nat) (l : List UInt8) (m lo hi : Nat) (W : World) (hr : Rd W W.heap.size A n (bvs l)) (hn : n ≤ 1048576) (hm : m ≤ 100000) (h1 : lo ≤ hi) (h2 : hi ≤ 90) :
    Calls Try.prog 10 #[.slice A n c, .int .i64 (m : Int), .int .i64 (lo : Int), .int .i64 (hi : Int)] W fun e w' => ∃ v : Nat, e = .returned (.int .i64 (v : Int)) ∧ lo ≤ v ∧ v ≤ hi ∧ Below W.heap.size W w' := by
  have HC := Lib.hid (l31New_any A n c l m W hr hn hm)
  clear hr
  go_enter Try.func10, Try.ntmps10
  go_wp2
  go_loop [10, 9] (fun i t => ∃ k : Nat, lo ≤ k ∧ k ≤ hi ∧ i = .int .i64 k ∧ t = .int .i64 (1 + ((k : Int) - (lo : Int)))) (fun i _ => hi - (intOf i).toNat)
  case atStart => exact ⟨lo, Nat.le_refl _, h1, rfl, by simp⟩
  case round =>
    obtain ⟨k, hk0, hk, rfl, rfl⟩ := hrel
    by_cases hlt : k < hi
    · have hd : decide ((k : Int) < (hi : Int)) = true := by simp; omega
      have hd2 : decide (1 + ((k : Int) - (lo : Int)) < 100) = true := by simp; omega
      go_wp2
      go_round
      case rel => exact ⟨k + 1, by omega, by omega, by go_num, by congr 1 <;> omega⟩
      case measure => simp [intOf]; omega
    · obtain rfl : k = hi := by omega
      have hd : decide ((k : Int) < (k : Int)) = false := by simp
      go_wp2_with fail
      refine HC.out.mono ?_
      rintro e w2 ⟨g, rfl, hg, hcur, hbel⟩
      have HCu := Lib.hid hcur
      have HB := Lib.hid hbel
      clear hcur hbel HC
      go_wp2_with fail
      refine (l01Below_any g (1 + ((k : Int) - (lo : Int))) _ (by omega) HCu.out).mono ?_
      rintro e w3 ⟨v, rfl, hv0, hv1, hv2, hc2, ht2⟩
      have hv5 := hv1 (by omega)
      obtain ⟨v, rfl⟩ := Int.eq_ofNat_of_zero_le hv0
      have HB2 := Lib.hid (below_turn HB.out ht2 hg)
      clear hc2 ht2 hv1 hv2 hd
      go_wp2
      go_loop [12, 11] (fun i t => ∃ j : Nat, j ≤ v ∧ i = .int .i64 ((v : Int) - (j : Int)) ∧ t = .int .i64 ((lo : Int) + (j : Int))) (fun i _ => (intOf i).toNat)
      case atStart => exact ⟨0, Nat.zero_le _, by simp, by simp⟩
      case round =>
        obtain ⟨j, hj, rfl, rfl⟩ := hrel
        by_cases hjv : j < v
        · go_wp2
          go_round
          case rel => exact ⟨j + 1, by omega, by congr 1 <;> omega, by congr 1 <;> omega⟩
          case measure => simp [intOf]; omega
        · obtain rfl : j = v := by omega
          go_wp2
          go_ret
          exact ⟨lo + j, ret_int (by omega), by omega, by omega, HB2.out⟩
end Go.Proofs.Ytbaleboljcoigaa
