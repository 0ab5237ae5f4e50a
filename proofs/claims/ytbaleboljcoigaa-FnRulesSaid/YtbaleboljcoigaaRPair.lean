/-
  Contracts of arePairs, l23List and RulesOk (program and reference). No conditions beyond small lengths.
-/
import Derived.Test.YtbaleboljcoigaaPat
import Derived.Test.YtbaleboljcoigaaIns
namespace Go.Proofs.Ytbaleboljcoigaa
open Go.RowKit

abbrev Pch := List (List UInt8)
theorem range_all_snoc (f : Nat → Bool) (k : Nat) : (List.range (k + 1)).all f = ((List.range k).all f && f k) := by rw [List.range_succ, List.all_append]; simp
theorem range_all_bad {f : Nat → Bool} {k n : Nat} (hk : k < n) (h : f k = false) : (List.range n).all f = false := by
  rw [List.all_eq_false]; exact ⟨k, List.mem_range.2 hk, by simp [h]⟩
theorem range_all_at {f : Nat → Bool} {n : Nat} (h : (List.range n).all f = true) {k : Nat} (hk : k < n) : f k = true := List.all_eq_true.1 h k (List.mem_range.2 hk)
def pr1 (l : Pch) (i : Nat) : Bool := isW (l.getD i []) && (decide ((l.getD i []).length = 2) && (decide (i = 0) || decide (l.getD (i - 1) [] < l.getD i [])))
theorem pr1_first {l : Pch} {k : Nat} {x : List UInt8} (hx : l.getD k [] = x) (h1 : isW x = true) (h2 : x.length = 2) (hk : k = 0) : pr1 l k = true := by
  unfold pr1; rw [hx, h1, decide_eq_true h2, decide_eq_true hk]; rfl
theorem pr1_next {l : Pch} {k : Nat} {x y : List UInt8} (hx : l.getD k [] = x) (hy : l.getD (k - 1) [] = y) (h1 : isW x = true) (h2 : x.length = 2) (hk : ¬ k = 0) : pr1 l k = decide (y < x) := by
  unfold pr1; rw [hx, hy, h1, decide_eq_true h2, decide_eq_false hk]; rfl
def pairsOk (l : Pch) : Bool := (List.range l.length).all (pr1 l)
def rulesOk (a b : Pch) : Bool := pairsOk a && pairsOk b


set_option maxHeartbeats 1600000 in
theorem arePairs_any (A : Option Addr) (n c B : Nat) (ss : Pch) (w : World) (hr : Rd w B A n (svs ss)) (hn : n ≤ 1048576) (hs : Longs ss) :
    Calls Try.prog 24 #[.slice A n c] w fun e w' => e = .returned (.bool (pairsOk ss)) ∧ w = w' := by
  have hlen := Lib.hid hr.lenS
  have HR := Lib.hid hr
  have HS := Lib.hid hs
  clear hr hs
  go_enter Try.func24, Try.ntmps24
  go_wp2
  go_loop [7] (fun i => ∃ k : Nat, k ≤ n ∧ i = .int .i64 k ∧ (List.range k).all (pr1 ss) = true) (fun i => n - (intOf i).toNat)
  case atStart => exact ⟨0, Nat.zero_le _, rfl, rfl⟩
  case round =>
    obtain ⟨k, hk, rfl, ha⟩ := hrel
    have HA := Lib.hid ha
    clear ha
    by_cases hlt : k < n
    · have hkl : k < ss.length := by rw [hlen.out]; exact hlt
      obtain ⟨a, rfl, hab, hcell⟩ := HR.out.str (k := k) hkl
      have hl1 := HS.out _ (List.getElem_mem hkl)
      obtain ⟨x, hx⟩ : ∃ x, x = ss[k] := ⟨_, rfl⟩
      have HXD := Lib.hid (show ss.getD k [] = x by rw [hx]; simp [List.getD, List.getElem?_eq_getElem hkl])
      rw [← hx] at hcell hl1
      clear hx
      cases h1 : isW x
      · have HE := Lib.hid (show false = pairsOk ss from (range_all_bad hkl (by rw [pr1, HXD.out, h1]; rfl)).symm)
        cases h2 : ((x.length : Int) != 2)
        all_goals
          go_wp2_with (go_at_call 45; refine (isWord_any _ hl1 _).mono ?_; rintro e w' ⟨rfl, rfl⟩)
          go_ret
          exact ⟨ret_bool HE.out, rfl⟩
      · cases h2 : ((x.length : Int) != 2)
        · have hx2 : x.length = 2 := by simp at h2; omega
          by_cases hk0 : k = 0
          · have H := Lib.hid (show (List.range (k + 1)).all (pr1 ss) = true by
              rw [range_all_snoc, HA.out, pr1_first HXD.out h1 hx2 hk0]; rfl)
            have HX2 := Lib.hid hx2
            have hgt : decide ((0 : Int) < (k : Int)) = false := by simp; omega
            have hgt2 : decide (0 < k) = false := by simp; omega
            clear hx2 hk0
            go_wp2_with (go_at_call 45; refine (isWord_any _ hl1 _).mono ?_; rintro e w' ⟨rfl, rfl⟩)
            go_round
            case rel => exact ⟨k + 1, by omega, by go_num, H.out⟩
            case measure => simp [intOf]; omega
          · obtain ⟨m, hm⟩ : ∃ m, m = k - 1 := ⟨_, rfl⟩
            have hml : m < ss.length := by omega
            obtain ⟨a2, ha2, _, hcell2⟩ := HR.out.str (k := m) hml
            injection ha2 with ha2
            subst ha2
            obtain ⟨y, hy⟩ : ∃ y, y = ss[m] := ⟨_, rfl⟩
            have HYD := Lib.hid (show ss.getD m [] = y by rw [hy]; simp [List.getD, List.getElem?_eq_getElem hml])
            rw [← hy] at hcell2
            clear hy
            have hgt : decide ((0 : Int) < (k : Int)) = true := by simp; omega
            have hgt2 : decide (0 < k) = true := by simp; omega
            have i1 : 1 ≤ k := by omega
            rw [hm] at hcell2 HYD
            have HK1 := Lib.hid hk0
            clear hm hml hk0
            rcases lt_tri y x with h | h | h
            · have H := Lib.hid (show (List.range (k + 1)).all (pr1 ss) = true by
                rw [range_all_snoc, HA.out, pr1_next HXD.out HYD.out h1 hx2 HK1.out, decide_eq_true h]; rfl)
              have hb1 : Op.bytesLess y x = true := by rw [bytesLess_eq]; simpa using h
              have hb2 : Op.bytesLess x y = false := by rw [bytesLess_eq]; simpa using lt_no h
              have hb3 : (x == y) = false := by simpa using (lt_neq h).symm
              have HX2 := Lib.hid hx2
              clear hx2 h
              go_wp2_with (go_at_call 45; refine (isWord_any _ hl1 _).mono ?_; rintro e w' ⟨rfl, rfl⟩)
              go_round
              case rel => exact ⟨k + 1, by omega, by go_num, H.out⟩
              case measure => simp [intOf]; omega
            · have HE := Lib.hid (show false = pairsOk ss from (range_all_bad hkl (by
                rw [pr1_next HXD.out HYD.out h1 hx2 HK1.out, h]; simp [List.lt_irrefl])).symm)
              have hb1 : Op.bytesLess y x = false := by rw [bytesLess_eq, h]; simp [List.lt_irrefl]
              have hb2 : Op.bytesLess x y = false := by rw [bytesLess_eq, h]; simp [List.lt_irrefl]
              have hb3 : (x == y) = true := by simpa using h.symm
              have HX2 := Lib.hid hx2
              clear hx2 h
              go_wp2_with (go_at_call 45; refine (isWord_any _ hl1 _).mono ?_; rintro e w' ⟨rfl, rfl⟩)
              go_ret
              exact ⟨ret_bool HE.out, rfl⟩
            · have HE := Lib.hid (show false = pairsOk ss from (range_all_bad hkl (by
                rw [pr1_next HXD.out HYD.out h1 hx2 HK1.out, decide_eq_false (lt_no h)])).symm)
              have hb1 : Op.bytesLess y x = false := by rw [bytesLess_eq]; simpa using lt_no h
              have hb2 : Op.bytesLess x y = true := by rw [bytesLess_eq]; simpa using h
              have hb3 : (x == y) = false := by simpa using lt_neq h
              have HX2 := Lib.hid hx2
              clear hx2 h
              go_wp2_with (go_at_call 45; refine (isWord_any _ hl1 _).mono ?_; rintro e w' ⟨rfl, rfl⟩)
              go_ret
              exact ⟨ret_bool HE.out, rfl⟩
        · have hx2 : x.length ≠ 2 := by simp at h2; omega
          have HE := Lib.hid (show false = pairsOk ss from (range_all_bad hkl (by rw [pr1, HXD.out]; simp [hx2])).symm)
          clear hx2
          go_wp2_with (go_at_call 45; refine (isWord_any _ hl1 _).mono ?_; rintro e w' ⟨rfl, rfl⟩)
          go_ret
          exact ⟨ret_bool HE.out, rfl⟩
    · have HE := Lib.hid (show true = pairsOk ss by unfold pairsOk; rw [show ss.length = k by rw [hlen.out]; omega]; exact HA.out.symm)
      go_wp2
      go_ret
      exact ⟨ret_bool HE.out, rfl⟩


theorem iRulesOk_any (A0 : Option Addr) (n0 c0 : Nat) (x0 : Pch) (A1 : Option Addr) (n1 c1 : Nat) (x1 : Pch) (w : World) (h0 : SIn w A0 n0 c0 x0) (h1 : SIn w A1 n1 c1 x1) :
    Calls Try.prog 6 #[.slice A0 n0 c0, .slice A1 n1 c1] w fun e w' => e = .returned (.bool (rulesOk x0 x1)) ∧ w = w' := by
  have hc0 := arePairs_any A0 n0 c0 _ x0 w h0.1 h0.2.1 h0.longs
  have hc1 := arePairs_any A1 n1 c1 _ x1 w h1.1 h1.2.1 h1.longs
  cases g0 : pairsOk x0 <;> cases g1 : pairsOk x1
  all_goals
    rw [g0] at hc0
    rw [g1] at hc1
    have HC0 := Lib.hid hc0
    have HC1 := Lib.hid hc1
    have G0 := Lib.hid g0
    have G1 := Lib.hid g1
    clear hc0 hc1 g0 g1
    go_enter Try.func6, Try.ntmps6
    go_wp2_with (first | (go_at_call 24; (with_reducible refine HC0.out.mono ?_); rintro e w' ⟨rfl, rfl⟩) | (go_at_call 24; refine HC1.out.mono ?_; rintro e w' ⟨rfl, rfl⟩))
    go_ret
    exact ⟨ret_bool (by rw [rulesOk, G0.out, G1.out]; rfl), rfl⟩
theorem cRulesOkI (A0 : Option Addr) (n0 c0 : Nat) (x0 : Pch) (A1 : Option Addr) (n1 c1 : Nat) (x1 : Pch) (w : World) (h0 : SIn w A0 n0 c0 x0) (h1 : SIn w A1 n1 c1 x1) :
    Calls Try.prog 6 #[.slice A0 n0 c0, .slice A1 n1 c1] w fun e w' => e = .returned (.bool (rulesOk x0 x1)) ∧ Below w.heap.size w w' :=
  (iRulesOk_any _ _ _ _ _ _ _ _ _ h0 h1).mono fun _ _ ⟨he, hw⟩ => ⟨he, hw ▸ Below.same⟩
end Go.Proofs.Ytbaleboljcoigaa
