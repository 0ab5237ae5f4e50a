/-
  Plain facts and contracts of the law FnHoles. Condition: internal/bytealg's variable MaxLen holds some number.
-/
import Derived.Test.YtfjehlmknbhghaaDoorHWith
import Derived.Test.YtfjehlmknbhghaaDoorHPer
import Derived.Test.YtfjehlmknbhghaaDoorMkC
namespace Go.Proofs.YtfjehlmknbhghaaDoor
open Go.RowKit

theorem cnt_lt {p : List UInt8} (h : patOk p = true) : cnt p < p.length := by
  have hl := patOk_len h
  have h0 := patOk_first h
  obtain ⟨a, l, rfl⟩ : ∃ a l, p = a :: l := by
    cases p with
    | nil => simp at hl
    | cons a l => exact ⟨a, l, rfl⟩
  have ha : a ≠ 63 := by
    unfold sg at h0
    rw [Nat.zero_mod] at h0
    exact h0
  unfold cnt Lib.countByte
  rw [List.count_cons, if_neg (by simpa using ha)]
  have := List.count_le_length (a := (63 : UInt8)) (l := l)
  rw [List.length_cons]; omega
theorem fillL_len (p : List UInt8) (n : Nat) : (fillL p n).length = n := by simp [fillL]
theorem fillL_get {p : List UInt8} {n i : Nat} (h : i < n) : (fillL p n)[i]? = some (fil p i).1 := by simp [fillL, h]
theorem fillL_isW {p : List UInt8} (h : patOk p = true) {n : Nat} (hn : n ≤ 400) : isW (fillL p n) = true := by
  unfold isW
  rw [fillL_len, decide_eq_true hn, Bool.and_true, List.all_eq_true]
  intro c hc
  obtain ⟨i, _, rfl⟩ := List.mem_map.1 hc
  exact (fil_let h i).1
theorem withL_fill {p : List UInt8} (h : patOk p = true) (n : Nat) : withL p (fillL p n) n = fillL p n := by
  unfold withL
  conv => rhs; unfold fillL
  apply List.map_congr_left
  intro i hi
  have hin := List.mem_range.1 hi
  by_cases hs : sg p i = 63
  · have hd := hol_down h hs
    have hl : hol p i < (fillL p n).length := by rw [fillL_len]; omega
    rw [withC_hole hs hl]
    have h1 := fillL_get (p := p) (n := n) (i := hol p i) (by omega)
    rw [List.getElem?_eq_getElem hl] at h1
    injection h1 with h1
    rw [h1, fil_hole h hs]
  · rw [withC_letter hs, fil_letter hs]
theorem fillWith_fill {p : List UInt8} (h : patOk p = true) {n : Nat} (hn : n ≤ 400) : fillWith p (fillL p n) n = (fillL p n, true) := by
  have hl := patOk_len h
  unfold fillWith
  rw [h, fillL_isW h hn, wi_mk (show (0 : Int) ≤ n by omega) (by omega), show ((n : Nat) : Int).toNat = n from rfl, fillL_len, decide_eq_true (hol_le (by omega) n), withL_fill h]
  rfl
theorem per_fill {p : List UInt8} (h : patOk p = true) {n : Nat} (hn : n ≤ 400) (hL : p.length ≤ n) :
    (perPart (fillL p n) (p.length : Int)).length = p.length ∧ ∀ i : Nat, i < p.length → p.getD i 0 ≠ 63 → (perPart (fillL p n) (p.length : Int)).getD i 0 = p.getD i 0 := by
  have hl := patOk_len h
  have key : ∀ r, r < p.length → p.getD r 0 ≠ 63 → perC (fillL p n) p.length (fillL p n).length r = p.getD r 0 := by
    intro r hr hne
    have hs : ∀ i, i % p.length = r → sg p i = p.getD r 0 := fun i hi => by unfold sg; rw [hi]
    have hw : ∀ i, i < n → i % p.length = r → (fillL p n)[i]? = some (p.getD r 0) := fun i hi hir => by
      rw [fillL_get hi, fil_letter (by rw [hs i hir]; exact hne), hs i hir]
    have hr1 := hw r (by omega) (Nat.mod_eq_of_lt hr)
    have hb : perB (fillL p n) p.length r (fillL p n).length = false := by
      rw [Bool.eq_false_iff]
      intro hb
      obtain ⟨i, _, hi, him, hne2⟩ := perB_iff.1 hb
      rw [fillL_len] at hi
      exact hne2 (by rw [hw i hi him, hr1])
    unfold perC
    rw [hb]
    simp only [List.getD, hr1]
    rfl
  have h0 : p.getD 0 0 ≠ 63 := by
    have := patOk_first h
    unfold sg at this
    rw [Nat.zero_mod] at this
    exact this
  have hd : decide ((p.length : Int) ≤ (fillL p n).length) = true := by rw [fillL_len]; simp; omega
  have e : perPart (fillL p n) (p.length : Int) = perL (fillL p n) p.length (fillL p n).length := by
    unfold perPart
    rw [fillL_isW h hn, wi_mk (by omega) (by omega), hd, show ((p.length : Nat) : Int).toNat = p.length from rfl, perL_get (by omega), key 0 (by omega) h0]
    have h0' : (some (p.getD 0 0) == some (63 : UInt8)) = false := by
      rw [beq_eq_false_iff_ne]
      intro e
      injection e with e
      exact h0 e
    rw [h0']
    rfl
  rw [e]
  refine ⟨perL_len _ _ _, fun i hi hne => ?_⟩
  simp only [List.getD, perL_get hi]
  exact key i hi hne
theorem per_none {p : List UInt8} {n : Nat} (hL : ¬ p.length ≤ n) : perPart (fillL p n) (p.length : Int) = [] := by
  have hd : decide ((p.length : Int) ≤ (fillL p n).length) = false := by rw [fillL_len]; simp; omega
  unfold perPart
  rw [hd, Bool.and_false]
  rfl
def foldChk (f : List UInt8) : Bool := decide (f.length = 63) && ((List.range 31).all (fun i => !(Nat.beq (f.getD i 0).toNat (f.getD (62 - i) 0).toNat) && Nat.beq (f.getD (2 * i + 1) 0).toNat (f.getD i 0).toNat) && Nat.beq (f.getD 31 0).toNat 97)
theorem fold_chk : foldChk (fillL foldP 63) = true := by decide +kernel
theorem fold_facts : ∃ f, fillPattern foldP 63 = (f, true) ∧ f.length = 63 ∧ (∀ i, i < 31 → (f.getD i 0).toNat ≠ (f.getD (62 - i) 0).toNat ∧ (f.getD (2 * i + 1) 0).toNat = (f.getD i 0).toNat) ∧ (f.getD 31 0).toNat = 97 := by
  have h := fold_chk
  unfold foldChk at h
  simp only [Bool.and_eq_true, decide_eq_true_eq, Nat.beq_eq] at h
  refine ⟨fillL foldP 63, rfl, h.1, fun i hi => ?_, h.2.2⟩
  have h1 := List.all_eq_true.1 h.2.1 i (List.mem_range.2 hi)
  simp only [Bool.and_eq_true, Bool.not_eq_true', Nat.beq_eq] at h1
  exact ⟨fun he => by rw [he, Nat.beq_refl] at h1; exact absurd h1.1 (by decide), h1.2⟩

/-! ## the pattern that is drawn -/
def sgnOk (s : List UInt8) : Prop := s = [97] ∨ s = [98] ∨ s = [63] ∨ s = [99]
theorem hlt_sgn {s : List UInt8} (h : sgnOk s) : s.all hlt = true ∧ s.length = 1 := by
  rcases h with rfl | rfl | rfl | rfl <;> exact ⟨rfl, rfl⟩
theorem patOk_mk {p : List UInt8} (h1 : 2 ≤ p.length) (h2 : p.length ≤ 16) (h3 : p.getD 0 0 ≠ 63) (h4 : p.all hlt = true) : patOk p = true := by
  unfold patOk
  rw [wi_mk (by omega) (by omega), h4, Bool.and_true, Bool.true_and, beq_eq_false_iff_ne.2 h3]
  rfl
def PatN (w : World) (g : Nat) (e : Ending) (w' : World) : Prop := ∃ p : List UInt8, e = .returned (.string ⟨p.toArray⟩) ∧ patOk p = true ∧ CurAt w' g ∧ TurnG w w' g
set_option maxHeartbeats 1600000 in
theorem l20Draw_any (g : Nat) (w : World) (h : CurAt w g) : Calls Tryd.prog 39 #[.pointer (some ⟨g, 0, none⟩)] w (PatN w g) := by
  have hg := h.lt
  have HC := Lib.hid h
  have HR1 := Lib.hid (Own.made (w0 := w) (w := w) (Below.refl _ _) 9 (svs [[97], [98], [97], [99]]) (by simp [svs])).rd
  clear h
  go_enter Tryd.func39, Tryd.ntmps39
  go_wp2_with fail
  refine (l01Str_any g _ 4 4 [[97], [98], [97], [99]] _ (HC.out.later ((Below.refl _ _).alloc (Nat.le_refl _) _)) (by show w.heap.size ≠ g; omega) HR1.out (by omega) (by omega)).mono ?_
  rintro e w1 ⟨s, hs, rfl, hc1, ht1⟩
  have HC1 := Lib.hid hc1
  have HT1 := Lib.hid ((TurnG.of (g := g) ((Below.refl w.heap.size w).alloc (Nat.le_refl _) (.cells (svs [[97], [98], [97], [99]]).toArray 9))).trans ht1)
  have HS := Lib.hid (show s.length = 1 ∧ s.getD 0 0 ≠ 63 ∧ s.all hlt = true by
    simp only [List.mem_cons, List.mem_nil_iff, or_false] at hs
    rcases hs with rfl | rfl | rfl | rfl <;> exact ⟨rfl, by decide, rfl⟩)
  clear hc1 ht1 hs HR1
  go_wp2_with fail
  refine (l01Below_any g 6 _ (by omega) HC1.out).mono ?_
  rintro e w2 ⟨v, rfl, hv0, hv1, hv2, hc2, ht2⟩
  have hv6 := hv1 (by omega)
  obtain ⟨v, rfl⟩ := Int.eq_ofNat_of_zero_le hv0
  have HC2 := Lib.hid hc2
  have HT2 := Lib.hid (HT1.out.trans ht2)
  clear hc2 ht2 hv1 hv2
  go_wp2_with fail
  go_loopw [4, 3] (fun i s wr => ∃ (j : Nat) (p : List UInt8), j ≤ v + 1 ∧ i = .int .i64 j ∧ s = .string ⟨p.toArray⟩ ∧ p.length + j = v + 2 ∧ (p.getD 0 0 ≠ 63 ∧ 1 ≤ p.length ∧ p.all hlt = true) ∧ CurAt wr g ∧ TurnG w wr g) (fun i _ _ => (intOf i).toNat)
  case atStart => exact ⟨v + 1, s, Nat.le_refl _, by go_num, rfl, by have := HS.out.1; omega, ⟨HS.out.2.1, by have := HS.out.1; omega, HS.out.2.2⟩, HC2.out, HT2.out⟩
  case round =>
    obtain ⟨j, p, hj, rfl, rfl, hpl, hpp, hcur, hturn⟩ := hrel
    have HP := Lib.hid hpp
    have HCU := Lib.hid hcur
    have HTU := Lib.hid hturn
    have hp7 : p.length ≤ 7 := by omega
    have HPL := Lib.hid hpl
    clear hpp hcur hturn hpl
    by_cases hlt2 : 0 < j
    · have HR2 := Lib.hid (Own.made (w0 := wr) (w := wr) (Below.refl _ _) 9 (svs [[97], [98], [63], [63], [99]]) (by simp [svs])).rd
      have hsz : g < wr.heap.size := HCU.out.lt
      go_wp2_with fail
      refine (l01Str_any g _ 5 5 [[97], [98], [63], [63], [99]] _ (HCU.out.later ((Below.refl _ _).alloc (Nat.le_refl _) _)) (by show wr.heap.size ≠ g; omega) HR2.out (by omega) (by omega)).mono ?_
      rintro e w3 ⟨x, hx, rfl, hc3, ht3⟩
      have HC3 := Lib.hid hc3
      have HT3 := Lib.hid (HTU.out.trans ((TurnG.of (g := g) ((Below.refl wr.heap.size wr).alloc (Nat.le_refl _) (.cells (svs [[97], [98], [63], [63], [99]]).toArray 9))).trans ht3))
      have HX := Lib.hid (hlt_sgn (s := x) (by
        simp only [List.mem_cons, List.mem_nil_iff, or_false] at hx
        unfold sgnOk
        rcases hx with rfl | rfl | rfl | rfl | rfl <;> simp))
      have hx1 : x.length = 1 := HX.out.2
      have hxl : x.length ≤ 1 := by omega
      have hlim : ¬ 9223372036854775807 < p.length + x.length := by omega
      have HN := Lib.hid (show (p ++ x).getD 0 0 ≠ 63 ∧ 1 ≤ (p ++ x).length ∧ (p ++ x).all hlt = true by
        obtain ⟨a1, a2, a3⟩ := HP.out
        refine ⟨?_, by rw [List.length_append]; omega, by rw [List.all_append, a3, HX.out.1]; rfl⟩
        cases p with
        | nil => simp at a2
        | cons a r => exact a1)
      have HNL := Lib.hid (show (p ++ x).length + (j - 1) = v + 2 by rw [List.length_append]; have := HPL.out; omega)
      have hj1 : (j : Int) - 1 = ((j - 1 : Nat) : Int) := by omega
      have HJ := Lib.hid hj1
      clear hx hc3 ht3 hx1 hj1
      go_wp2_with fail
      exact ⟨⟨j - 1, p ++ x, by omega, by rw [HJ.out], rfl, HNL.out, HN.out, HC3.out, HT3.out⟩, by simp [intOf]; omega⟩
    · obtain rfl : j = 0 := by omega
      have HPO := Lib.hid (patOk_mk (p := p) (by have := HPL.out; omega) (by omega) HP.out.1 HP.out.2.2)
      go_wp2_with fail
      refine (l01Once_any g 4 _ (by omega) HCU.out).mono ?_
      rintro e w3 ⟨t, rfl, hc3, ht3⟩
      have HC3 := Lib.hid hc3
      have HT3 := Lib.hid (HTU.out.trans ht3)
      clear hc3 ht3
      cases t
      · go_wp2_with fail
        go_ret
        exact ⟨p, rfl, HPO.out, HC3.out, HT3.out⟩
      · go_wp2_with fail
        go_ret
        exact ⟨[97, 63, 98, 63], rfl, rfl, HC3.out, HT3.out⟩
def PatR (W : World) (e : Ending) (w' : World) : Prop := ∃ p : List UInt8, e = .returned (.string ⟨p.toArray⟩) ∧ patOk p = true ∧ Below W.heap.size W w'
set_option maxHeartbeats 400000 in
theorem MakePattern_any (A : Option Addr) (n c : Nat) (l : List UInt8) (m : Nat) (W : World) (hr : Rd W W.heap.size A n (bvs l)) (hn : n ≤ 1048576) (hm : m ≤ 100000) : Calls Tryd.prog 25 #[.slice A n c, .int .i64 (m : Int)] W (PatR W) := by
  have HR := Lib.hid hr
  clear hr
  go_enter Tryd.func25, Tryd.ntmps25
  go_wp2_with fail
  refine (l31New_any A n c l m W HR.out hn hm).mono ?_
  rintro e w1 ⟨g, rfl, hg, hcur, hb1⟩
  have HC := Lib.hid hcur
  clear hcur
  go_wp2_with fail
  refine (l20Draw_any g _ HC.out).mono ?_
  rintro e w2 ⟨p, rfl, hp, hc2, ht2⟩
  have HP := Lib.hid hp
  have HT := Lib.hid ht2
  clear hp hc2 ht2
  go_wp2_with fail
  go_ret
  exact ⟨p, rfl, HP.out, below_turn hb1 HT.out hg⟩

/-! ## the contracts where all is well -/
theorem MaxAt.drew {w : World} (h : MaxAt w) : MaxAt w.drew := h
section
variable {p : List UInt8} (hp : patOk p = true)
include hp
theorem tFillP {n : Nat} (hn : n ≤ 400) {t : List UInt8} (ht : t = fillL p n) (w : World) (hm : MaxAt w) : Calls Tryd.prog 20 #[.string ⟨p.toArray⟩, .int .i64 (n : Int)] w fun e w' => e = .returned (.tuple #[.string ⟨t.toArray⟩, .bool true]) ∧ Below w.heap.size w w' := by
  have h := iFillPattern_any p (by have := patOk_len hp; omega) w (n : Int) hm
  rw [show fillPattern p (n : Int) = (t, true) by unfold fillPattern; rw [hp, wi_mk (by omega) (by omega), ht]; rfl] at h
  exact h
theorem tHoles {c : Nat} (hc : cnt p = c) (w : World) (hm : MaxAt w) : Calls Tryd.prog 14 #[.string ⟨p.toArray⟩] w fun e w' => e = .returned (.int .i64 (c : Int)) ∧ Below w.heap.size w w' := by
  have h := iHolesOf_any p (by have := patOk_len hp; omega) w hm
  rw [show holesOf p = (c : Int) by unfold holesOf; rw [hp, hc]; rfl] at h
  exact h
theorem tPatOk (w : World) (hm : MaxAt w) : Calls Tryd.prog 12 #[.string ⟨p.toArray⟩] w fun e w' => e = .returned (.bool true) ∧ Below w.heap.size w w' := by
  have h := iPatternOk_any p (by have := patOk_len hp; omega) w hm
  rw [hp] at h
  exact h
theorem tLetter {i : Nat} (hi : i ≤ 100000) {c : UInt8} (hc : c = (fil p i).1) (w : World) (hm : MaxAt w) : Calls Tryd.prog 18 #[.string ⟨p.toArray⟩, .int .i64 (i : Int)] w fun e w' => e = .returned (.tuple #[.string ⟨[c].toArray⟩, .bool true]) ∧ Below w.heap.size w w' := by
  have h := iLetterOf_any p (by have := patOk_len hp; omega) w (i : Int) hm
  rw [show letterOf p (i : Int) = ([c], true) by unfold letterOf; rw [hp, wi_mk (by omega) (by omega), hc]; rfl] at h
  exact h
theorem tDepth {i : Nat} (hi : i ≤ 100000) {d : Nat} (hd : d = (fil p i).2) (w : World) (hm : MaxAt w) : Calls Tryd.prog 16 #[.string ⟨p.toArray⟩, .int .i64 (i : Int)] w fun e w' => e = .returned (.int .i64 (d : Int)) ∧ Below w.heap.size w w' := by
  have h := iDepthOf_any p (by have := patOk_len hp; omega) w (i : Int) hm
  rw [show depthOf p (i : Int) = (d : Int) by unfold depthOf; rw [hp, wi_mk (by omega) (by omega), hd]; rfl] at h
  exact h
theorem tWith {n : Nat} (hn : n ≤ 400) {t : List UInt8} (ht : t = fillL p n) (w : World) (hm : MaxAt w) : Calls Tryd.prog 24 #[.string ⟨p.toArray⟩, .string ⟨t.toArray⟩, .int .i64 (n : Int)] w fun e w' => e = .returned (.tuple #[.string ⟨t.toArray⟩, .bool true]) ∧ Below w.heap.size w w' := by
  have h := iFillWith_any p t (n : Int) (by have := patOk_len hp; omega) (by rw [ht, fillL_len]; omega) w hm
  rw [show fillWith p t (n : Int) = (t, true) by rw [ht]; exact fillWith_fill hp hn] at h
  exact h
end
end Go.Proofs.YtfjehlmknbhghaaDoor
