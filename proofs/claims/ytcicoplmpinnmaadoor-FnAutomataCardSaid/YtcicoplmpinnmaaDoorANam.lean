/-
  Contracts of SplitAny, FormatSubst, ParseSubst and NamedSubst (reference) and of ParseSubst and NamedSubst (program) at the three names that the law FnAutomata uses. Condition for the program's: internal/bytealg's variable MaxLen holds some number.
-/
import Derived.Test.YtcicoplmpinnmaaDoorUHelp
import Derived.Test.YtcicoplmpinnmaaDoorJoinS
import Derived.Test.YtcicoplmpinnmaaDoorShelf
import Derived.Deep.QuietTactic
namespace Go.Proofs.YtcicoplmpinnmaaDoor
open Go.RowKit

def nThue : List UInt8 := [116, 104, 117, 101]
def nDoub : List UInt8 := [100, 111, 117, 98, 108, 105, 110, 103]
def nRudin : List UInt8 := [114, 117, 100, 105, 110]
def wThue : Wds := [[97, 98], [98, 97]]
def wDoub : Wds := [[97, 98], [97, 97]]
def wRudin : Wds := [[97, 98], [97, 99], [100, 98], [100, 99]]
def tThue : List UInt8 := [97, 98, 44, 98, 97]
def tDoub : List UInt8 := [97, 98, 44, 97, 97]
def tRudin : List UInt8 := [97, 98, 44, 97, 99, 44, 100, 98, 44, 100, 99]
def Name3 (l : List UInt8) : Prop := l = nThue ∨ l = nDoub ∨ l = nRudin
def named3 (l : List UInt8) : Wds := if l = nThue then wThue else if l = nDoub then wDoub else wRudin
/-- what a call that hands back a substitution and a truth value leaves -/
def RetUB (w0 : World) (ss : Wds) (ok : Bool) (e : Ending) (w' : World) : Prop := ∃ A n c, e = .returned (.tuple #[SubV A n c, .bool ok]) ∧ Own w0 w' 9 A n c (svs ss)
/-- the pieces after i letters, and where the next one begins -/
def spl (l : List UInt8) : Nat → Wds × Nat
  | 0 => ([], 0)
  | i + 1 => if l.getD i 0 = 44 then ((spl l i).1 ++ [(l.take i).drop (spl l i).2], i + 1) else spl l i
def split44 (l : List UInt8) : Wds := (spl l l.length).1 ++ [l.drop (spl l l.length).2]
theorem spl_le (l : List UInt8) : ∀ i, (spl l i).2 ≤ i ∧ (spl l i).1.length ≤ i
  | 0 => ⟨Nat.le_refl _, Nat.le_refl _⟩
  | i + 1 => by
    have ih := spl_le l i
    unfold spl
    split
    · exact ⟨Nat.le_refl _, by rw [List.length_append]; simp; omega⟩
    · omega
theorem spl_hit {l : List UInt8} {i : Nat} (hi : i < l.length) (h : l[i] = 44) : spl l (i + 1) = ((spl l i).1 ++ [(l.take i).drop (spl l i).2], i + 1) := by
  have h2 : l.getD i 0 = 44 := by rw [List.getD_eq_getElem?_getD, List.getElem?_eq_getElem hi]; exact h
  show (if _ then _ else _) = _
  rw [if_pos h2]
theorem spl_miss {l : List UInt8} {i : Nat} (hi : i < l.length) (h : l[i] ≠ 44) : spl l (i + 1) = spl l i := by
  have h2 : ¬ l.getD i 0 = 44 := by rw [List.getD_eq_getElem?_getD, List.getElem?_eq_getElem hi]; exact h
  show (if _ then _ else _) = _
  rw [if_neg h2]
set_option maxRecDepth 4096 in
set_option maxHeartbeats 3200000 in
theorem SplitAny_any (l : List UInt8) (W : World) (hl : l.length ≤ 1000) : Calls Tryd.prog 59 #[.string ⟨l.toArray⟩, .string ⟨#[44]⟩] W (RetS 9 W (split44 l)) := by
  have HM0 := Lib.hid (Own.made0 (w0 := W) (w := W) (Below.refl _ _) 9)
  go_enter Tryd.func59, Tryd.ntmps59
  go_wp2
  go_loopw [7, 5, 6] (fun i out fr wr => ∃ (k f : Nat) (A : Option Addr) (m c : Nat), k ≤ l.length ∧ i = .int .i64 k ∧ out = .slice A m c ∧ fr = .int .i64 f ∧ f = (spl l k).2 ∧ Own W wr 9 A m c (svs (spl l k).1)) (fun i _ _ _ => l.length - (intOf i).toNat)
  case atStart => exact ⟨0, 0, _, _, _, Nat.zero_le _, rfl, rfl, rfl, rfl, HM0.out⟩
  case round =>
    clear HM0
    obtain ⟨k, f, A, m, c, hk, rfl, rfl, rfl, hf, hown⟩ := hrel
    have HO := Lib.hid hown
    have hfk : f ≤ k := by rw [hf]; exact (spl_le l k).1
    have hmk : m ≤ k := by have h1 := hown.len; have h2 := (spl_le l k).2; simp only [svs, List.length_map] at h1; omega
    have HF := Lib.hid hf
    clear hown hf
    by_cases hlt : k < l.length
    · have d1 : decide ((k : Int) < (l.length : Int)) = true := by simp; omega
      have i1 : (0 : Int) ≤ (k : Int) := by omega
      have i2 : (k : Int) < (l.length : Int) := by omega
      by_cases h44 : l[k] = 44
      · have HN := Lib.hid (spl_hit hlt h44)
        have g1 : ((l[k].toNat : Int) == 44) = true := by rw [h44]; rfl
        have g2 : (l[k].toNat == 44) = true := by rw [h44]; rfl
        have i3 : (f : Int) ≤ (k : Int) := by omega
        have i4 : (k : Int) ≤ (l.length : Int) := by omega
        have i5 : (0 : Int) ≤ (f : Int) := by omega
        clear h44
        obtain ⟨wo, rfl⟩ : ∃ wo, wo = wr := ⟨_, rfl⟩
        go_wp2
        go_loopw [8, 5, 6] (fun j out fr w2 => j = .int .i64 0 ∧ out = .slice A m c ∧ fr = .int .i64 f ∧ Own W w2 9 A m c (svs (spl l k).1)) (fun _ _ _ _ => 0)
        case atStart => exact ⟨rfl, rfl, rfl, HO.out⟩
        case round =>
          clear HO
          obtain ⟨rfl, rfl, rfl, hown⟩ := hrel
          go_wp2
          go_quiet (fail)
          obtain ⟨q, rfl⟩ : ∃ q, q = nq := ⟨_, rfl⟩
          have HO2 := Lib.hid (hown.drewN q)
          clear hown
          go_wp2_with (at_builtin; refine app_one (.tmp 29) (.tmp 34) _ _ _ 16 rfl rfl Tryd.underlying37 infoS rfl rfl HO2.out rfl rfl (by omega) (by omega) ?_; intro A5 c5 w5 hown5)
          exact ⟨⟨k + 1, k + 1, A5, m + 1, c5, by omega, by go_num, rfl, by go_num, by rw [HN.out], by rw [HN.out, ← HF.out, svs_snoc]; exact hown5⟩, by simp [intOf]; omega⟩
      · have HN := Lib.hid (spl_miss hlt h44)
        have h44n : ¬ l[k].toNat = 44 := fun h => h44 (UInt8.toNat_inj.1 (by rw [h]; rfl))
        have g1 : ((l[k].toNat : Int) == 44) = false := by rw [beq_eq_false_iff_ne]; omega
        have g2 : (l[k].toNat == 44) = false := by rw [beq_eq_false_iff_ne]; exact h44n
        clear h44 h44n
        obtain ⟨wo, rfl⟩ : ∃ wo, wo = wr := ⟨_, rfl⟩
        go_wp2
        go_loopw [8, 5, 6] (fun j out fr w2 => ∃ q : Nat, q ≤ 1 ∧ j = .int .i64 q ∧ out = .slice A m c ∧ fr = .int .i64 f ∧ Own W w2 9 A m c (svs (spl l k).1)) (fun j _ _ _ => 1 - (intOf j).toNat)
        case atStart => exact ⟨0, Nat.zero_le _, rfl, rfl, rfl, HO.out⟩
        case round =>
          clear HO
          obtain ⟨q, hq, rfl, rfl, rfl, hown⟩ := hrel
          by_cases hq0 : q = 0
          · subst hq0
            go_wp2
            go_quiet (fail)
            obtain ⟨q2, rfl⟩ : ∃ q, q = nq := ⟨_, rfl⟩
            have HO2 := Lib.hid (hown.drewN q2)
            clear hown
            go_wp2
            exact ⟨⟨1, Nat.le_refl _, by go_num, rfl, rfl, HO2.out⟩, by simp [intOf]⟩
          · obtain rfl : q = 1 := by omega
            go_wp2
            exact ⟨⟨k + 1, f, A, m, c, by omega, by go_num, rfl, rfl, by rw [HN.out]; exact HF.out, by rw [HN.out]; exact hown⟩, by simp [intOf]; omega⟩
    · obtain rfl : k = l.length := by omega
      have d1 : decide ((l.length : Int) < (l.length : Int)) = false := by simp
      have HE := Lib.hid (show split44 l = (spl l l.length).1 ++ [l.drop f] by unfold split44; rw [← HF.out])
      have i3 : (f : Int) ≤ (l.length : Int) := by omega
      have i5 : (0 : Int) ≤ (f : Int) := by omega
      go_wp2_with (at_builtin; refine app_one (.tmp 38) (.tmp 42) _ _ _ 16 rfl rfl Tryd.underlying37 infoS rfl rfl HO.out rfl rfl (by omega) (by omega) ?_; intro A5 c5 w5 hown5)
      go_ret
      exact ⟨A5, _, c5, rfl, by rw [HE.out, svs_snoc]; exact hown5⟩
theorem sFormat_any {A : Option Addr} {n c : Nat} {ss : Wds} {W : World} (hs : SIn W A n c ss) (hk : sOk ss = true) {t : List UInt8} (ht : Lib.join ss [44] = t) :
    Calls Tryd.prog 61 #[SubV A n c] W fun e w' => e = .returned (.string ⟨t.toArray⟩) ∧ Below W.heap.size W w' := by
  have HM0 := Lib.hid ((Mem.start W).sub 39 A n c)
  have hc := sSubstOk_any A n c ss _ (hs.later HM0.out.bel)
  rw [hk] at hc
  have HC := Lib.hid hc
  have HS := Lib.hid hs
  have HT := Lib.hid ht
  clear hc hs ht
  go_enter Tryd.func61, Tryd.ntmps61
  go_wp2_with fail
  refine HC.out.mono ?_
  rintro e w1 ⟨rfl, hb1⟩
  have HM1 := Lib.hid (HM0.out.later hb1)
  have bs0 := HM1.out.subAt (t := 39) (g := W.heap.size) (A := A) (n := n) (c := c) (by simp)
  clear hb1 HM0 HC
  go_wp2_with fail
  refine (sJoin_any A n c ss [44] _ (HS.out.later HM1.out.bel) (by simp)).mono ?_
  rintro e w2 ⟨rfl, rfl⟩
  rw [HT.out]
  go_wp2
  go_ret
  exact ⟨rfl, HM1.out.bel⟩
set_option maxHeartbeats 1600000 in
theorem sParse_any {l : List UInt8} {ss : Wds} (W : World) (hl : l.length ≤ 40) (hsp : split44 l = ss) (hk : sOk ss = true) (hj : Lib.join ss [44] = l) : Calls Tryd.prog 52 #[.string ⟨l.toArray⟩] W (RetUB W ss true) := by
  have HM0 := Lib.hid ((Mem.start W).sub 39 none 0 0)
  have HSP := Lib.hid hsp
  have HK := Lib.hid hk
  have HJ := Lib.hid hj
  have hn4 := sOk_n hk
  have hlens : Lens ss := fun s hs => by have := (sOk_img hk hs).1; omega
  have HLens := Lib.hid hlens
  have d0 : decide ((40 : Int) < (l.length : Int)) = false := by simp; omega
  clear hsp hk hj hlens
  go_enter Tryd.func52, Tryd.ntmps52
  go_wp2_with fail
  refine (SplitAny_any l _ (by omega)).mono ?_
  rintro e w1 ⟨A1, n1, c1, rfl, o1⟩
  rw [HSP.out] at o1
  have hn1 : n1 ≤ 4 := by have := o1.len; simp only [svs, List.length_map] at this; omega
  have HS1 := Lib.hid (SIn.of o1.rd (by omega) HLens.out o1.cap)
  have HM1 := Lib.hid ((HM0.out.add o1).sub 39 A1 n1 c1)
  have bs1 := HM1.out.subAt (t := 39) (g := w1.heap.size) (A := A1) (n := n1) (c := c1) (by simp)
  have hb1 : Below w1.heap.size w1 (w1.alloc (.cells #[.slice A1 n1 c1] 39)) := (Below.refl _ _).alloc (Nat.le_refl _) _
  have HS2 := Lib.hid (HS1.out.later hb1)
  clear o1 hb1 HM0 HS1
  have hc := sSubstOk_any A1 n1 c1 ss _ HS2.out
  rw [HK.out] at hc
  have HC := Lib.hid hc
  clear hc
  go_wp2_with fail
  refine HC.out.mono ?_
  rintro e w2 ⟨rfl, hb2⟩
  have HM2 := Lib.hid (HM1.out.later hb2)
  have HS3 := Lib.hid (HS2.out.later hb2)
  have bs2 := HM2.out.subAt (t := 39) (g := w1.heap.size) (A := A1) (n := n1) (c := c1) (by simp)
  clear hb2 HM1 HS2 HC bs1
  go_wp2_with fail
  refine (sFormat_any HS3.out HK.out HJ.out).mono ?_
  rintro e w3 ⟨rfl, hb3⟩
  have HM3 := Lib.hid (HM2.out.later hb3)
  have bs3 := HM3.out.subAt (t := 39) (g := w1.heap.size) (A := A1) (n := n1) (c := c1) (by simp)
  have bs4 := HM3.out.subAt (t := 39) (g := W.heap.size) (A := none) (n := 0) (c := 0) (by simp)
  have bf4 := HM3.out.subFree (t := 39) (g := W.heap.size) (A := none) (n := 0) (c := 0) (by simp) 0
  clear hb3 HM2 HS3 bs2
  go_wp2_with fail
  have HM9 := Lib.hid (Mem.sub0 (pre := [_, _]) (post := []) HM3.out A1 n1 c1)
  obtain ⟨w9, hw9⟩ : ∃ w9, w9 = w3.setCell ⟨W.heap.size, 0, none⟩ (.slice A1 n1 c1) := ⟨_, rfl⟩
  rw [← hw9] at HM9 ⊢
  clear hw9 HM3 bs3 bs4 bf4
  have b9 := HM9.out.subAt (t := 39) (g := W.heap.size) (A := A1) (n := n1) (c := c1) (by simp)
  refine bodyPost_ret (v := .tuple #[SubV A1 n1 c1, .bool true]) (by rw [results_cell_tmp rfl]; go_simp) rfl ?_
  exact ⟨A1, n1, c1, rfl, HM9.out.row (r := ⟨9, A1, n1, c1, svs ss⟩) (by simp), HM9.out.bel⟩
set_option maxRecDepth 4096 in
set_option maxHeartbeats 1600000 in
theorem sNamed_any {l : List UInt8} (W : World) (h : Name3 l) : Calls Tryd.prog 38 #[.string ⟨l.toArray⟩] W (RetUB W (named3 l) true) := by
  have HM0 := Lib.hid ((Mem.start W).sub 39 none 0 0)
  rcases h with hn | hn | hn
  · have HE := Lib.hid (show named3 l = wThue by rw [hn]; rfl)
    have g_fib : (l == [102, 105, 98, 111, 110, 97, 99, 99, 105]) = false := by rw [hn]; decide
    have g_thue : (l == [116, 104, 117, 101]) = true := by rw [hn]; decide
    have HC := Lib.hid (fun W => sParse_any (l := tThue) (ss := wThue) W (by decide) (by decide) (by decide) (by decide))
    clear hn
    rw [HE.out]
    go_enter Tryd.func38, Tryd.ntmps38
    go_wp2_with fail
    refine (HC.out _).mono ?_
    rintro e w1 ⟨A1, n1, c1, rfl, o1⟩
    have HM1 := Lib.hid (HM0.out.add o1)
    have bs4 := HM1.out.subAt (t := 39) (g := W.heap.size) (A := none) (n := 0) (c := 0) (by simp)
    have bf4 := HM1.out.subFree (t := 39) (g := W.heap.size) (A := none) (n := 0) (c := 0) (by simp) 0
    clear o1 HC
    go_wp2_with fail
    have HM9 := Lib.hid (Mem.sub0 (pre := [_]) (post := []) HM1.out A1 n1 c1)
    obtain ⟨w9, hw9⟩ : ∃ w9, w9 = w1.setCell ⟨W.heap.size, 0, none⟩ (.slice A1 n1 c1) := ⟨_, rfl⟩
    rw [← hw9] at HM9 ⊢
    clear hw9 HM1 bs4 bf4
    have b9 := HM9.out.subAt (t := 39) (g := W.heap.size) (A := A1) (n := n1) (c := c1) (by simp)
    refine bodyPost_ret (v := .tuple #[SubV A1 n1 c1, .bool true]) (by rw [results_cell_tmp rfl]; go_simp) rfl ?_
    exact ⟨A1, n1, c1, rfl, HM9.out.row (r := ⟨9, A1, n1, c1, svs wThue⟩) (by simp), HM9.out.bel⟩
  · have HE := Lib.hid (show named3 l = wDoub by rw [hn]; rfl)
    have g_fib : (l == [102, 105, 98, 111, 110, 97, 99, 99, 105]) = false := by rw [hn]; decide
    have g_thue : (l == [116, 104, 117, 101]) = false := by rw [hn]; decide
    have g_doub : (l == [100, 111, 117, 98, 108, 105, 110, 103]) = true := by rw [hn]; decide
    have HC := Lib.hid (fun W => sParse_any (l := tDoub) (ss := wDoub) W (by decide) (by decide) (by decide) (by decide))
    clear hn
    rw [HE.out]
    go_enter Tryd.func38, Tryd.ntmps38
    go_wp2_with fail
    refine (HC.out _).mono ?_
    rintro e w1 ⟨A1, n1, c1, rfl, o1⟩
    have HM1 := Lib.hid (HM0.out.add o1)
    have bs4 := HM1.out.subAt (t := 39) (g := W.heap.size) (A := none) (n := 0) (c := 0) (by simp)
    have bf4 := HM1.out.subFree (t := 39) (g := W.heap.size) (A := none) (n := 0) (c := 0) (by simp) 0
    clear o1 HC
    go_wp2_with fail
    have HM9 := Lib.hid (Mem.sub0 (pre := [_]) (post := []) HM1.out A1 n1 c1)
    obtain ⟨w9, hw9⟩ : ∃ w9, w9 = w1.setCell ⟨W.heap.size, 0, none⟩ (.slice A1 n1 c1) := ⟨_, rfl⟩
    rw [← hw9] at HM9 ⊢
    clear hw9 HM1 bs4 bf4
    have b9 := HM9.out.subAt (t := 39) (g := W.heap.size) (A := A1) (n := n1) (c := c1) (by simp)
    refine bodyPost_ret (v := .tuple #[SubV A1 n1 c1, .bool true]) (by rw [results_cell_tmp rfl]; go_simp) rfl ?_
    exact ⟨A1, n1, c1, rfl, HM9.out.row (r := ⟨9, A1, n1, c1, svs wDoub⟩) (by simp), HM9.out.bel⟩
  · have HE := Lib.hid (show named3 l = wRudin by rw [hn]; rfl)
    have g_fib : (l == [102, 105, 98, 111, 110, 97, 99, 99, 105]) = false := by rw [hn]; decide
    have g_thue : (l == [116, 104, 117, 101]) = false := by rw [hn]; decide
    have g_doub : (l == [100, 111, 117, 98, 108, 105, 110, 103]) = false := by rw [hn]; decide
    have g_trib : (l == [116, 114, 105, 98, 111, 110, 97, 99, 99, 105]) = false := by rw [hn]; decide
    have g_silv : (l == [115, 105, 108, 118, 101, 114]) = false := by rw [hn]; decide
    have g_sqf : (l == [115, 113, 117, 97, 114, 101, 102, 114, 101, 101]) = false := by rw [hn]; decide
    have g_rud : (l == [114, 117, 100, 105, 110]) = true := by rw [hn]; decide
    have HC := Lib.hid (fun W => sParse_any (l := tRudin) (ss := wRudin) W (by decide) (by decide) (by decide) (by decide))
    clear hn
    rw [HE.out]
    go_enter Tryd.func38, Tryd.ntmps38
    go_wp2_with fail
    refine (HC.out _).mono ?_
    rintro e w1 ⟨A1, n1, c1, rfl, o1⟩
    have HM1 := Lib.hid (HM0.out.add o1)
    have bs4 := HM1.out.subAt (t := 39) (g := W.heap.size) (A := none) (n := 0) (c := 0) (by simp)
    have bf4 := HM1.out.subFree (t := 39) (g := W.heap.size) (A := none) (n := 0) (c := 0) (by simp) 0
    clear o1 HC
    go_wp2_with fail
    have HM9 := Lib.hid (Mem.sub0 (pre := [_]) (post := []) HM1.out A1 n1 c1)
    obtain ⟨w9, hw9⟩ : ∃ w9, w9 = w1.setCell ⟨W.heap.size, 0, none⟩ (.slice A1 n1 c1) := ⟨_, rfl⟩
    rw [← hw9] at HM9 ⊢
    clear hw9 HM1 bs4 bf4
    have b9 := HM9.out.subAt (t := 39) (g := W.heap.size) (A := A1) (n := n1) (c := c1) (by simp)
    refine bodyPost_ret (v := .tuple #[SubV A1 n1 c1, .bool true]) (by rw [results_cell_tmp rfl]; go_simp) rfl ?_
    exact ⟨A1, n1, c1, rfl, HM9.out.row (r := ⟨9, A1, n1, c1, svs wRudin⟩) (by simp), HM9.out.bel⟩
/-- internal/bytealg's MaxLen holds some number -/
def MaxA (w : World) : Prop := ∃ m, w.cell? ⟨0, 0, none⟩ = some (.int .i64 m)
theorem MaxA.later {w w' : World} (h : MaxA w) (hb : Below w.heap.size w w') : MaxA w' := by
  obtain ⟨m, hm⟩ := h
  exact ⟨m, by rw [hb.cell (World.block_lt_of_cell? w _ hm)]; exact hm⟩
theorem iSplit_any {l : List UInt8} {ss : Wds} (W : World) (hm : MaxA W) (hl : l.length ≤ 40) (hs : ss.length ≤ 40) (hc : Lib.countB ⟨l.toArray⟩ ⟨#[44]⟩ + 1 = ss.length) (hsp : Lib.splitB ⟨#[44]⟩ 0 (Lib.countB ⟨l.toArray⟩ ⟨#[44]⟩) ⟨l.toArray⟩ = ss.map fun x => ⟨x.toArray⟩) :
    Calls Tryd.prog 48 #[.string ⟨l.toArray⟩, .string ⟨#[44]⟩] W (RetS 9 W ss) := by
  obtain ⟨m, hm⟩ := hm
  refine (Tryd.strings_Split ⟨l.toArray⟩ ⟨#[44]⟩ m W (by show l.toArray.size < _; simp; omega) hm (by decide)).mono ?_
  rintro e w' ⟨rfl, rfl⟩
  have ho := Own.made (w0 := W) (w := W) (Below.refl _ _) 9 (svs ss) (by rw [svs, List.length_map]; omega)
  rw [show (svs ss).length = Lib.countB ⟨l.toArray⟩ ⟨#[44]⟩ + 1 by rw [svs, List.length_map, hc]] at ho
  rw [hsp, List.map_map]
  exact ⟨_, _, _, rfl, ho⟩
set_option maxHeartbeats 1600000 in
theorem iParse_any {l : List UInt8} {ss : Wds} (W : World) (hm : MaxA W) (hl : l.length ≤ 40) (hc : Lib.countB ⟨l.toArray⟩ ⟨#[44]⟩ + 1 = ss.length) (hsp : Lib.splitB ⟨#[44]⟩ 0 (Lib.countB ⟨l.toArray⟩ ⟨#[44]⟩) ⟨l.toArray⟩ = ss.map fun x => ⟨x.toArray⟩) (hk : sOk ss = true) :
    Calls Tryd.prog 30 #[.string ⟨l.toArray⟩] W (RetUB W ss true) := by
  have HM0 := Lib.hid ((Mem.start W).sub 39 none 0 0)
  have hn4 := sOk_n hk
  have HSP := Lib.hid (iSplit_any _ (hm.later HM0.out.bel) hl (by omega) hc hsp)
  have HK := Lib.hid hk
  have hlens : Lens ss := fun s hs => by have := (sOk_img hk hs).1; omega
  have HLens := Lib.hid hlens
  clear hsp hk hlens hc hm
  go_enter Tryd.func30, Tryd.ntmps30
  go_wp2_with fail
  refine HSP.out.mono ?_
  rintro e w1 ⟨A1, n1, c1, rfl, o1⟩
  have hn1 : n1 ≤ 4 := by have := o1.len; simp only [svs, List.length_map] at this; omega
  have HS1 := Lib.hid (SIn.of o1.rd (by omega) HLens.out o1.cap)
  have HM1 := Lib.hid ((HM0.out.add o1).sub 39 A1 n1 c1)
  have bs1 := HM1.out.subAt (t := 39) (g := w1.heap.size) (A := A1) (n := n1) (c := c1) (by simp)
  have hb1 : Below w1.heap.size w1 (w1.alloc (.cells #[.slice A1 n1 c1] 39)) := (Below.refl _ _).alloc (Nat.le_refl _) _
  have HS2 := Lib.hid (HS1.out.later hb1)
  clear o1 hb1 HM0 HS1 HSP
  have hc := iSubstOk_any A1 n1 c1 ss _ HS2.out
  rw [HK.out] at hc
  have HC := Lib.hid hc
  clear hc
  go_wp2_with fail
  refine HC.out.mono ?_
  rintro e w3 ⟨rfl, hb2⟩
  have HM3 := Lib.hid (HM1.out.later hb2)
  have bs3 := HM3.out.subAt (t := 39) (g := w1.heap.size) (A := A1) (n := n1) (c := c1) (by simp)
  have bs4 := HM3.out.subAt (t := 39) (g := W.heap.size) (A := none) (n := 0) (c := 0) (by simp)
  have bf4 := HM3.out.subFree (t := 39) (g := W.heap.size) (A := none) (n := 0) (c := 0) (by simp) 0
  clear hb2 HM1 HS2 HC bs1
  go_wp2_with fail
  have HM9 := Lib.hid (Mem.sub0 (pre := [_, _]) (post := []) HM3.out A1 n1 c1)
  obtain ⟨w9, hw9⟩ : ∃ w9, w9 = w3.setCell ⟨W.heap.size, 0, none⟩ (.slice A1 n1 c1) := ⟨_, rfl⟩
  rw [← hw9] at HM9 ⊢
  clear hw9 HM3 bs3 bs4 bf4
  have b9 := HM9.out.subAt (t := 39) (g := W.heap.size) (A := A1) (n := n1) (c := c1) (by simp)
  refine bodyPost_ret (v := .tuple #[SubV A1 n1 c1, .bool true]) (by rw [results_cell_tmp rfl]; go_simp) rfl ?_
  exact ⟨A1, n1, c1, rfl, HM9.out.row (r := ⟨9, A1, n1, c1, svs ss⟩) (by simp), HM9.out.bel⟩
set_option maxRecDepth 4096 in
set_option maxHeartbeats 1600000 in
theorem iNamed_any {l : List UInt8} (W : World) (hm : MaxA W) (h : Name3 l) : Calls Tryd.prog 14 #[.string ⟨l.toArray⟩] W (RetUB W (named3 l) true) := by
  have HM0 := Lib.hid ((Mem.start W).sub 39 none 0 0)
  rcases h with hn | hn | hn
  · have HE := Lib.hid (show named3 l = wThue by rw [hn]; rfl)
    have g_fib : (l == [102, 105, 98, 111, 110, 97, 99, 99, 105]) = false := by rw [hn]; decide
    have g_thue : (l == [116, 104, 117, 101]) = true := by rw [hn]; decide
    have HC := Lib.hid (iParse_any (l := tThue) (ss := wThue) _ (hm.later HM0.out.bel) (by decide) (by decide +kernel) (by decide +kernel) (by decide))
    clear hn
    rw [HE.out]
    go_enter Tryd.func14, Tryd.ntmps14
    go_wp2_with fail
    refine (HC.out).mono ?_
    rintro e w1 ⟨A1, n1, c1, rfl, o1⟩
    have HM1 := Lib.hid (HM0.out.add o1)
    have bs4 := HM1.out.subAt (t := 39) (g := W.heap.size) (A := none) (n := 0) (c := 0) (by simp)
    have bf4 := HM1.out.subFree (t := 39) (g := W.heap.size) (A := none) (n := 0) (c := 0) (by simp) 0
    clear o1 HC
    go_wp2_with fail
    have HM9 := Lib.hid (Mem.sub0 (pre := [_]) (post := []) HM1.out A1 n1 c1)
    obtain ⟨w9, hw9⟩ : ∃ w9, w9 = w1.setCell ⟨W.heap.size, 0, none⟩ (.slice A1 n1 c1) := ⟨_, rfl⟩
    rw [← hw9] at HM9 ⊢
    clear hw9 HM1 bs4 bf4
    have b9 := HM9.out.subAt (t := 39) (g := W.heap.size) (A := A1) (n := n1) (c := c1) (by simp)
    refine bodyPost_ret (v := .tuple #[SubV A1 n1 c1, .bool true]) (by rw [results_cell_tmp rfl]; go_simp) rfl ?_
    exact ⟨A1, n1, c1, rfl, HM9.out.row (r := ⟨9, A1, n1, c1, svs wThue⟩) (by simp), HM9.out.bel⟩
  · have HE := Lib.hid (show named3 l = wDoub by rw [hn]; rfl)
    have g_fib : (l == [102, 105, 98, 111, 110, 97, 99, 99, 105]) = false := by rw [hn]; decide
    have g_thue : (l == [116, 104, 117, 101]) = false := by rw [hn]; decide
    have g_doub : (l == [100, 111, 117, 98, 108, 105, 110, 103]) = true := by rw [hn]; decide
    have HC := Lib.hid (iParse_any (l := tDoub) (ss := wDoub) _ (hm.later HM0.out.bel) (by decide) (by decide +kernel) (by decide +kernel) (by decide))
    clear hn
    rw [HE.out]
    go_enter Tryd.func14, Tryd.ntmps14
    go_wp2_with fail
    refine (HC.out).mono ?_
    rintro e w1 ⟨A1, n1, c1, rfl, o1⟩
    have HM1 := Lib.hid (HM0.out.add o1)
    have bs4 := HM1.out.subAt (t := 39) (g := W.heap.size) (A := none) (n := 0) (c := 0) (by simp)
    have bf4 := HM1.out.subFree (t := 39) (g := W.heap.size) (A := none) (n := 0) (c := 0) (by simp) 0
    clear o1 HC
    go_wp2_with fail
    have HM9 := Lib.hid (Mem.sub0 (pre := [_]) (post := []) HM1.out A1 n1 c1)
    obtain ⟨w9, hw9⟩ : ∃ w9, w9 = w1.setCell ⟨W.heap.size, 0, none⟩ (.slice A1 n1 c1) := ⟨_, rfl⟩
    rw [← hw9] at HM9 ⊢
    clear hw9 HM1 bs4 bf4
    have b9 := HM9.out.subAt (t := 39) (g := W.heap.size) (A := A1) (n := n1) (c := c1) (by simp)
    refine bodyPost_ret (v := .tuple #[SubV A1 n1 c1, .bool true]) (by rw [results_cell_tmp rfl]; go_simp) rfl ?_
    exact ⟨A1, n1, c1, rfl, HM9.out.row (r := ⟨9, A1, n1, c1, svs wDoub⟩) (by simp), HM9.out.bel⟩
  · have HE := Lib.hid (show named3 l = wRudin by rw [hn]; rfl)
    have g_fib : (l == [102, 105, 98, 111, 110, 97, 99, 99, 105]) = false := by rw [hn]; decide
    have g_thue : (l == [116, 104, 117, 101]) = false := by rw [hn]; decide
    have g_doub : (l == [100, 111, 117, 98, 108, 105, 110, 103]) = false := by rw [hn]; decide
    have g_trib : (l == [116, 114, 105, 98, 111, 110, 97, 99, 99, 105]) = false := by rw [hn]; decide
    have g_silv : (l == [115, 105, 108, 118, 101, 114]) = false := by rw [hn]; decide
    have g_sqf : (l == [115, 113, 117, 97, 114, 101, 102, 114, 101, 101]) = false := by rw [hn]; decide
    have g_rud : (l == [114, 117, 100, 105, 110]) = true := by rw [hn]; decide
    have HC := Lib.hid (iParse_any (l := tRudin) (ss := wRudin) _ (hm.later HM0.out.bel) (by decide) (by decide +kernel) (by decide +kernel) (by decide))
    clear hn
    rw [HE.out]
    go_enter Tryd.func14, Tryd.ntmps14
    go_wp2_with fail
    refine (HC.out).mono ?_
    rintro e w1 ⟨A1, n1, c1, rfl, o1⟩
    have HM1 := Lib.hid (HM0.out.add o1)
    have bs4 := HM1.out.subAt (t := 39) (g := W.heap.size) (A := none) (n := 0) (c := 0) (by simp)
    have bf4 := HM1.out.subFree (t := 39) (g := W.heap.size) (A := none) (n := 0) (c := 0) (by simp) 0
    clear o1 HC
    go_wp2_with fail
    have HM9 := Lib.hid (Mem.sub0 (pre := [_]) (post := []) HM1.out A1 n1 c1)
    obtain ⟨w9, hw9⟩ : ∃ w9, w9 = w1.setCell ⟨W.heap.size, 0, none⟩ (.slice A1 n1 c1) := ⟨_, rfl⟩
    rw [← hw9] at HM9 ⊢
    clear hw9 HM1 bs4 bf4
    have b9 := HM9.out.subAt (t := 39) (g := W.heap.size) (A := A1) (n := n1) (c := c1) (by simp)
    refine bodyPost_ret (v := .tuple #[SubV A1 n1 c1, .bool true]) (by rw [results_cell_tmp rfl]; go_simp) rfl ?_
    exact ⟨A1, n1, c1, rfl, HM9.out.row (r := ⟨9, A1, n1, c1, svs wRudin⟩) (by simp), HM9.out.bel⟩
end Go.Proofs.YtcicoplmpinnmaaDoor
