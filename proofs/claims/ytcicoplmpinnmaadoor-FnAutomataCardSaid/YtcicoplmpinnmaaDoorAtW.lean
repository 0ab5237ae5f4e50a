/-
  The walk of the law FnAutomata. Condition: internal/bytealg's variable MaxLen holds some number.
-/
import Derived.Test.YtcicoplmpinnmaaDoorAPl
import Derived.Test.YtcicoplmpinnmaaDoorASeI
import Derived.Test.YtcicoplmpinnmaaDoorADrw
import Derived.Test.YtcicoplmpinnmaaDoorFrame
import Derived.Deep.DeepCutAuto
import Derived.Deep.QuietTactic
namespace Go.Proofs.YtcicoplmpinnmaaDoor
open Go.RowKit

/-! ## the automata at hand -/
def AtIn (w : World) (g b : Nat) (A : Option Addr) (n c : Nat) (x : Tab) (o : List UInt8) : Prop := BoxAt w g (b : Int) A n c o ∧ GIn w A n c x ∧ aOk (b : Int) x o = true
abbrev AtA := Nat × Nat × Option Addr × Nat × Nat × Tab × List UInt8
def Pa (w0 w : World) (qs : List AtA) : Prop := Below w0.heap.size w0 w ∧ ∀ q ∈ qs, AtIn w q.1 q.2.1 q.2.2.1 q.2.2.2.1 q.2.2.2.2.1 q.2.2.2.2.2.1 q.2.2.2.2.2.2
theorem AtIn.later {w w' : World} {g b : Nat} {A : Option Addr} {n c : Nat} {x : Tab} {o : List UInt8} (h : AtIn w g b A n c x o) (hb : Below w.heap.size w w') : AtIn w' g b A n c x o := ⟨h.1.later hb, h.2.1.later hb, h.2.2⟩
theorem Pa.later {w0 w w' : World} {qs : List AtA} (h : Pa w0 w qs) (hb : Below w.heap.size w w') : Pa w0 w' qs := ⟨h.1.trans (hb.mono h.1.size), fun q hq => (h.2 q hq).later hb⟩
theorem Pa.at {w0 w : World} {qs : List AtA} (h : Pa w0 w qs) {g b : Nat} {A : Option Addr} {n c : Nat} {x : Tab} {o : List UInt8} (hm : (g, b, A, n, c, x, o) ∈ qs) : AtIn w g b A n c x o := h.2 _ hm
theorem Pa.sub {w0 w : World} {qs bs : List AtA} (h : Pa w0 w qs) (hs : ∀ q ∈ bs, q ∈ qs) : Pa w0 w bs := ⟨h.1, fun q hq => h.2 q (hs q hq)⟩
theorem gin_ofA {w w' : World} {e : TypeId} {A : Option Addr} {n c : Nat} {rs : List Row} {b : Nat} {x : Tab} {o : List UInt8} (hm : Mem w w' (⟨e, A, n, c, rs.map SVal⟩ :: rs)) (hx : rs.map Row.xs = x.map ivs) (hk : aOk (b : Int) x o = true) : GIn w' A n c x := by
  have hrd : RdG w' A n rs := Mem.rdG hm List.mem_cons_self (fun r hr => List.mem_cons_of_mem _ hr)
  have ho : Own w w' e A n c (rs.map SVal) := ⟨hm.row0, hm.bel⟩
  have hl := xs_len hx
  have hn : rs.length = n := hrd.len
  obtain ⟨hgd, _⟩ := aOk_fit hk
  have h8 := hgd.2.2.2.1
  exact GIn.of hrd hx (by omega) (fun z hz => by have := (hgd.2.2.2.2 z hz).1; have := hgd.2.1; omega) ho.cap ho.capMax
/-- an automaton handed back and boxed -/
theorem Pa.add {w0 w w' : World} {qs : List AtA} (h : Pa w0 w qs) {e t : TypeId} {A : Option Addr} {n c : Nat} {rs : List Row} {b : Nat} {x : Tab} {o : List UInt8} (hm : Mem w w' (⟨e, A, n, c, rs.map SVal⟩ :: rs)) (hx : rs.map Row.xs = x.map ivs) (hk : aOk (b : Int) x o = true) :
    Pa w0 (w'.alloc (.cells #[.int .i64 (b : Int), .slice A n c, .string ⟨o.toArray⟩] t)) ((w'.heap.size, b, A, n, c, x, o) :: qs) := by
  have hb : Below w'.heap.size w' (w'.alloc (.cells #[.int .i64 (b : Int), .slice A n c, .string ⟨o.toArray⟩] t)) := Below.boxed _ _
  have h2 := (h.later hm.bel).later hb
  refine ⟨h2.1, fun q hq => ?_⟩
  rcases List.mem_cons.1 hq with rfl | hq
  · exact ⟨BoxAt.made w' t _ _ _ _ _, (gin_ofA hm hx hk).later hb, hk⟩
  · exact h2.2 q hq
section
variable {w : World} {g b : Nat} {A : Option Addr} {n c : Nat} {x : Tab} {o : List UInt8}
theorem AtIn.olen (h : AtIn w g b A n c x o) : o.length ≤ 8 := by
  have := aOk_fit h.2.2
  have := this.1.2.2.2.1
  omega
theorem AtIn.nlen (h : AtIn w g b A n c x o) : x.length = n ∧ 1 ≤ n ∧ n ≤ 8 := by
  have h1 := aOk_fit h.2.2
  have h2 := h.2.1.len
  have h3 := h1.1.2.2
  omega
theorem zAutoOk (h : AtIn w g b A n c x o) : Calls Tryd.prog 8 #[AutoV (b : Int) A n c o] w fun e w' => e = .returned (.bool true) ∧ Below w.heap.size w w' := by
  have h1 := iAutoOk_any (b : Int) A n c x o w h.2.1 (by have := h.olen; omega)
  rw [h.2.2] at h1
  exact h1
theorem zAutoWord (h : AtIn w g b A n c x o) (N : Nat) (hN : N ≤ 400) {t : List UInt8} (ht : aWord x o b N = t) :
    Calls Tryd.prog 6 #[AutoV (b : Int) A n c o, .int .i64 (N : Int)] w fun e w' => e = .returned (.tuple #[.string ⟨t.toArray⟩, .bool true]) ∧ Below w.heap.size w w' := iAutoWord_any w h.2.1 h.2.2 N hN ht
theorem zRunAuto (h : AtIn w g b A n c x o) (k : Nat) (hk : k ≤ 65535) {t : UInt8} (ht : aLet x o b k = t) :
    Calls Tryd.prog 11 #[AutoV (b : Int) A n c o, .int .i64 (k : Int)] w fun e w' => e = .returned (.tuple #[.string ⟨[t].toArray⟩, .bool true]) ∧ Below w.heap.size w w' := iRunAuto_any w h.2.1 h.2.2 k (by omega) ht
theorem zSmall (h : AtIn w g b A n c x o) {y : Tab} {p : List UInt8} (hy : smTab x o b = y) (hp : smOut x o b = p) : Calls Tryd.prog 7 #[AutoV (b : Int) A n c o] w (RetAB 54 w (b : Int) y p true) := by
  have h1 := cSmallI (b : Int) A n c x o w h.2.1 (by have := h.olen; omega)
  obtain ⟨e1, e2, e3⟩ := smT_is h.2.2
  rw [e1, e2, e3, h.2.2, hy, hp] at h1
  exact h1
theorem zSame (h : AtIn w g b A n c x o) {g2 b2 : Nat} {B : Option Addr} {m d : Nat} {y : Tab} {p : List UInt8} (h2 : AtIn w g2 b2 B m d y p) (hs : sameL (b : Int) x o (b2 : Int) y p = true) :
    Calls Tryd.prog 9 #[AutoV (b : Int) A n c o, AutoV (b2 : Int) B m d p] w fun e w' => e = .returned (.bool true) ∧ Below w.heap.size w w' := by
  have h1 := cSameI (b : Int) (b2 : Int) A B n m c d x y o p w h.2.1 h2.2.1 (by have := h.olen; omega) (by have := h2.olen; omega)
  rw [hs] at h1
  exact h1
theorem zKernel (h : AtIn w g b A n c x o) {z : Int} (hz : kerSize (b : Int) x o = z) : Calls Tryd.prog 13 #[AutoV (b : Int) A n c o] w fun e w' => e = .returned (.int .i64 z) ∧ Below w.heap.size w w' := by
  have h1 := cKernelI (b : Int) A n c x o w h.2.1 (by have := h.olen; omega)
  rw [hz] at h1
  exact h1
theorem zTwice (h : AtIn w g b A n c x o) : Calls Tryd.prog 12 #[AutoV (b : Int) A n c o] w (RetAu 54 w (b : Int) (twTab x b) (o ++ o)) :=
  MakeTwice_any b A n c x o (aOk_fit h.2.2).1 h.olen w h.2.1
end
set_option maxRecDepth 100000 in
set_option maxHeartbeats 40000000 in
theorem walk_FnAutomata (A : Option Addr) (n c : Nat) (l : List UInt8) (w : World) (h : BytesArg w A n c l) (hm : MaxA w) : Calls Tryd.prog 3 #[.slice A n c] w fun e w' => e = .returned (.bool true) ∧ Below w.heap.size w w' := by
  obtain ⟨hrd, hnc, hcm⟩ := h
  by_cases hbig : n ≤ 1048576
  case neg =>
    go_enter Tryd.func3, Tryd.ntmps3
    go_wp2_with fail
    go_ret
    exact ⟨rfl, Below.refl _ _⟩
  have HR := Lib.hid hrd
  have HMax := Lib.hid hm
  clear hrd hm
  go_enter Tryd.func3, Tryd.ntmps3
  go_wp2_with fail
  refine (MakeAuto_any A n c l 0 w HR.out hbig (by omega)).mono ?_
  rintro e w1 ⟨b, A3, n3, c3, x, o, rs3, rfl, hk3, hm3, hx3⟩
  have P1 := Pa.add (t := 25) (⟨Below.refl _ _, fun q hq => by cases hq⟩ : Pa w w []) hm3 hx3 hk3
  have HK3 := Lib.hid hk3
  obtain ⟨bx0, bx1, bx2⟩ := (P1.at (g := w1.heap.size) (b := b) (A := A3) (n := n3) (c := c3) (x := x) (o := o) (by simp)).1
  clear hm3 hx3 hk3
  go_wp2_with fail
  obtain ⟨g3, hg3⟩ : ∃ g, g = w1.heap.size := ⟨_, rfl⟩
  obtain ⟨w2, hw2⟩ : ∃ w2, w2 = w1.alloc (.cells #[.int .i64 (b : Int), .slice A3 n3 c3, .string ⟨o.toArray⟩] 25) := ⟨_, rfl⟩
  rw [← hw2, ← hg3] at P1
  rw [← hw2, ← hg3]
  have hnl := (P1.at (g := g3) (b := b) (A := A3) (n := n3) (c := c3) (x := x) (o := o) (by simp)).nlen
  have hol := (P1.at (g := g3) (b := b) (A := A3) (n := n3) (c := c3) (x := x) (o := o) (by simp)).olen
  obtain ⟨hxl, hn1, hn8⟩ := hnl
  have HXL := Lib.hid hxl
  clear bx0 bx1 bx2 hw2 hg3 hxl
  refine (MakeSize_any A n c l 20 0 60 _ (HR.out.later P1.1) hbig (by omega) (by omega) (by omega)).mono ?_
  rintro e w3 ⟨N, rfl, hN0, hN, hb3⟩
  have P2 := P1.later hb3
  obtain ⟨bx0, bx1, bx2⟩ := (P2.at (g := g3) (b := b) (A := A3) (n := n3) (c := c3) (x := x) (o := o) (by simp)).1
  obtain ⟨W5, hW5⟩ : ∃ W5, aWord x o b N = W5 := ⟨_, rfl⟩
  have HW5 := Lib.hid hW5
  have HWL := Lib.hid (show W5.length = N by rw [← hW5, aWord_len])
  clear P1 hb3 hN0 hW5
  go_wp2_with fail
  refine (zAutoWord (P2.at (g := g3) (b := b) (A := A3) (n := n3) (c := c3) (x := x) (o := o) (by simp)) N (by omega) HW5.out).mono ?_
  rintro e w4 ⟨rfl, hb4⟩
  have P3 := P2.later hb4
  clear P2 hb4 bx0 bx1 bx2
  obtain ⟨bx0, bx1, bx2⟩ := (P3.at (g := g3) (b := b) (A := A3) (n := n3) (c := c3) (x := x) (o := o) (by simp)).1
  obtain ⟨y, hy⟩ : ∃ y, smTab x o b = y := ⟨_, rfl⟩
  obtain ⟨p, hp⟩ : ∃ p, smOut x o b = p := ⟨_, rfl⟩
  have HKY := Lib.hid (show aOk (b : Int) y p = true by rw [← hy, ← hp]; exact small_aOk HK3.out)
  have HSW := Lib.hid (show aWord y p b N = W5 by rw [← hy, ← hp, small_word HK3.out]; exact HW5.out)
  have HSH := Lib.hid (show y.length ≤ x.length by rw [← hy]; exact small_short HK3.out)
  have HSA := Lib.hid (show sameL (b : Int) x o (b : Int) y p = true by rw [← hy, ← hp]; exact (same_small HK3.out).1)
  have HSB := Lib.hid (show sameL (b : Int) y p (b : Int) x o = true by rw [← hy, ← hp]; exact (same_small HK3.out).2)
  have HLT := Lib.hid (show ∀ k, aLet y p b k = aLet x o b k from fun k => by rw [← hy, ← hp]; exact small_let (aOk_fit HK3.out).1 k)
  have HTW := Lib.hid (fun h4 => show sameL (b : Int) x o (b : Int) (twTab x b) (o ++ o) = true ∧ smTab (twTab x b) (o ++ o) b = y ∧ smOut (twTab x b) (o ++ o) b = p from by rw [← hy, ← hp]; exact same_twice HK3.out h4)
  have HY := Lib.hid hy
  have HP := Lib.hid hp
  clear hy hp
  go_wp2_with fail
  refine (zSmall (P3.at (g := g3) (b := b) (A := A3) (n := n3) (c := c3) (x := x) (o := o) (by simp)) HY.out HP.out).mono ?_
  rintro e w5 ⟨A7, n7, c7, rs7, rfl, hm7, hx7⟩
  have P4 := P3.add (t := 25) hm7 hx7 HKY.out
  clear hm7 hx7 P3 bx0 bx1 bx2
  obtain ⟨by0, by1, by2⟩ := (P4.at (g := w5.heap.size) (b := b) (A := A7) (n := n7) (c := c7) (x := y) (o := p) (by simp)).1
  go_wp2_with fail
  obtain ⟨g7, hg7⟩ : ∃ g, g = w5.heap.size := ⟨_, rfl⟩
  obtain ⟨w6, hw6⟩ : ∃ w6, w6 = w5.alloc (.cells #[.int .i64 (b : Int), .slice A7 n7 c7, .string ⟨p.toArray⟩] 25) := ⟨_, rfl⟩
  rw [← hw6, ← hg7] at P4
  rw [← hw6, ← hg7]
  have hnl7 := (P4.at (g := g7) (b := b) (A := A7) (n := n7) (c := c7) (x := y) (o := p) (by simp)).nlen
  have hn73 : n7 ≤ n3 := by have := HSH.out; have := HXL.out; omega
  have HYL := Lib.hid hnl7.1
  clear by0 by1 by2 hw6 hg7 hnl7
  refine (zAutoWord (P4.at (g := g7) (b := b) (A := A7) (n := n7) (c := c7) (x := y) (o := p) (by simp)) N (by omega) HSW.out).mono ?_
  rintro e w7 ⟨rfl, hb7⟩
  have P5 := P4.later hb7
  clear P4 hb7
  go_upto_region 8 with (fail)
  go_cut [111] (fun s wc => s = .bool false ∧ Pa w wc [(g7, b, A7, n7, c7, y, p), (g3, b, A3, n3, c3, x, o)])
  case first => as_aux_lemma =>
    obtain ⟨bx0, bx1, bx2⟩ := (P5.at (g := g3) (b := b) (A := A3) (n := n3) (c := c3) (x := x) (o := o) (by simp)).1
    obtain ⟨by0, by1, by2⟩ := (P5.at (g := g7) (b := b) (A := A7) (n := n7) (c := c7) (x := y) (o := p) (by simp)).1
    have hwl := HWL.out
    have d3 : decide ((n3 : Int) < (n7 : Int)) = false := by simp; omega
    have d4 : decide (n3 < n7) = false := by simp; omega
    go_wp2_with fail
    refine (zAutoOk (P5.at (g := g3) (b := b) (A := A3) (n := n3) (c := c3) (x := x) (o := o) (by simp))).mono ?_
    rintro e v6 ⟨rfl, hb⟩
    have P6 := P5.later hb
    clear P5 hb bx0 bx1 bx2 by0 by1 by2
    obtain ⟨bx0, bx1, bx2⟩ := (P6.at (g := g3) (b := b) (A := A3) (n := n3) (c := c3) (x := x) (o := o) (by simp)).1
    obtain ⟨by0, by1, by2⟩ := (P6.at (g := g7) (b := b) (A := A7) (n := n7) (c := c7) (x := y) (o := p) (by simp)).1
    go_wp2_with fail
    refine (zAutoOk (P6.at (g := g7) (b := b) (A := A7) (n := n7) (c := c7) (x := y) (o := p) (by simp))).mono ?_
    rintro e v7 ⟨rfl, hb⟩
    have P7 := P6.later hb
    clear P6 hb bx0 bx1 bx2 by0 by1 by2
    obtain ⟨bx0, bx1, bx2⟩ := (P7.at (g := g3) (b := b) (A := A3) (n := n3) (c := c3) (x := x) (o := o) (by simp)).1
    obtain ⟨by0, by1, by2⟩ := (P7.at (g := g7) (b := b) (A := A7) (n := n7) (c := c7) (x := y) (o := p) (by simp)).1
    go_wp2_with fail
    refine (zSame (P7.at (g := g3) (b := b) (A := A3) (n := n3) (c := c3) (x := x) (o := o) (by simp)) (P7.at (g := g7) (b := b) (A := A7) (n := n7) (c := c7) (x := y) (o := p) (by simp)) HSA.out).mono ?_
    rintro e v8 ⟨rfl, hb⟩
    have P8 := P7.later hb
    clear P7 hb bx0 bx1 bx2 by0 by1 by2
    obtain ⟨bx0, bx1, bx2⟩ := (P8.at (g := g3) (b := b) (A := A3) (n := n3) (c := c3) (x := x) (o := o) (by simp)).1
    obtain ⟨by0, by1, by2⟩ := (P8.at (g := g7) (b := b) (A := A7) (n := n7) (c := c7) (x := y) (o := p) (by simp)).1
    go_wp2_with fail
    refine (zSame (P8.at (g := g7) (b := b) (A := A7) (n := n7) (c := c7) (x := y) (o := p) (by simp)) (P8.at (g := g3) (b := b) (A := A3) (n := n3) (c := c3) (x := x) (o := o) (by simp)) HSB.out).mono ?_
    rintro e v9 ⟨rfl, hb⟩
    have P9 := P8.later hb
    clear P8 hb bx0 bx1 bx2 by0 by1 by2
    go_wp2_with fail
    go_meet
    exact ⟨rfl, P9⟩
  case rest => as_aux_lemma =>
    clear P5
    obtain ⟨rfl, P5⟩ := hcut
    go_wp2_with fail
    refine (MakeNum_any A n c l 30 _ (HR.out.later P5.1) hbig (by omega)).mono ?_
    rintro e v6 ⟨K, rfl, hK, hb6⟩
    have P6 := P5.later hb6
    clear P5 hb6
    obtain ⟨bx0, bx1, bx2⟩ := (P6.at (g := g3) (b := b) (A := A3) (n := n3) (c := c3) (x := x) (o := o) (by simp)).1
    obtain ⟨by0, by1, by2⟩ := (P6.at (g := g7) (b := b) (A := A7) (n := n7) (c := c7) (x := y) (o := p) (by simp)).1
    obtain ⟨z, hz⟩ : ∃ z, aLet x o b K = z := ⟨_, rfl⟩
    have HZ := Lib.hid hz
    have HZ2 := Lib.hid (show aLet y p b K = z by rw [HLT.out]; exact hz)
    clear hz
    go_wp2_with fail
    refine (zRunAuto (P6.at (g := g3) (b := b) (A := A3) (n := n3) (c := c3) (x := x) (o := o) (by simp)) K hK HZ.out).mono ?_
    rintro e v7 ⟨rfl, hb⟩
    have P7 := P6.later hb
    clear P6 hb bx0 bx1 bx2 by0 by1 by2
    obtain ⟨bx0, bx1, bx2⟩ := (P7.at (g := g3) (b := b) (A := A3) (n := n3) (c := c3) (x := x) (o := o) (by simp)).1
    obtain ⟨by0, by1, by2⟩ := (P7.at (g := g7) (b := b) (A := A7) (n := n7) (c := c7) (x := y) (o := p) (by simp)).1
    go_wp2_with fail
    refine (zRunAuto (P7.at (g := g7) (b := b) (A := A7) (n := n7) (c := c7) (x := y) (o := p) (by simp)) K hK HZ2.out).mono ?_
    rintro e v8 ⟨rfl, hb⟩
    have P8 := P7.later hb
    clear P7 hb bx0 bx1 bx2 by0 by1 by2
    go_upto_region 13 with (fail)
    go_cut [148] (fun s wc => s = .bool false ∧ Pa w wc [(g7, b, A7, n7, c7, y, p), (g3, b, A3, n3, c3, x, o)])
    case first => as_aux_lemma =>
      by_cases hN0 : N = 0
      · have dN : decide ((0 : Int) < (N : Int)) = false := by simp; omega
        have dN2 : decide (0 < N) = false := by simp; omega
        clear hN0
        go_wp2_with fail
        go_quiet (fail)
        obtain ⟨q, rfl⟩ : ∃ q, q = nq := ⟨_, rfl⟩
        go_wp2_with fail
        go_meet
        exact ⟨rfl, P8.later (below_drewN (Below.refl _ _) q)⟩
      · obtain ⟨c0, r, s0, e1, e2⟩ := word_first HK3.out (N := N) (by omega)
        have hw : W5 = c0 :: r := by rw [← HW5.out]; exact e1
        subst hw
        subst e2
        have dN : decide ((0 : Int) < (N : Int)) = true := by simp; omega
        have dN2 : decide (0 < N) = true := by simp; omega
        obtain ⟨bx0, bx1, bx2⟩ := (P8.at (g := g3) (b := b) (A := A3) (n := n3) (c := c3) (x := x) (o := c0 :: s0) (by simp)).1
        clear hN0 e1
        go_wp2_with fail
        go_quiet (fail)
        obtain ⟨q, rfl⟩ : ∃ q, q = nq := ⟨_, rfl⟩
        go_wp2_with fail
        go_meet
        exact ⟨rfl, P8.later (below_drewN (Below.refl _ _) q)⟩
    case rest => as_aux_lemma =>
      clear P8
      obtain ⟨rfl, P9⟩ := hcut
      go_upto_region 15 with (fail)
      obtain ⟨T, hT⟩ : ∃ T : Bool, decide (n3 ≤ 4) = T := ⟨_, rfl⟩
      have HT := Lib.hid hT
      have dT : decide ((n3 : Int) ≤ 4) = T := by rw [← hT]; simp; omega
      clear hT
      go_cut [152] (fun s wc => s = .bool T ∧ Pa w wc [(g7, b, A7, n7, c7, y, p), (g3, b, A3, n3, c3, x, o)])
      case first => as_aux_lemma =>
        obtain ⟨bx0, bx1, bx2⟩ := (P9.at (g := g3) (b := b) (A := A3) (n := n3) (c := c3) (x := x) (o := o) (by simp)).1
        cases T
        all_goals
          go_wp2_with fail
          go_meet
          exact ⟨rfl, P9⟩
      case rest => as_aux_lemma =>
        clear P9 dT
        obtain ⟨rfl, P10⟩ := hcut
        go_upto_if 152 with (fail)
        go_cut [] (fun wc => Pa w wc [(g7, b, A7, n7, c7, y, p), (g3, b, A3, n3, c3, x, o)])
        case first => as_aux_lemma =>
          cases T
          case false =>
            go_wp2_with fail
            go_meet
            exact P10
          case true =>
            have h4 : x.length ≤ 4 := by have h1 := HT.out; have h2 := HXL.out; simp only [decide_eq_true_eq] at h1; omega
            obtain ⟨t1, t2, t3⟩ := HTW.out h4
            have HT1 := Lib.hid t1
            have HT2 := Lib.hid t2
            have HT3 := Lib.hid t3
            have HKT := Lib.hid (tw_aOk HK3.out h4)
            obtain ⟨oo, hoo⟩ : ∃ oo, oo = o ++ o := ⟨_, rfl⟩
            have HOO := Lib.hid hoo
            rw [← hoo] at HT1 HT2 HT3 HKT
            clear h4 t1 t2 t3 hoo
            obtain ⟨bx0, bx1, bx2⟩ := (P10.at (g := g3) (b := b) (A := A3) (n := n3) (c := c3) (x := x) (o := o) (by simp)).1
            go_wp2_with fail
            refine (zTwice (P10.at (g := g3) (b := b) (A := A3) (n := n3) (c := c3) (x := x) (o := o) (by simp))).mono ?_
            rintro e v10 ⟨A16, n16, c16, rs16, rfl, hm16, hx16⟩
            rw [← HOO.out]
            have P11 := P10.add (t := 25) hm16 hx16 HKT.out
            clear hm16 hx16 P10 bx0 bx1 bx2
            obtain ⟨tx0, tx1, tx2⟩ := (P11.at (g := v10.heap.size) (b := b) (A := A16) (n := n16) (c := c16) (x := twTab x b) (o := oo) (by simp)).1
            go_wp2_with fail
            obtain ⟨g16, hg16⟩ : ∃ g, g = v10.heap.size := ⟨_, rfl⟩
            obtain ⟨w16, hw16⟩ : ∃ w16, w16 = v10.alloc (.cells #[.int .i64 (b : Int), .slice A16 n16 c16, .string ⟨oo.toArray⟩] 25) := ⟨_, rfl⟩
            rw [← hw16, ← hg16] at P11
            rw [← hw16, ← hg16]
            clear tx0 tx1 tx2 hw16 hg16
            refine (zSmall (P11.at (g := g16) (b := b) (A := A16) (n := n16) (c := c16) (x := twTab x b) (o := oo) (by simp)) HT2.out HT3.out).mono ?_
            rintro e v11 ⟨A17, n17, c17, rs17, rfl, hm17, hx17⟩
            have P12 := P11.add (t := 25) hm17 hx17 HKY.out
            have hn17 : n7 = n17 := by have h1 := ((P12.at (g := v11.heap.size) (b := b) (A := A17) (n := n17) (c := c17) (x := y) (o := p) (by simp)).nlen).1; have h2 := HYL.out; omega
            subst hn17
            obtain ⟨tx0, tx1, tx2⟩ := (P12.at (g := g16) (b := b) (A := A16) (n := n16) (c := c16) (x := twTab x b) (o := oo) (by simp)).1
            obtain ⟨tz0, tz1, tz2⟩ := (P12.at (g := v11.heap.size) (b := b) (A := A17) (n := n7) (c := c17) (x := y) (o := p) (by simp)).1
            obtain ⟨bx0, bx1, bx2⟩ := (P12.at (g := g3) (b := b) (A := A3) (n := n3) (c := c3) (x := x) (o := o) (by simp)).1
            obtain ⟨by0, by1, by2⟩ := (P12.at (g := g7) (b := b) (A := A7) (n := n7) (c := c7) (x := y) (o := p) (by simp)).1
            clear hm17 hx17 P11
            go_wp2_with fail
            refine (zSame (P12.at (g := g3) (b := b) (A := A3) (n := n3) (c := c3) (x := x) (o := o) (by simp)) (P12.at (g := g16) (b := b) (A := A16) (n := n16) (c := c16) (x := twTab x b) (o := oo) (by simp)) HT1.out).mono ?_
            rintro e v12 ⟨rfl, hb⟩
            have P13 := (P12.later hb).sub (bs := [(g7, b, A7, n7, c7, y, p), (g3, b, A3, n3, c3, x, o)]) (by simp)
            clear P12 hb bx0 bx1 bx2 by0 by1 by2 tx0 tx1 tx2 tz0 tz1 tz2
            go_wp2_with fail
            go_meet
            exact P13
        case rest => as_aux_lemma =>
          clear P10
          have P11 := hcut
          clear hcut
          obtain ⟨bx0, bx1, bx2⟩ := (P11.at (g := g3) (b := b) (A := A3) (n := n3) (c := c3) (x := x) (o := o) (by simp)).1
          obtain ⟨Z, hZ⟩ : ∃ Z, kerSize (b : Int) x o = Z := ⟨_, rfl⟩
          have hZb := ker_bd HK3.out
          rw [hZ] at hZb
          have HZZ := Lib.hid hZ
          clear hZ
          go_wp2_with fail
          refine (zKernel (P11.at (g := g3) (b := b) (A := A3) (n := n3) (c := c3) (x := x) (o := o) (by simp)) HZZ.out).mono ?_
          rintro e v13 ⟨rfl, hb⟩
          have P12 := P11.later hb
          clear P11 hb bx0 bx1 bx2
          go_upto_region 21 with (fail)
          go_cut [193] (fun s wc => s = .bool false ∧ Pa w wc [(g7, b, A7, n7, c7, y, p), (g3, b, A3, n3, c3, x, o)])
          case first => as_aux_lemma =>
            obtain ⟨bx0, bx1, bx2⟩ := (P12.at (g := g3) (b := b) (A := A3) (n := n3) (c := c3) (x := x) (o := o) (by simp)).1
            have hgd := (aOk_fit HK3.out).1
            have hb2 := hgd.1
            have hb4 := hgd.2.1
            have hbb : 0 ≤ (b : Int) * (b : Int) ∧ (b : Int) * (b : Int) ≤ 16 := ⟨Int.mul_nonneg (by omega) (by omega), Int.mul_le_mul (show (b : Int) ≤ 4 by omega) (show (b : Int) ≤ 4 by omega) (by omega) (by omega)⟩
            have d1 : decide (Z < 1) = false := by simp; omega
            have e1 : IntKind.i64.wrap (1 + (b : Int)) = 1 + (b : Int) := IntWalk.i64_in _ (by omega)
            have e2 : IntKind.i64.wrap ((b : Int) * (b : Int)) = (b : Int) * (b : Int) := IntWalk.i64_in _ (by omega)
            have e3 : IntKind.i64.wrap (1 + (b : Int) + (b : Int) * (b : Int)) = 1 + (b : Int) + (b : Int) * (b : Int) := IntWalk.i64_in _ (by omega)
            have d2 : decide (1 + (b : Int) + (b : Int) * (b : Int) < Z) = false := by simp; omega
            clear hgd hZb hbb
            go_wp2_with fail
            go_meet
            exact ⟨rfl, P12⟩
          case rest => as_aux_lemma =>
            clear P12
            obtain ⟨rfl, P13⟩ := hcut
            obtain ⟨m3, hm3⟩ : ∃ m3, m3 = K % 3 := ⟨_, rfl⟩
            have hm33 : m3 < 3 := by omega
            have e1 : (K : Int).tmod 3 = (m3 : Int) := by rw [Int.tmod_eq_emod_of_nonneg (by omega), hm3]; omega
            have e2 : IntKind.i64.wrap (m3 : Int) = (m3 : Int) := IntWalk.i64_in _ (by omega)
            have i1 : (0 : Int) ≤ (m3 : Int) := by omega
            have i2 : (m3 : Int) < 3 := by omega
            have ho := Own.made (w0 := wc) (w := wc) (Below.refl _ _) 9 (svs [nThue, nDoub, nRudin]) (by simp [svs])
            have P14 := P13.later ho.bel
            obtain ⟨a', ha', _, hca⟩ := ho.rd.str (k := m3) hm33
            injection ha' with ha'
            subst ha'
            obtain ⟨nm, hnm⟩ : ∃ nm, nm = [nThue, nDoub, nRudin][m3]'hm33 := ⟨_, rfl⟩
            rw [← hnm] at hca
            have hadd : (⟨wc.heap.size, 0, none⟩ : Addr).add m3 = ⟨wc.heap.size, m3, none⟩ := by unfold Addr.add; split <;> simp_all
            rw [hadd] at hca
            have hcb : (wc.alloc (.cells #[.string ⟨#[116, 104, 117, 101]⟩, .string ⟨#[100, 111, 117, 98, 108, 105, 110, 103]⟩, .string ⟨#[114, 117, 100, 105, 110]⟩] 9)).cell? ⟨wc.heap.size, m3, none⟩ = some (.string ⟨nm.toArray⟩) := hca
            have HN3 := Lib.hid (show Name3 nm by
              have h1 : nm ∈ [nThue, nDoub, nRudin] := by rw [hnm]; exact List.getElem_mem _
              simpa [Name3] using h1)
            clear hm3 ho hca hnm hadd P13
            go_wp2_with fail
            refine (iNamed_any _ (HMax.out.later P14.1) HN3.out).mono ?_
            rintro e v14 ⟨A20, n20, c20, rfl, o20⟩
            have P15 := P14.later o20.bel
            obtain ⟨ss, hss⟩ : ∃ ss, ss = named3 nm := ⟨_, rfl⟩
            rw [← hss] at o20
            have hnt := named_two HN3.out
            have hnw := named_word HN3.out
            rw [← hss] at hnt hnw
            obtain ⟨k1, k2, k3, k4, k5⟩ := hnt
            have HK1 := Lib.hid k1
            have HK2 := Lib.hid k2
            have hn20 : n20 ≤ 4 := by have h1 := o20.len; have h2 := sOk_n k1; simp only [svs, List.length_map] at h1; omega
            have hs20 := SIn.of o20.rd (by omega) (fun s hs => by have := (sOk_img k1 hs).1; omega) o20.cap
            have hbx : Below v14.heap.size v14 (v14.alloc (.cells #[.slice A20 n20 c20] 39)) := Below.boxed _ _
            have HS20 := Lib.hid (hs20.later hbx)
            have P16 := P15.later hbx
            have bs0 : (v14.alloc (.cells #[.slice A20 n20 c20] 39)).cell? ⟨v14.heap.size, 0, none⟩ = some (.slice A20 n20 c20) := SubAt.made v14 39 A20 n20 c20
            clear o20 hs20 hbx P15 P14 hcb hss k1 k2
            go_wp2_with fail
            obtain ⟨g20, hg20⟩ : ∃ g, g = v14.heap.size := ⟨_, rfl⟩
            obtain ⟨w20, hw20⟩ : ∃ w20, w20 = v14.alloc (.cells #[.slice A20 n20 c20] 39) := ⟨_, rfl⟩
            rw [← hw20, ← hg20] at bs0
            rw [← hw20] at P16 HS20
            rw [← hw20, ← hg20]
            clear hw20 hg20
            refine (cAutoOfI A20 n20 c20 ss _ HS20.out).mono ?_
            rintro e v15 ⟨A22, n22, c22, rs22, rfl, hm22, hx22⟩
            obtain ⟨zz, hzz⟩ : ∃ zz, ofTab ss = zz := ⟨_, rfl⟩
            obtain ⟨oz, hoz⟩ : ∃ oz, ofOut ss = oz := ⟨_, rfl⟩
            obtain ⟨u, hu⟩ : ∃ u, fx ss 49 = u := ⟨_, rfl⟩
            rw [hzz] at hx22
            rw [hzz, hoz] at k3 hnw
            rw [hu] at hnw
            rw [hoz, k4, k5]
            have HNW := Lib.hid hnw
            have HU := Lib.hid hu
            have hbl := hm22.bel
            have P17 := P16.add (t := 25) (b := 2) hm22 hx22 k3
            have hbx : Below v15.heap.size v15 (v15.alloc (.cells #[.int .i64 2, .slice A22 n22 c22, .string ⟨oz.toArray⟩] 25)) := Below.boxed _ _
            have HS22 := Lib.hid ((HS20.out.later hbl).later hbx)
            have hgl := World.block_lt_of_cell? w20 _ bs0
            have bs2 : (v15.alloc (.cells #[.int .i64 2, .slice A22 n22 c22, .string ⟨oz.toArray⟩] 25)).cell? ⟨g20, 0, none⟩ = some (.slice A20 n20 c20) := by
              rw [hbx.cell (show g20 < v15.heap.size by have := hbl.size; simp only at hgl; omega), hbl.cell hgl]; exact bs0
            have tb : BoxAt (v15.alloc (.cells #[.int .i64 2, .slice A22 n22 c22, .string ⟨oz.toArray⟩] 25)) v15.heap.size 2 A22 n22 c22 oz := (P17.at (g := v15.heap.size) (b := 2) (A := A22) (n := n22) (c := c22) (x := zz) (o := oz) (by simp)).1
            obtain ⟨tx0, tx1, tx2⟩ := tb
            clear hm22 hx22 k3 k4 k5 hnw hu hzz hoz P16 HS20 hbl hbx hgl bs0
            go_wp2_with fail
            obtain ⟨g22, hg22⟩ : ∃ g, g = v15.heap.size := ⟨_, rfl⟩
            obtain ⟨w22, hw22⟩ : ∃ w22, w22 = v15.alloc (.cells #[.int .i64 2, .slice A22 n22 c22, .string ⟨oz.toArray⟩] 25) := ⟨_, rfl⟩
            have P18 : Pa w w22 [(g22, 2, A22, n22, c22, zz, oz), (g7, b, A7, n7, c7, y, p), (g3, b, A3, n3, c3, x, o)] := by rw [hw22, hg22]; exact P17
            rw [← hw22] at HS22 bs2
            rw [← hw22, ← hg22]
            clear hw22 hg22 P17 tx0 tx1 tx2
            refine (zAutoWord (P18.at (g := g22) (b := 2) (A := A22) (n := n22) (c := c22) (x := zz) (o := oz) (by simp)) 100 (by omega) HNW.out).mono ?_
            rintro e v16 ⟨rfl, hb⟩
            have P19 := P18.later hb
            have HS23 := Lib.hid (HS22.out.later hb)
            have bs3 : v16.cell? ⟨g20, 0, none⟩ = some (.slice A20 n20 c20) := by rw [hb.cell (World.block_lt_of_cell? w22 _ bs2)]; exact bs2
            clear hb P18 HS22 bs2
            go_wp2_with fail
            refine (iFixed_any _ HS23.out HK1.out HK2.out HU.out).mono ?_
            rintro e v17 ⟨rfl, hb⟩
            have P20 := P19.later hb
            clear hb P19 HS23 bs3
            go_wp2_with fail
            refine (iNamed_any (l := nThue) _ (HMax.out.later P20.1) (Or.inl rfl)).mono ?_
            rintro e v18 ⟨A28, n28, c28, rfl, o28⟩
            have o29 : Own v17 v18 9 A28 n28 c28 (svs wThue) := o28
            have P21 := P20.later o29.bel
            have hn28 : n28 ≤ 4 := by have h1 := o29.len; simp only [svs, List.length_map] at h1; rw [← h1]; decide
            have hs28 := SIn.of o29.rd (by omega) (fun s hs => by have := (sOk_img (ss := wThue) (by decide) hs).1; omega) o29.cap
            have hbx : Below v18.heap.size v18 (v18.alloc (.cells #[.slice A28 n28 c28] 39)) := Below.boxed _ _
            have HS28 := Lib.hid (hs28.later hbx)
            have P22 := P21.later hbx
            have bs0 : (v18.alloc (.cells #[.slice A28 n28 c28] 39)).cell? ⟨v18.heap.size, 0, none⟩ = some (.slice A28 n28 c28) := SubAt.made v18 39 A28 n28 c28
            clear o28 o29 hs28 hbx P20 P21
            go_wp2_with fail
            obtain ⟨w28, hw28⟩ : ∃ w28, w28 = v18.alloc (.cells #[.slice A28 n28 c28] 39) := ⟨_, rfl⟩
            rw [← hw28] at P22 HS28
            rw [← hw28]
            clear hw28 bs0
            refine (cAutoOfI A28 n28 c28 wThue _ HS28.out).mono ?_
            rintro e v19 ⟨A30, n30, c30, rs30, rfl, hm30, hx30⟩
            have k3 : aOk 2 (ofTab wThue) (ofOut wThue) = true := (named_two (l := nThue) (Or.inl rfl)).2.2.1
            have k4 : ofOk wThue = true := (named_two (l := nThue) (Or.inl rfl)).2.2.2.1
            have k5 : ofBase wThue = 2 := (named_two (l := nThue) (Or.inl rfl)).2.2.2.2
            have k6 := thue_class hN
            have k7 := thue_ker
            obtain ⟨zt, hzt⟩ : ∃ zt, ofTab wThue = zt := ⟨_, rfl⟩
            obtain ⟨ot, hot⟩ : ∃ ot, ofOut wThue = ot := ⟨_, rfl⟩
            obtain ⟨tc, htc⟩ : ∃ tc, classW 2 N = tc := ⟨_, rfl⟩
            rw [hzt] at hx30
            rw [hzt, hot] at k3 k6 k7
            rw [htc] at k6
            rw [hot, k4, k5]
            have HK6 := Lib.hid k6
            have HK7 := Lib.hid k7
            have HTC := Lib.hid (show classWord 2 (N : Int) = (tc, true) by
              unfold classWord
              rw [wi_mk (show (2 : Int) ≤ 2 by omega) (show (2 : Int) ≤ 4 by omega), wi_mk (show (0 : Int) ≤ (N : Int) by omega) (show (N : Int) ≤ 400 by omega)]
              simp only [Bool.and_self, if_true, Int.toNat_natCast]
              rw [← htc]; rfl)
            have P23 := P22.add (t := 25) (b := 2) hm30 hx30 k3
            have tb : BoxAt (v19.alloc (.cells #[.int .i64 2, .slice A30 n30 c30, .string ⟨ot.toArray⟩] 25)) v19.heap.size 2 A30 n30 c30 ot := (P23.at (g := v19.heap.size) (b := 2) (A := A30) (n := n30) (c := c30) (x := zt) (o := ot) (by simp)).1
            obtain ⟨tx0, tx1, tx2⟩ := tb
            clear hm30 hx30 k3 k4 k5 k6 k7 hzt hot htc P22 HS28
            go_wp2_with fail
            obtain ⟨g30, hg30⟩ : ∃ g, g = v19.heap.size := ⟨_, rfl⟩
            obtain ⟨w30, hw30⟩ : ∃ w30, w30 = v19.alloc (.cells #[.int .i64 2, .slice A30 n30 c30, .string ⟨ot.toArray⟩] 25) := ⟨_, rfl⟩
            have P24 : Pa w w30 [(g30, 2, A30, n30, c30, zt, ot)] := by rw [hw30, hg30]; exact P23.sub (by simp)
            rw [← hw30, ← hg30]
            clear hw30 hg30 P23 tx0 tx1 tx2
            refine (zAutoWord (P24.at (g := g30) (b := 2) (A := A30) (n := n30) (c := c30) (x := zt) (o := ot) (by simp)) N (by omega) HK6.out).mono ?_
            rintro e v20 ⟨rfl, hb⟩
            have P25 := P24.later hb
            clear hb P24
            go_wp2_with fail
            have hcw := iClassWord_any 2 (N : Int) v20
            rw [HTC.out] at hcw
            refine hcw.mono ?_
            rintro e v21 ⟨rfl, hb⟩
            have P26 := P25.later hb
            have tb : BoxAt v21 g30 2 A30 n30 c30 ot := (P26.at (g := g30) (b := 2) (A := A30) (n := n30) (c := c30) (x := zt) (o := ot) (by simp)).1
            obtain ⟨tx0, tx1, tx2⟩ := tb
            clear hcw hb P25
            go_wp2_with fail
            refine (zKernel (P26.at (g := g30) (b := 2) (A := A30) (n := n30) (c := c30) (x := zt) (o := ot) (by simp)) (z := 2) HK7.out).mono ?_
            rintro e v22 ⟨rfl, hb⟩
            have P27 := P26.later hb
            clear hb P26 tx0 tx1 tx2
            go_wp2_with fail
            go_ret
            exact ⟨rfl, P27.1⟩
end Go.Proofs.YtcicoplmpinnmaaDoor
