/-
  Substitutions: whether one is valid, and whether it is uniform, in the program and in the reference. No conditions.
-/
import Derived.Test.YtcicoplmpinnmaaDoorAAu
import Derived.Deep.RegionHeld3
namespace Go.Proofs.YtcicoplmpinnmaaDoor
open Go.RowKit

/-- the value of a substitution -/
abbrev SubV (A : Option Addr) (n c : Nat) : Value := .agg #[.slice A n c]
def SubAt (w : World) (g : Nat) (A : Option Addr) (n c : Nat) : Prop := w.cell? ⟨g, 0, none⟩ = some (.slice A n c)
theorem SubAt.made (W : World) (t : TypeId) (A : Option Addr) (n c : Nat) : SubAt (W.alloc (.cells #[.slice A n c] t)) W.heap.size A n c := cell_of_row _ _ 0 _ _ _ (heap_alloc_new W _)
theorem SubAt.later {w w' : World} {g : Nat} {A : Option Addr} {n c : Nat} (h : SubAt w g A n c) (hb : Below w.heap.size w w') : SubAt w' g A n c := by
  unfold SubAt at *; rw [hb.cell (World.block_lt_of_cell? w _ h)]; exact h
abbrev Wds := List (List UInt8)
/-- all letters of a word are among the first n -/
def among (n : Nat) (l : List UInt8) : Bool := l.all fun x => decide (x.toNat < 97 + n)
def hasI (n : Nat) (l : List UInt8) : Bool := among n l && isW l
def imgOk (n : Nat) (l : List UInt8) : Bool := wi l.length 1 8 && hasI n l
def sOk (ss : Wds) : Bool := wi ss.length 1 4 && ss.all (imgOk ss.length)
def flat (ss : Wds) : Bool := ss.all fun l => l.length == (ss.getD 0 []).length
def uni (ss : Wds) : Int := if sOk ss = true then (if flat ss = true then ((ss.getD 0 []).length : Int) else 0) else -1
theorem sOk_n {ss : Wds} (h : sOk ss = true) : 1 ≤ ss.length ∧ ss.length ≤ 4 := by
  unfold sOk at h
  simp only [Bool.and_eq_true] at h
  have := wi_yes h.1; omega
theorem sOk_img {ss : Wds} (h : sOk ss = true) {l : List UInt8} (hl : l ∈ ss) : (1 ≤ l.length ∧ l.length ≤ 8) ∧ ∀ x ∈ l, 97 ≤ x.toNat ∧ x.toNat < 97 + ss.length := by
  unfold sOk at h
  simp only [Bool.and_eq_true, List.all_eq_true] at h
  have h2 := h.2 l hl
  unfold imgOk hasI among at h2
  simp only [Bool.and_eq_true, List.all_eq_true, decide_eq_true_eq] at h2
  have h3 := wi_yes h2.1
  refine ⟨by omega, fun x hx => ⟨?_, h2.2.1 x hx⟩⟩
  have h4 := List.all_eq_true.1 (isW_all h2.2.2) x hx
  exact (isLet_bd h4).1

set_option maxRecDepth 4096 in
set_option maxHeartbeats 1600000 in
theorem hasImages_any (A : Option Addr) (n c : Nat) (l : List UInt8) (W : World) (hn : n ≤ 1048576) (hl : l.length ≤ 9223372036854775807) :
    Calls Tryd.prog 49 #[SubV A n c, .string ⟨l.toArray⟩] W fun e w' => e = .returned (.bool (hasI n l)) ∧ Below W.heap.size W w' := by
  have HW1 := Lib.hid (Below.boxed W (.cells #[.slice A n c] 39))
  have HBx := Lib.hid (SubAt.made W 39 A n c)
  obtain ⟨W1, hW1⟩ : ∃ W1, W1 = W.alloc (.cells #[.slice A n c] 39) := ⟨_, rfl⟩
  rw [← hW1] at HW1 HBx
  have HWW := Lib.hid hW1
  obtain ⟨g, hg⟩ : ∃ g, g = W.heap.size := ⟨_, rfl⟩
  rw [← hg] at HBx
  go_enter Tryd.func49, Tryd.ntmps49
  go_wp2
  rw [← HWW.out, ← hg]
  clear HWW hW1 hg
  go_loopw [8] (fun i wr => ∃ k : Nat, k ≤ l.length ∧ i = .int .i64 k ∧ Below W1.heap.size W1 wr ∧ Hid ((l.take k).all (fun x => decide (x.toNat < 97 + n)) = true)) (fun i _ => l.length - (intOf i).toNat)
  case atStart => exact ⟨0, Nat.zero_le _, rfl, Below.refl _ _, Lib.hid rfl⟩
  case round =>
    obtain ⟨k, hk, rfl, hbel, HA⟩ := hrel
    have HB := Lib.hid hbel
    have bx0 : wr.cell? ⟨g, 0, none⟩ = some (.slice A n c) := HBx.out.later hbel
    clear hbel
    by_cases hlt : k < l.length
    · have HBad := Lib.hid (fun h => all_bad (p := fun x : UInt8 => decide (x.toNat < 97 + n)) hlt h)
      have HGood := Lib.hid (fun h => all_snoc (p := fun x : UInt8 => decide (x.toNat < 97 + n)) hlt HA.out h)
      obtain ⟨x, hx⟩ : ∃ x, x = l[k] := ⟨_, rfl⟩
      rw [← hx] at HBad HGood
      have hx256 := x.toNat_lt
      have e1 : IntKind.i64.wrap ((x.toNat : Int) - 97) = (x.toNat : Int) - 97 := IntWalk.i64_in _ (by omega)
      have e2 : IntKind.i64.wrap (x.toNat : Int) = (x.toNat : Int) := IntWalk.i64_in _ (by omega)
      have i1 : (0 : Int) ≤ (k : Int) := by omega
      have i2 : (k : Int) < (l.length : Int) := by omega
      have hgx : l[k] = x := hx.symm
      clear HA hx
      by_cases hc : (n : Int) ≤ (x.toNat : Int) - 97
      · have HN := Lib.hid (show hasI n l = false by unfold hasI among; rw [HBad.out (by simp; omega)]; rfl)
        have d1 : decide ((n : Int) ≤ (x.toNat : Int) - 97) = true := by simpa using hc
        clear HBad HGood
        go_wp2_with fail
        go_quiet (fail)
        go_wp2
        go_ret
        exact ⟨by (rw [HN.out]; try rfl), HW1.out.trans ((below_drewN HB.out nq).mono HW1.out.size)⟩
      · have HN := Lib.hid (HGood.out (by simp; omega))
        have d1 : decide ((n : Int) ≤ (x.toNat : Int) - 97) = false := by simpa using hc
        clear HBad HGood
        go_wp2_with fail
        go_quiet (fail)
        go_wp2
        exact ⟨⟨k + 1, by omega, by go_num, below_drewN HB.out nq, HN⟩, by simp [intOf]; omega⟩
    · have HE := Lib.hid (show hasI n l = isW l by unfold hasI among; rw [all_done hlt HA.out]; rfl)
      have HC := Lib.hid (isWord_any l hl wr)
      go_wp2_with (go_at_call 24; refine HC.out.mono ?_; rintro e w' ⟨rfl, rfl⟩)
      go_ret
      exact ⟨by (rw [HE.out]; try rfl), HW1.out.trans (HB.out.mono HW1.out.size)⟩
set_option maxRecDepth 4096 in
set_option maxHeartbeats 1600000 in
theorem l03WithinA_any (n : Nat) (l : List UInt8) (W : World) (hn : n ≤ 1048576) (hl : isW l = true) :
    Calls Tryd.prog 66 #[.int .i64 (n : Int), .string ⟨l.toArray⟩] W fun e w' => e = .returned (.bool (among n l)) ∧ W = w' := by
  have hl4 := isW_len hl
  have HW := Lib.hid hl
  clear hl
  go_enter Tryd.func66, Tryd.ntmps66
  go_wp2
  go_loop [5] (fun i => ∃ k : Nat, k ≤ l.length ∧ i = .int .i64 k ∧ Hid ((l.take k).all (fun x => decide (x.toNat < 97 + n)) = true)) (fun i => l.length - (intOf i).toNat)
  case atStart => exact ⟨0, Nat.zero_le _, rfl, Lib.hid rfl⟩
  case round =>
    obtain ⟨k, hk, rfl, HA⟩ := hrel
    by_cases hlt : k < l.length
    · have HBad := Lib.hid (fun h => all_bad (p := fun x : UInt8 => decide (x.toNat < 97 + n)) hlt h)
      have HGood := Lib.hid (fun h => all_snoc (p := fun x : UInt8 => decide (x.toNat < 97 + n)) hlt HA.out h)
      have hge := (isW_get HW.out hlt).1
      obtain ⟨x, hx⟩ : ∃ x, x = l[k] := ⟨_, rfl⟩
      rw [← hx] at HBad HGood hge
      have hx256 := x.toNat_lt
      have e1 : IntKind.u8.wrap ((x.toNat : Int) - 97) = (x.toNat : Int) - 97 := IntWalk.u8_in _ (by omega)
      have e2 : IntKind.i64.wrap ((x.toNat : Int) - 97) = (x.toNat : Int) - 97 := IntWalk.i64_in _ (by omega)
      have i1 : (0 : Int) ≤ (k : Int) := by omega
      have i2 : (k : Int) < (l.length : Int) := by omega
      have hgx : l[k] = x := hx.symm
      clear HA hx
      by_cases hc : (n : Int) ≤ (x.toNat : Int) - 97
      · have HN := Lib.hid (show among n l = false by unfold among; rw [HBad.out (by simp; omega)])
        have d1 : decide ((n : Int) ≤ (x.toNat : Int) - 97) = true := by simpa using hc
        clear HBad HGood
        go_wp2
        go_ret
        exact ⟨by (rw [HN.out]; try rfl), rfl⟩
      · have HN := Lib.hid (HGood.out (by simp; omega))
        have d1 : decide ((n : Int) ≤ (x.toNat : Int) - 97) = false := by simpa using hc
        clear HBad HGood
        go_wp2
        go_round
        case rel => exact ⟨k + 1, by omega, by go_num, HN⟩
        case measure => simp [intOf]; omega
    · have HE := Lib.hid (show among n l = true by unfold among; rw [all_done hlt HA.out])
      go_wp2
      go_ret
      exact ⟨by (rw [HE.out]; try rfl), rfl⟩
theorem sOk_len {ss : Wds} {n : Nat} (h : ss.length = n) : sOk ss = (wi n 1 4 && ss.all (imgOk n)) := by rw [← h]; rfl
theorem img_no {n : Nat} {l : List UInt8} (h : wi l.length 1 8 = false ∨ hasI n l = false) : imgOk n l = false := by
  unfold imgOk; rcases h with h | h <;> simp [h]
theorem img_yes {n : Nat} {l : List UInt8} (h1 : wi l.length 1 8 = true) (h2 : hasI n l = true) : imgOk n l = true := by unfold imgOk; simp [h1, h2]
set_option maxRecDepth 4096 in
set_option maxHeartbeats 3200000 in
theorem iSubstOk_any (A : Option Addr) (n c : Nat) (ss : Wds) (W : World) (hs : SIn W A n c ss) :
    Calls Tryd.prog 32 #[SubV A n c] W fun e w' => e = .returned (.bool (sOk ss)) ∧ Below W.heap.size W w' := by
  obtain ⟨res, hres⟩ : ∃ res, res = sOk ss := ⟨_, rfl⟩
  rw [← hres]
  have HLen := Lib.hid hs.1.lenS
  have HR := Lib.hid (show res = (wi n 1 4 && ss.all (imgOk n)) by rw [hres, sOk_len hs.1.lenS])
  have HW1 := Lib.hid (Below.boxed W (.cells #[.slice A n c] 39))
  have HBx := Lib.hid (SubAt.made W 39 A n c)
  have hn := hs.2.1
  obtain ⟨W1, hW1⟩ : ∃ W1, W1 = W.alloc (.cells #[.slice A n c] 39) := ⟨_, rfl⟩
  rw [← hW1] at HW1 HBx
  have HS := Lib.hid (hs.later HW1.out)
  have HWW := Lib.hid hW1
  obtain ⟨g, hg⟩ : ∃ g, g = W.heap.size := ⟨_, rfl⟩
  rw [← hg] at HBx
  clear hs hres
  go_enter Tryd.func32, Tryd.ntmps32
  go_wp2
  rw [← HWW.out, ← hg]
  clear HWW hW1 hg
  go_loopw [8] (fun i wr => ∃ k : Nat, k ≤ n ∧ i = .int .i64 k ∧ Below W1.heap.size W1 wr ∧ Hid ((ss.take k).all (imgOk n) = true)) (fun i _ => n - (intOf i).toNat)
  case atStart => exact ⟨0, Nat.zero_le _, rfl, Below.refl _ _, Lib.hid rfl⟩
  case round =>
    obtain ⟨k, hk, rfl, hbel, HA⟩ := hrel
    have HB := Lib.hid hbel
    have bx0 : wr.cell? ⟨g, 0, none⟩ = some (.slice A n c) := HBx.out.later hbel
    by_cases hlt : k < n
    · have hkl : k < ss.length := by rw [HLen.out]; exact hlt
      obtain ⟨a, rfl, hab, hca⟩ := (HS.out.later hbel).1.str hkl
      have hll := HS.out.longs _ (List.getElem_mem hkl)
      have HBad := Lib.hid (fun h => all_bad (p := imgOk n) hkl h)
      have HGood := Lib.hid (fun h => all_snoc (p := imgOk n) hkl HA.out h)
      obtain ⟨l, hl⟩ : ∃ l, l = ss[k] := ⟨_, rfl⟩
      rw [← hl] at hca hll HBad HGood
      have HH := Lib.hid (hasImages_any (some a) n c l wr hn hll)
      clear HA hl hbel
      cases g1 : wi l.length 1 8
      · have H1 := Lib.hid (within_is g1)
        have HN := Lib.hid (show res = false by rw [HR.out, HBad.out (img_no (Or.inl g1))]; simp)
        clear g1 HBad HGood
        go_wp2_with (go_at_call 21; (with_reducible refine (H1.out _).mono ?_); rintro e w' ⟨rfl, rfl⟩)
        go_ret
        exact ⟨by (rw [HN.out]; try rfl), HW1.out.trans (HB.out.mono HW1.out.size)⟩
      · have H1 := Lib.hid (within_is g1)
        cases g2 : hasI n l
        · rw [g2] at HH
          have HN := Lib.hid (show res = false by rw [HR.out, HBad.out (img_no (Or.inr g2))]; simp)
          clear g1 g2 HBad HGood
          go_wp2_with (first | (go_at_call 21; (with_reducible refine (H1.out _).mono ?_); rintro e w' ⟨rfl, rfl⟩) | (go_at_call 49; (with_reducible refine HH.out.mono ?_); rintro e w2 ⟨rfl, hb2⟩))
          go_ret
          exact ⟨by (rw [HN.out]; try rfl), HW1.out.trans ((HB.out.trans (hb2.mono HB.out.size)).mono HW1.out.size)⟩
        · rw [g2] at HH
          have HN := Lib.hid (HGood.out (img_yes g1 g2))
          clear g1 g2 HBad HGood
          go_wp2_with (first | (go_at_call 21; (with_reducible refine (H1.out _).mono ?_); rintro e w' ⟨rfl, rfl⟩) | (go_at_call 49; (with_reducible refine HH.out.mono ?_); rintro e w2 ⟨rfl, hb2⟩))
          exact ⟨⟨k + 1, by omega, by go_num, HB.out.trans (hb2.mono HB.out.size), HN⟩, by simp [intOf]; omega⟩
    · have HE := Lib.hid (show res = wi n 1 4 by rw [HR.out, all_done (by rw [HLen.out]; exact hlt) HA.out]; simp)
      clear hbel
      go_wp2_with (go_at_call 21; refine (within_any _ _ _ _).mono ?_; rintro e w' ⟨rfl, rfl⟩)
      go_ret
      exact ⟨by (rw [HE.out]; try rfl), HW1.out.trans (HB.out.mono HW1.out.size)⟩
theorem l03W_is {n : Nat} {l : List UInt8} {b : Bool} (h : among n l = b) (hn : n ≤ 1048576) (hl : isW l = true) (W : World) :
    Calls Tryd.prog 66 #[.int .i64 (n : Int), .string ⟨l.toArray⟩] W fun e w' => e = .returned (.bool b) ∧ W = w' := by
  have := l03WithinA_any n l W hn hl
  rwa [h] at this
set_option maxRecDepth 4096 in
set_option maxHeartbeats 3200000 in
theorem sSubstOk_any (A : Option Addr) (n c : Nat) (ss : Wds) (W : World) (hs : SIn W A n c ss) :
    Calls Tryd.prog 60 #[SubV A n c] W fun e w' => e = .returned (.bool (sOk ss)) ∧ Below W.heap.size W w' := by
  obtain ⟨res, hres⟩ : ∃ res, res = sOk ss := ⟨_, rfl⟩
  rw [← hres]
  have HLen := Lib.hid hs.1.lenS
  have HR := Lib.hid (show res = (wi n 1 4 && ss.all (imgOk n)) by rw [hres, sOk_len hs.1.lenS])
  have HW1 := Lib.hid (Below.boxed W (.cells #[.slice A n c] 39))
  have HBx := Lib.hid (SubAt.made W 39 A n c)
  have hn := hs.2.1
  obtain ⟨W1, hW1⟩ : ∃ W1, W1 = W.alloc (.cells #[.slice A n c] 39) := ⟨_, rfl⟩
  rw [← hW1] at HW1 HBx
  have HS := Lib.hid (hs.later HW1.out)
  have HWW := Lib.hid hW1
  obtain ⟨g, hg⟩ : ∃ g, g = W.heap.size := ⟨_, rfl⟩
  rw [← hg] at HBx
  clear hs hres
  cases g0 : wi n 1 4
  case false =>
    have H0 := Lib.hid (l01In_is g0)
    have HN := Lib.hid (show res = false by rw [HR.out, g0]; rfl)
    clear g0
    go_enter Tryd.func60, Tryd.ntmps60
    go_wp2_with (go_at_call 54; (with_reducible refine (H0.out _).mono ?_); rintro e w' ⟨rfl, rfl⟩)
    go_ret
    exact ⟨by (rw [HN.out]; try rfl), by rw [← HWW.out]; exact HW1.out⟩
  case true =>
    have H0 := Lib.hid (l01In_is g0)
    have HR2 := Lib.hid (show res = ss.all (imgOk n) by rw [HR.out, g0]; rfl)
    clear g0
    go_enter Tryd.func60, Tryd.ntmps60
    go_wp2_with (go_at_call 54; (with_reducible refine (H0.out _).mono ?_); rintro e w' ⟨rfl, rfl⟩)
    rw [← HWW.out, ← hg]
    clear HWW hW1 hg
    have bx0 : W1.cell? ⟨g, 0, none⟩ = some (.slice A n c) := HBx.out
    go_loop [15] (fun i => ∃ k : Nat, k ≤ n ∧ i = .int .i64 k ∧ Hid ((ss.take k).all (imgOk n) = true)) (fun i => n - (intOf i).toNat)
    case atStart => exact ⟨0, Nat.zero_le _, rfl, Lib.hid rfl⟩
    case round =>
      obtain ⟨k, hk, rfl, HA⟩ := hrel
      by_cases hlt : k < n
      · have hkl : k < ss.length := by rw [HLen.out]; exact hlt
        obtain ⟨a, rfl, hab, hca⟩ := HS.out.1.str hkl
        have hll := HS.out.longs _ (List.getElem_mem hkl)
        have HBad := Lib.hid (fun h => all_bad (p := imgOk n) hkl h)
        have HGood := Lib.hid (fun h => all_snoc (p := imgOk n) hkl HA.out h)
        obtain ⟨l, hl⟩ : ∃ l, l = ss[k] := ⟨_, rfl⟩
        rw [← hl] at hca hll HBad HGood
        clear HA hl
        cases g1 : wi l.length 1 8
        · have H1 := Lib.hid (l01In_is g1)
          have HN := Lib.hid (show res = false by rw [HR2.out, HBad.out (img_no (Or.inl g1))])
          clear g1 HBad HGood
          go_wp2_with (go_at_call 54; (with_reducible refine (H1.out _).mono ?_); rintro e w' ⟨rfl, rfl⟩)
          go_ret
          exact ⟨by (rw [HN.out]; try rfl), HW1.out⟩
        · have H1 := Lib.hid (l01In_is g1)
          cases g2 : isW l
          · have H2 := Lib.hid (WordOk_is g2 hll)
            have HN := Lib.hid (show res = false by rw [HR2.out, HBad.out (img_no (Or.inr (by unfold hasI; rw [g2]; simp)))])
            clear g1 g2 HBad HGood
            go_wp2_with (first | (go_at_call 54; (with_reducible refine (H1.out _).mono ?_); rintro e w' ⟨rfl, rfl⟩) | (go_at_call 65; (with_reducible refine (H2.out _).mono ?_); rintro e w' ⟨rfl, rfl⟩))
            go_ret
            exact ⟨by (rw [HN.out]; try rfl), HW1.out⟩
          · have H2 := Lib.hid (WordOk_is g2 hll)
            cases g3 : among n l
            · have H3 := Lib.hid (l03W_is g3 hn g2)
              have HN := Lib.hid (show res = false by rw [HR2.out, HBad.out (img_no (Or.inr (by unfold hasI; rw [g3]; simp)))])
              clear g1 g2 g3 HBad HGood
              go_wp2_with (first | (go_at_call 54; (with_reducible refine (H1.out _).mono ?_); rintro e w' ⟨rfl, rfl⟩) | (go_at_call 65; (with_reducible refine (H2.out _).mono ?_); rintro e w' ⟨rfl, rfl⟩) | (go_at_call 66; (with_reducible refine (H3.out _).mono ?_); rintro e w' ⟨rfl, rfl⟩))
              go_ret
              exact ⟨by (rw [HN.out]; try rfl), HW1.out⟩
            · have H3 := Lib.hid (l03W_is g3 hn g2)
              have HN := Lib.hid (HGood.out (img_yes g1 (by unfold hasI; rw [g2, g3]; rfl)))
              clear g1 g2 g3 HBad HGood
              go_wp2_with (first | (go_at_call 54; (with_reducible refine (H1.out _).mono ?_); rintro e w' ⟨rfl, rfl⟩) | (go_at_call 65; (with_reducible refine (H2.out _).mono ?_); rintro e w' ⟨rfl, rfl⟩) | (go_at_call 66; (with_reducible refine (H3.out _).mono ?_); rintro e w' ⟨rfl, rfl⟩))
              go_round
              case rel => exact ⟨k + 1, by omega, by go_num, HN⟩
              case measure => simp [intOf]; omega
      · have HE := Lib.hid (show res = true by rw [HR2.out, all_done (by rw [HLen.out]; exact hlt) HA.out])
        go_wp2
        go_ret
        exact ⟨by (rw [HE.out]; try rfl), HW1.out⟩
set_option maxRecDepth 4096 in
set_option maxHeartbeats 3200000 in
theorem iIsUniform_any (A : Option Addr) (n c : Nat) (ss : Wds) (W : World) (hs : SIn W A n c ss) :
    Calls Tryd.prog 31 #[SubV A n c] W fun e w' => e = .returned (.int .i64 (uni ss)) ∧ Below W.heap.size W w' := by
  obtain ⟨res, hres⟩ : ∃ res, res = uni ss := ⟨_, rfl⟩
  rw [← hres]
  have HLen := Lib.hid hs.1.lenS
  have HW1 := Lib.hid (Below.boxed W (.cells #[.slice A n c] 39))
  have HBx := Lib.hid (SubAt.made W 39 A n c)
  have hn := hs.2.1
  have hcon := iSubstOk_any A n c ss _ (hs.later HW1.out)
  have HS := Lib.hid hs
  clear hs
  cases hok : sOk ss
  case false =>
    rw [hok] at hcon
    have HC := Lib.hid hcon
    have HE := Lib.hid (show res = -1 by rw [hres]; unfold uni; rw [hok]; rfl)
    clear hcon hok hres
    go_enter Tryd.func31, Tryd.ntmps31
    go_wp2_with fail
    refine HC.out.mono ?_
    rintro e w1 ⟨rfl, hb1⟩
    go_wp2
    go_ret
    exact ⟨by (rw [HE.out]; try rfl), HW1.out.trans (hb1.mono HW1.out.size)⟩
  case true =>
    rw [hok] at hcon
    have HC := Lib.hid hcon
    have HE := Lib.hid (show res = if flat ss = true then ((ss.getD 0 []).length : Int) else 0 by rw [hres]; unfold uni; rw [hok]; rfl)
    have hn4 := sOk_n hok
    have h0 : 0 < ss.length := by omega
    have HG0 := Lib.hid (show ss.getD 0 [] = ss[0] by rw [List.getD_eq_getElem?_getD, List.getElem?_eq_getElem h0]; rfl)
    have hn1 : 1 ≤ n := by have := HLen.out; omega
    clear hcon hok hres hn4
    go_enter Tryd.func31, Tryd.ntmps31
    go_wp2_with fail
    refine HC.out.mono ?_
    rintro e w1 ⟨rfl, hb1⟩
    have HB := Lib.hid (HW1.out.trans (hb1.mono HW1.out.size))
    have bx0 : w1.cell? ⟨W.heap.size, 0, none⟩ = some (.slice A n c) := HBx.out.later hb1
    obtain ⟨g, hg⟩ : ∃ g, g = W.heap.size := ⟨_, rfl⟩
    have HS1 := Lib.hid (HS.out.later HB.out)
    have HWS := Lib.hid hg
    rw [← hg] at bx0 ⊢
    obtain ⟨a, rfl, hab, hc0⟩ := HS1.out.1.str h0
    obtain ⟨r0, hr0⟩ : ∃ r, r = ss[0] := ⟨_, rfl⟩
    have HR0 := Lib.hid (show ss.getD 0 [] = r0 by rw [HG0.out, hr0])
    rw [← hr0] at hc0
    have hc00 : w1.cell? a = some (.string ⟨r0.toArray⟩) := hc0
    clear hb1 hg hr0 hc0 HC HG0 HW1 HBx
    go_wp2_with fail
    go_loop [11] (fun i => ∃ k : Nat, k ≤ n ∧ i = .int .i64 k ∧ Hid ((ss.take k).all (fun l => l.length == r0.length) = true)) (fun i => n - (intOf i).toNat)
    case atStart => exact ⟨0, Nat.zero_le _, rfl, Lib.hid rfl⟩
    case round =>
      obtain ⟨k, hk, rfl, HA⟩ := hrel
      by_cases hlt : k < n
      · have hkl : k < ss.length := by rw [HLen.out]; exact hlt
        obtain ⟨a9, hA9, _, hca⟩ := HS1.out.1.str hkl
        obtain rfl := Option.some.inj hA9
        have HBad := Lib.hid (fun h => all_bad (p := fun l : List UInt8 => l.length == r0.length) hkl h)
        have HGood := Lib.hid (fun h => all_snoc (p := fun l : List UInt8 => l.length == r0.length) hkl HA.out h)
        obtain ⟨l, hl⟩ : ∃ l, l = ss[k] := ⟨_, rfl⟩
        rw [← hl] at hca HBad HGood
        clear HA hl
        by_cases he : l.length = r0.length
        · have HN := Lib.hid (HGood.out (by simp [he]))
          have d1 : ((l.length : Int) != (r0.length : Int)) = false := by simp [he]
          clear HBad HGood
          go_wp2
          go_round
          case rel => exact ⟨k + 1, by omega, by go_num, HN⟩
          case measure => simp [intOf]; omega
        · have HN := Lib.hid (show res = 0 by rw [HE.out]; unfold flat; rw [HR0.out, HBad.out (by simp [he])]; rfl)
          have d1 : ((l.length : Int) != (r0.length : Int)) = true := by simp; omega
          clear HBad HGood
          go_wp2
          go_ret
          exact ⟨by (rw [HN.out]; try rfl), HB.out⟩
      · have HN := Lib.hid (show res = (r0.length : Int) by rw [HE.out]; unfold flat; rw [HR0.out, all_done (by rw [HLen.out]; exact hlt) HA.out]; rfl)
        go_wp2
        go_ret
        exact ⟨by (rw [HN.out]; try rfl), HB.out⟩
set_option maxRecDepth 4096 in
set_option maxHeartbeats 3200000 in
theorem sIsUniform_any (A : Option Addr) (n c : Nat) (ss : Wds) (W : World) (hs : SIn W A n c ss) :
    Calls Tryd.prog 53 #[SubV A n c] W fun e w' => e = .returned (.int .i64 (uni ss)) ∧ Below W.heap.size W w' := by
  obtain ⟨res, hres⟩ : ∃ res, res = uni ss := ⟨_, rfl⟩
  rw [← hres]
  have HLen := Lib.hid hs.1.lenS
  have HW1 := Lib.hid (Below.boxed W (.cells #[.slice A n c] 39))
  have HBx := Lib.hid (SubAt.made W 39 A n c)
  have hn := hs.2.1
  have hcon := sSubstOk_any A n c ss _ (hs.later HW1.out)
  have HS := Lib.hid hs
  clear hs
  cases hok : sOk ss
  case false =>
    rw [hok] at hcon
    have HC := Lib.hid hcon
    have HE := Lib.hid (show res = -1 by rw [hres]; unfold uni; rw [hok]; rfl)
    clear hcon hok hres
    go_enter Tryd.func53, Tryd.ntmps53
    go_wp2_with fail
    refine HC.out.mono ?_
    rintro e w1 ⟨rfl, hb1⟩
    go_wp2
    go_ret
    exact ⟨by (rw [HE.out]; try rfl), HW1.out.trans (hb1.mono HW1.out.size)⟩
  case true =>
    rw [hok] at hcon
    have HC := Lib.hid hcon
    have HE := Lib.hid (show res = if flat ss = true then ((ss.getD 0 []).length : Int) else 0 by rw [hres]; unfold uni; rw [hok]; rfl)
    have hn4 := sOk_n hok
    have h0 : 0 < ss.length := by omega
    have HG0 := Lib.hid (show ss.getD 0 [] = ss[0] by rw [List.getD_eq_getElem?_getD, List.getElem?_eq_getElem h0]; rfl)
    have hn1 : 1 ≤ n := by have := HLen.out; omega
    clear hcon hok hres hn4
    go_enter Tryd.func53, Tryd.ntmps53
    go_wp2_with fail
    refine HC.out.mono ?_
    rintro e w1 ⟨rfl, hb1⟩
    have HB := Lib.hid (HW1.out.trans (hb1.mono HW1.out.size))
    have bx0 : w1.cell? ⟨W.heap.size, 0, none⟩ = some (.slice A n c) := HBx.out.later hb1
    obtain ⟨g, hg⟩ : ∃ g, g = W.heap.size := ⟨_, rfl⟩
    have HS1 := Lib.hid (HS.out.later HB.out)
    have HWS := Lib.hid hg
    rw [← hg] at bx0 ⊢
    obtain ⟨a, rfl, hab, hc0⟩ := HS1.out.1.str h0
    obtain ⟨r0, hr0⟩ : ∃ r, r = ss[0] := ⟨_, rfl⟩
    have HR0 := Lib.hid (show ss.getD 0 [] = r0 by rw [HG0.out, hr0])
    rw [← hr0] at hc0
    have hc00 : w1.cell? a = some (.string ⟨r0.toArray⟩) := hc0
    clear hb1 hg hr0 hc0 HC HG0 HW1 HBx
    go_wp2_with fail
    go_loop [11] (fun i => ∃ k : Nat, k ≤ n ∧ i = .int .i64 k ∧ Hid ((ss.take k).all (fun l => l.length == r0.length) = true)) (fun i => n - (intOf i).toNat)
    case atStart => exact ⟨0, Nat.zero_le _, rfl, Lib.hid rfl⟩
    case round =>
      obtain ⟨k, hk, rfl, HA⟩ := hrel
      by_cases hlt : k < n
      · have hkl : k < ss.length := by rw [HLen.out]; exact hlt
        obtain ⟨a9, hA9, _, hca⟩ := HS1.out.1.str hkl
        obtain rfl := Option.some.inj hA9
        have HBad := Lib.hid (fun h => all_bad (p := fun l : List UInt8 => l.length == r0.length) hkl h)
        have HGood := Lib.hid (fun h => all_snoc (p := fun l : List UInt8 => l.length == r0.length) hkl HA.out h)
        obtain ⟨l, hl⟩ : ∃ l, l = ss[k] := ⟨_, rfl⟩
        rw [← hl] at hca HBad HGood
        clear HA hl
        by_cases he : l.length = r0.length
        · have HN := Lib.hid (HGood.out (by simp [he]))
          have d1 : ((l.length : Int) != (r0.length : Int)) = false := by simp [he]
          clear HBad HGood
          go_wp2
          go_round
          case rel => exact ⟨k + 1, by omega, by go_num, HN⟩
          case measure => simp [intOf]; omega
        · have HN := Lib.hid (show res = 0 by rw [HE.out]; unfold flat; rw [HR0.out, HBad.out (by simp [he])]; rfl)
          have d1 : ((l.length : Int) != (r0.length : Int)) = true := by simp; omega
          clear HBad HGood
          go_wp2
          go_ret
          exact ⟨by (rw [HN.out]; try rfl), HB.out⟩
      · have HN := Lib.hid (show res = (r0.length : Int) by rw [HE.out]; unfold flat; rw [HR0.out, all_done (by rw [HLen.out]; exact hlt) HA.out]; rfl)
        go_wp2
        go_ret
        exact ⟨by (rw [HN.out]; try rfl), HB.out⟩
end Go.Proofs.YtcicoplmpinnmaaDoor
