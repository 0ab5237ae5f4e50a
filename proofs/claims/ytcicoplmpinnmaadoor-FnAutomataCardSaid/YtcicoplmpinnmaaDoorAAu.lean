/-
  Automata: how a slice of rows of numbers is read; whether an automaton is valid, in the program and in the reference. No conditions.
-/
import Derived.Test.YtcicoplmpinnmaaDoorMemG
import Derived.Test.YtcicoplmpinnmaaDoorWd
import Derived.Test.YtcicoplmpinnmaaDoorRowW
import Derived.Test.YtcicoplmpinnmaaDoorBase
namespace Go.Proofs.YtcicoplmpinnmaaDoor
open Go.RowKit

abbrev Tab := List (List Int)
/-- a slice of slices of numbers that can be read -/
def GIn (w : World) (A : Option Addr) (n c : Nat) (zss : Tab) : Prop := ∃ rs : List Row, RdG w A n rs ∧ rs.map Row.xs = zss.map ivs ∧ n ≤ 1048576 ∧ (∀ z ∈ zss, z.length ≤ 1048576) ∧ n ≤ c ∧ c ≤ 9223372036854775807
section
variable {w w' : World} {A : Option Addr} {n c : Nat} {zss : Tab}
theorem GIn.later (h : GIn w A n c zss) (hb : Below w.heap.size w w') : GIn w' A n c zss := by
  obtain ⟨rs, h1, h2⟩ := h; exact ⟨rs, h1.later hb, h2⟩
theorem GIn.len (h : GIn w A n c zss) : zss.length = n := by
  obtain ⟨rs, h1, h2, _⟩ := h; rw [← xs_len h2]; exact h1.len
theorem GIn.at (h : GIn w A n c zss) {k : Nat} (hk : k < zss.length) : ∃ a A1 m1 c1, A = some a ∧ a.block < w.heap.size ∧ w.cell? (a.add k) = some (.slice A1 m1 c1) ∧ Rd w w.heap.size A1 m1 (ivs zss[k]) ∧ zss[k].length ≤ 1048576 := by
  obtain ⟨rs, h1, h2, _, h4, _⟩ := h
  have hk2 : k < rs.length := by rw [xs_len h2]; exact hk
  obtain ⟨a, ha, hab, hc⟩ := h1.cell hk2
  have hr := h1.2 _ (List.getElem_mem hk2)
  rw [xs_at h2 hk2] at hr
  exact ⟨a, _, _, _, ha, hab, hc, hr, h4 _ (List.getElem_mem hk)⟩
end
/-- the value of an automaton -/
abbrev AutoV (b : Int) (A : Option Addr) (n c : Nat) (o : List UInt8) : Value := .agg #[.int .i64 b, .slice A n c, .string ⟨o.toArray⟩]

def rowOkA (b m : Int) (z : List Int) : Bool := decide ((z.length : Int) = b) && z.all fun x => wi x 0 (m - 1)
def headOk (b m : Int) (o : List UInt8) : Bool := wi b 2 4 && (wi m 1 8 && ((o.length : Int) == m && isW o))
def aOk (b : Int) (zss : Tab) (o : List UInt8) : Bool := headOk b zss.length o && zss.all (rowOkA b zss.length)

/-- an automaton laid in a new block -/
def BoxAt (w : World) (g : Nat) (b : Int) (A : Option Addr) (n c : Nat) (o : List UInt8) : Prop :=
  w.cell? ⟨g, 0, none⟩ = some (.int .i64 b) ∧ w.cell? ⟨g, 1, none⟩ = some (.slice A n c) ∧ w.cell? ⟨g, 2, none⟩ = some (.string ⟨o.toArray⟩)
theorem BoxAt.made (W : World) (t : TypeId) (b : Int) (A : Option Addr) (n c : Nat) (o : List UInt8) : BoxAt (W.alloc (.cells #[.int .i64 b, .slice A n c, .string ⟨o.toArray⟩] t)) W.heap.size b A n c o :=
  ⟨cell_of_row _ _ 0 _ _ _ (heap_alloc_new W _), cell_of_row _ _ 1 _ _ _ (heap_alloc_new W _), cell_of_row _ _ 2 _ _ _ (heap_alloc_new W _)⟩
theorem BoxAt.later {w w' : World} {g : Nat} {b : Int} {A : Option Addr} {n c : Nat} {o : List UInt8} (h : BoxAt w g b A n c o) (hb : Below w.heap.size w w') : BoxAt w' g b A n c o :=
  ⟨by rw [hb.cell (World.block_lt_of_cell? w _ h.1)]; exact h.1, by rw [hb.cell (World.block_lt_of_cell? w _ h.2.1)]; exact h.2.1, by rw [hb.cell (World.block_lt_of_cell? w _ h.2.2)]; exact h.2.2⟩
theorem Below.boxed (W : World) (o : Obj) : Below W.heap.size W (W.alloc o) := (Below.refl _ _).alloc (Nat.le_refl _) o

theorem row_bad {b m : Int} {z : List Int} {k : Nat} (hk : k < z.length) (h : wi z[k] 0 (m - 1) = false) : rowOkA b m z = false := by
  unfold rowOkA; rw [all_bad (p := fun x => wi x 0 (m - 1)) hk h]; simp
theorem row_len {b m : Int} {z : List Int} (h : ¬ (z.length : Int) = b) : rowOkA b m z = false := by unfold rowOkA; simp [h]
theorem row_ok {b m : Int} {z : List Int} {k : Nat} (hb : (z.length : Int) = b) (hk : ¬ k < z.length) (ha : (z.take k).all (fun x => wi x 0 (m - 1)) = true) : rowOkA b m z = true := by
  unfold rowOkA; rw [all_done hk ha]; simp [hb]
theorem within_is {n lo hi : Int} {b : Bool} (h : wi n lo hi = b) (w : World) : Calls Tryd.prog 21 #[.int .i64 n, .int .i64 lo, .int .i64 hi] w fun e w' => e = .returned (.bool b) ∧ w = w' := by
  have := within_any n lo hi w
  rwa [h] at this
theorem l01In_is {n lo hi : Int} {b : Bool} (h : wi n lo hi = b) (w : World) : Calls Tryd.prog 54 #[.int .i64 n, .int .i64 lo, .int .i64 hi] w fun e w' => e = .returned (.bool b) ∧ w = w' := by
  have := l01In_any n lo hi w
  rwa [h] at this
theorem isWord_is {l : List UInt8} {b : Bool} (h : isW l = b) (hl : l.length ≤ 9223372036854775807) (w : World) : Calls Tryd.prog 24 #[.string ⟨l.toArray⟩] w fun e w' => e = .returned (.bool b) ∧ w = w' := by
  have := isWord_any l hl w
  rwa [h] at this
theorem WordOk_is {l : List UInt8} {b : Bool} (h : isW l = b) (hl : l.length ≤ 9223372036854775807) (w : World) : Calls Tryd.prog 65 #[.string ⟨l.toArray⟩] w fun e w' => e = .returned (.bool b) ∧ w = w' := by
  have := WordOk_any l hl w
  rwa [h] at this
set_option maxRecDepth 4096 in
set_option maxHeartbeats 3200000 in
theorem iAutoOk_any (b : Int) (A : Option Addr) (n c : Nat) (zss : Tab) (o : List UInt8) (W : World) (hg : GIn W A n c zss) (ho : o.length ≤ 9223372036854775807) :
    Calls Tryd.prog 8 #[AutoV b A n c o] W fun e w' => e = .returned (.bool (aOk b zss o)) ∧ Below W.heap.size W w' := by
  obtain ⟨res, hres⟩ : ∃ res, res = aOk b zss o := ⟨_, rfl⟩
  rw [← hres]
  have HLen := Lib.hid hg.len
  have HR0 := Lib.hid (show res = (headOk b n o && zss.all (rowOkA b n)) by rw [hres, ← hg.len]; rfl)
  have HG := Lib.hid hg
  have hn1 := hg.choose_spec.2.2.1
  have HW1 := Lib.hid (Below.boxed W (.cells #[.int .i64 b, .slice A n c, .string ⟨o.toArray⟩] 25))
  have HBx := Lib.hid (BoxAt.made W 25 b A n c o)
  clear hres hg
  cases g1 : wi b 2 4 <;> cases g2 : wi n 1 8 <;> cases g3 : ((o.length : Int) == (n : Int)) <;> cases g4 : isW o
  case true.true.true.true =>
    have HR := Lib.hid (show res = zss.all (rowOkA b n) by rw [HR0.out]; unfold headOk; simp [g1, g2, g3, g4])
    have hb4 := wi_yes g1
    have hn8 := wi_yes g2
    have d3 : ((o.length : Int) != (n : Int)) = !((o.length : Int) == (n : Int)) := rfl
    rw [g3] at d3
    simp only [Bool.not_true, Bool.not_false] at d3
    have H1 := Lib.hid (within_is g1)
    have H2 := Lib.hid (within_is g2)
    have H4 := Lib.hid (isWord_is g4 ho)
    clear HR0 g1 g2 g3 g4
    go_enter Tryd.func8, Tryd.ntmps8
    go_wp2_with (first | (go_at_call 21; (with_reducible refine (H1.out _).mono ?_); rintro e w' ⟨rfl, rfl⟩) | (go_at_call 21; (with_reducible refine (H2.out _).mono ?_); rintro e w' ⟨rfl, rfl⟩) | (go_at_call 24; (with_reducible refine (H4.out _).mono ?_); rintro e w' ⟨rfl, rfl⟩))
    obtain ⟨W1, hW1⟩ : ∃ W1, W1 = W.alloc (.cells #[.int .i64 b, .slice A n c, .string ⟨o.toArray⟩] 25) := ⟨_, rfl⟩
    rw [← hW1] at HBx HW1 ⊢
    obtain ⟨bx0, bx1, bx2⟩ := HBx.out
    obtain ⟨g, hg⟩ : ∃ g, g = W.heap.size := ⟨_, rfl⟩
    rw [← hg] at bx0 bx1 bx2 ⊢
    have HG1 := Lib.hid (HG.out.later (by have := HW1.out; rw [hg] at *; exact this))
    clear hW1 hg H1 H2 H4 d3 HBx
    go_loop [36] (fun i => ∃ k : Nat, k ≤ n ∧ i = .int .i64 k ∧ Hid ((zss.take k).all (rowOkA b n) = true)) (fun i => n - (intOf i).toNat)
    case atStart => exact ⟨0, Nat.zero_le _, by go_num, Lib.hid rfl⟩
    case round =>
      obtain ⟨k, hk, rfl, HA⟩ := hrel
      by_cases hlt : k < n
      · have hkl : k < zss.length := by rw [HLen.out]; exact hlt
        obtain ⟨a, A1, m1, c1, rfl, hab, hca, hrd, hzl⟩ := HG1.out.at hkl
        have HBad := Lib.hid (fun h => all_bad (p := rowOkA b n) hkl h)
        have HGood := Lib.hid (fun h => all_snoc (p := rowOkA b n) hkl HA.out h)
        obtain ⟨z, hz⟩ : ∃ z, z = zss[k] := ⟨_, rfl⟩
        rw [← hz] at hrd hzl HBad HGood
        have HM1 := Lib.hid hrd.lenI
        have hm1 : m1 ≤ 1048576 := by rw [← HM1.out]; exact hzl
        have HRd := Lib.hid hrd
        clear hz HA hzl hrd
        by_cases hmb : (m1 : Int) = b
        · have d4 : ((m1 : Int) != b) = false := by simp [hmb]
          go_wp2
          go_loop [47] (fun i => ∃ j : Nat, j ≤ m1 ∧ i = .int .i64 j ∧ Hid ((z.take j).all (fun x => wi x 0 ((n : Int) - 1)) = true)) (fun i => m1 - (intOf i).toNat)
          case atStart => exact ⟨0, Nat.zero_le _, by go_num, Lib.hid rfl⟩
          case round =>
            obtain ⟨j, hj, rfl, HA2⟩ := hrel
            by_cases hlt2 : j < m1
            · have hjl : j < z.length := by rw [HM1.out]; exact hlt2
              obtain ⟨a1, rfl, hab1, hc1⟩ := HRd.out.int hjl
              have HB2 := Lib.hid (fun h => row_bad (b := b) (m := n) hjl h)
              have HG2 := Lib.hid (fun h => all_snoc (p := fun x => wi x 0 ((n : Int) - 1)) hjl HA2.out h)
              obtain ⟨x, hx⟩ : ∃ x, x = z[j] := ⟨_, rfl⟩
              rw [← hx] at hc1 HB2 HG2
              have e1 : IntKind.i64.wrap ((n : Int) - 1) = (n : Int) - 1 := IntWalk.i64_in _ (by omega)
              clear hx HA2
              cases hw : wi x 0 ((n : Int) - 1)
              · have HN := Lib.hid (show res = false by rw [HR.out, HBad.out (HB2.out hw)])
                have H5 := Lib.hid (within_is hw)
                clear hw HB2 HG2 HBad HGood
                go_wp2_with (go_at_call 21; (with_reducible refine (H5.out _).mono ?_); rintro e w' ⟨rfl, rfl⟩)
                go_ret
                exact ⟨by (rw [HN.out]; try rfl), HW1.out⟩
              · have HN := Lib.hid (HG2.out hw)
                have H5 := Lib.hid (within_is hw)
                clear hw HB2 HG2
                go_wp2_with (go_at_call 21; (with_reducible refine (H5.out _).mono ?_); rintro e w' ⟨rfl, rfl⟩)
                go_round
                case rel => exact ⟨j + 1, by omega, by go_num, HN⟩
                case measure => simp [intOf]; omega
            · have HN := Lib.hid (HGood.out (row_ok (by rw [HM1.out]; exact hmb) (by rw [HM1.out]; exact hlt2) HA2.out))
              clear HBad HGood
              go_wp2
              go_round
              case rel => exact ⟨k + 1, by omega, by go_num, HN⟩
              case measure => simp [intOf]; omega
        · have d4 : ((m1 : Int) != b) = true := by simp [hmb]
          have HN := Lib.hid (show res = false by rw [HR.out, HBad.out (row_len (by rw [HM1.out]; exact hmb))])
          clear HBad HGood
          go_wp2
          go_ret
          exact ⟨by (rw [HN.out]; try rfl), HW1.out⟩
      · have HN := Lib.hid (show res = true by rw [HR.out, all_done (by rw [HLen.out]; exact hlt) HA.out])
        go_wp2
        go_ret
        exact ⟨by (rw [HN.out]; try rfl), HW1.out⟩
  all_goals
    have HR := Lib.hid (show res = false by rw [HR0.out]; unfold headOk; simp [g1, g2, g3, g4])
    have d3 : ((o.length : Int) != (n : Int)) = !((o.length : Int) == (n : Int)) := rfl
    rw [g3] at d3
    simp only [Bool.not_true, Bool.not_false] at d3
    have H1 := Lib.hid (within_is g1)
    have H2 := Lib.hid (within_is g2)
    have H4 := Lib.hid (isWord_is g4 ho)
    clear HR0 g1 g2 g3 g4
    go_enter Tryd.func8, Tryd.ntmps8
    go_wp2_with (first | (go_at_call 21; (with_reducible refine (H1.out _).mono ?_); rintro e w' ⟨rfl, rfl⟩) | (go_at_call 21; (with_reducible refine (H2.out _).mono ?_); rintro e w' ⟨rfl, rfl⟩) | (go_at_call 24; (with_reducible refine (H4.out _).mono ?_); rintro e w' ⟨rfl, rfl⟩))
    go_ret
    exact ⟨by (rw [HR.out]; try rfl), HW1.out⟩
end Go.Proofs.YtcicoplmpinnmaaDoor
