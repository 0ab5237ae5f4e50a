/-
  The reference's source of drawn numbers: a cursor over the code. Contracts of l01Byte, l01New, l31New, l01Below, l01Once: some number in range. No conditions beyond the code's length.
-/
import Derived.Test.YtcicoplmpinnmaaDoorRowW
import Derived.Laws.BitsLemmas
namespace Go.Proofs.YtcicoplmpinnmaaDoor
open Go.RowKit

theorem and255 (n : Int) : bits .and .i64 n 255 = n % 256 := by
  have h127 : (BitVec.ofInt 64 255).toNat = 2 ^ 8 - 1 := by decide
  have key : (BitVec.ofInt 64 n &&& BitVec.ofInt 64 255).toNat = (n % ((2 ^ 64 : Nat) : Int)).toNat % 2 ^ 8 := by
    rw [BitVec.toNat_and, BitVec.toNat_ofInt, h127, Nat.and_two_pow_sub_one_eq_mod]
  show IntKind.i64.wrap ((BitVec.ofInt 64 n &&& BitVec.ofInt 64 255).toNat : Nat) = n % 256
  rw [key, IntKind.wrap_i64]
  omega
theorem and30 (n : Int) : bits .and .i64 n 1073741823 = n % 1073741824 := by
  have h127 : (BitVec.ofInt 64 1073741823).toNat = 2 ^ 30 - 1 := by decide
  have key : (BitVec.ofInt 64 n &&& BitVec.ofInt 64 1073741823).toNat = (n % ((2 ^ 64 : Nat) : Int)).toNat % 2 ^ 30 := by
    rw [BitVec.toNat_and, BitVec.toNat_ofInt, h127, Nat.and_two_pow_sub_one_eq_mod]
  show IntKind.i64.wrap ((BitVec.ofInt 64 n &&& BitVec.ofInt 64 1073741823).toNat : Nat) = n % 1073741824
  rw [key, IntKind.wrap_i64]
  omega
theorem wrap64_I64 (n : Int) : I64 (wrap64 n) := by unfold I64 wrap64; omega

/-- the cursor lies in block g: the code, an index, a number -/
def CurRow (w : World) (g : Nat) (A : Option Addr) (n c : Nat) (i h : Int) : Prop :=
  w.ownsRow g 72 1 (.slice (some ⟨g, 0, none⟩) 3 3) 3 [.slice A n c, .int .i64 i, .int .i64 h]
def CurAt (w : World) (g : Nat) : Prop :=
  ∃ (A : Option Addr) (n c : Nat) (l : List UInt8) (i h : Int), CurRow w g A n c i h ∧ Rd w g A n (bvs l) ∧ n ≤ 1048576 ∧ 0 ≤ i ∧ i ≤ n ∧ I64 h
/-- nothing has turned but the cursor -/
def TurnG (w w' : World) (g : Nat) : Prop := w.grownBy w' (some g)
def Num (lo hi : Int) (w : World) (g : Nat) (e : Ending) (w' : World) : Prop := ∃ v : Int, e = .returned (.int .i64 v) ∧ lo ≤ v ∧ v ≤ hi ∧ CurAt w' g ∧ TurnG w w' g
theorem CurAt.lt {w : World} {g : Nat} (h : CurAt w g) : g < w.heap.size := by
  obtain ⟨A, n, c, l, i, hh, hr, _⟩ := h
  exact (own_blk_lt hr g rfl).2
theorem turn_rd {w w' : World} {g : Nat} {A : Option Addr} {n : Nat} {xs : List Value} (h : TurnG w w' g) (hg : g ≤ w.heap.size) (hr : Rd w g A n xs) : Rd w' g A n xs :=
  hr.keep fun p hp => by
    have hb := h.block p.block (by omega) (fun h2 => by injection h2 with h2; omega)
    unfold World.cell?
    rw [hb]
theorem TurnG.trans {w w' w'' : World} {g : Nat} (h : TurnG w w' g) (h2 : TurnG w' w'' g) : TurnG w w'' g := World.grownBy.trans h h2
theorem TurnG.same {w : World} {g : Nat} : TurnG w w g := World.grownBy.refl _ _
theorem TurnG.of {w w' : World} {g : Nat} (h : Below w.heap.size w w') : TurnG w w' g := grown_of_below h _
/-- a call that turns nothing old leaves the cursor -/
theorem CurAt.later {w w' : World} {g : Nat} (h : CurAt w g) (hb : Below w.heap.size w w') : CurAt w' g := by
  have hl := h.lt
  obtain ⟨A, n, c, l, i, hh, hr, h1, h2⟩ := h
  exact ⟨A, n, c, l, i, hh, keep_row hr hb, h1.below (hb.mono (by omega)), h2⟩

theorem cur_drew {w : World} {g : Nat} {A : Option Addr} {n c : Nat} {i h : Int} (hr : CurRow w g A n c i h) (q : Nat) : CurRow (w.drewN q) g A n c i h := hr
theorem turn_drew {w w' : World} {g : Nat} (h : TurnG w w' g) (q : Nat) : TurnG w (w'.drewN q) g := ⟨h.os, h.tape, h.output, h.size, h.block⟩

theorem turn_cell {w w' : World} {g : Nat} (h : w.grownBy w' (some g)) {p : Addr} (hp : p.block < w.heap.size) (hne : p.block ≠ g) : w'.cell? p = w.cell? p := by
  have hb := h.block p.block hp (fun h2 => by injection h2 with h2; exact hne h2)
  unfold World.cell?
  rw [hb]

theorem cur_set2 {w : World} {g : Nat} {A : Option Addr} {n c : Nat} {i h : Int} (hr : CurRow w g A n c i h) (h2 : Int) : CurRow (w.setCell ⟨g, 2, none⟩ (.int .i64 h2)) g A n c i h2 ∧ TurnG w (w.setCell ⟨g, 2, none⟩ (.int .i64 h2)) g := hr.stored 2 _
theorem cur_set1 {w : World} {g : Nat} {A : Option Addr} {n c : Nat} {i h : Int} (hr : CurRow w g A n c i h) (i2 : Int) : CurRow (w.setCell ⟨g, 1, none⟩ (.int .i64 i2)) g A n c i2 h ∧ TurnG w (w.setCell ⟨g, 1, none⟩ (.int .i64 i2)) g := hr.stored 1 _

set_option maxHeartbeats 3200000 in
theorem l01Byte_any (g : Nat) (w : World) (h : CurAt w g) : Calls Tryd.prog 27 #[.pointer (some ⟨g, 0, none⟩)] w (Num 0 255 w g) := by
  have hlt := h.lt
  obtain ⟨A, n, c, l, i, hh, hrow, hr, hn, hi0, hin, hh12⟩ := h
  have c0 : w.cell? ⟨g, 0, none⟩ = some (.slice A n c) := hrow.cellAt 0 (by omega)
  have c1 : w.cell? ⟨g, 1, none⟩ = some (.int .i64 i) := hrow.cellAt 1 (by omega)
  have c2 : w.cell? ⟨g, 2, none⟩ = some (.int .i64 hh) := hrow.cellAt 2 (by omega)
  have f1 : w.frozen? ⟨g, 1, none⟩ = false := hrow.frozenAt 1
  have f2 : w.frozen? ⟨g, 2, none⟩ = false := hrow.frozenAt 2
  have HA := Lib.hid (@and255)
  have HW := Lib.hid (@wrap64_I64)
  have hand := and255
  have HRow := Lib.hid hrow
  have HR := Lib.hid hr
  have hlen := Lib.hid hr.lenB
  obtain ⟨k, rfl⟩ := Int.eq_ofNat_of_zero_le hi0
  clear hrow hr
  by_cases hkn : k < n
  · obtain ⟨a, rfl, hab, hcell⟩ := HR.out.byte (k := k) (by rw [hlen.out]; exact hkn)
    obtain ⟨b, hb⟩ : ∃ b, b = l[k]'(by rw [hlen.out]; exact hkn) := ⟨_, rfl⟩
    rw [← hb] at hcell
    have hb0 := b.toNat_lt
    have hne : (a.add k).block ≠ g := by rw [add_block]; omega
    have hcg : ∀ v, (w.setCell ⟨g, 2, none⟩ v).cell? (a.add k) = some (.int .u8 (b.toNat : Nat)) := fun v => by
      rw [← hcell]; exact turn_cell (HRow.out.stored 2 v).2 (by rw [add_block]; omega) hne
    have hd : decide ((k : Int) < (n : Int)) = true := by simp; omega
    have i0 : (0 : Int) ≤ (k : Int) := by omega
    have i1 : (k : Int) < (n : Int) := by omega
    go_enter Tryd.func27, Tryd.ntmps27
    go_wp2
    go_quiet (fail)
    obtain ⟨qa, rfl⟩ : ∃ q, q = nq := ⟨_, rfl⟩
    go_wp2
    go_quiet (fail)
    obtain ⟨qb, rfl⟩ : ∃ q, q = nq := ⟨_, rfl⟩
    go_wp2
    go_quiet (fail)
    obtain ⟨qc, rfl⟩ : ∃ q, q = nq := ⟨_, rfl⟩
    go_wp2
    go_ret
    obtain ⟨s1, s2⟩ := cur_set2 HRow.out (wrap64 (wrap64 (hh * 6364136223846793005) + 1442695040888963407))
    obtain ⟨s3, s4⟩ := cur_set1 (cur_drew s1 (qa + qb + qc)) ((k : Int) + 1)
    have hT := (turn_drew s2 (qa + qb + qc)).trans s4
    exact ⟨_, rfl, by omega, by omega, ⟨_, _, _, _, _, _, s3, turn_rd hT (by omega) HR.out, hn, by omega, by omega, wrap64_I64 _⟩, hT⟩
  · go_enter Tryd.func27, Tryd.ntmps27
    have hd : decide ((k : Int) < (n : Int)) = false := by simp; omega
    go_wp2
    go_quiet (fail)
    obtain ⟨qa, rfl⟩ : ∃ q, q = nq := ⟨_, rfl⟩
    go_wp2
    go_quiet (fail)
    obtain ⟨qb, rfl⟩ : ∃ q, q = nq := ⟨_, rfl⟩
    go_wp2
    go_ret
    obtain ⟨s1, s2⟩ := cur_set2 HRow.out (wrap64 (wrap64 (hh * 6364136223846793005) + 1442695040888963407))
    have hT := turn_drew (turn_drew s2 qa) qb
    exact ⟨_, rfl, by omega, by omega, ⟨_, _, _, _, _, _, cur_drew (cur_drew s1 qa) qb, turn_rd hT (by omega) HR.out, hn, by omega, by omega, wrap64_I64 _⟩, hT⟩

theorem below_turn {W w w' : World} {g : Nat} (hb : Below W.heap.size W w) (ht : TurnG w w' g) (hg : W.heap.size ≤ g) : Below W.heap.size W w' :=
  hb.grown ht hb.size (fun k hk => by injection hk with hk; omega)
def NewCur (w : World) (e : Ending) (w' : World) : Prop := ∃ g, e = .returned (.pointer (some ⟨g, 0, none⟩)) ∧ w.heap.size ≤ g ∧ CurAt w' g ∧ Below w.heap.size w w'
theorem box_row (w : World) (A : Option Addr) (n c : Nat) (i h : Int) : CurRow (w.alloc (.cells #[.slice A n c, .int .i64 i, .int .i64 h] 72)) w.heap.size A n c i h :=
  (Own.made (w0 := w) (w := w) (Below.refl _ _) 72 [.slice A n c, .int .i64 i, .int .i64 h] (by simp)).1

set_option maxHeartbeats 1600000 in
theorem l01New_any (A : Option Addr) (n c : Nat) (l : List UInt8) (w : World) (hr : Rd w w.heap.size A n (bvs l)) (hn : n ≤ 1048576) : Calls Tryd.prog 42 #[.slice A n c] w (NewCur w) := by
  have hlen := Lib.hid hr.lenB
  have HR := Lib.hid hr
  have hand := and30
  have hand2 : ∀ n : Int, 0 ≤ n % 1073741824 ∧ n % 1073741824 < 1073741824 := fun n => by omega
  have H2 := Lib.hid hand2
  clear hr hand2
  go_enter Tryd.func42, Tryd.ntmps42
  go_wp2
  go_loop [4, 3] (fun i t => ∃ (k : Nat) (h : Int), k ≤ n ∧ k ≤ 4000 ∧ i = .int .i64 k ∧ t = .int .i64 h ∧ 0 ≤ h ∧ h ≤ 1073741824) (fun i _ => 4000 - (intOf i).toNat)
  case atStart => exact ⟨0, _, Nat.zero_le _, Nat.zero_le _, rfl, rfl, by omega, by omega⟩
  case round =>
    obtain ⟨k, h, hk, hk4, rfl, rfl, h0, h1⟩ := hrel
    by_cases hkn : k < n
    · by_cases hk40 : k < 4000
      · obtain ⟨a, rfl, hab, hcell⟩ := HR.out.byte (k := k) (by rw [hlen.out]; exact hkn)
        obtain ⟨b, hb⟩ : ∃ b, b = l[k]'(by rw [hlen.out]; exact hkn) := ⟨_, rfl⟩
        rw [← hb] at hcell
        have hb0 := b.toNat_lt
        have hd : decide ((k : Int) < (n : Int)) = true := by simp; omega
        have hd2 : decide ((k : Int) < 4000) = true := by simp; omega
        clear hb
        go_wp2
        go_round
        case rel => exact ⟨k + 1, _, by omega, by omega, by go_num, rfl, (H2.out _).1, by have := (H2.out (h * 181 + (b.toNat : Int) + 7)).2; omega⟩
        case measure => simp [intOf]; omega
      · have hd : decide ((k : Int) < (n : Int)) = true := by simp; omega
        have hd2 : decide ((k : Int) < 4000) = false := by simp; omega
        go_wp2
        go_ret
        exact ⟨w.heap.size, rfl, Nat.le_refl _, ⟨A, n, c, l, 0, h, box_row _ _ _ _ _ _, HR.out.keep (fun p hp => ((Below.refl _ _).alloc (Nat.le_refl _) _).cell hp), hn, by omega, by omega, by unfold I64; omega⟩, (Below.refl _ _).alloc (Nat.le_refl _) _⟩
    · have hd : decide ((k : Int) < (n : Int)) = false := by simp; omega
      go_wp2
      go_ret
      exact ⟨w.heap.size, rfl, Nat.le_refl _, ⟨A, n, c, l, 0, h, box_row _ _ _ _ _ _, HR.out.keep (fun p hp => ((Below.refl _ _).alloc (Nat.le_refl _) _).cell hp), hn, by omega, by omega, by unfold I64; omega⟩, (Below.refl _ _).alloc (Nat.le_refl _) _⟩

set_option maxHeartbeats 1600000 in
theorem l31New_any (A : Option Addr) (n c : Nat) (l : List UInt8) (m : Nat) (w : World) (hr : Rd w w.heap.size A n (bvs l)) (hn : n ≤ 1048576) (hm : m ≤ 100000) : Calls Tryd.prog 19 #[.slice A n c, .int .i64 (m : Int)] w (NewCur w) := by
  have HC := Lib.hid (l01New_any A n c l w hr hn)
  clear hr
  go_enter Tryd.func19, Tryd.ntmps19
  go_wp2_with fail
  refine HC.out.mono ?_
  rintro e w1 ⟨g, rfl, hg, hcur, hbel⟩
  have HCur := Lib.hid hcur
  have HBel := Lib.hid hbel
  clear HC hcur hbel
  go_wp2
  go_loopw [6] (fun i wr => ∃ k : Nat, k ≤ m ∧ i = .int .i64 k ∧ CurAt wr g ∧ Below w.heap.size w wr) (fun i _ => m - (intOf i).toNat)
  case atStart => exact ⟨0, Nat.zero_le _, rfl, HCur.out, HBel.out⟩
  case round =>
    obtain ⟨k, hk, rfl, hcur, hbel⟩ := hrel
    have HC := Lib.hid hcur
    have HB := Lib.hid hbel
    clear hcur hbel
    by_cases hkm : k < m
    · go_wp2_with fail
      refine (l01Byte_any g _ HC.out).mono ?_
      rintro e w2 ⟨v, rfl, hv0, hv1, hc2, ht2⟩
      have HC2 := Lib.hid hc2
      have HB2 := Lib.hid (below_turn HB.out ht2 hg)
      clear hc2 ht2
      go_wp2
      exact ⟨⟨k + 1, by omega, by go_num, HC2.out, HB2.out⟩, by simp [intOf]; omega⟩
    · go_wp2
      go_ret
      exact ⟨g, rfl, hg, HC.out, HB.out⟩

def BelowN (n : Int) (w : World) (g : Nat) (e : Ending) (w' : World) : Prop := ∃ v : Int, e = .returned (.int .i64 v) ∧ 0 ≤ v ∧ (0 < n → v < n) ∧ (n ≤ 0 → v = 0) ∧ CurAt w' g ∧ TurnG w w' g
set_option maxHeartbeats 800000 in
theorem l01Below_any (g : Nat) (n : Int) (w : World) (hn : n ≤ 256) (h : CurAt w g) : Calls Tryd.prog 20 #[.pointer (some ⟨g, 0, none⟩), .int .i64 n] w (BelowN n w g) := by
  have H := Lib.hid h
  clear h
  by_cases hn0 : n ≤ 0
  · go_enter Tryd.func20, Tryd.ntmps20
    go_wp2
    go_ret
    exact ⟨0, rfl, by omega, by omega, fun _ => rfl, H.out, TurnG.same⟩
  · go_enter Tryd.func20, Tryd.ntmps20
    go_wp2_with fail
    refine (l01Byte_any g _ H.out).mono ?_
    rintro e w2 ⟨v, rfl, hv0, hv1, hc2, ht2⟩
    have HC2 := Lib.hid hc2
    have HT2 := Lib.hid ht2
    clear hc2 ht2
    have hp : 0 < n := by omega
    have HM1 := Lib.hid (Int.emod_nonneg v (show n ≠ 0 by omega))
    have HM2 := Lib.hid (Int.emod_lt_of_pos v hp)
    go_wp2
    go_ret
    exact ⟨v % n, rfl, HM1.out, fun _ => HM2.out, fun h => by omega, HC2.out, HT2.out⟩
def OnceN (w : World) (g : Nat) (e : Ending) (w' : World) : Prop := ∃ b : Bool, e = .returned (.bool b) ∧ CurAt w' g ∧ TurnG w w' g
theorem l01Once_any (g : Nat) (n : Int) (w : World) (hn : n ≤ 256) (h : CurAt w g) : Calls Tryd.prog 37 #[.pointer (some ⟨g, 0, none⟩), .int .i64 n] w (OnceN w g) := by
  have HC := Lib.hid (l01Below_any g n w hn h)
  clear h
  go_enter Tryd.func37, Tryd.ntmps37
  go_wp2_with fail
  refine HC.out.mono ?_
  rintro e w2 ⟨v, rfl, hv0, hv1, hv2, hc2, ht2⟩
  have HC2 := Lib.hid hc2
  have HT2 := Lib.hid ht2
  clear hc2 ht2 hv1 hv2
  go_wp2
  go_ret
  exact ⟨_, rfl, HC2.out, HT2.out⟩
def PickN (ss : List (List UInt8)) (w : World) (g : Nat) (e : Ending) (w' : World) : Prop := ∃ s ∈ ss, e = .returned (.string ⟨s.toArray⟩) ∧ CurAt w' g ∧ TurnG w w' g
theorem l01Str_any (g : Nat) (a : Addr) (m d : Nat) (ss : List (List UInt8)) (w : World) (h : CurAt w g) (hne : a.block ≠ g) (hr : Rd w w.heap.size (some a) m (svs ss)) (hm0 : 0 < m) (hm : m ≤ 256) :
    Calls Tryd.prog 39 #[.pointer (some ⟨g, 0, none⟩), .slice (some a) m d] w (PickN ss w g) := by
  have HC := Lib.hid (l01Below_any g m w (by omega) h)
  have hlen := Lib.hid hr.lenS
  have HR := Lib.hid hr
  clear h hr
  go_enter Tryd.func39, Tryd.ntmps39
  go_wp2_with fail
  refine HC.out.mono ?_
  rintro e w2 ⟨v, rfl, hv0, hv1, hv2, hc2, ht2⟩
  have hvm := hv1 (by omega)
  obtain ⟨v, rfl⟩ := Int.eq_ofNat_of_zero_le hv0
  have hvl : v < ss.length := by rw [hlen.out]; omega
  obtain ⟨a2, ha2, hab, hcell⟩ := HR.out.str (k := v) hvl
  injection ha2 with ha2
  subst ha2
  have hcell2 := (turn_cell ht2 (p := a.add v) (by rw [add_block]; exact hab) (by rw [add_block]; exact hne)).trans hcell
  have HMem := Lib.hid (List.getElem_mem hvl)
  have HC2 := Lib.hid hc2
  have HT2 := Lib.hid ht2
  clear hc2 ht2 hv1 hv2 hcell HC
  have i1 : (v : Int) < (m : Int) := hvm
  go_wp2
  go_ret
  exact ⟨_, HMem.out, rfl, HC2.out, HT2.out⟩
end Go.Proofs.YtcicoplmpinnmaaDoor
