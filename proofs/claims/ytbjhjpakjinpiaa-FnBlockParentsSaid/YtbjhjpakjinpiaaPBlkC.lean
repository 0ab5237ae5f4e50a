/-
  Contracts for the walk of the law FnBlockParents. No conditions.
-/
import Derived.Test.YtbjhjpakjinpiaaBBlkC
import Derived.Test.YtbjhjpakjinpiaaPBlk
import Derived.Test.YtbjhjpakjinpiaaPOff
import Derived.Test.YtbjhjpakjinpiaaPFit
namespace Go.Proofs.Ytbjhjpakjinpiaa
open Go.RowKit

/-! ## a slice of rows of numbers, read -/
def Grd (w : World) (A : Option Addr) (n : Nat) (zss : List (List Int)) : Prop := ∃ rs, RdG w A n rs ∧ rs.map Row.xs = zss.map ivs
theorem Grd.later {w w' : World} {A : Option Addr} {n : Nat} {zss : List (List Int)} (h : Grd w A n zss) (hb : Below w.heap.size w w') : Grd w' A n zss :=
  let ⟨rs, h1, h2⟩ := h; ⟨rs, h1.later hb, h2⟩
theorem Grd.len {w : World} {A : Option Addr} {n : Nat} {zss : List (List Int)} (h : Grd w A n zss) : zss.length = n := by
  obtain ⟨rs, h1, h2⟩ := h
  rw [← xs_len h2]; exact h1.len
theorem Grd.at2 {w : World} {A : Option Addr} {n : Nat} {zss : List (List Int)} (h : Grd w A n zss) {k : Nat} {u v : Int} (hk : zss[k]? = some [u, v]) :
    ∃ a g c, A = some a ∧ w.cell? (a.add k) = some (.slice (some g) 2 c) ∧ w.cell? g = some (.int .i64 u) ∧ w.cell? ⟨g.block, g.off + 1, none⟩ = some (.int .i64 v) ∧ g.block < w.heap.size := by
  obtain ⟨rs, h1, h2⟩ := h
  obtain ⟨hk1, hk2⟩ := List.getElem?_eq_some_iff.1 hk
  have hkr : k < rs.length := by rw [xs_len h2]; exact hk1
  obtain ⟨a, hA, _, hc⟩ := h1.cell hkr
  have hr := h1.2 _ (List.getElem_mem hkr)
  rw [xs_at h2 hkr, hk2] at hr
  have hn : rs[k].n = 2 := by have := hr.lenI; simpa using this.symm
  obtain ⟨g, hg, hb, hc0⟩ := hr.int (k := 0) (by simp)
  obtain ⟨g', hg', _, hc1⟩ := hr.int (k := 1) (by simp)
  rw [hg] at hg'
  injection hg' with hg'
  subst hg'
  rw [hg, hn] at hc
  exact ⟨a, g, _, hA, hc, hc0, hc1, hb⟩

/-! ## the offsets -/
theorem offs_at {b q : Pch} {k : Nat} (hk : k < (offs b q).length) : ∃ u v : Nat, u < 2 ∧ v < 2 ∧ (offs b q)[k]? = some [(u : Int), (v : Int)] ∧ fitsAt b q (u : Int) (v : Int) = true := by
  have h := List.getElem_mem hk
  unfold offs offsN at h
  obtain ⟨i, hi, he⟩ := List.mem_map.1 h
  have h2 := List.mem_filter.1 hi
  have h3 := List.mem_range.1 h2.1
  exact ⟨i / 2, i % 2, by omega, by omega, by rw [List.getElem?_eq_getElem hk]; exact congrArg some he.symm, h2.2⟩
theorem offs_first {b q : Pch} (h : fitsAt b q 0 0 = true) : (offs b q)[0]? = some [0, 0] := by
  have h0 : offAt b q 0 = true := h
  unfold offs offsN
  rw [show List.range 4 = [0, 1, 2, 3] from rfl, List.filter_cons, if_pos h0]
  rfl
theorem offs_len (b q : Pch) : (offs b q).length ≤ 4 := offsN_len b q 4
theorem offs_mem {b q : Pch} {x y : Nat} (hx : x < 2) (hy : y < 2) : ([(x : Int), (y : Int)] ∈ offs b q) ↔ fitsAt b q (x : Int) (y : Int) = true := by
  constructor
  · intro h
    obtain ⟨k, hk, he⟩ := List.getElem_of_mem h
    obtain ⟨u, v, _, _, h1, h2⟩ := offs_at hk
    rw [List.getElem?_eq_getElem hk, he] at h1
    injection h1 with h1
    injection h1 with h3 h4
    injection h4 with h4 _
    rw [h3, h4]; exact h2
  · intro h
    unfold offs offsN
    have e1 : (2 * x + y) / 2 = x := by omega
    have e2 : (2 * x + y) % 2 = y := by omega
    refine List.mem_map.2 ⟨2 * x + y, List.mem_filter.2 ⟨List.mem_range.2 (by omega), ?_⟩, by rw [e1, e2]⟩
    unfold offAt
    rw [e1, e2]; exact h
/-- whether an offset is among the first k -/
def fnd (zss : List (List Int)) (x y k : Nat) : Bool := (zss.take k).any fun z => decide (z = [(x : Int), (y : Int)])
theorem fnd_next {zss : List (List Int)} {x y k u v : Nat} (h : zss[k]? = some [(u : Int), (v : Int)]) : fnd zss x y (k + 1) = (fnd zss x y k || (decide (u = x) && decide (v = y))) := by
  obtain ⟨h1, h2⟩ := List.getElem?_eq_some_iff.1 h
  unfold fnd
  rw [take_snoc zss k h1, List.any_append, h2]
  congr 1
  rw [Bool.eq_iff_iff]
  simp only [List.any_cons, List.any_nil, Bool.or_false, decide_eq_true_eq, Bool.and_eq_true, List.cons.injEq, and_true]
  omega
theorem fnd_end {b q : Pch} {x y n : Nat} (hn : (offs b q).length ≤ n) (hx : x < 2) (hy : y < 2) : fnd (offs b q) x y n = fitsAt b q (x : Int) (y : Int) := by
  unfold fnd
  rw [List.take_of_length_le hn, Bool.eq_iff_iff, List.any_eq_true]
  constructor
  · rintro ⟨z, hz, he⟩
    rw [decide_eq_true_eq] at he
    subst he
    exact (offs_mem hx hy).1 hz
  · intro h
    exact ⟨_, (offs_mem hx hy).2 h, by simp⟩

section
variable {A : Option Addr} {n c : Nat} {b : Pch} {A2 : Option Addr} {n2 c2 : Nat} {q : Pch} {W : World}
def RetGrd (W : World) (zss : List (List Int)) (e : Ending) (w' : World) : Prop := ∃ A n c, e = .returned (.slice A n c) ∧ Grd w' A n zss ∧ Below W.heap.size W w'
theorem tOffs (hb : SOwn W A n c b) (hq : SOwn W A2 n2 c2 q) : Calls Try.prog 11 #[.slice A n c, .slice A2 n2 c2] W (RetGrd W (offs b q)) :=
  (cOffsetsOfI A n c b A2 n2 c2 q W hb.1 hq.1).mono fun e w' h => by
    obtain ⟨A', n', c', rs, he, hm, hx, _⟩ := h
    exact ⟨A', n', c', he, ⟨rs, hm.rdG (List.mem_cons_self ..) (fun r hr => List.mem_cons_of_mem _ hr), hx⟩, hm.1⟩
theorem tFits (hb : SOwn W A n c b) (hq : SOwn W A2 n2 c2 q) {x y : Int} {t : Bool} (h : fitsAt b q x y = t) : Calls Try.prog 10 #[.slice A n c, .slice A2 n2 c2, .int .i64 x, .int .i64 y] W fun e w' => e = .returned (.bool t) ∧ Below W.heap.size W w' := by
  have h1 := cFitsAtI A n c b A2 n2 c2 q x y W hb.1 hq.1
  rw [h] at h1
  exact h1
theorem tParent (hb : SOwn W A n c b) (hq : SOwn W A2 n2 c2 q) {x y : Int} {s : Pch} (h : parentOf b q x y = (s, true)) : Calls Try.prog 7 #[.slice A n c, .slice A2 n2 c2, .int .i64 x, .int .i64 y] W (RetSB 9 W s true) := by
  have h1 := cParentPatchI A n c b A2 n2 c2 q x y W hb.1 hq.1
  rw [h] at h1
  exact h1
theorem tForced (hb : SOwn W A n c b) {t : Bool} (h : forcedB b = t) : Calls Try.prog 9 #[.slice A n c] W fun e w' => e = .returned (.bool t) ∧ Below W.heap.size W w' := by
  have h1 := cIsForcedI A n c b W hb.1
  rw [h] at h1
  exact h1
theorem tCut (hb : rOk b = true) (hok : pOk q = true) (hh : q.all (hasB b.length) = true) (h1 : q.length ≤ 16) (h2 : wd q ≤ 16) (hq : SOwn W A n c (applyB b q)) {x y : Int} (hx : x = ((2 * wd q : Nat) : Int) - 1) (hy : y = ((2 * q.length : Nat) : Int) - 1) :
    Calls Try.prog 13 #[.slice A n c, .int .i64 1, .int .i64 1, .int .i64 x, .int .i64 y] W (RetSB 9 W (cutP b q) true) := by
  have h := cPartOfI A n c (applyB b q) 1 1 x y W hq.1
  rw [hx, hy, partOf_cut hb hok hh h1 h2] at h
  rw [hx, hy]
  exact h
theorem tGrowN (hb : SOwn W A n c b) (hk : rOk b = true) (m : Nat) (hm : m ≤ 5) : Calls Try.prog 15 #[.slice A n c, .string ⟨#[97]⟩, .int .i64 (m : Int)] W (RetSB 9 W (growP b [97] m) true) := tGrow hb hk m hm
theorem tAnc (hb : SOwn W A n c b) (hq : SOwn W A2 n2 c2 q) {u : Pch} {k : Int} (h : anc b q = (u, k)) : Calls Try.prog 16 #[.slice A n c, .slice A2 n2 c2] W (RetSI 9 W u k) := by
  have h1 := cAncestorPatchI A n c b A2 n2 c2 q W hb.1 hq.1
  rw [h] at h1
  exact h1
theorem tGrown (hb : SOwn W A n c b) (hq : SOwn W A2 n2 c2 q) {x : List UInt8} {t : Bool} (h : grown b q = (x, t)) : Calls Try.prog 17 #[.slice A n c, .slice A2 n2 c2] W fun e w' => e = .returned (.tuple #[.string ⟨x.toArray⟩, .bool t]) ∧ Below W.heap.size W w' := by
  have h1 := cGrownFromI A n c b A2 n2 c2 q W hb.1 hq.1
  rw [h] at h1
  exact h1
theorem tSeams (hb : SOwn W A n c b) {z : Int} {ss : Pch} (h : seams b [97] z = ss) : Calls Try.prog 18 #[.slice A n c, .string ⟨#[97]⟩, .int .i64 z] W (RetS 9 W ss) := by
  have h1 := cSeamsOfI A n c b [97] z W hb.1 (by simp)
  rw [h] at h1
  exact h1
end
set_option maxHeartbeats 800000 in
theorem rising_yes (A : Option Addr) (n c : Nat) (ss : Pch) (w : World) (hr : Rd w w.heap.size A n (svs ss)) (hn : n ≤ 1048576) (hs : Srt ss) :
    Calls Try.prog 19 #[.slice A n c] w fun e w' => e = .returned (.bool true) ∧ Below w.heap.size w w' := by
  have hlen := Lib.hid hr.lenS
  have HR := Lib.hid hr
  have HS := Lib.hid hs
  clear hr hs
  go_enter Try.func19, Try.ntmps19
  go_wp2
  go_loopw [3] (fun i wr => ∃ k : Nat, 1 ≤ k ∧ k ≤ n + 1 ∧ i = .int .i64 k ∧ Below w.heap.size w wr) (fun i _ => n + 1 - (intOf i).toNat)
  case atStart => exact ⟨1, by omega, by omega, rfl, Below.refl _ _⟩
  case round =>
    obtain ⟨k, hk0, hk, rfl, hbel⟩ := hrel
    by_cases hlt : k < n
    · have hkl : k < ss.length := by rw [hlen.out]; exact hlt
      obtain ⟨a, rfl, hab, hcell⟩ := (HR.out.below hbel).str (k := k) hkl
      have hml : k - 1 < ss.length := by omega
      obtain ⟨a2, ha2, _, hcell2⟩ := (HR.out.below hbel).str (k := k - 1) hml
      injection ha2 with ha2
      subst ha2
      have hlt2 := srt_lt HS.out hkl (show k - 1 < k by omega)
      obtain ⟨x, hx⟩ : ∃ x, x = ss[k] := ⟨_, rfl⟩
      obtain ⟨y, hy⟩ : ∃ y, y = ss[k - 1] := ⟨_, rfl⟩
      rw [← hx] at hcell hlt2
      rw [← hy] at hcell2 hlt2
      clear hx hy
      have hb2 : Op.bytesLess x y = false := by rw [bytesLess_eq]; simpa using lt_no hlt2
      have hb3 : (x == y) = false := by simpa using (lt_neq hlt2).symm
      have i1 : (0 : Int) ≤ (k : Int) - 1 := by omega
      have i2 : (k : Int) - 1 < (n : Int) := by omega
      have i3 : ((k : Int) - 1).toNat = k - 1 := by omega
      have i4 : IntKind.i64.wrap ((k : Int) - 1) = (k : Int) - 1 := IntWalk.i64_in _ (by omega)
      have i5 : (0 : Int) ≤ (k : Int) := by omega
      have i6 : (k : Int) < (n : Int) := by omega
      clear hlt2
      go_wp2
      go_quiet (fail)
      go_wp2
      exact ⟨⟨k + 1, by omega, by omega, by go_num, below_drewN hbel _⟩, by simp [intOf]; omega⟩
    · go_wp2
      go_ret
      exact ⟨rfl, hbel⟩
end Go.Proofs.Ytbjhjpakjinpiaa
