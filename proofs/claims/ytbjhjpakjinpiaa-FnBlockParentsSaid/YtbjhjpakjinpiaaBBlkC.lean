/-
  Contracts for the walk of the law FnBlocks. No conditions.
-/
import Derived.Test.YtbjhjpakjinpiaaBBlkP
import Derived.Test.YtbjhjpakjinpiaaBGrowI
import Derived.Test.YtbjhjpakjinpiaaBName
import Derived.Test.YtbjhjpakjinpiaaHelpS
import Derived.Test.YtbjhjpakjinpiaaFrame
import Derived.Deep.RegionHeld3
namespace Go.Proofs.Ytbjhjpakjinpiaa
open Go.RowKit

/-! ## the patches at hand -/
abbrev Pt := Option Addr × Nat × Nat × PCh
def Pts (w0 w : World) (ps : List Pt) : Prop := Below w0.heap.size w0 w ∧ ∀ q ∈ ps, SOwn w q.1 q.2.1 q.2.2.1 q.2.2.2
theorem SOwn.later {w w' : World} {A : Option Addr} {n c : Nat} {ss : PCh} (h : SOwn w A n c ss) (hb : Below w.heap.size w w') : SOwn w' A n c ss := ⟨h.1.later hb, h.2⟩
theorem Pts.start (w : World) : Pts w w [] := ⟨Below.refl _ _, fun q hq => by cases hq⟩
theorem Pts.later {w0 w w' : World} {ps : List Pt} (h : Pts w0 w ps) (hb : Below w.heap.size w w') : Pts w0 w' ps := ⟨h.1.trans (hb.mono h.1.size), fun q hq => (h.2 q hq).later hb⟩
theorem Pts.add {w0 w w' : World} {ps : List Pt} (h : Pts w0 w ps) {e : TypeId} {A : Option Addr} {n c : Nat} {p : PCh} (ho : Own w w' e A n c (svs p)) (hl : p.length ≤ 1048576 ∧ Lens p) : Pts w0 w' ((A, n, c, p) :: ps) := by
  have hn : n ≤ 1048576 := by have := ho.len; simp only [svs, List.length_map] at this; omega
  have h2 : SOwn w' A n c p := SOwn.of ho.1 hn hl.2 ho.cap
  refine ⟨(h.later ho.2).1, fun q hq => ?_⟩
  rcases List.mem_cons.1 hq with rfl | hq
  · exact h2
  · exact (h.later ho.2).2 q hq
theorem Pts.drop {w0 w : World} {q : Pt} {ps : List Pt} (h : Pts w0 w (q :: ps)) : Pts w0 w ps := ⟨h.1, fun r hr => h.2 r (List.mem_cons_of_mem _ hr)⟩
theorem Pts.own {w0 w : World} {ps : List Pt} (h : Pts w0 w ps) {A : Option Addr} {n c : Nat} {p : PCh} (hm : (A, n, c, p) ∈ ps) : SOwn w A n c p := h.2 _ hm
theorem pOk_lens {p : PCh} (h : pOk p = true) : p.length ≤ 1048576 ∧ Lens p := ⟨by have := pOk_len h; omega, fun s hs => by have := pOk_row h hs; omega⟩
theorem rOk_lens {p : PCh} (h : rOk p = true) : p.length ≤ 1048576 ∧ Lens p := ⟨by have := rOk_len h; omega, fun s hs => by have := rOk_row h hs; omega⟩

/-! ## the contracts where all is well -/
section
variable {A : Option Addr} {n c : Nat} {b : PCh} {A2 : Option Addr} {n2 c2 : Nat} {p : PCh} {W : World}
theorem tApply (hb : SOwn W A n c b) (hp : SOwn W A2 n2 c2 p) (hk : apOk b p = true) : Calls Try.prog 6 #[.slice A n c, .slice A2 n2 c2] W (RetSB 9 W (applyB b p) true) := by
  have h := cApplyBlocksI A n c b A2 n2 c2 p W hb.1 hp.1
  rw [show applyBlocks b p = (applyB b p, true) by simp [applyBlocks, hk]] at h
  exact h
theorem tPatch (hp : SOwn W A n c p) (hk : pOk p = true) : Calls Try.prog 12 #[.slice A n c] W fun e w' => e = .returned (.bool true) ∧ W = w' := by
  have h := iPatchOk_any A n c _ p W hp.1.1 hp.1.2.1 hp.1.longs
  rw [hk] at h
  exact h
theorem tRule (hp : SOwn W A n c p) (hk : rOk p = true) : Calls Try.prog 23 #[.slice A n c] W fun e w' => e = .returned (.bool true) ∧ W = w' := by
  have h := iRuleOk_any A n c _ p W hp.1.1 hp.1.2.1 hp.1.longs
  rw [hk] at h
  exact h
theorem tGrow (hb : SOwn W A n c b) (hk : rOk b = true) (m : Nat) (hm : m ≤ 5) : Calls Try.prog 15 #[.slice A n c, .string ⟨#[97]⟩, .int .i64 (m : Int)] W (RetSB 9 W (growP b [97] m) true) := by
  have h := cGrowBlockI A n c b [97] m W hb.1 (by simp)
  rw [show growBlock b [97] (m : Int) = (growP b [97] m, true) by simp [growBlock, hk, letOk_a hk, wi_mk (show (0 : Int) ≤ m by omega) (show (m : Int) ≤ 5 by omega)]] at h
  exact h
theorem tPart {x y : Nat} (hb : rOk b = true) (hp : pOk p = true) (hh : p.all (hasB b.length) = true) (h1 : p.length ≤ 16) (h2 : wd p ≤ 16) (hq : SOwn W A n c (applyB b p)) (hy : y < p.length) (hx : x < (p[y]).length) :
    Calls Try.prog 13 #[.slice A n c, .int .i64 (2 * (x : Int)), .int .i64 (2 * (y : Int)), .int .i64 2, .int .i64 2] W (RetSB 9 W [(blk b (p[y])[x]).take 2, (blk b (p[y])[x]).drop 2] true) := by
  have h := cPartOfI A n c (applyB b p) (2 * (x : Int)) (2 * (y : Int)) 2 2 W hq.1
  have hok := apply_ok hb hp hh h1 h2
  have hall := List.all_eq_true.1 hh
  have hwd : wd (applyB b p) = 2 * wd p := rect_wd (apply_rect hb hall (pOk_rect hp)) (by rw [applyB_len]; have := pOk_len hp; omega)
  have hrl := (pOk_row hp (List.getElem_mem hy)).2.1
  have e : partOf (applyB b p) (2 * (x : Int)) (2 * (y : Int)) 2 2 = ([(blk b (p[y])[x]).take 2, (blk b (p[y])[x]).drop 2], true) := by
    unfold partOf
    rw [hok, hwd, applyB_len, wi_mk (show (0 : Int) ≤ 2 * (x : Int) by omega) (by omega), wi_mk (show (0 : Int) ≤ 2 * (y : Int) by omega) (by omega), wi_mk (show (1 : Int) ≤ 2 by omega) (by omega), wi_mk (show (1 : Int) ≤ 2 by omega) (by omega)]
    have hx2 : (2 * (x : Int)).toNat = 2 * x := by omega
    have hy2 : (2 * (y : Int)).toNat = 2 * y := by omega
    simp only [Bool.and_true, if_true, hx2, hy2]
    rw [show (2 : Int).toNat = 2 from rfl, part_apply hb hall hy hx]
  rw [e] at h
  exact h
end
set_option maxHeartbeats 800000 in
theorem equal_same (A B : Option Addr) (n c m d : Nat) (ss : PCh) (w : World) (ha : SOwn w A n c ss) (hb : SOwn w B m d ss) : Calls Try.prog 8 #[.slice A n c, .slice B m d] w fun e w' => e = .returned (.bool true) ∧ w = w' := by
  have hlen := Lib.hid ha.1.1.lenS
  obtain rfl : n = m := by have h1 := ha.1.1.lenS; have h2 := hb.1.1.lenS; omega
  have hn := ha.1.2.1
  have HA := Lib.hid ha.1.1
  have HB := Lib.hid hb.1.1
  clear ha hb
  go_enter Try.func8, Try.ntmps8
  go_wp2
  go_loop [14] (fun i => ∃ k : Nat, k ≤ n ∧ i = .int .i64 k) (fun i => n - (intOf i).toNat)
  case atStart => exact ⟨0, Nat.zero_le _, rfl⟩
  case round =>
    obtain ⟨k, hk, rfl⟩ := hrel
    by_cases hlt : k < n
    · have hkl : k < ss.length := by rw [hlen.out]; exact hlt
      obtain ⟨a, rfl, hab, hcell⟩ := HA.out.str (k := k) hkl
      obtain ⟨a2, rfl, hab2, hcell2⟩ := HB.out.str (k := k) hkl
      obtain ⟨s, hs⟩ : ∃ s, s = ss[k] := ⟨_, rfl⟩
      rw [← hs] at hcell hcell2
      clear hs
      go_wp2
      go_round
      case rel => exact ⟨k + 1, by omega, by go_num⟩
      case measure => simp [intOf]; omega
    · go_wp2
      go_ret
      exact ⟨rfl, rfl⟩
theorem Pts.sub {w0 w : World} {ps qs : List Pt} (h : Pts w0 w ps) (hs : ∀ q ∈ qs, q ∈ ps) : Pts w0 w qs := ⟨h.1, fun q hq => h.2 q (hs q hq)⟩
theorem tPart2 {A : Option Addr} {n c : Nat} {b p : PCh} {W : World} {x y : Nat} {r : List UInt8} {u v s t : UInt8} (hb : rOk b = true) (hp : pOk p = true) (hh : p.all (hasB b.length) = true) (h1 : p.length ≤ 16) (h2 : wd p ≤ 16) (hq : SOwn W A n c (applyB b p)) (hy : p[y]? = some r) (hx : x < r.length) (hk : blk b r[x] = [u, v, s, t]) :
    Calls Try.prog 13 #[.slice A n c, .int .i64 (2 * (x : Int)), .int .i64 (2 * (y : Int)), .int .i64 2, .int .i64 2] W (RetSB 9 W [[u, v], [s, t]] true) := by
  obtain ⟨h0, rfl⟩ := List.getElem?_eq_some_iff.1 hy
  have h := tPart (A := A) (n := n) (c := c) (W := W) hb hp hh h1 h2 hq h0 hx
  rw [hk] at h
  exact h
theorem own2 {w w' : World} {e : TypeId} {A : Option Addr} {n c : Nat} {s t : List UInt8} (h : Own w w' e A n c (svs [s, t])) : n = 2 ∧ ∃ g, A = some ⟨g, 0, none⟩ ∧ w'.cell? ⟨g, 0, none⟩ = some (.string ⟨s.toArray⟩) ∧ w'.cell? ⟨g, 1, none⟩ = some (.string ⟨t.toArray⟩) := by
  have hn : n = 2 := by have := h.len; simpa [svs] using this.symm
  subst hn
  obtain ⟨g, rfl⟩ := own_form h.1 (by omega)
  obtain ⟨a, ha, _, h0⟩ := h.rd.str (k := 0) (by simp)
  obtain ⟨a', ha', _, h1⟩ := h.rd.str (k := 1) (by simp)
  injection ha with ha
  injection ha' with ha'
  subst ha
  subst ha'
  exact ⟨rfl, g, rfl, h0, h1⟩
end Go.Proofs.Ytbjhjpakjinpiaa
