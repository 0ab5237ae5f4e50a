/-
  Contracts of the laws' own helpers on substitutions: size, copy, equality of equals, marks; how a substitution as an argument is opened. No conditions beyond small lengths.
-/
import Derived.Test.YtdebdnglchkdaaaASub
import Derived.Test.YtdebdnglchkdaaaAHelp
import Derived.Test.YtdebdnglchkdaaaAOf
import Derived.Test.YtdebdnglchkdaaaHelpS
import Derived.Test.YtdebdnglchkdaaaFrame
import Derived.Lib.SmallJoins
namespace Go.Proofs.Ytdebdnglchkdaaa
open Go.ChangeShapes Go.WideShapes Go.ChangeAt Go.RowKit Go.Joins Go.Deep

theorem Mem.sub0 {W w : World} {pre post : List Row} {t : TypeId} {g : Nat} {A : Option Addr} {n c : Nat} (h : Mem W w (pre ++ SubR t g A n c :: post)) (A' : Option Addr) (n' c' : Nat) : Mem W (w.setCell ⟨g, 0, none⟩ (.slice A' n' c')) (pre ++ SubR t g A' n' c' :: post) := by
  have h1 := World.ownsRow.stored (h.row (r := SubR t g A n c) (by simp)) 0 (.slice A' n' c')
  exact h.mark (pre := pre) (post := post) (ys := [.slice A' n' c']) h1.1 (Nat.le_refl _) h1.2
theorem Mem.subFree {W w : World} {L : List Row} (h : Mem W w L) {t : TypeId} {g : Nat} {A : Option Addr} {n c : Nat} (hr : SubR t g A n c ∈ L) (j : Nat) : w.frozen? ⟨g, j, none⟩ = false := (h.row hr).frozenAt j
set_option maxHeartbeats 800000 in
theorem szSubst_any (A : Option Addr) (n c B : Nat) (ss : Wds) (left : Int) (w : World) (hr : Rd w w.heap.size A n (svs ss)) (hn : n ≤ 9223372036854775807) (hs : ∀ s ∈ ss, s.length ≤ 9223372036854775807) (h0 : 0 ≤ left) (h1 : left ≤ 1048576) :
    Calls Try.prog 12 #[SubV A n c, .int .i64 left] w fun e w' => ∃ r, e = .returned (.int .i64 r) ∧ Sized ss left r ∧ Below w.heap.size w w' := by
  have HW1 := Lib.hid (Below.boxed w (.cells #[.slice A n c] 33))
  have HC := Lib.hid (szStringS_any A n c _ ss left _ (hr.later HW1.out) hn hs h0 h1)
  clear hr hs
  go_enter Try.func12, Try.ntmps12
  go_wp2_with fail
  refine HC.out.mono ?_
  rintro e w' ⟨r, rfl, hs, rfl⟩
  have HS := Lib.hid hs
  clear hs
  by_cases hr : r < 0
  · go_wp2
    go_ret
    exact ⟨_, rfl, Or.inl (by omega), HW1.out⟩
  · go_wp2
    go_ret
    exact ⟨_, rfl, HS.out, HW1.out⟩
set_option maxHeartbeats 800000 in
theorem toSubst_any (A : Option Addr) (n c : Nat) (ss : Wds) (w : World) (hr : Rd w w.heap.size A n (svs ss)) (hn : n ≤ 1048576) :
    Calls Try.prog 14 #[SubV A n c] w fun e w' => ∃ A', e = .returned (SubV A' n n) ∧ Own w w' 9 A' n n (svs ss) := by
  have HM0 := Lib.hid ((((Mem.start w).sub 33 A n c).sub 37 none 0 0).sub 37 none 0 0)
  have HC := Lib.hid (toStringS_any A n c ss _ (hr.later HM0.out.bel) hn)
  clear hr
  go_enter Try.func14, Try.ntmps14
  go_wp2_with fail
  refine HC.out.mono ?_
  rintro e w4 ⟨A4, rfl, ho⟩
  have HM := Lib.hid (HM0.out.add ho)
  have b1 := HM.out.subAt (t := 37) (g := w.heap.size + 1) (A := none) (n := 0) (c := 0) (by simp)
  have b2 := HM.out.subAt (t := 37) (g := w.heap.size + 1 + 1) (A := none) (n := 0) (c := 0) (by simp)
  have f1 := HM.out.subFree (t := 37) (g := w.heap.size + 1) (A := none) (n := 0) (c := 0) (by simp) 0
  have f2 := HM.out.subFree (t := 37) (g := w.heap.size + 1 + 1) (A := none) (n := 0) (c := 0) (by simp) 0
  clear ho
  go_wp2_with fail
  have HM9 := Lib.hid (by
    have h1 := Mem.sub0 (pre := [_]) (post := [_, _]) HM.out A4 n n
    exact Mem.sub0 (pre := [_, _]) (post := [_]) h1 A4 n n)
  rw [show ((w.alloc (.cells #[.slice A n c] 33)).alloc (.cells #[.slice none 0 0] 37)).heap.size = w.heap.size + 1 + 1 by simp, show (w.alloc (.cells #[.slice A n c] 33)).heap.size = w.heap.size + 1 by simp] at HM9
  obtain ⟨w9, hw9⟩ : ∃ w9, w9 = ((w4.setCell ⟨w.heap.size + 1 + 1, 0, none⟩ (.slice A4 n n)).setCell ⟨w.heap.size + 1, 0, none⟩ (.slice A4 n n)) := ⟨_, rfl⟩
  rw [← hw9] at HM9 ⊢
  clear hw9 HM b1 b2 f1 f2
  have b1 := HM9.out.subAt (t := 37) (g := w.heap.size + 1) (A := A4) (n := n) (c := n) (by simp)
  refine bodyPost_ret (v := SubV A4 n n) (by simp [results, Try.results14, go_sem, b1]) rfl ?_
  exact ⟨A4, rfl, HM9.out.row0, HM9.out.bel⟩
set_option maxHeartbeats 800000 in
theorem eqSubst_same (A B : Option Addr) (n c d : Nat) (ss : Wds) (w : World) (ha : Rd w w.heap.size A n (svs ss)) (hb : Rd w w.heap.size B n (svs ss)) (hn : n ≤ 1048576) :
    Calls Try.prog 16 #[SubV A n c, SubV B n d] w fun e w' => e = .returned (.bool true) ∧ Below w.heap.size w w' := by
  have HM0 := Lib.hid (((Mem.start w).sub 37 A n c).sub 37 B n d)
  have HC := Lib.hid (eqStringS_same A B n c d _ _ ss _ (ha.later HM0.out.bel) (hb.later HM0.out.bel) (Nat.le_refl _) (Nat.le_refl _) hn)
  clear ha hb
  go_enter Try.func16, Try.ntmps16
  go_wp2_with fail
  refine HC.out.mono ?_
  rintro e w4 ⟨rfl, hb4⟩
  go_wp2_with fail
  go_ret
  exact ⟨rfl, HM0.out.bel.trans (hb4.mono HM0.out.bel.size)⟩
set_option maxHeartbeats 800000 in
theorem markSubst_any (w0 w : World) (st : TypeId) (A : Option Addr) (n c : Nat) (xs : List Value) (pre post : List Row) (k0 : Int) (hm : Mem w0 w (pre ++ ⟨st, A, n, c, xs⟩ :: post)) (hn : n ≤ 1048576) (hk0 : 0 < k0) (hk1 : k0 ≤ 536870912) :
    Calls Try.prog 17 #[SubV A n c, .int .i64 k0] w fun e w' => e = .returned (.int .i64 (k0 + n)) ∧ Mem w0 w' (pre ++ ⟨st, A, n, c, svs (mtS k0 n)⟩ :: post) := by
  have HM0 := Lib.hid (hm.alloc (.cells #[.slice A n c] 37))
  have HC := Lib.hid (markStringS_any A n c xs k0 _ w0.heap.size st (HM0.out.row (r := ⟨st, A, n, c, xs⟩) (by simp)) hn hk0 hk1)
  clear hm
  go_enter Try.func17, Try.ntmps17
  go_wp2_with fail
  refine HC.out.mono ?_
  rintro e w4 ⟨rfl, o4, g4⟩
  go_wp2_with fail
  go_ret
  exact ⟨rfl, HM0.out.mark o4 (Nat.le_refl _) g4⟩
section
variable {H : Type} {enc : TypeId × Value → H} {P : Program} {W : World} {v : Value} {d : DataW H} {ps : List MemPlace}
theorem strs_of {t e : TypeId} {fuel : Nat} {cs : List Value} {x : DataW H × List MemPlace} (ht : P.underlying t = some (.slice e)) (he : P.underlying e = some .string) (hc : P.cellsOf e = 1)
    (h : DataW.trod enc P W 0 (fun _ => true) true fuel t cs = some x) : ∃ A n c ss, cs = [.slice A n c] ∧ StrsArg W A n c ss := by
  rcases open_strings ht he hc h with ⟨hcs, _⟩ | ⟨a, l, cap, ss, hcs, _, hl, hm, hz, _, hcell, hws⟩
  · exact ⟨_, _, _, [], hcs, Rd.zero, by omega, by omega, by simp⟩
  · simp at hz
    refine ⟨_, _, _, (ss.take l).map (·.data.toList), hcs, rd_of_cells (m := ss.length) (f := fun i => .string (ss.getD i ByteArray.empty)) (by simp [svs]; omega) (by omega) ?_ hcell, hl, by unfold maxLen at hm; omega, ?_⟩
    · intro j u hu
      obtain ⟨hj, rfl⟩ := List.getElem?_eq_some_iff.1 hu
      simp [svs] at hj ⊢
      rw [List.getElem?_eq_getElem (by omega)]; rfl
    · intro s hs
      obtain ⟨x, hx, rfl⟩ := List.mem_map.1 hs
      have h := hws x (List.mem_of_mem_take hx)
      have e : x.data.toList.length = x.data.size := Array.length_toList
      have e2 : x.size = x.data.size := rfl
      unfold maxLen at h; omega
theorem arg_subst {r : Reach} {b0 : Nat} {t e : TypeId} {f0 : Field} (hs : P.underlying t = some (.struct #[f0])) (hone : oneCellFields P #[f0] = true) (hC : P.cellsOf t = 1)
    (h0 : P.underlying f0.type = some (.slice e)) (he : P.underlying e = some .string) (ce : P.cellsOf e = 1)
    (hval : Value.okWide P W r b0 t v) (hd : DataW.Trod enc P W 0 (fun _ => true) true t v d ps) :
    ∃ A n c ss, v = SubV A n c ∧ StrsArg W A n c ss := by
  obtain ⟨cs, rfl, hsz⟩ := okWide_struct hs hval
  obtain ⟨c0, rfl⟩ : ∃ c0, cs = #[c0] := by
    obtain ⟨l⟩ := cs
    match l, (hsz.trans hC) with
    | [c0], _ => exact ⟨c0, rfl⟩
  obtain ⟨fuel, hf⟩ := hd
  obtain ⟨y0, m, hx, hlen, k0⟩ := trod_struct1 hs hf
  obtain ⟨o0, k00⟩ := hone_of hone 0 f0 rfl
  have k1 : DataW.trod enc P W 0 (fun _ => true) true m f0.type [c0] = some y0 := by simpa [Value.cells, o0, k00] using k0
  obtain ⟨A, n, c, ss, hn, hg⟩ := strs_of h0 he ce k1
  simp only [List.cons.injEq, and_true] at hn
  subst hn
  exact ⟨A, n, c, ss, rfl, hg⟩
end
end Go.Proofs.Ytdebdnglchkdaaa
