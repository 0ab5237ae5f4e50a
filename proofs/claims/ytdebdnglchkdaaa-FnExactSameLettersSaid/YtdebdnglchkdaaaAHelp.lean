/-
  Contracts of the laws' own helpers on automata: size, copy, equality of equals, marks. No conditions beyond small lengths.
-/
import Derived.Test.YtdebdnglchkdaaaAAu
import Derived.Test.YtdebdnglchkdaaaHelpI
import Derived.Test.YtdebdnglchkdaaaHelpII
namespace Go.Proofs.Ytdebdnglchkdaaa
open Go.RowKit

def sumL (zss : Tab) : Nat := (zss.map List.length).sum
theorem sumL_take {zss : Tab} {k : Nat} (hk : k < zss.length) : sumL (zss.take (k + 1)) = sumL (zss.take k) + zss[k].length := by
  unfold sumL; rw [take_snoc zss k hk, List.map_append, List.sum_append]; simp
theorem sumL_le : ∀ (zss : Tab), ∀ z ∈ zss, z.length ≤ sumL zss
  | [], z, h => by simp at h
  | y :: l, z, h => by
    have := sumL_le l
    unfold sumL at *
    simp only [List.map_cons, List.sum_cons]
    rcases List.mem_cons.1 h with rfl | h
    · omega
    · have := this z h; omega
/-- a slice of slices of numbers as an argument -/
def GArg (w : World) (A : Option Addr) (n c : Nat) (zss : Tab) : Prop := ∃ rs : List Row, RdG w A n rs ∧ rs.map Row.xs = zss.map ivs ∧ n ≤ c ∧ c ≤ 9223372036854775807 ∧ (∀ z ∈ zss, z.length ≤ 9223372036854775807)
section
variable {w w' : World} {A : Option Addr} {n c : Nat} {zss : Tab}
theorem GArg.later (h : GArg w A n c zss) (hb : Below w.heap.size w w') : GArg w' A n c zss := by
  obtain ⟨rs, h1, h2⟩ := h; exact ⟨rs, h1.later hb, h2⟩
theorem GArg.len (h : GArg w A n c zss) : zss.length = n := by
  obtain ⟨rs, h1, h2, _⟩ := h; rw [← xs_len h2]; exact h1.len
theorem GArg.at (h : GArg w A n c zss) {k : Nat} (hk : k < zss.length) : ∃ a A1 m1 c1, A = some a ∧ a.block < w.heap.size ∧ w.cell? (a.add k) = some (.slice A1 m1 c1) ∧ Rd w w.heap.size A1 m1 (ivs zss[k]) ∧ zss[k].length ≤ 9223372036854775807 := by
  obtain ⟨rs, h1, h2, _, _, h4⟩ := h
  have hk2 : k < rs.length := by rw [xs_len h2]; exact hk
  obtain ⟨a, ha, hab, hc⟩ := h1.cell hk2
  have hr := h1.2 _ (List.getElem_mem hk2)
  rw [xs_at h2 hk2] at hr
  exact ⟨a, _, _, _, ha, hab, hc, hr, h4 _ (List.getElem_mem hk)⟩
theorem GArg.small (h : GArg w A n c zss) (hn : zss.length ≤ 1048576) (hz : sumL zss ≤ 1048576) : GIn w A n c zss := by
  have hl := h.len
  obtain ⟨rs, h1, h2, h3, h4, _⟩ := h
  exact ⟨rs, h1, h2, by omega, fun z hz2 => Nat.le_trans (sumL_le zss z hz2) hz, h3, h4⟩
end
/-- what a size test leaves: less than nothing, or all is small -/
def SizedG (zss : Tab) (left r : Int) : Prop := r < 0 ∨ (0 ≤ r ∧ r + (zss.length : Int) + (sumL zss : Int) = left)
def SizedA (zss : Tab) (o : List UInt8) (left r : Int) : Prop := r < 0 ∨ (0 ≤ r ∧ r + (zss.length : Int) + (sumL zss : Int) + (o.length : Int) = left)

set_option maxHeartbeats 400000 in
theorem szIntS_any (A : Option Addr) (n c : Nat) (left : Int) (w : World) (hn : n ≤ 9223372036854775807) (h0 : 0 ≤ left) (h1 : left ≤ 1048576) :
    Calls Try.prog 48 #[.slice A n c, .int .i64 left] w fun e w' => ∃ r, e = .returned (.int .i64 r) ∧ (r < 0 ∧ left - (n : Int) < 0 ∨ 0 ≤ r ∧ r = left - (n : Int)) ∧ w = w' := by
  by_cases hb : left - (n : Int) < 0
  · go_enter Try.func48, Try.ntmps48
    go_wp2
    go_ret
    exact ⟨_, rfl, Or.inl ⟨by omega, hb⟩, rfl⟩
  · go_enter Try.func48, Try.ntmps48
    go_wp2
    go_ret
    exact ⟨_, rfl, Or.inr ⟨by omega, rfl⟩, rfl⟩
set_option maxRecDepth 4096 in
set_option maxHeartbeats 800000 in
theorem szIntSS_any (A : Option Addr) (n c : Nat) (zss : Tab) (left : Int) (w : World) (hg : GArg w A n c zss) (hn : n ≤ 9223372036854775807) (h0 : 0 ≤ left) (h1 : left ≤ 1048576) :
    Calls Try.prog 24 #[.slice A n c, .int .i64 left] w fun e w' => ∃ r, e = .returned (.int .i64 r) ∧ SizedG zss left r ∧ w = w' := by
  have hlen := Lib.hid hg.len
  have HG := Lib.hid hg
  clear hg
  by_cases hb : left - (n : Int) < 0
  · go_enter Try.func24, Try.ntmps24
    go_wp2
    go_ret
    exact ⟨_, rfl, Or.inl (by omega), rfl⟩
  · go_enter Try.func24, Try.ntmps24
    go_wp2
    go_loop [5, 1] (fun i m => ∃ (k : Nat) (r : Int), k ≤ n ∧ i = .int .i64 k ∧ m = .int .i64 r ∧ 0 ≤ r ∧ r + (n : Int) + (sumL (zss.take k) : Int) = left) (fun i _ => n - (intOf i).toNat)
    case atStart => exact ⟨0, _, Nat.zero_le _, rfl, rfl, by omega, by simp [sumL]⟩
    case round =>
      obtain ⟨k, r, hk, rfl, rfl, hr0, hr1⟩ := hrel
      have HR1 := Lib.hid hr1
      clear hr1
      by_cases hlt : k < n
      · have hkl : k < zss.length := by rw [hlen.out]; exact hlt
        obtain ⟨a, A1, m1, c1, rfl, hab, hca, hrd, hzl⟩ := HG.out.at hkl
        have hm1 : zss[k].length = m1 := hrd.lenI
        have HSt := Lib.hid (sumL_take hkl)
        rw [hm1] at hzl HSt
        have hr2 : r ≤ 1048576 := by have := HR1.out; omega
        clear hrd hm1
        go_wp2_with fail
        refine (szIntS_any A1 m1 c1 r w hzl hr0 hr2).mono ?_
        rintro e w' ⟨r2, rfl, hr3, rfl⟩
        by_cases hneg : r2 < 0
        · go_wp2
          go_ret
          exact ⟨_, rfl, Or.inl (by omega), rfl⟩
        · have HE := Lib.hid (show r2 = r - (m1 : Int) by rcases hr3 with ⟨h, _⟩ | ⟨_, h⟩ <;> omega)
          clear hr3
          go_wp2
          go_round
          case rel =>
            exact ⟨k + 1, r2, by omega, by go_num, rfl, by omega, by rw [HSt.out]; have := HR1.out; have := HE.out; omega⟩
          case measure => simp [intOf]; omega
      · have hk2 : k = n := by omega
        have HF := Lib.hid (show zss.take k = zss from List.take_of_length_le (by rw [hlen.out]; omega))
        go_wp2
        go_ret
        exact ⟨_, rfl, Or.inr ⟨hr0, by have := HR1.out; rw [HF.out] at this; rw [hlen.out]; omega⟩, rfl⟩
set_option maxRecDepth 4096 in
set_option maxHeartbeats 800000 in
theorem szAuto_any (b : Int) (A : Option Addr) (n c : Nat) (zss : Tab) (o : List UInt8) (left : Int) (w : World) (hg : GArg w A n c zss) (ho : o.length ≤ 9223372036854775807) (h0 : 0 ≤ left) (h1 : left ≤ 1048576) :
    Calls Try.prog 7 #[AutoV b A n c o, .int .i64 left] w fun e w' => ∃ r, e = .returned (.int .i64 r) ∧ SizedA zss o left r ∧ Below w.heap.size w w' := by
  have HW1 := Lib.hid (Below.boxed w (.cells #[.int .i64 b, .slice A n c, .string ⟨o.toArray⟩] 24))
  have hn : n ≤ 9223372036854775807 := by obtain ⟨_, _, _, h3, h4, _⟩ := hg; omega
  have HC := Lib.hid (szIntSS_any A n c zss left _ (hg.later HW1.out) hn h0 h1)
  clear hg
  go_enter Try.func7, Try.ntmps7
  go_wp2_with fail
  refine HC.out.mono ?_
  rintro e w' ⟨r, rfl, hs, rfl⟩
  by_cases hr : r < 0
  · go_wp2
    go_ret
    exact ⟨_, rfl, Or.inl (by omega), HW1.out⟩
  · have hs2 := hs.resolve_left hr
    obtain ⟨hs3, hs4⟩ := hs2
    have HS4 := Lib.hid hs4
    have hr2 : r ≤ 1048576 := by omega
    clear hs hs4
    by_cases hr3 : r - (o.length : Int) < 0
    · go_wp2
      go_ret
      exact ⟨_, rfl, Or.inl (by omega), HW1.out⟩
    · go_wp2
      go_ret
      exact ⟨_, rfl, Or.inr ⟨by omega, by have := HS4.out; omega⟩, HW1.out⟩
theorem infoG : (Try.prog.info? 58).map (fun i => (i.zero, i.size, i.bytes)) = some (some (.slice none 0 0), 1, 24) := by kernel_rfl
theorem GIn.of {w : World} {A : Option Addr} {n c : Nat} {rs : List Row} {zss : Tab} (h : RdG w A n rs) (hx : rs.map Row.xs = zss.map ivs) (hn : n ≤ 1048576) (hz : ∀ z ∈ zss, z.length ≤ 1048576) (hc : n ≤ c) (hm : c ≤ 9223372036854775807) : GIn w A n c zss := ⟨rs, h, hx, hn, hz, hc, hm⟩
set_option maxRecDepth 4096 in
set_option maxHeartbeats 1600000 in
theorem toIntSS_any (A : Option Addr) (n c : Nat) (zss : Tab) (w : World) (hg : GIn w A n c zss) :
    Calls Try.prog 28 #[.slice A n c] w fun e w' => ∃ A' rs, e = .returned (.slice A' n n) ∧ Mem w w' (⟨58, A', n, n, rs.map SVal⟩ :: rs) ∧ rs.map Row.xs = zss.map ivs := by
  obtain ⟨i0, hi, hz0, hz1, hz2⟩ := info_parts infoG
  have hlen := Lib.hid hg.len
  have hn := hg.choose_spec.2.2.1
  have HG := Lib.hid hg
  clear hg
  go_enter Try.func28, Try.ntmps28
  go_wp2_with (at_make; refine wpList_make_full _ rfl _ _ 22 rfl w.heap.size 58 i0 (.slice none 0 0) 1 Try.underlying22 hi hz0 hz1 .i64 .i64 _ _ n rfl rfl rfl rfl (by rw [hz2]; omega) (by unfold maxLen; omega) (Nat.le_refl _) ?_; intro w1 hown1 hg1)
  have HO : Own w w1 58 (some ⟨w.heap.size, 0, none⟩) n n (([] : List Row).map SVal ++ List.replicate (n - 0) (.slice none 0 0)) := by
    rw [Nat.mul_one, show (Value.slice none 0 0).cells = #[.slice none 0 0] from rfl, toList_madeCells_one] at hown1
    exact ⟨by simpa using hown1, (Below.refl _ _).grown hg1 (Nat.le_refl _) (fun k hk => by cases hk)⟩
  clear hown1 hg1 hi hz0 hz1 hz2
  go_loopw [4] (fun i wr => ∃ (k : Nat) (rs : List Row), k ≤ n ∧ i = .int .i64 k ∧ Mem w wr (⟨58, some ⟨w.heap.size, 0, none⟩, n, n, rs.map SVal ++ List.replicate (n - k) (.slice none 0 0)⟩ :: rs) ∧ Hid (rs.map Row.xs = (zss.take k).map ivs)) (fun i _ => n - (intOf i).toNat)
  case atStart => exact ⟨0, [], Nat.zero_le _, rfl, (Mem.start w).add HO, Lib.hid rfl⟩
  case round =>
    obtain ⟨k, rs, hk, rfl, hmem, HX⟩ := hrel
    have HM := Lib.hid hmem
    clear HO hmem
    have hrl : rs.length = k := by have h := congrArg List.length HX.out; simp only [List.length_map, List.length_take] at h; have := hlen.out; omega
    by_cases hlt : k < n
    · have hkl : k < zss.length := by rw [hlen.out]; exact hlt
      obtain ⟨a, A1, m1, c1, rfl, hab, hca, hrd, hzl⟩ := (HG.out.later HM.out.bel).at hkl
      have hm1 : m1 ≤ 1048576 := by rw [← hrd.lenI]; exact hzl
      have HRd := Lib.hid hrd
      clear hrd hzl
      go_wp2_with fail
      refine (toIntS_any A1 m1 c1 zss[k] wr HRd.out hm1).mono ?_
      rintro e w2 ⟨A5, rfl, ho⟩
      have HM2 := Lib.hid (HM.out.add ho)
      clear ho
      have hk2 : k < (rs.map SVal ++ List.replicate (n - k) (Value.slice none 0 0)).length := by simp; omega
      have hst := (Mem.own (pre := [_]) HM2.out).cellAt hk2
      have hfr := (Mem.own (pre := [_]) HM2.out).frozenAt k
      obtain ⟨v0, hst⟩ : ∃ v0, w2.cell? ⟨w.heap.size, k, none⟩ = some v0 := ⟨_, hst⟩
      have HN := Lib.hid (by
        have h1 := World.ownsRow.stored HM2.out.row1 k (.slice A5 m1 m1)
        exact HM2.out.mark1 h1.1 h1.2)
      go_wp2
      refine ⟨⟨k + 1, rs ++ [⟨3, A5, m1, m1, ivs zss[k]⟩], by omega, by go_num, ?_, ?_⟩, by simp [intOf]; omega⟩
      · have hset : (rs.map SVal ++ List.replicate (n - k) (Value.slice none 0 0)).set k (.slice A5 m1 m1) = (rs ++ [(⟨3, A5, m1, m1, ivs zss[k]⟩ : Row)]).map SVal ++ List.replicate (n - (k + 1)) (Value.slice none 0 0) := by
          obtain ⟨d, hd⟩ : ∃ d, n - k = d + 1 := ⟨n - k - 1, by omega⟩
          rw [List.set_append_right (h := by simp; omega)]
          simp only [List.length_map, hrl, Nat.sub_self]
          rw [hd, List.replicate_succ, List.set_cons_zero, show n - (k + 1) = d by omega]
          simp [SVal]
        have h := HN.out
        rw [hset] at h
        refine h.perm ?_
        refine (List.Perm.swap _ _ _).trans (List.Perm.cons _ ?_)
        exact (List.perm_append_singleton _ _).symm
      · exact Lib.hid (by rw [take_snoc zss k hkl, List.map_append, List.map_append, HX.out]; rfl)
    · obtain rfl : k = n := by omega
      have HF := Lib.hid (show rs.map Row.xs = zss.map ivs by rw [HX.out, List.take_of_length_le (by rw [hlen.out]; omega)])
      go_wp2
      go_ret
      refine ⟨_, rs, rfl, ?_, HF.out⟩
      simpa using HM.out
/-- an automaton laid in a block of its own -/
def BoxR (t : TypeId) (g : Nat) (b : Int) (A : Option Addr) (n c : Nat) (o : List UInt8) : Row := ⟨t, some ⟨g, 0, none⟩, 3, 3, [.int .i64 b, .slice A n c, .string ⟨o.toArray⟩]⟩
theorem Mem.box {W w : World} {L : List Row} (h : Mem W w L) (t : TypeId) (b : Int) (A : Option Addr) (n c : Nat) (o : List UInt8) : Mem W (w.alloc (.cells #[.int .i64 b, .slice A n c, .string ⟨o.toArray⟩] t)) (BoxR t w.heap.size b A n c o :: L) :=
  h.add (Own.made (w0 := w) (w := w) (Below.refl _ _) t [.int .i64 b, .slice A n c, .string ⟨o.toArray⟩] (by simp))
theorem Mem.boxAt {W w : World} {L : List Row} (h : Mem W w L) {t : TypeId} {g : Nat} {b : Int} {A : Option Addr} {n c : Nat} {o : List UInt8} (hr : BoxR t g b A n c o ∈ L) : BoxAt w g b A n c o :=
  ⟨(h.row hr).cellAt 0 (by simp [BoxR]), (h.row hr).cellAt 1 (by simp [BoxR]), (h.row hr).cellAt 2 (by simp [BoxR])⟩
theorem Mem.boxFree {W w : World} {L : List Row} (h : Mem W w L) {t : TypeId} {g : Nat} {b : Int} {A : Option Addr} {n c : Nat} {o : List UInt8} (hr : BoxR t g b A n c o ∈ L) (j : Nat) : w.frozen? ⟨g, j, none⟩ = false := (h.row hr).frozenAt j
section
variable {W w : World} {pre post : List Row} {t : TypeId} {g : Nat} {b : Int} {A : Option Addr} {n c : Nat} {o : List UInt8}
theorem Mem.box0 (h : Mem W w (pre ++ BoxR t g b A n c o :: post)) (b' : Int) : Mem W (w.setCell ⟨g, 0, none⟩ (.int .i64 b')) (pre ++ BoxR t g b' A n c o :: post) := by
  have h1 := World.ownsRow.stored (h.row (r := BoxR t g b A n c o) (by simp)) 0 (.int .i64 b')
  exact h.mark (pre := pre) (post := post) (ys := [.int .i64 b', .slice A n c, .string ⟨o.toArray⟩]) h1.1 (Nat.le_refl _) h1.2
theorem Mem.box1 (h : Mem W w (pre ++ BoxR t g b A n c o :: post)) (A' : Option Addr) (n' c' : Nat) : Mem W (w.setCell ⟨g, 1, none⟩ (.slice A' n' c')) (pre ++ BoxR t g b A' n' c' o :: post) := by
  have h1 := World.ownsRow.stored (h.row (r := BoxR t g b A n c o) (by simp)) 1 (.slice A' n' c')
  exact h.mark (pre := pre) (post := post) (ys := [.int .i64 b, .slice A' n' c', .string ⟨o.toArray⟩]) h1.1 (Nat.le_refl _) h1.2
theorem Mem.box2 (h : Mem W w (pre ++ BoxR t g b A n c o :: post)) (o' : List UInt8) : Mem W (w.setCell ⟨g, 2, none⟩ (.string ⟨o'.toArray⟩)) (pre ++ BoxR t g b A n c o' :: post) := by
  have h1 := World.ownsRow.stored (h.row (r := BoxR t g b A n c o) (by simp)) 2 (.string ⟨o'.toArray⟩)
  exact h.mark (pre := pre) (post := post) (ys := [.int .i64 b, .slice A n c, .string ⟨o'.toArray⟩]) h1.1 (Nat.le_refl _) h1.2
end
set_option maxRecDepth 4096 in
set_option maxHeartbeats 1600000 in
theorem toAuto_any (b : Int) (A : Option Addr) (n c : Nat) (zss : Tab) (o : List UInt8) (w : World) (hg : GIn w A n c zss) :
    Calls Try.prog 9 #[AutoV b A n c o] w fun e w' => ∃ A' rs, e = .returned (AutoV b A' n n o) ∧ Mem w w' (⟨58, A', n, n, rs.map SVal⟩ :: rs) ∧ rs.map Row.xs = zss.map ivs := by
  have HM0 := Lib.hid ((((Mem.start w).box 24 b A n c o).box 27 0 none 0 0 []).box 27 b none 0 0 [])
  have HG := Lib.hid (hg.later HM0.out.bel)
  have HCon := Lib.hid (toIntSS_any A n c zss _ HG.out)
  clear hg
  go_enter Try.func9, Try.ntmps9
  go_wp2_with fail
  refine HCon.out.mono ?_
  rintro e w4 ⟨A4, rs, rfl, hm, hx⟩
  have HM := Lib.hid (HM0.out.addAll hm)
  have b0 := HM.out.boxAt (t := 24) (g := w.heap.size) (b := b) (A := A) (n := n) (c := c) (o := o) (by simp)
  have b1 := HM.out.boxAt (t := 27) (g := w.heap.size + 1) (b := 0) (A := none) (n := 0) (c := 0) (o := []) (by simp)
  have b2 := HM.out.boxAt (t := 27) (g := w.heap.size + 1 + 1) (b := b) (A := none) (n := 0) (c := 0) (o := []) (by simp)
  have f1 := fun j => HM.out.boxFree (t := 27) (g := w.heap.size + 1) (b := 0) (A := none) (n := 0) (c := 0) (o := []) (by simp) j
  have f2 := fun j => HM.out.boxFree (t := 27) (g := w.heap.size + 1 + 1) (b := b) (A := none) (n := 0) (c := 0) (o := []) (by simp) j
  obtain ⟨b00, b01, b02⟩ := b0
  obtain ⟨b10, b11, b12⟩ := b1
  obtain ⟨b20, b21, b22⟩ := b2
  have f10 := f1 0
  have f11 := f1 1
  have f12 := f1 2
  have f20 := f2 0
  have f21 := f2 1
  have f22 := f2 2
  clear f1 f2 hm
  go_wp2_with fail
  have HM9 := Lib.hid (by
    have h1 := Mem.box1 (pre := ⟨58, A4, n, n, rs.map SVal⟩ :: rs) (post := [_, _]) (by simpa using HM.out) A4 n n
    have h2 := Mem.box2 h1 o
    have h3 := Mem.box0 (pre := (⟨58, A4, n, n, rs.map SVal⟩ :: rs) ++ [_]) (post := [_]) (by simpa using h2) b
    have h4 := Mem.box1 h3 A4 n n
    exact Mem.box2 h4 o)
  obtain ⟨w9, hw9⟩ : ∃ w9, w9 = (((((w4.setCell ⟨w.heap.size + 1 + 1, 1, none⟩ (.slice A4 n n)).setCell ⟨w.heap.size + 1 + 1, 2, none⟩ (.string ⟨o.toArray⟩)).setCell ⟨w.heap.size + 1, 0, none⟩ (.int .i64 b)).setCell ⟨w.heap.size + 1, 1, none⟩ (.slice A4 n n)).setCell ⟨w.heap.size + 1, 2, none⟩ (.string ⟨o.toArray⟩)) := ⟨_, rfl⟩
  rw [← hw9] at HM9 ⊢
  clear hw9 HM b00 b01 b02 b10 b11 b12 b20 b21 b22
  obtain ⟨b10, b11, b12⟩ := HM9.out.boxAt (t := 27) (g := w.heap.size + 1) (b := b) (A := A4) (n := n) (c := n) (o := o) (by simp)
  refine bodyPost_ret (v := AutoV b A4 n n o) (by simp [results, Try.results9, go_sem, b10, b11, b12]) rfl ?_
  exact ⟨A4, rs, rfl, HM9.out.drop (by simp), hx⟩
set_option maxRecDepth 4096 in
set_option maxHeartbeats 1600000 in
theorem eqAuto_same (b : Int) (A B : Option Addr) (n c d : Nat) (zss : Tab) (o : List UInt8) (w : World) (ha : GIn w A n c zss) (hb : GIn w B n d zss) :
    Calls Try.prog 11 #[AutoV b A n c o, AutoV b B n d o] w fun e w' => e = .returned (.bool true) ∧ Below w.heap.size w w' := by
  have HM0 := Lib.hid (((Mem.start w).box 27 b A n c o).box 27 b B n d o)
  have ha2 := ha.later HM0.out.bel
  have hb2 := hb.later HM0.out.bel
  obtain ⟨rs, h1, h2, h3, h4, _⟩ := ha2
  obtain ⟨ts, k1, k2, _⟩ := hb2
  have HCon := Lib.hid (eqIntSS_same A B n c d rs ts zss _ h1 k1 h2 k2 h3 h4)
  clear ha hb h1 h2 h4 k1 k2
  go_enter Try.func11, Try.ntmps11
  go_wp2_with fail
  refine HCon.out.mono ?_
  rintro e w4 ⟨rfl, hb4⟩
  have HM := Lib.hid (HM0.out.later hb4)
  obtain ⟨b00, b01, b02⟩ := HM.out.boxAt (t := 27) (g := w.heap.size) (b := b) (A := A) (n := n) (c := c) (o := o) (by simp)
  obtain ⟨b10, b11, b12⟩ := HM.out.boxAt (t := 27) (g := w.heap.size + 1) (b := b) (A := B) (n := n) (c := d) (o := o) (by simp)
  clear hb4
  go_wp2_with fail
  go_ret
  exact ⟨rfl, HM.out.bel⟩
set_option maxRecDepth 4096 in
set_option maxHeartbeats 1600000 in
theorem markAuto_any (w0 w : World) (st : TypeId) (b : Int) (A : Option Addr) (n c : Nat) (o : List UInt8) (rs post : List Row) (k0 : Int) (hm : Mem w0 w (⟨st, A, n, c, rs.map SVal⟩ :: (rs ++ post))) (hn : n ≤ 1048576) (hk0 : 0 ≤ k0) (hk1 : k0 + totN rs ≤ 1048576) :
    Calls Try.prog 18 #[AutoV b A n c o, .int .i64 k0] w fun e w' => e = .returned (.int .i64 (k0 + totN rs)) ∧ Mem w0 w' (⟨st, A, n, c, rs.map SVal⟩ :: (markRs k0 rs ++ post)) := by
  have HM0 := Lib.hid (hm.alloc (.cells #[.int .i64 b, .slice A n c, .string ⟨o.toArray⟩] 27))
  have HCon := Lib.hid (markIntSS_any w0 _ st A n c rs post k0 HM0.out hn hk0 hk1)
  clear hm
  go_enter Try.func18, Try.ntmps18
  go_wp2_with fail
  refine HCon.out.mono ?_
  rintro e w4 ⟨rfl, hm4⟩
  go_wp2_with fail
  go_ret
  exact ⟨rfl, hm4⟩
set_option maxRecDepth 4096 in
set_option maxHeartbeats 1600000 in
theorem heldAuto_any (b : Int) (A : Option Addr) (n c : Nat) (o : List UInt8) (rs : List Row) (k0 : Int) (w : World) (hr : RdG w A n (markRs k0 rs)) (hn : n ≤ 1048576) (hk0 : 0 ≤ k0) (hk1 : k0 + totN rs ≤ 1048576) :
    Calls Try.prog 19 #[AutoV b A n c o, .int .i64 k0] w fun e w' => e = .returned (.int .i64 (k0 + totN rs)) ∧ Below w.heap.size w w' := by
  have HW1 := Lib.hid (Below.boxed w (.cells #[.int .i64 b, .slice A n c, .string ⟨o.toArray⟩] 27))
  have HCon := Lib.hid (heldIntSS_any A n c rs k0 _ (hr.later HW1.out) hn hk0 hk1)
  clear hr
  have hneg : ¬ (k0 + (totN rs : Int) < 0) := by omega
  go_enter Try.func19, Try.ntmps19
  go_wp2_with fail
  refine HCon.out.mono ?_
  rintro e w4 ⟨rfl, rfl⟩
  go_wp2_with fail
  go_ret
  exact ⟨rfl, HW1.out⟩
end Go.Proofs.Ytdebdnglchkdaaa
