/-
  Contracts of AutoOf (program and reference). No conditions.
-/
import Derived.Test.YtcicoplmpinnmaaDoorASub
import Derived.Test.YtcicoplmpinnmaaDoorAHelp
import Derived.Test.YtcicoplmpinnmaaDoorIns
namespace Go.Proofs.YtcicoplmpinnmaaDoor
open Go.RowKit

def num (x : UInt8) : Int := (x.toNat : Int) - 97
def nums (l : List UInt8) : List Int := l.map num
theorem nums_snoc (l : List UInt8) {j : Nat} (h : j < l.length) : nums (l.take (j + 1)) = nums (l.take j) ++ [num l[j]] := by
  unfold nums; rw [take_snoc l j h, List.map_append]; rfl
def ofOk (ss : Wds) : Bool := wi (uni ss) 2 4
def ofBase (ss : Wds) : Int := if ofOk ss = true then uni ss else 0
def ofTab (ss : Wds) : Tab := if ofOk ss = true then ss.map nums else []
def ofOut (ss : Wds) : List UInt8 := if ofOk ss = true then [97, 98, 99, 100].take ss.length else []
/-- what a call that hands back an automaton and a truth value leaves -/
def RetAB (st : TypeId) (w0 : World) (b : Int) (zss : Tab) (o : List UInt8) (ok : Bool) (e : Ending) (w' : World) : Prop :=
  ∃ A n c rs, e = .returned (.tuple #[AutoV b A n c o, .bool ok]) ∧ Mem w0 w' (⟨st, A, n, c, rs.map SVal⟩ :: rs) ∧ rs.map Row.xs = zss.map ivs
theorem ofOk_sOk {ss : Wds} (h : ofOk ss = true) : sOk ss = true ∧ flat ss = true ∧ uni ss = ((ss.getD 0 []).length : Int) ∧ 2 ≤ (ss.getD 0 []).length ∧ (ss.getD 0 []).length ≤ 4 := by
  unfold ofOk at h
  have h1 := wi_yes h
  unfold uni at h1 ⊢
  cases h2 : sOk ss <;> rw [h2] at h1
  · simp at h1
  · cases h3 : flat ss <;> rw [h3] at h1
    · simp at h1
    · simp only [if_true] at h1 ⊢
      exact ⟨trivial, trivial, trivial, by omega, by omega⟩
theorem ofOk_row {ss : Wds} (h : ofOk ss = true) {l : List UInt8} (hl : l ∈ ss) : l.length = (ss.getD 0 []).length := by
  have h1 := (ofOk_sOk h).2.1
  unfold flat at h1
  have h2 := List.all_eq_true.1 h1 l hl
  simpa using h2
/-- a substitution laid in a block of its own -/
def SubR (t : TypeId) (g : Nat) (A : Option Addr) (n c : Nat) : Row := ⟨t, some ⟨g, 0, none⟩, 1, 1, [.slice A n c]⟩
theorem Mem.sub {W w : World} {L : List Row} (h : Mem W w L) (t : TypeId) (A : Option Addr) (n c : Nat) : Mem W (w.alloc (.cells #[.slice A n c] t)) (SubR t w.heap.size A n c :: L) :=
  h.add (Own.made (w0 := w) (w := w) (Below.refl _ _) t [.slice A n c] (by simp))
theorem Mem.subAt {W w : World} {L : List Row} (h : Mem W w L) {t : TypeId} {g : Nat} {A : Option Addr} {n c : Nat} (hr : SubR t g A n c ∈ L) : w.cell? ⟨g, 0, none⟩ = some (.slice A n c) := (h.row hr).cellAt 0 (by simp [SubR])

theorem Mem.boxAll {W w : World} {pre post : List Row} {t : TypeId} {g : Nat} {b : Int} {A : Option Addr} {n c : Nat} {o : List UInt8} (h : Mem W w (pre ++ BoxR t g b A n c o :: post)) (b' : Int) (A' : Option Addr) (n' c' : Nat) (o' : List UInt8) :
    Mem W (((w.setCell ⟨g, 0, none⟩ (.int .i64 b')).setCell ⟨g, 1, none⟩ (.slice A' n' c')).setCell ⟨g, 2, none⟩ (.string ⟨o'.toArray⟩)) (pre ++ BoxR t g b' A' n' c' o' :: post) :=
  ((h.box0 b').box1 A' n' c').box2 o'
set_option maxRecDepth 4096 in
set_option maxHeartbeats 3200000 in
theorem cAutoOfI (A : Option Addr) (n c : Nat) (ss : Wds) (W : World) (hs : SIn W A n c ss) :
    Calls Tryd.prog 15 #[SubV A n c] W (RetAB 54 W (ofBase ss) (ofTab ss) (ofOut ss) (ofOk ss)) := by
  have HM0 := Lib.hid (((Mem.start W).sub 39 A n c).box 25 0 none 0 0 [])
  have HC := Lib.hid (iIsUniform_any A n c ss _ (hs.later HM0.out.bel))
  have HS := Lib.hid hs
  have HLen := Lib.hid hs.1.lenS
  clear hs
  obtain ⟨bb, hbb⟩ : ∃ bb, bb = ofBase ss := ⟨_, rfl⟩
  obtain ⟨zz, hzz⟩ : ∃ zz, zz = ofTab ss := ⟨_, rfl⟩
  obtain ⟨oo, hoo⟩ : ∃ oo, oo = ofOut ss := ⟨_, rfl⟩
  obtain ⟨kk, hkk⟩ : ∃ kk, kk = ofOk ss := ⟨_, rfl⟩
  rw [← hbb, ← hzz, ← hoo, ← hkk]
  cases hok : ofOk ss
  case false =>
    have H1 := Lib.hid (within_is (n := uni ss) (lo := 2) (hi := 4) (b := false) hok)
    have HB := Lib.hid (show bb = 0 by rw [hbb]; unfold ofBase; rw [hok]; rfl)
    have HZ := Lib.hid (show zz = [] by rw [hzz]; unfold ofTab; rw [hok]; rfl)
    have HO := Lib.hid (show oo = [] by rw [hoo]; unfold ofOut; rw [hok]; rfl)
    have HK := Lib.hid (show kk = false by rw [hkk, hok])
    obtain ⟨u, hu⟩ : ∃ u, u = uni ss := ⟨_, rfl⟩
    rw [← hu] at H1 HC
    clear hbb hzz hoo hkk hok hu
    go_enter Tryd.func15, Tryd.ntmps15
    go_wp2_with fail
    refine HC.out.mono ?_
    rintro e w1 ⟨rfl, hb1⟩
    have HM1 := Lib.hid (HM0.out.later hb1)
    obtain ⟨bx0, bx1, bx2⟩ := HM1.out.boxAt (t := 25) (g := W.heap.size + 1) (b := 0) (A := none) (n := 0) (c := 0) (o := []) (by simp)
    have fx := fun j => HM1.out.boxFree (t := 25) (g := W.heap.size + 1) (b := 0) (A := none) (n := 0) (c := 0) (o := []) (by simp) j
    have fx0 := fx 0
    have fx1 := fx 1
    have fx2 := fx 2
    clear hb1 fx
    go_wp2_with (go_at_call 21; (with_reducible refine (H1.out _).mono ?_); rintro e w' ⟨rfl, rfl⟩)
    have HM9 := Lib.hid (Mem.boxAll (pre := []) (post := [_]) HM1.out 0 none 0 0 [])
    rw [show (W.alloc (.cells #[.slice A n c] 39)).heap.size = W.heap.size + 1 by simp] at HM9
    obtain ⟨w9, hw9⟩ : ∃ w9, w9 = (((w1.setCell ⟨W.heap.size + 1, 0, none⟩ (.int .i64 0)).setCell ⟨W.heap.size + 1, 1, none⟩ (.slice none 0 0)).setCell ⟨W.heap.size + 1, 2, none⟩ (.string ⟨#[]⟩)) := ⟨_, rfl⟩
    have HM8 := Lib.hid (show Mem W w9 (BoxR 25 (W.heap.size + 1) 0 none 0 0 [] :: [SubR 39 W.heap.size A n c]) by rw [hw9]; exact HM9.out)
    rw [← hw9]
    clear hw9 HM9 HM1 bx0 bx1 bx2 fx0 fx1 fx2
    obtain ⟨bx0, bx1, bx2⟩ := HM8.out.boxAt (t := 25) (g := W.heap.size + 1) (b := 0) (A := none) (n := 0) (c := 0) (o := []) (by simp)
    refine bodyPost_ret (v := .tuple #[AutoV 0 none 0 0 [], .bool false]) (by rw [results_cell_tmp rfl]; go_simp) rfl ?_
    rw [HB.out, HZ.out, HO.out, HK.out]
    refine ⟨none, 0, 0, [], rfl, ?_, rfl⟩
    exact ((Mem.start w9).add (Own.nil (Below.refl _ _) 54)) |> fun h => ⟨HM8.out.bel, fun r hr => less_row (h.2.1 r hr) HM8.out.bel.size, h.2.2⟩
  case true =>
    have H1 := Lib.hid (within_is (n := uni ss) (lo := 2) (hi := 4) (b := true) hok)
    obtain ⟨h1, h2, h3, h4, h5⟩ := ofOk_sOk hok
    have HB := Lib.hid (show bb = uni ss by rw [hbb]; unfold ofBase; rw [hok]; rfl)
    have HZ := Lib.hid (show zz = ss.map nums by rw [hzz]; unfold ofTab; rw [hok]; rfl)
    have HO := Lib.hid (show oo = [97, 98, 99, 100].take n by rw [hoo]; unfold ofOut; rw [hok, HLen.out]; rfl)
    have HK := Lib.hid (show kk = true by rw [hkk, hok])
    have HI := Lib.hid (fun l hl => sOk_img h1 (l := l) hl)
    have hn4 := sOk_n h1
    rw [HLen.out] at hn4
    obtain ⟨u, hu⟩ : ∃ u, u = uni ss := ⟨_, rfl⟩
    rw [← hu] at H1 HC h3 HB
    have hn0 : 0 ≤ n := Nat.zero_le _
    clear hbb hzz hoo hkk hok hu h1 h2 h4 h5 h3
    have i1 : (n : Int) ≤ 4 := by omega
    have i2 : (0 : Int) ≤ (n : Int) := by omega
    go_enter Tryd.func15, Tryd.ntmps15
    go_wp2_with fail
    refine HC.out.mono ?_
    rintro e w1 ⟨rfl, hb1⟩
    have HM1 := Lib.hid (HM0.out.later hb1)
    have bs0 := HM1.out.subAt (t := 39) (g := W.heap.size) (A := A) (n := n) (c := c) (by simp)
    have HM2 := Lib.hid (HM1.out.box 25 u none 0 0 ([97, 98, 99, 100].take n))
    have bs1 := HM2.out.subAt (t := 39) (g := W.heap.size) (A := A) (n := n) (c := c) (by simp)
    clear hb1 HM0 HC HM1
    go_wp2_with (go_at_call 21; (with_reducible refine (H1.out _).mono ?_); rintro e w' ⟨rfl, rfl⟩)
    rw [show (W.alloc (.cells #[.slice A n c] 39)).heap.size = W.heap.size + 1 by simp] at HM2
    obtain ⟨os, hos⟩ : ∃ os : List UInt8, os = [97, 98, 99, 100].take n := ⟨_, rfl⟩
    rw [← hos] at HM2 HO bs1 ⊢
    obtain ⟨w2, hw2⟩ : ∃ w2, w2 = w1.alloc (.cells #[.int .i64 u, .slice none 0 0, .string ⟨os.toArray⟩] 25) := ⟨_, rfl⟩
    rw [← hw2] at HM2 bs1 ⊢
    obtain ⟨g1, hg1⟩ : ∃ g, g = W.heap.size := ⟨_, rfl⟩
    obtain ⟨g2, hg2⟩ : ∃ g, g = W.heap.size + 1 := ⟨_, rfl⟩
    obtain ⟨g5, hg5⟩ : ∃ g, g = w1.heap.size := ⟨_, rfl⟩
    rw [← hg2, ← hg1, ← hg5] at HM2
    rw [← hg1] at bs1
    rw [← hg2, ← hg1, ← hg5]
    clear hg1 hg2 hg5 hw2 hos bs0 bs1 H1
    go_loopw [25] (fun i wr => ∃ (k : Nat) (A5 : Option Addr) (c5 : Nat) (rs : List Row), k ≤ n ∧ i = .int .i64 k ∧ Mem W wr (⟨54, A5, k, c5, rs.map SVal⟩ :: (rs ++ [BoxR 25 g5 u A5 k c5 os, BoxR 25 g2 0 none 0 0 [], SubR 39 g1 A n c])) ∧ Hid (rs.map Row.xs = ((ss.take k).map nums).map ivs)) (fun i _ => n - (intOf i).toNat)
    case atStart => exact ⟨0, none, 0, [], Nat.zero_le _, rfl, HM2.out.add (Own.nil (Below.refl _ _) _), Lib.hid rfl⟩
    case round =>
      obtain ⟨k, A5, c5, rs, hk, rfl, hmem, HX⟩ := hrel
      have HM := Lib.hid hmem
      clear hmem HM2
      by_cases hlt : k < n
      · have hkl : k < ss.length := by rw [HLen.out]; exact hlt
        obtain ⟨a, rfl, hab, hca⟩ := (HS.out.later HM.out.bel).1.str hkl
        have hll := (HI.out _ (List.getElem_mem hkl)).1.2
        have HLe := Lib.hid (HI.out _ (List.getElem_mem hkl)).2
        have HNX := Lib.hid (show ((ss.take (k + 1)).map nums).map ivs = ((ss.take k).map nums).map ivs ++ [ivs (nums ss[k])] by rw [take_snoc ss k hkl, List.map_append, List.map_append]; rfl)
        obtain ⟨l, hl⟩ : ∃ l, l = ss[k] := ⟨_, rfl⟩
        rw [← hl] at hca hll HLe HNX
        clear hl
        go_wp2_with fail
        obtain ⟨wo, rfl⟩ : ∃ wo, wo = wr := ⟨_, rfl⟩
        go_loopw [32, 8] (fun i x wr => ∃ (j : Nat) (A6 : Option Addr) (c6 : Nat), j ≤ l.length ∧ i = .int .i64 j ∧ x = .slice A6 j c6 ∧ Own wo wr 3 A6 j c6 (ivs (nums (l.take j)))) (fun i _ _ => l.length - (intOf i).toNat)
        case atStart => exact ⟨0, _, _, Nat.zero_le _, rfl, rfl, Own.made0 (Below.refl _ _) _⟩
        case round =>
          obtain ⟨j, A6, c6, hj, rfl, rfl, hown⟩ := hrel
          have HO := Lib.hid hown
          clear hown
          by_cases hlt2 : j < l.length
          · have hlt97 := HLe.out _ (List.getElem_mem hlt2)
            have HSn := Lib.hid (nums_snoc l hlt2)
            obtain ⟨x, hx⟩ : ∃ x, x = l[j] := ⟨_, rfl⟩
            rw [← hx] at HSn hlt97
            have hx256 := x.toNat_lt
            have e1 : IntKind.u8.wrap ((x.toNat : Int) - 97) = (x.toNat : Int) - 97 := IntWalk.u8_in _ (by omega)
            have e2 : IntKind.i64.wrap ((x.toNat : Int) - 97) = (x.toNat : Int) - 97 := IntWalk.i64_in _ (by omega)
            have i3 : (0 : Int) ≤ (j : Int) := by omega
            have i4 : (j : Int) < (l.length : Int) := by omega
            have hgx : l[j] = x := hx.symm
            clear hx
            go_wp2_with (at_builtin; refine app_one (.tmp 35) (.tmp 41) _ _ _ 8 rfl rfl Tryd.underlying54 infoI rfl rfl HO.out rfl rfl (by omega) (by omega) ?_; intro A7 c7 w7 hown7)
            exact ⟨⟨j + 1, A7, c7, by omega, by go_num, rfl, by rw [HSn.out, ivs_snoc]; exact hown7⟩, by simp [intOf]; omega⟩
          · obtain rfl : j = l.length := by omega
            have HFull := Lib.hid (show l.take l.length = l from List.take_length)
            have HM6 := Lib.hid (HM.out.add HO.out)
            rw [HFull.out] at HM6
            obtain ⟨bx0, bx1, bx2⟩ := HM6.out.boxAt (t := 25) (g := g5) (b := u) (A := A5) (n := k) (c := c5) (o := os) (by simp)
            go_wp2_with (at_builtin; refine app_mem [⟨3, A6, l.length, c6, ivs (nums l)⟩] (rs ++ [BoxR 25 g5 u A5 k c5 os, BoxR 25 g2 0 none 0 0 [], SubR 39 g1 (some a) n c]) (.tmp 45) (.tmp 47) _ _ _ 24 rfl rfl Tryd.underlying23 infoG rfl rfl (HM6.out.alloc _) rfl (by omega) (Rd.one _ _ _) (by simp [Value.oneCell']) (by omega) (by omega) ?_; intro A8 c8 w8 hm8; have by1 := (hm8.boxAt (t := 25) (g := g5) (b := u) (A := A5) (n := k) (c := c5) (o := os) (by simp)).2.1; have bf1 := hm8.boxFree (t := 25) (g := g5) (b := u) (A := A5) (n := k) (c := c5) (o := os) (by simp) 1)
            have HM9 := Lib.hid (Mem.box1 (pre := ⟨3, A6, l.length, c6, ivs (nums l)⟩ :: ⟨54, A8, k + 1, c8, rs.map SVal ++ [.slice A6 l.length c6]⟩ :: rs) (post := [_, _]) (by simpa using hm8) A8 (k + 1) c8)
            refine ⟨⟨k + 1, A8, c8, rs ++ [⟨3, A6, l.length, c6, ivs (nums l)⟩], by omega, by go_num, ?_, ?_⟩, by simp [intOf]; omega⟩
            · refine HM9.out.perm ?_
              simp only [List.map_append, List.map_cons, List.map_nil, SVal, List.cons_append, List.append_assoc, List.nil_append]
              refine (List.Perm.swap _ _ _).trans (List.Perm.cons _ ?_)
              exact List.perm_middle.symm
            · exact Lib.hid (by rw [HNX.out, List.map_append, HX.out]; rfl)
      · obtain rfl : k = n := by omega
        have HFX := Lib.hid (show rs.map Row.xs = (ss.map nums).map ivs by rw [HX.out, List.take_of_length_le (by rw [HLen.out]; omega)])
        obtain ⟨bx0, bx1, bx2⟩ := HM.out.boxAt (t := 25) (g := g5) (b := u) (A := A5) (n := k) (c := c5) (o := os) (by simp)
        obtain ⟨by0, by1, by2⟩ := HM.out.boxAt (t := 25) (g := g2) (b := 0) (A := none) (n := 0) (c := 0) (o := []) (by simp)
        have fx := fun j => HM.out.boxFree (t := 25) (g := g2) (b := 0) (A := none) (n := 0) (c := 0) (o := []) (by simp) j
        have fx0 := fx 0
        have fx1 := fx 1
        have fx2 := fx 2
        clear fx
        go_wp2_with fail
        have HM9 := Lib.hid (Mem.boxAll (pre := ⟨54, A5, k, c5, rs.map SVal⟩ :: (rs ++ [BoxR 25 g5 u A5 k c5 os])) (post := [_]) (by simpa using HM.out) u A5 k c5 os)
        obtain ⟨w9, hw9⟩ : ∃ w9, w9 = (((wr.setCell ⟨g2, 0, none⟩ (.int .i64 u)).setCell ⟨g2, 1, none⟩ (.slice A5 k c5)).setCell ⟨g2, 2, none⟩ (.string ⟨os.toArray⟩)) := ⟨_, rfl⟩
        rw [← hw9] at HM9 ⊢
        clear hw9 HM bx0 bx1 bx2 by0 by1 by2 fx0 fx1 fx2
        obtain ⟨by0, by1, by2⟩ := HM9.out.boxAt (t := 25) (g := g2) (b := u) (A := A5) (n := k) (c := c5) (o := os) (by simp)
        refine bodyPost_ret (v := .tuple #[AutoV u A5 k c5 os, .bool true]) (by rw [results_cell_tmp rfl]; go_simp) rfl ?_
        rw [HB.out, HZ.out, HO.out, HK.out]
        exact ⟨A5, k, c5, rs, rfl, HM9.out.drop (by simp), HFX.out⟩
set_option maxRecDepth 4096 in
set_option maxHeartbeats 3200000 in
theorem cAutoOfS (A : Option Addr) (n c : Nat) (ss : Wds) (W : World) (hs : SIn W A n c ss) :
    Calls Tryd.prog 40 #[SubV A n c] W (RetAB 54 W (ofBase ss) (ofTab ss) (ofOut ss) (ofOk ss)) := by
  have HM0 := Lib.hid (((Mem.start W).sub 39 A n c).box 25 0 none 0 0 [])
  have HC := Lib.hid (sIsUniform_any A n c ss _ (hs.later HM0.out.bel))
  have HS := Lib.hid hs
  have HLen := Lib.hid hs.1.lenS
  clear hs
  obtain ⟨bb, hbb⟩ : ∃ bb, bb = ofBase ss := ⟨_, rfl⟩
  obtain ⟨zz, hzz⟩ : ∃ zz, zz = ofTab ss := ⟨_, rfl⟩
  obtain ⟨oo, hoo⟩ : ∃ oo, oo = ofOut ss := ⟨_, rfl⟩
  obtain ⟨kk, hkk⟩ : ∃ kk, kk = ofOk ss := ⟨_, rfl⟩
  rw [← hbb, ← hzz, ← hoo, ← hkk]
  cases hok : ofOk ss
  case false =>
    have H1 := Lib.hid (l01In_is (n := uni ss) (lo := 2) (hi := 4) (b := false) hok)
    have HB := Lib.hid (show bb = 0 by rw [hbb]; unfold ofBase; rw [hok]; rfl)
    have HZ := Lib.hid (show zz = [] by rw [hzz]; unfold ofTab; rw [hok]; rfl)
    have HO := Lib.hid (show oo = [] by rw [hoo]; unfold ofOut; rw [hok]; rfl)
    have HK := Lib.hid (show kk = false by rw [hkk, hok])
    obtain ⟨u, hu⟩ : ∃ u, u = uni ss := ⟨_, rfl⟩
    rw [← hu] at H1 HC
    clear hbb hzz hoo hkk hok hu
    go_enter Tryd.func40, Tryd.ntmps40
    go_wp2_with fail
    refine HC.out.mono ?_
    rintro e w1 ⟨rfl, hb1⟩
    have HM1 := Lib.hid (HM0.out.later hb1)
    obtain ⟨bx0, bx1, bx2⟩ := HM1.out.boxAt (t := 25) (g := W.heap.size + 1) (b := 0) (A := none) (n := 0) (c := 0) (o := []) (by simp)
    have fx := fun j => HM1.out.boxFree (t := 25) (g := W.heap.size + 1) (b := 0) (A := none) (n := 0) (c := 0) (o := []) (by simp) j
    have fx0 := fx 0
    have fx1 := fx 1
    have fx2 := fx 2
    clear hb1 fx
    go_wp2_with (go_at_call 54; (with_reducible refine (H1.out _).mono ?_); rintro e w' ⟨rfl, rfl⟩)
    have HM9 := Lib.hid (Mem.boxAll (pre := []) (post := [_]) HM1.out 0 none 0 0 [])
    rw [show (W.alloc (.cells #[.slice A n c] 39)).heap.size = W.heap.size + 1 by simp] at HM9
    obtain ⟨w9, hw9⟩ : ∃ w9, w9 = (((w1.setCell ⟨W.heap.size + 1, 0, none⟩ (.int .i64 0)).setCell ⟨W.heap.size + 1, 1, none⟩ (.slice none 0 0)).setCell ⟨W.heap.size + 1, 2, none⟩ (.string ⟨#[]⟩)) := ⟨_, rfl⟩
    have HM8 := Lib.hid (show Mem W w9 (BoxR 25 (W.heap.size + 1) 0 none 0 0 [] :: [SubR 39 W.heap.size A n c]) by rw [hw9]; exact HM9.out)
    rw [← hw9]
    clear hw9 HM9 HM1 bx0 bx1 bx2 fx0 fx1 fx2
    obtain ⟨bx0, bx1, bx2⟩ := HM8.out.boxAt (t := 25) (g := W.heap.size + 1) (b := 0) (A := none) (n := 0) (c := 0) (o := []) (by simp)
    refine bodyPost_ret (v := .tuple #[AutoV 0 none 0 0 [], .bool false]) (by rw [results_cell_tmp rfl]; go_simp) rfl ?_
    rw [HB.out, HZ.out, HO.out, HK.out]
    refine ⟨none, 0, 0, [], rfl, ?_, rfl⟩
    exact ((Mem.start w9).add (Own.nil (Below.refl _ _) 54)) |> fun h => ⟨HM8.out.bel, fun r hr => less_row (h.2.1 r hr) HM8.out.bel.size, h.2.2⟩
  case true =>
    have H1 := Lib.hid (l01In_is (n := uni ss) (lo := 2) (hi := 4) (b := true) hok)
    obtain ⟨h1, h2, h3, h4, h5⟩ := ofOk_sOk hok
    have HB := Lib.hid (show bb = uni ss by rw [hbb]; unfold ofBase; rw [hok]; rfl)
    have HZ := Lib.hid (show zz = ss.map nums by rw [hzz]; unfold ofTab; rw [hok]; rfl)
    have HO := Lib.hid (show oo = [97, 98, 99, 100].take n by rw [hoo]; unfold ofOut; rw [hok, HLen.out]; rfl)
    have HK := Lib.hid (show kk = true by rw [hkk, hok])
    have HI := Lib.hid (fun l hl => sOk_img h1 (l := l) hl)
    have hn4 := sOk_n h1
    have HUL := Lib.hid (show ∀ l ∈ ss, (l.length : Int) = uni ss from fun l hl => by rw [h3, ofOk_row hok hl])
    rw [HLen.out] at hn4
    obtain ⟨u, hu⟩ : ∃ u, u = uni ss := ⟨_, rfl⟩
    rw [← hu] at H1 HC h3 HB HUL
    have hn0 : 0 ≤ n := Nat.zero_le _
    clear hbb hzz hoo hkk hok hu h1 h2 h4 h5 h3
    have i1 : (n : Int) ≤ 4 := by omega
    have i2 : (0 : Int) ≤ (n : Int) := by omega
    go_enter Tryd.func40, Tryd.ntmps40
    go_wp2_with fail
    refine HC.out.mono ?_
    rintro e w1 ⟨rfl, hb1⟩
    have HM1 := Lib.hid (HM0.out.later hb1)
    have bs0 := HM1.out.subAt (t := 39) (g := W.heap.size) (A := A) (n := n) (c := c) (by simp)
    have HM2 := Lib.hid (HM1.out.box 25 u none 0 0 ([97, 98, 99, 100].take n))
    have bs1 := HM2.out.subAt (t := 39) (g := W.heap.size) (A := A) (n := n) (c := c) (by simp)
    clear hb1 HM0 HC HM1
    go_wp2_with (go_at_call 54; (with_reducible refine (H1.out _).mono ?_); rintro e w' ⟨rfl, rfl⟩)
    rw [show (W.alloc (.cells #[.slice A n c] 39)).heap.size = W.heap.size + 1 by simp] at HM2
    obtain ⟨os, hos⟩ : ∃ os : List UInt8, os = [97, 98, 99, 100].take n := ⟨_, rfl⟩
    rw [← hos] at HM2 HO bs1 ⊢
    obtain ⟨w2, hw2⟩ : ∃ w2, w2 = w1.alloc (.cells #[.int .i64 u, .slice none 0 0, .string ⟨os.toArray⟩] 25) := ⟨_, rfl⟩
    rw [← hw2] at HM2 bs1 ⊢
    obtain ⟨g1, hg1⟩ : ∃ g, g = W.heap.size := ⟨_, rfl⟩
    obtain ⟨g2, hg2⟩ : ∃ g, g = W.heap.size + 1 := ⟨_, rfl⟩
    obtain ⟨g5, hg5⟩ : ∃ g, g = w1.heap.size := ⟨_, rfl⟩
    rw [← hg2, ← hg1, ← hg5] at HM2
    rw [← hg1] at bs1
    rw [← hg2, ← hg1, ← hg5]
    clear hg1 hg2 hg5 hw2 hos bs0 bs1 H1
    go_loopw [25] (fun i wr => ∃ (k : Nat) (A5 : Option Addr) (c5 : Nat) (rs : List Row), k ≤ n ∧ i = .int .i64 k ∧ Mem W wr (⟨54, A5, k, c5, rs.map SVal⟩ :: (rs ++ [BoxR 25 g5 u A5 k c5 os, BoxR 25 g2 0 none 0 0 [], SubR 39 g1 A n c])) ∧ Hid (rs.map Row.xs = ((ss.take k).map nums).map ivs)) (fun i _ => n - (intOf i).toNat)
    case atStart => exact ⟨0, none, 0, [], Nat.zero_le _, rfl, HM2.out.add (Own.nil (Below.refl _ _) _), Lib.hid rfl⟩
    case round =>
      obtain ⟨k, A5, c5, rs, hk, rfl, hmem, HX⟩ := hrel
      have HM := Lib.hid hmem
      clear hmem HM2
      by_cases hlt : k < n
      · have hkl : k < ss.length := by rw [HLen.out]; exact hlt
        obtain ⟨a, rfl, hab, hca⟩ := (HS.out.later HM.out.bel).1.str hkl
        have hll := (HI.out _ (List.getElem_mem hkl)).1.2
        have HLe := Lib.hid (HI.out _ (List.getElem_mem hkl)).2
        have HNX := Lib.hid (show ((ss.take (k + 1)).map nums).map ivs = ((ss.take k).map nums).map ivs ++ [ivs (nums ss[k])] by rw [take_snoc ss k hkl, List.map_append, List.map_append]; rfl)
        have HUk := Lib.hid (HUL.out _ (List.getElem_mem hkl))
        obtain ⟨l, hl⟩ : ∃ l, l = ss[k] := ⟨_, rfl⟩
        rw [← hl] at hca hll HLe HNX HUk
        clear hl
        go_wp2_with fail
        obtain ⟨wo, rfl⟩ : ∃ wo, wo = wr := ⟨_, rfl⟩
        go_loopw [9, 8] (fun i x wr => ∃ (j : Nat) (A6 : Option Addr) (c6 : Nat), j ≤ l.length ∧ i = .int .i64 j ∧ x = .slice A6 j c6 ∧ Own wo wr 3 A6 j c6 (ivs (nums (l.take j)))) (fun i _ _ => l.length - (intOf i).toNat)
        case atStart => exact ⟨0, _, _, Nat.zero_le _, rfl, rfl, Own.made0 (Below.refl _ _) _⟩
        case round =>
          obtain ⟨j, A6, c6, hj, rfl, rfl, hown⟩ := hrel
          have HO := Lib.hid hown
          clear hown
          by_cases hlt2 : j < l.length
          · have d1 : decide ((j : Int) < u) = true := by have := HUk.out; simp; omega
            have hlt97 := HLe.out _ (List.getElem_mem hlt2)
            have HSn := Lib.hid (nums_snoc l hlt2)
            obtain ⟨x, hx⟩ : ∃ x, x = l[j] := ⟨_, rfl⟩
            rw [← hx] at HSn hlt97
            have hx256 := x.toNat_lt
            have e1 : IntKind.u8.wrap ((x.toNat : Int) - 97) = (x.toNat : Int) - 97 := IntWalk.u8_in _ (by omega)
            have e2 : IntKind.i64.wrap ((x.toNat : Int) - 97) = (x.toNat : Int) - 97 := IntWalk.i64_in _ (by omega)
            have i3 : (0 : Int) ≤ (j : Int) := by omega
            have i4 : (j : Int) < (l.length : Int) := by omega
            have hgx : l[j] = x := hx.symm
            clear hx
            go_wp2_with (at_builtin; refine app_one (.tmp 35) (.tmp 41) _ _ _ 8 rfl rfl Tryd.underlying54 infoI rfl rfl HO.out rfl rfl (by omega) (by omega) ?_; intro A7 c7 w7 hown7)
            exact ⟨⟨j + 1, A7, c7, by omega, by go_num, rfl, by rw [HSn.out, ivs_snoc]; exact hown7⟩, by simp [intOf]; omega⟩
          · obtain rfl : j = l.length := by omega
            have d1 : decide ((l.length : Int) < u) = false := by have := HUk.out; simp; omega
            have HFull := Lib.hid (show l.take l.length = l from List.take_length)
            have HM6 := Lib.hid (HM.out.add HO.out)
            rw [HFull.out] at HM6
            obtain ⟨bx0, bx1, bx2⟩ := HM6.out.boxAt (t := 25) (g := g5) (b := u) (A := A5) (n := k) (c := c5) (o := os) (by simp)
            go_wp2_with (at_builtin; refine app_mem [⟨3, A6, l.length, c6, ivs (nums l)⟩] (rs ++ [BoxR 25 g5 u A5 k c5 os, BoxR 25 g2 0 none 0 0 [], SubR 39 g1 (some a) n c]) (.tmp 44) (.tmp 46) _ _ _ 24 rfl rfl Tryd.underlying23 infoG rfl rfl (HM6.out.alloc _) rfl (by omega) (Rd.one _ _ _) (by simp [Value.oneCell']) (by omega) (by omega) ?_; intro A8 c8 w8 hm8; have by1 := (hm8.boxAt (t := 25) (g := g5) (b := u) (A := A5) (n := k) (c := c5) (o := os) (by simp)).2.1; have bf1 := hm8.boxFree (t := 25) (g := g5) (b := u) (A := A5) (n := k) (c := c5) (o := os) (by simp) 1)
            have HM9 := Lib.hid (Mem.box1 (pre := ⟨3, A6, l.length, c6, ivs (nums l)⟩ :: ⟨54, A8, k + 1, c8, rs.map SVal ++ [.slice A6 l.length c6]⟩ :: rs) (post := [_, _]) (by simpa using hm8) A8 (k + 1) c8)
            refine ⟨⟨k + 1, A8, c8, rs ++ [⟨3, A6, l.length, c6, ivs (nums l)⟩], by omega, by go_num, ?_, ?_⟩, by simp [intOf]; omega⟩
            · refine HM9.out.perm ?_
              simp only [List.map_append, List.map_cons, List.map_nil, SVal, List.cons_append, List.append_assoc, List.nil_append]
              refine (List.Perm.swap _ _ _).trans (List.Perm.cons _ ?_)
              exact List.perm_middle.symm
            · exact Lib.hid (by rw [HNX.out, List.map_append, HX.out]; rfl)
      · obtain rfl : k = n := by omega
        have HFX := Lib.hid (show rs.map Row.xs = (ss.map nums).map ivs by rw [HX.out, List.take_of_length_le (by rw [HLen.out]; omega)])
        obtain ⟨bx0, bx1, bx2⟩ := HM.out.boxAt (t := 25) (g := g5) (b := u) (A := A5) (n := k) (c := c5) (o := os) (by simp)
        obtain ⟨by0, by1, by2⟩ := HM.out.boxAt (t := 25) (g := g2) (b := 0) (A := none) (n := 0) (c := 0) (o := []) (by simp)
        have fx := fun j => HM.out.boxFree (t := 25) (g := g2) (b := 0) (A := none) (n := 0) (c := 0) (o := []) (by simp) j
        have fx0 := fx 0
        have fx1 := fx 1
        have fx2 := fx 2
        clear fx
        go_wp2_with fail
        have HM9 := Lib.hid (Mem.boxAll (pre := ⟨54, A5, k, c5, rs.map SVal⟩ :: (rs ++ [BoxR 25 g5 u A5 k c5 os])) (post := [_]) (by simpa using HM.out) u A5 k c5 os)
        obtain ⟨w9, hw9⟩ : ∃ w9, w9 = (((wr.setCell ⟨g2, 0, none⟩ (.int .i64 u)).setCell ⟨g2, 1, none⟩ (.slice A5 k c5)).setCell ⟨g2, 2, none⟩ (.string ⟨os.toArray⟩)) := ⟨_, rfl⟩
        rw [← hw9] at HM9 ⊢
        clear hw9 HM bx0 bx1 bx2 by0 by1 by2 fx0 fx1 fx2
        obtain ⟨by0, by1, by2⟩ := HM9.out.boxAt (t := 25) (g := g2) (b := u) (A := A5) (n := k) (c := c5) (o := os) (by simp)
        refine bodyPost_ret (v := .tuple #[AutoV u A5 k c5 os, .bool true]) (by rw [results_cell_tmp rfl]; go_simp) rfl ?_
        rw [HB.out, HZ.out, HO.out, HK.out]
        exact ⟨A5, k, c5, rs, rfl, HM9.out.drop (by simp), HFX.out⟩
theorem gin_of {w0 w : World} {A : Option Addr} {n c : Nat} {rs : List Row} {zss : Tab} {e : TypeId} {L : List Row} (h : Mem w0 w L) (ho : (⟨e, A, n, c, rs.map SVal⟩ : Row) ∈ L) (hi : ∀ r ∈ rs, r ∈ L) (hx : rs.map Row.xs = zss.map ivs) (hn : n ≤ 1048576) (hz : ∀ z ∈ zss, z.length ≤ 1048576) : GIn w A n c zss := by
  have hr := h.row ho
  have ho2 : Own w0 w e A n c (rs.map SVal) := ⟨hr, h.1⟩
  exact GIn.of (Mem.rdG h ho hi) hx hn hz ho2.cap ho2.capMax
theorem grid_n {w0 w : World} {A : Option Addr} {n c : Nat} {rs : List Row} {zss : Tab} {e : TypeId} {L : List Row} (h : Mem w0 w L) (ho : (⟨e, A, n, c, rs.map SVal⟩ : Row) ∈ L) (hx : rs.map Row.xs = zss.map ivs) : n = zss.length := by
  have h1 := (h.rd ho).1
  have h2 := xs_len hx
  simp at h1; omega
end Go.Proofs.YtcicoplmpinnmaaDoor
