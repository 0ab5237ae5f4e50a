/-
  Contract of the reference's SmallAuto. No conditions.
-/
import Derived.Test.YtdebdnglchkdaaaASml
import Derived.Test.YtdebdnglchkdaaaAOf
import Derived.RegionTactic
import Derived.BigRegion
namespace Go.Proofs.Ytdebdnglchkdaaa
open Go.RowKit

theorem nvs_ivs (r : List Nat) : nvs r = ivs (r.map fun x : Nat => (x : Int)) := by simp [nvs, ivs]
theorem nvs_one (r : List Nat) : ∀ u ∈ nvs r, u.oneCell' = true := by rw [nvs_ivs]; exact ivs_one _
def smB (b : Int) (zss : Tab) (o : List UInt8) : Int := if aOk b zss o = true then b else 0
def smT (b : Int) (zss : Tab) (o : List UInt8) : Tab := if aOk b zss o = true then smTab zss o b.toNat else []
def smO (b : Int) (zss : Tab) (o : List UInt8) : List UInt8 := if aOk b zss o = true then smOut zss o b.toNat else []
/-- the place that the search has found so far -/
def found (q k : Nat) : Int := if q < k then (q : Int) else -1
theorem found_hit {q k : Nat} (h : q = k) : found q (k + 1) = (k : Int) := by unfold found; rw [if_pos (by omega), h]
theorem found_miss {q k : Nat} (h : q ≠ k) : found q (k + 1) = found q k := by
  unfold found
  by_cases h1 : q < k
  · rw [if_pos h1, if_pos (by omega)]
  · rw [if_neg h1, if_neg (by omega)]
theorem qS_idx {S : List Nat} (hd : S.Nodup) {k : Nat} (hk : k < S.length) {y : Nat} : S[k] = y ↔ gIdx qS S y = k := by
  unfold gIdx qS
  constructor
  · intro h
    refine (List.findIdx_eq hk).2 ⟨by simp [h], fun j hj => ?_⟩
    have := List.pairwise_iff_getElem.1 hd j k (by omega) hk hj
    rw [h] at this
    simpa using this
  · intro h
    have h2 := (List.findIdx_eq hk).1 h
    simpa using h2.1

theorem Mem.nilM {W w : World} {L : List Row} (h : Mem W w L) (e : TypeId) {b : Nat} (hb : b = w.heap.size) : Mem W (w.alloc (.cells #[] e)) (⟨e, some ⟨b, 0, none⟩, 0, 0, []⟩ :: L) := by
  subst hb; exact h.add (Own.made0 (w0 := w) (w := w) (Below.refl _ _) e)
theorem gAdd_get {q : Nat → Nat → Bool} {S : List Nat} (y : Nat) {i : Nat} (h : i < S.length) : (gAdd q S y)[i]? = S[i]? := by
  unfold gAdd
  split
  · rfl
  · rw [List.getElem?_append_left h]
theorem gAdds_get {q : Nat → Nat → Bool} : ∀ (ys : List Nat) {S : List Nat} {i : Nat}, i < S.length → (gAdds q S ys)[i]? = S[i]?
  | [], _, _, _ => rfl
  | y :: ys, S, i, h => by
    show (gAdds q (gAdd q S y) ys)[i]? = _
    rw [gAdds_get ys (Nat.lt_of_lt_of_le h (gAdd_len S y)), gAdd_get y h]
set_option maxRecDepth 4096 in
set_option maxHeartbeats 6400000 in
theorem cSmallS (b : Int) (A : Option Addr) (n c : Nat) (zss : Tab) (o : List UInt8) (W : World) (hg : GIn W A n c zss) (ho : o.length ≤ 9223372036854775807) :
    Calls Try.prog 22 #[AutoV b A n c o] W (RetAB 58 W (smB b zss o) (smT b zss o) (smO b zss o) (aOk b zss o)) := by
  have HM0 := Lib.hid (((Mem.start W).box 27 b A n c o).box 27 0 none 0 0 [])
  have HC := Lib.hid (sAutoOk_any b A n c zss o _ (hg.later HM0.out.bel) ho)
  have HG := Lib.hid hg
  have HLen := Lib.hid hg.len
  clear hg
  obtain ⟨bb, hbb⟩ : ∃ bb, bb = smB b zss o := ⟨_, rfl⟩
  obtain ⟨zz, hzz⟩ : ∃ zz, zz = smT b zss o := ⟨_, rfl⟩
  obtain ⟨oo, hoo⟩ : ∃ oo, oo = smO b zss o := ⟨_, rfl⟩
  obtain ⟨kk, hkk⟩ : ∃ kk, kk = aOk b zss o := ⟨_, rfl⟩
  rw [← hkk] at HC
  rw [← hbb, ← hzz, ← hoo, ← hkk]
  cases hok : aOk b zss o
  case false =>
    have HB := Lib.hid (show bb = 0 by rw [hbb]; unfold smB; rw [hok]; rfl)
    have HZ := Lib.hid (show zz = [] by rw [hzz]; unfold smT; rw [hok]; rfl)
    have HO := Lib.hid (show oo = [] by rw [hoo]; unfold smO; rw [hok]; rfl)
    obtain rfl : kk = false := by rw [hkk, hok]
    clear hbb hzz hoo hkk hok
    go_enter Try.func22, Try.ntmps22
    go_wp2_with fail
    refine HC.out.mono ?_
    rintro e w1 ⟨rfl, hb1⟩
    have HM1 := Lib.hid (HM0.out.later hb1)
    rw [show (W.alloc (.cells #[.int .i64 b, .slice A n c, .string ⟨o.toArray⟩] 27)).heap.size = W.heap.size + 1 by simp] at HM1
    obtain ⟨bx0, bx1, bx2⟩ := HM1.out.boxAt (t := 27) (g := W.heap.size + 1) (b := 0) (A := none) (n := 0) (c := 0) (o := []) (by simp)
    have fx := fun j => HM1.out.boxFree (t := 27) (g := W.heap.size + 1) (b := 0) (A := none) (n := 0) (c := 0) (o := []) (by simp) j
    have fx0 := fx 0
    have fx1 := fx 1
    have fx2 := fx 2
    clear hb1 fx
    go_wp2_with fail
    have HM9 := Lib.hid (Mem.boxAll (pre := []) (post := [_]) HM1.out 0 none 0 0 [])
    obtain ⟨w9, hw9⟩ : ∃ w9, w9 = (((w1.setCell ⟨W.heap.size + 1, 0, none⟩ (.int .i64 0)).setCell ⟨W.heap.size + 1, 1, none⟩ (.slice none 0 0)).setCell ⟨W.heap.size + 1, 2, none⟩ (.string ⟨#[]⟩)) := ⟨_, rfl⟩
    have HM8 := Lib.hid (show Mem W w9 (BoxR 27 (W.heap.size + 1) 0 none 0 0 [] :: [BoxR 27 W.heap.size b A n c o]) by rw [hw9]; exact HM9.out)
    rw [← hw9]
    clear hw9 HM9 HM1 bx0 bx1 bx2 fx0 fx1 fx2
    obtain ⟨bx0, bx1, bx2⟩ := HM8.out.boxAt (t := 27) (g := W.heap.size + 1) (b := 0) (A := none) (n := 0) (c := 0) (o := []) (by simp)
    refine bodyPost_ret (v := .tuple #[AutoV 0 none 0 0 [], .bool false]) (by rw [results_cell_tmp rfl]; go_simp) rfl ?_
    rw [HB.out, HZ.out, HO.out]
    refine ⟨none, 0, 0, [], rfl, ?_, rfl⟩
    exact ((Mem.start w9).add (Own.nil (Below.refl _ _) 58)) |> fun h => ⟨HM8.out.bel, fun r hr => less_row (h.2.1 r hr) HM8.out.bel.size, h.2.2⟩
  case true =>
    obtain ⟨bn, rfl, hgd, hol, _⟩ := aOk_good hok
    have HB := Lib.hid (show bb = (bn : Int) by rw [hbb]; unfold smB; rw [hok]; rfl)
    have HZ := Lib.hid (show zz = smTab zss o bn by rw [hzz]; unfold smT; rw [hok]; rfl)
    have HO := Lib.hid (show oo = smOut zss o bn by rw [hoo]; unfold smO; rw [hok]; rfl)
    obtain rfl : kk = true := by rw [hkk, hok]
    have HGd := Lib.hid hgd
    have hn8 : n ≤ 8 := by have := hgd.2.2.2.1; have := HLen.out; omega
    have hn1 : 1 ≤ n := by have := hgd.2.2.1; have := HLen.out; omega
    have hon : o.length = n := by rw [hol]; exact HLen.out
    clear hbb hzz hoo hkk hok hgd hol
    go_enter Try.func22, Try.ntmps22
    go_wp2_with fail
    refine HC.out.mono ?_
    rintro e w1 ⟨rfl, hb1⟩
    have HM1 := Lib.hid (HM0.out.later hb1)
    rw [show (W.alloc (.cells #[.int .i64 (bn : Int), .slice A n c, .string ⟨o.toArray⟩] 27)).heap.size = W.heap.size + 1 by simp] at HM1
    obtain ⟨g1, hg1⟩ : ∃ g, g = W.heap.size := ⟨_, rfl⟩
    obtain ⟨g2, hg2⟩ : ∃ g, g = W.heap.size + 1 := ⟨_, rfl⟩
    rw [← hg2] at HM1
    rw [← hg1] at HM1
    rw [← hg2, ← hg1]
    obtain ⟨bx0, bx1, bx2⟩ := HM1.out.boxAt (t := 27) (g := g1) (b := (bn : Int)) (A := A) (n := n) (c := c) (o := o) (by simp)
    clear hb1 HM0 HC hg1 hg2
    go_wp2_with fail
    refine (l18Classes_any bn A n c zss o HGd.out (by rw [hon, HLen.out]) w1 (HG.out.later HM1.out.bel)).mono ?_
    rintro e w2 ⟨C, cc, rfl, ho2⟩
    have HM2 := Lib.hid (HM1.out.add ho2)
    clear ho2 HM1 bx0 bx1 bx2
    obtain ⟨ac, rfl, hacb, hc0⟩ := HM2.out.rd0.val (k := 0) (by omega)
    have HM3 := Lib.hid (HM2.out.add (Own.made (w0 := w2) (w := w2) (Below.refl _ _) 3 [.int .i64 (cl zss o bn n 0 : Nat)] (by simp)))
    obtain ⟨bx0, bx1, bx2⟩ := HM3.out.boxAt (t := 27) (g := g1) (b := (bn : Int)) (A := A) (n := n) (c := c) (o := o) (by simp)
    obtain ⟨y0, hy0⟩ : ∃ y0, y0 = cl zss o bn n 0 := ⟨_, rfl⟩
    rw [← hy0] at HM3 hc0 bx0 bx1 bx2
    have HY0 := Lib.hid hy0
    have hc00 : w2.cell? ac = some (.int .i64 (y0 : Int)) := by
      have h : ac.add 0 = ac := by unfold Addr.add; split <;> simp_all
      rw [← h]; exact hc0
    clear HM2 hy0 hc0
    obtain ⟨TL, hTL⟩ : ∃ TL : List Row, TL = [⟨3, some ac, n, cc, nvs (vals (cl zss o bn n) n)⟩, BoxR 27 g2 0 none 0 0 [], BoxR 27 g1 (bn : Int) A n c o] := ⟨_, rfl⟩
    have HTC := Lib.hid (show (⟨3, some ac, n, cc, nvs (vals (cl zss o bn n) n)⟩ : Row) ∈ TL by rw [hTL]; simp)
    have HT1 := Lib.hid (show BoxR 27 g1 (bn : Int) A n c o ∈ TL by rw [hTL]; simp)
    have HT2 := Lib.hid (show BoxR 27 g2 0 none 0 0 [] ∈ TL by rw [hTL]; simp)
    have hsz3 : (w2.alloc (.cells #[.int .i64 (y0 : Int)] 3)).heap.size = w2.heap.size + 1 := by simp
    have HM5 := Lib.hid (show Mem W ((w2.alloc (.cells #[.int .i64 (y0 : Int)] 3)).alloc (.cells #[.int .i64 (bn : Int), .slice none 0 0, .string ⟨#[]⟩] 27)) (⟨3, some ⟨w2.heap.size, 0, none⟩, 1, 1, nvs (smAt zss o bn 0)⟩ :: ⟨58, none, 0, 0, ([] : List Row).map SVal⟩ :: ([] ++ BoxR 27 (w2.heap.size + 1) (bn : Int) none 0 0 (smOuts zss o bn 0) :: TL)) by
      have h := (HM3.out.box 27 (bn : Int) none 0 0 []).add (Own.nil (Below.refl _ _) 58)
      rw [hsz3] at h
      have e : nvs (smAt zss o bn 0) = [.int .i64 (y0 : Int)] := by rw [HY0.out, ← HLen.out]; rfl
      rw [e, hTL]
      exact h.perm (List.perm_middle (l₁ := [_, _]) (l₂ := _)))
    have HTL := Lib.hid hTL
    clear hTL HM3
    go_wp2_with fail
    obtain ⟨g6, hg6⟩ : ∃ g, g = w2.heap.size + 1 := ⟨_, rfl⟩
    rw [← hg6] at HM5 ⊢
    clear hg6 hc00 bx0 bx1 bx2 hsz3
    go_loopw [7, 5] (fun q l wr => ∃ (i : Nat) (N : Option Addr) (m cN : Nat) (A5 : Option Addr) (c5 : Nat) (rs : List Row), i ≤ m ∧ q = .int .i64 i ∧ l = .slice N m cN ∧ Mem W wr (⟨3, N, m, cN, nvs (smAt zss o bn i)⟩ :: ⟨58, A5, i, c5, rs.map SVal⟩ :: (rs ++ BoxR 27 g6 (bn : Int) A5 i c5 (smOuts zss o bn i) :: TL)) ∧ Hid (rs.map Row.xs = (smRows zss o bn i).map nvs)) (fun q _ _ => n - (intOf q).toNat)
    case atStart => exact ⟨0, _, 1, 1, none, 0, [], by omega, rfl, rfl, HM5.out, Lib.hid rfl⟩
    case round =>
      clear HM5
      obtain ⟨i, N, m, cN, A5, c5, rs, him, rfl, rfl, hmem, HX⟩ := hrel
      have HM := Lib.hid hmem
      clear hmem
      have HSl := Lib.hid (show (smAt zss o bn i).length = m from HM.out.rd0.lenN)
      have hmn : m ≤ n := by have h := smAt_len (zss := zss) (o := o) HGd.out i; rw [HSl.out, HLen.out] at h; exact h
      by_cases hlt : i < m
      · have hil : i < (smAt zss o bn i).length := by rw [HSl.out]; exact hlt
        obtain ⟨hN1, hN2, hN3⟩ := smAt_succ hil
        have HFit := Lib.hid (smAt_fit (zss := zss) (o := o) HGd.out i)
        have HMn := Lib.hid (gAt_mono (q := qS) (nx := nxS zss o bn) (st := clN zss o bn 0) i)
        have hOl := (gRows_len (q := qS) (nx := nxS zss o bn) (st := clN zss o bn 0) (out := outS o) i (by have := HSl.out; show i ≤ (smAt zss o bn i).length; omega)).2
        have HOl := Lib.hid (show (smOuts zss o bn i).length = i from hOl)
        obtain ⟨S, hS⟩ : ∃ S, S = smAt zss o bn i := ⟨_, rfl⟩
        have HMn2 := Lib.hid (show S.length ≤ (smAt zss o bn (i + 1)).length by rw [hS]; exact HMn.out)
        obtain ⟨ou, hou⟩ : ∃ ou, ou = smOuts zss o bn i := ⟨_, rfl⟩
        rw [← hS] at hN1 hN2 hN3 hil HFit HSl HM
        rw [← hou] at hN3 HM HOl
        obtain ⟨s, hs⟩ : ∃ s, s = S.getD i 0 := ⟨_, rfl⟩
        have HSi := Lib.hid (show S[i] = s by rw [hs, List.getD_eq_getElem?_getD, List.getElem?_eq_getElem hil]; rfl)
        have hsl : s < zss.length := HFit.out.2 s (by rw [← HSi.out]; exact List.getElem_mem hil)
        rw [← hs] at hN1 hN2 hN3
        have hsn : s < n := by rw [← HLen.out]; exact hsl
        have HM6 := Lib.hid (HM.out.nilM 3 (b := wr.heap.size) rfl)
        obtain ⟨bx0, bx1, bx2⟩ := HM6.out.boxAt (t := 27) (g := g1) (b := (bn : Int)) (A := A) (n := n) (c := c) (o := o) (by simp [HT1.out])
        obtain ⟨aN, hAN, haNb, hcs⟩ := (HM6.out.rd (r := ⟨3, N, m, cN, nvs S⟩) (by simp)).nat (k := i) hil
        subst hAN
        rw [HSi.out] at hcs
        obtain ⟨a, A1, m1, c1, rfl, hab, hcaW, hrd, hzl⟩ := HG.out.at hsl
        have hca := cell_keepA HM6.out.bel hcaW
        have hm1 : m1 = bn := by have h1 := hrd.lenI; have h2 := (HGd.out.2.2.2.2 _ (List.getElem_mem hsl)).1; omega
        subst hm1
        have HRd := Lib.hid hrd
        have HTab := Lib.hid (fun d hd => tab_at HGd.out hsl (d := d) hd)
        have i1 : (0 : Int) ≤ (i : Int) := by omega
        have i2 : (i : Int) < (m : Int) := by omega
        have i3 : (0 : Int) ≤ (s : Int) := by omega
        have i4 : (s : Int) < (n : Int) := by omega
        have hb4 := HGd.out.2.1
        have HN1 := Lib.hid hN1
        have HN2 := Lib.hid hN2
        have HN3 := Lib.hid hN3
        clear hN1 hN2 hN3 hrd hzl hs hS hou HM HMn hOl
        go_wp2_with fail
        go_quiet (fail)
        have HM7 := Lib.hid (HM6.out.later (below_drewN (Below.refl _ _) nq))
        obtain ⟨wq, hwq⟩ : ∃ wq, wq = (wr.alloc (.cells #[] 3)).drewN nq := ⟨_, rfl⟩
        obtain ⟨gR, hgR⟩ : ∃ gR, gR = wr.heap.size := ⟨_, rfl⟩
        rw [← hwq] at HM7 ⊢
        rw [← hgR] at HM7 ⊢
        obtain ⟨OL, hOL⟩ : ∃ OL : List Row, OL = (⟨58, A5, i, c5, rs.map SVal⟩ :: (rs ++ BoxR 27 g6 (m1 : Int) A5 i c5 ou :: TL)) := ⟨_, rfl⟩
        rw [← hOL] at HM7
        have HOC := Lib.hid (show (⟨3, some ac, n, cc, nvs (vals (cl zss o m1 n) n)⟩ : Row) ∈ OL by rw [hOL]; simp [HTC.out])
        have HOL := Lib.hid hOL
        clear hwq hgR hOL bx0 bx1 bx2 hcs hca hcaW HM6
        obtain ⟨ys, hys⟩ : ∃ ys, ys = nxS zss o m1 s := ⟨_, rfl⟩
        have HYl := Lib.hid (show ys.length = m1 by rw [hys]; exact nxS_len s)
        have HYg := Lib.hid (show ∀ d (hd : d < ys.length), ys[d] = cl zss o m1 n (tab zss s d) by subst hys; intro d hd; rw [nxS_get hd]; show cl _ _ _ zss.length _ = _; rw [HLen.out])
        have HYf := Lib.hid (show ∀ y ∈ ys, y < zss.length by rw [hys]; exact nxS_lt HGd.out (by rw [HLen.out]; exact hsn))
        rw [← hys] at HN1 HN2
        clear hys
        go_wp2_with fail
        go_loopw [43, 5, 8] (fun q l u wr => ∃ (d : Nat) (N' : Option Addr) (m' cN' : Nat) (R' : Option Addr) (cR' : Nat), d ≤ m1 ∧ q = .int .i64 d ∧ l = .slice N' m' cN' ∧ u = .slice R' d cR' ∧ Mem W wr (⟨3, R', d, cR', nvs (gRowS qS S (ys.take d))⟩ :: ⟨3, N', m', cN', nvs (gAdds qS S (ys.take d))⟩ :: OL)) (fun q _ _ _ => m1 - (intOf q).toNat)
        case atStart => exact ⟨0, _, m, cN, _, 0, Nat.zero_le _, rfl, rfl, rfl, HM7.out⟩
        case round =>
          clear HM7
          obtain ⟨d, N', m', cN', R', cR', hd, rfl, rfl, rfl, hmem⟩ := hrel
          have HMd := Lib.hid hmem
          clear hmem
          by_cases hlt2 : d < m1
          · have hdy : d < ys.length := by rw [HYl.out]; exact hlt2
            have HSn := Lib.hid (gAdds_snoc (q := qS) (ys.take d) S ys[d])
            rw [← take_snoc ys d hdy] at HSn
            have HFd := Lib.hid (show GFit zss.length (gAdds qS S (ys.take d)) from gAdds_fit (fun s => by simp [qS]) _ HFit.out (fun y hy => HYf.out y (List.mem_of_mem_take hy)))
            have hyd : ys[d] < n := by rw [← HLen.out]; exact HYf.out _ (List.getElem_mem hdy)
            have hyc := HYg.out d hdy
            obtain ⟨S', hS'⟩ : ∃ S', S' = gAdds qS S (ys.take d) := ⟨_, rfl⟩
            obtain ⟨y, hy⟩ : ∃ y, y = ys[d] := ⟨_, rfl⟩
            rw [← hS', ← hy] at HSn
            rw [← hS'] at HFd HMd
            rw [← hy] at hyd hyc
            have HSl' := Lib.hid (show S'.length = m' from HMd.out.rd1.lenN)
            have hm8 : m' ≤ 8 := by have h := nodup_len _ _ HFd.out.1 HFd.out.2; rw [HSl'.out, HLen.out] at h; omega
            obtain ⟨t1, t2, t3⟩ := HTab.out d hlt2
            obtain ⟨a1, ha1, _, hcx⟩ := (HRd.out.later HMd.out.bel).int t2
            subst ha1
            rw [t3] at hcx
            rw [HLen.out] at t1
            obtain ⟨ac3, hac3, _, hcy⟩ := (HMd.out.rd (r := ⟨3, some ac, n, cc, nvs (vals (cl zss o m1 n) n)⟩) (by simp [HOC.out])).val t1
            obtain rfl := Option.some.inj hac3
            rw [← hyc] at hcy
            obtain ⟨x, hx⟩ : ∃ x, x = tab zss s d := ⟨_, rfl⟩
            rw [← hx] at hcx hcy t1
            have j1 : (0 : Int) ≤ (x : Int) := by omega
            have j2 : (x : Int) < (n : Int) := by omega
            have j3 : (0 : Int) ≤ (d : Int) := by omega
            have j4 : (d : Int) < (m1 : Int) := by omega
            have dI : decide ((i : Int) < (m : Int)) = true := by simp; omega
            have dD : decide ((d : Int) < (m1 : Int)) = true := by simp; omega
            clear hx t2 t3 hS' hy hyc
            go_wp2_with fail
            go_loop [49, 11] (fun q u => ∃ k : Nat, k ≤ m' ∧ q = .int .i64 k ∧ u = .int .i64 (found (gIdx qS S' y) k)) (fun q _ => m' - (intOf q).toNat)
            case atStart => exact ⟨0, Nat.zero_le _, rfl, rfl⟩
            case round =>
              obtain ⟨k, hk, rfl, rfl⟩ := hrel
              by_cases hlt3 : k < m'
              · have hkS : k < S'.length := by rw [HSl'.out]; exact hlt3
                obtain ⟨aN', hAN', _, hcz⟩ := HMd.out.rd1.nat hkS
                subst hAN'
                have HIdx := Lib.hid (qS_idx HFd.out.1 hkS (y := y))
                obtain ⟨z, hz⟩ : ∃ z, z = S'[k] := ⟨_, rfl⟩
                rw [← hz] at hcz HIdx
                have j5 : (0 : Int) ≤ (k : Int) := by omega
                have j6 : (k : Int) < (m' : Int) := by omega
                clear hz
                by_cases hzy : z = y
                · have HE := Lib.hid (found_hit (HIdx.out.1 hzy))
                  have d1 : ((z : Int) == (y : Int)) = true := by simp [hzy]
                  clear hzy
                  go_wp2
                  go_round
                  case rel => exact ⟨k + 1, by omega, by go_num, by rw [HE.out]⟩
                  case measure => simp [intOf]; omega
                · have HE := Lib.hid (found_miss (q := gIdx qS S' y) (k := k) (fun h => hzy (HIdx.out.2 h)))
                  have d1 : ((z : Int) == (y : Int)) = false := by simp; omega
                  clear hzy
                  go_wp2
                  go_round
                  case rel => exact ⟨k + 1, by omega, by go_num, by rw [HE.out]⟩
                  case measure => simp [intOf]; omega
              · obtain rfl : m' = k := by omega
                have HIl := Lib.hid (gIdx_le (q := qS) S' y)
                rw [HSl'.out] at HIl
                obtain ⟨p, hp⟩ : ∃ p, p = gIdx qS S' y := ⟨_, rfl⟩
                rw [← hp] at HSn HIl ⊢
                by_cases hpm : p < m'
                · have HA := Lib.hid (show gAdds qS S (ys.take (d + 1)) = S' by rw [HSn.out.1]; unfold gAdd; rw [if_pos (by rw [← hp, HSl'.out]; exact hpm)])
                  have HF := Lib.hid (show found p m' = (p : Int) by unfold found; rw [if_pos hpm])
                  rw [HF.out]
                  have d1 : decide ((p : Int) < 0) = false := by simp
                  clear hp
                  go_wp2_with (at_builtin; refine app_mem [] (⟨3, N', m', cN', nvs S'⟩ :: OL) (.tmp 73) (.tmp 75) _ _ _ 8 rfl rfl Try.underlying58 infoI rfl rfl (HMd.out.alloc _) rfl (by omega) (Rd.one _ _ _) (by simp [Value.oneCell']) (by omega) (by omega) ?_; intro A8 c8 w8 hm8)
                  exact ⟨⟨d + 1, N', m', cN', A8, c8, by omega, by go_num, rfl, rfl, by rw [HA.out, HSn.out.2, nvs_snoc]; exact hm8⟩, by simp [intOf]; omega⟩
                · obtain rfl : m' = p := by have := HIl.out; omega
                  have HA := Lib.hid (show gAdds qS S (ys.take (d + 1)) = S' ++ [y] by rw [HSn.out.1]; unfold gAdd; rw [if_neg (by rw [← hp, HSl'.out]; exact hpm)])
                  have HF := Lib.hid (show found m' m' = -1 by unfold found; rw [if_neg hpm])
                  rw [HF.out]
                  clear hp
                  go_wp2_with (first
                    | (at_builtin; refine app_mem [⟨3, R', d, cR', nvs (gRowS qS S (ys.take d))⟩] OL (.tmp 66) (.tmp 71) _ _ _ 8 rfl rfl Try.underlying58 infoI rfl rfl (HMd.out.alloc _) rfl (by omega) (Rd.one _ _ _) (by simp [Value.oneCell']) (by omega) (by omega) ?_; intro A7 c7 w7 hm7)
                    | (at_builtin; refine app_mem [] (⟨3, A7, m' + 1, c7, nvs S' ++ [.int .i64 (y : Int)]⟩ :: OL) (.tmp 73) (.tmp 75) _ _ _ 8 rfl rfl Try.underlying58 infoI rfl rfl (hm7.alloc _) rfl (by omega) (Rd.one _ _ _) (by simp [Value.oneCell']) (by omega) (by omega) ?_; intro A8 c8 w8 hm8))
                  exact ⟨⟨d + 1, A7, m' + 1, c7, A8, c8, by omega, by go_num, rfl, rfl, by rw [HA.out, HSn.out.2, nvs_snoc, nvs_snoc]; exact hm8⟩, by simp [intOf]; omega⟩
          · obtain rfl : m1 = d := by omega
            have HYall := Lib.hid (show ys.take m1 = ys from List.take_of_length_le (by rw [HYl.out]; exact Nat.le_refl _))
            rw [HYall.out] at HMd
            have HGet := Lib.hid (gAdds_get (q := qS) ys hil)
            rw [← HN1.out] at HMd HGet
            obtain ⟨r, hr⟩ : ∃ r, r = gRowS qS S ys := ⟨_, rfl⟩
            rw [← hr] at HMd HN2
            have HRl := Lib.hid (show r.length = m1 by rw [hr, gRowS_len, HYl.out])
            obtain ⟨S2, hS2⟩ : ∃ S2, S2 = smAt zss o m1 (i + 1) := ⟨_, rfl⟩
            rw [← hS2] at HMd HGet
            have HS2 := Lib.hid hS2
            have HM8 := Lib.hid (show Mem W wr (⟨3, R', m1, cR', nvs r⟩ :: ⟨3, N', m', cN', nvs S2⟩ :: (⟨58, A5, i, c5, rs.map SVal⟩ :: (rs ++ BoxR 27 g6 (m1 : Int) A5 i c5 ou :: TL))) by have h := HMd.out; rw [HOL.out] at h; exact h)
            obtain ⟨by0, by1, by2⟩ := HM8.out.boxAt (t := 27) (g := g6) (b := (m1 : Int)) (A := A5) (n := i) (c := c5) (o := ou) (by simp)
            clear hr hS2 HMd HOC HOL HYg HYf
            have hi8 : i ≤ 8 := by omega
            go_wp2_with (at_builtin; refine app_mem [⟨3, R', m1, cR', nvs r⟩, ⟨3, N', m', cN', nvs S2⟩] (rs ++ BoxR 27 g6 (m1 : Int) A5 i c5 ou :: TL) (.tmp 79) (.tmp 81) _ _ _ 24 rfl rfl Try.underlying22 infoG rfl rfl (HM8.out.alloc _) rfl (by omega) (Rd.one _ _ _) (by simp [Value.oneCell']) (by omega) (by omega) ?_; intro A9 c9 w9 hm9; have bz1 := (hm9.boxAt (t := 27) (g := g6) (b := (m1 : Int)) (A := A5) (n := i) (c := c5) (o := ou) (by simp)).2.1; have bf1 := hm9.boxFree (t := 27) (g := g6) (b := (m1 : Int)) (A := A5) (n := i) (c := c5) (o := ou) (by simp) 1)
            have HM10 := Lib.hid (Mem.box1 (pre := ⟨3, R', m1, cR', nvs r⟩ :: ⟨3, N', m', cN', nvs S2⟩ :: ⟨58, A9, i + 1, c9, rs.map SVal ++ [.slice R' m1 cR']⟩ :: rs) (post := TL) (by simpa using hm9) A9 (i + 1) c9)
            obtain ⟨wz, hwz⟩ : ∃ wz, wz = w9.setCell ⟨g6, 1, none⟩ (.slice A9 (i + 1) c9) := ⟨_, rfl⟩
            rw [← hwz] at HM10 ⊢
            clear hwz hm9 bz1 bf1 by0 by1 by2 HM8
            obtain ⟨bx0, bx1, bx2⟩ := HM10.out.boxAt (t := 27) (g := g1) (b := (m1 : Int)) (A := some a) (n := n) (c := c) (o := o) (by simp [HT1.out])
            obtain ⟨by0, by1, by2⟩ := HM10.out.boxAt (t := 27) (g := g6) (b := (m1 : Int)) (A := A9) (n := i + 1) (c := c9) (o := ou) (by simp)
            have bf2 := HM10.out.boxFree (t := 27) (g := g6) (b := (m1 : Int)) (A := A9) (n := i + 1) (c := c9) (o := ou) (by simp) 2
            have hS2l : S2.length = m' := (HM10.out.rd (r := ⟨3, N', m', cN', nvs S2⟩) (by simp)).lenN
            have hm'n : m' ≤ n := by have h := smAt_len (zss := zss) (o := o) HGd.out (i + 1); rw [← HS2.out, hS2l, HLen.out] at h; exact h
            have him' : i < m' := by have h := HMn2.out; rw [← HS2.out, hS2l, HSl.out] at h; omega
            have HSi2 := Lib.hid (show S2[i]'(by rw [hS2l]; exact him') = s by
              have h := HGet.out
              rw [List.getElem?_eq_getElem (by rw [hS2l]; exact him'), List.getElem?_eq_getElem hil] at h
              have h2 := Option.some.inj h
              rw [h2]; exact HSi.out)
            obtain ⟨aN', hAN', _, hcs⟩ := (HM10.out.rd (r := ⟨3, N', m', cN', nvs S2⟩) (by simp)).nat (k := i) (by rw [hS2l]; exact him')
            subst hAN'
            rw [HSi2.out] at hcs
            have hso : s < o.length := by omega
            have HOs := Lib.hid (show o.getD s 0 = o[s] from getD_inA hso)
            have HDr := Lib.hid (show List.drop s (List.take (s + 1) o) = [o[s]] by
              rw [take_snoc o _ hso, List.drop_append_of_le_length (by rw [List.length_take]; omega), List.drop_eq_nil_of_le (by rw [List.length_take]; omega)]; rfl)
            rw [HOs.out] at HN3
            obtain ⟨ch, hch⟩ : ∃ ch, ch = o[s] := ⟨_, rfl⟩
            rw [← hch] at HN3 HDr
            have k1 : (0 : Int) ≤ (s : Int) := by omega
            have k2 : (s : Int) + 1 ≤ (o.length : Int) := by omega
            have k3 : (s : Int) ≤ (s : Int) + 1 := by omega
            have k4 : IntKind.i64.wrap ((s : Int) + 1) = (s : Int) + 1 := IntWalk.i64_in _ (by omega)
            have k5 : ((s : Int) + 1).toNat = s + 1 := by omega
            have k6 : s ≤ o.length := by omega
            have k7 : (i : Int) < (m' : Int) := by omega
            have hol2 : ou.length = i := HOl.out
            have hcat : ¬ 9223372036854775807 < ou.length + (List.drop s (List.take (s + 1) o)).length := by rw [HDr.out, hol2]; simp; omega
            have k8 : s + 1 ≤ o.length := by omega
            clear hch
            go_region
            have HM11 := Lib.hid ((Mem.box2 (pre := ⟨3, R', m1, cR', nvs r⟩ :: ⟨3, some aN', m', cN', nvs S2⟩ :: ⟨58, A9, i + 1, c9, rs.map SVal ++ [.slice R' m1 cR']⟩ :: rs) (post := TL) HM10.out (ou ++ List.drop s (List.take (s + 1) o))).drew)
            rw [HDr.out, ← HN3.out] at HM11
            rw [HDr.out]
            rw [show ou ++ [ch] = smOuts zss o m1 (i + 1) from HN3.out.symm]
            obtain ⟨wy, hwy⟩ : ∃ wy, wy = (wz.setCell ⟨g6, 2, none⟩ (.string ⟨(smOuts zss o m1 (i + 1)).toArray⟩)).drew := ⟨_, rfl⟩
            rw [← hwy] at HM11 ⊢
            rw [HS2.out] at HM11
            clear hwy HM10 bx0 bx1 bx2 by0 by1 by2 bf2 hcs
            go_wp2
            refine ⟨⟨i + 1, some aN', m', cN', A9, c9, rs ++ [⟨3, R', m1, cR', nvs r⟩], by omega, by go_num, rfl, ?_, ?_⟩, by simp [intOf]; omega⟩
            · refine Mem.perm HM11.out ?_
              simp only [List.map_append, List.map_cons, List.map_nil, SVal, List.cons_append, List.append_assoc, List.nil_append]
              exact (List.perm_middle (l₁ := ⟨3, some aN', m', cN', nvs (smAt zss o m1 (i + 1))⟩ :: ⟨58, A9, i + 1, c9, rs.map (fun r => .slice r.A r.n r.c) ++ [.slice R' m1 cR']⟩ :: rs)).symm
            · exact Lib.hid (by rw [HN2.out, List.map_append, List.map_append, HX.out]; rfl)
      · have hmi : m ≤ i := by omega
        obtain ⟨he1, he2, he3⟩ := smAt_end (zss := zss) (o := o) HGd.out (i := i) (by rw [HSl.out]; exact hmi) (by rw [HLen.out]; omega)
        have HE3 := Lib.hid (show oo = smOuts zss o bn i by rw [HO.out, he3])
        have HE2 := Lib.hid (show rs.map Row.xs = zz.map ivs by
          rw [HX.out, HZ.out]; unfold smTab; rw [he2, List.map_map]
          exact List.map_congr_left (fun r _ => nvs_ivs r))
        obtain ⟨bx0, bx1, bx2⟩ := HM.out.boxAt (t := 27) (g := g6) (b := (bn : Int)) (A := A5) (n := i) (c := c5) (o := smOuts zss o bn i) (by simp)
        obtain ⟨by0, by1, by2⟩ := HM.out.boxAt (t := 27) (g := g2) (b := 0) (A := none) (n := 0) (c := 0) (o := []) (by simp [HT2.out])
        have fx := fun j => HM.out.boxFree (t := 27) (g := g2) (b := 0) (A := none) (n := 0) (c := 0) (o := []) (by simp [HT2.out]) j
        have fx0 := fx 0
        have fx1 := fx 1
        have fx2 := fx 2
        rw [← HE3.out] at HM bx2
        clear fx he1 he2 he3 HX
        repeat (first | go_values | go_skip | go_guarded | go_step | go_upon)
        (try simp only [Exit.inBlock, Exit.then])
        have HM9 := Lib.hid (Mem.boxAll (pre := ⟨3, N, m, cN, nvs (smAt zss o bn i)⟩ :: ⟨58, A5, i, c5, rs.map SVal⟩ :: (rs ++ [BoxR 27 g6 (bn : Int) A5 i c5 oo, ⟨3, some ac, n, cc, nvs (vals (cl zss o bn n) n)⟩])) (post := [BoxR 27 g1 (bn : Int) A n c o]) (by have h := HM.out; rw [HTL.out] at h; simpa using h) (bn : Int) A5 i c5 oo)
        obtain ⟨w9, hw9⟩ : ∃ w9, w9 = (((wr.setCell ⟨g2, 0, none⟩ (.int .i64 (bn : Int))).setCell ⟨g2, 1, none⟩ (.slice A5 i c5)).setCell ⟨g2, 2, none⟩ (.string ⟨oo.toArray⟩)) := ⟨_, rfl⟩
        rw [← hw9] at HM9 ⊢
        clear hw9 HM bx0 bx1 bx2 by0 by1 by2 fx0 fx1 fx2
        obtain ⟨by0, by1, by2⟩ := HM9.out.boxAt (t := 27) (g := g2) (b := (bn : Int)) (A := A5) (n := i) (c := c5) (o := oo) (by simp)
        refine bodyPost_ret (v := .tuple #[AutoV (bn : Int) A5 i c5 oo, .bool true]) (by rw [results_cell_tmp rfl]; go_simp) rfl ?_
        rw [HB.out]
        exact ⟨A5, i, c5, rs, rfl, HM9.out.drop ((((List.sublist_append_left rs _).cons_cons _).cons _).trans (List.sublist_append_left _ _)), HE2.out⟩
end Go.Proofs.Ytdebdnglchkdaaa
