/-
  Contract of the program's FirstObeying. No conditions.
-/
import Derived.Test.YtbaleboljcoigaaRFun
import Derived.Test.YtbaleboljcoigaaRFos
import Derived.Deep.LoopGhost
import Derived.Deep.RegionLaw
import Derived.BigRegion
namespace Go.Proofs.Ytbaleboljcoigaa
section
open Go.RowKit

theorem allW_nodup : ∀ n, n ≤ 3 → (allW n).Nodup
  | 0, _ => by decide +kernel
  | 1, _ => by decide +kernel
  | 2, _ => by decide +kernel
  | 3, _ => by decide +kernel
theorem rowsN_nodup (r : Pch) {n : Nat} (hn : n ≤ 3) : (rowsN r n).Nodup := by rw [rowsN_all]; exact (allW_nodup n hn).filter _
theorem cell_keep {w w' : World} (hb : Below w.heap.size w w') {a : Addr} {v : Value} (h : w.cell? a = some v) : w'.cell? a = some v := by
  rw [hb.cell (World.block_lt_of_cell? w _ h)]; exact h
/-- a variable that a closure has captured -/
def CellR (e : TypeId) (b : Nat) (v : Value) : Row := ⟨e, some ⟨b, 0, none⟩, 1, 1, [v]⟩
theorem Mem.cellR {w0 w : World} {rs : List Row} (h : Mem w0 w rs) {e : TypeId} {b : Nat} {v : Value} (hr : CellR e b v ∈ rs) : w.cell? ⟨b, 0, none⟩ = some v := (h.row hr).cellAt 0 (by simp [CellR])

set_option maxRecDepth 4096 in
set_option maxHeartbeats 1600000 in
theorem first1_any (W w : World) (LR : List Row) (b1 b2 b3 b4 b5 : Nat) (A2 : Option Addr) (L c2 : Nat) (rows : Pch) (A3 : Option Addr) (H c3 : Nat) (rs : List Row) (A4 : Option Addr) (m c4 : Nat) (out : Pch) (A1 : Option Addr) (n1 c1 : Nat) (q : Pch) (p k n : Nat)
    (hm : Mem W w LR) (h1 : CellR 23 b1 (.slice A2 L c2) ∈ LR) (h2 : CellR 48 b2 (.slice A3 H c3) ∈ LR) (h3 : CellR 3 b3 (.int .i64 p) ∈ LR) (h4 : CellR 23 b4 (.slice A4 m c4) ∈ LR) (h5 : CellR 23 b5 (.slice A1 n1 c1) ∈ LR)
    (hrow : Rd w w.heap.size A2 L (svs rows)) (hgrid : RdG w A3 H rs) (hx : rs.map Row.xs = (levs q rows H).map ivs) (hout : Rd w w.heap.size A4 m (svs out)) (hcol : SIn w A1 n1 c1 q)
    (hp : p < H) (hH : H ≤ 20) (hL : L ≤ 64) (hk : k < rows.length) (hnd : rows.Nodup) (hlen : ∀ x ∈ rows, x.length = n) (hn : n ≤ 3) (hol : out.length ≠ 0 → (out.getLastD []).length = n) (hm20 : m ≤ 20) :
    Calls Try.prog 30 #[.string ⟨rows[k].toArray⟩, .pointer (some ⟨b1, 0, none⟩), .pointer (some ⟨b2, 0, none⟩), .pointer (some ⟨b3, 0, none⟩), .pointer (some ⟨b4, 0, none⟩), .pointer (some ⟨b5, 0, none⟩)] w fun e w' => e = .returned (.bool (cnd q rows p out k)) ∧ Below w.heap.size w w' := by
  have c1' := hm.cellR h1
  have c2' := hm.cellR h2
  have c3' := hm.cellR h3
  have c4' := hm.cellR h4
  have c5' := hm.cellR h5
  have hkL : k < L := by have := hrow.lenS; omega
  have hidx := index_at A2 L c2 _ rows rows[k] k w hrow (by omega) hk rfl (fun i hi => List.pairwise_iff_getElem.1 hnd i k (by omega) hk hi)
  have HI := Lib.hid hidx
  obtain ⟨a3, A5, m5, c5, hA3, hab3, hcm, hrd⟩ := grid_at hgrid hx (q := p) (by rw [levs_len]; exact hp)
  rw [levs_get _ _ hp] at hrd
  have hm5 : m5 = L := by rw [← hrd.lenI, lev_len]; exact hrow.lenS
  obtain ⟨a5, hA5, hab5, hc5⟩ := hrd.int (k := k) (by rw [lev_len]; exact hk)
  rw [← getD_at (d := 0) (by rw [lev_len]; exact hk)] at hc5
  subst hA3 hA5 hm5
  have HLow := Lib.hid (fun h => cnd_low (col := q) (rows := rows) (p := p) (out := out) (k := k) h)
  have HFst := Lib.hid (fun h h0 => cnd_first (col := q) (rows := rows) (p := p) (out := out) (k := k) h h0)
  have HStd := Lib.hid (fun b h h0 hs => cnd_stand (col := q) (rows := rows) (p := p) (out := out) (k := k) (b := b) h h0 hk hs)
  have HOL := Lib.hid hout.lenS
  have HOut := Lib.hid hout
  have HOl := Lib.hid hol
  have HCol := Lib.hid hcol
  obtain ⟨y, hy⟩ : ∃ y, y = (lev q rows p).getD k 0 := ⟨_, rfl⟩
  rw [← hy] at hc5 HLow HFst HStd
  obtain ⟨x, hxx⟩ : ∃ x, x = rows[k] := ⟨_, rfl⟩
  have HXQ := Lib.hid (show x.length = n by rw [hxx]; exact hlen _ (List.getElem_mem hk))
  rw [← hxx] at HStd HI ⊢
  obtain ⟨bb, hbb⟩ : ∃ bb, bb = cnd q rows p out k := ⟨_, rfl⟩
  rw [← hbb] at HLow HFst HStd ⊢
  clear hy hxx hrd hm h1 h2 h3 h4 h5 hrow hgrid hx hout hcol hk hnd hlen hol hidx hbb
  have i1 : (p : Int) < (H : Int) := by omega
  have i2 : (k : Int) < (m5 : Int) := by omega
  have i3 : (0 : Int) ≤ (p : Int) := by omega
  have i4 : (0 : Int) ≤ (k : Int) := by omega
  by_cases hyp : 0 < y
  · have dy : decide ((0 : Int) < y) = true := by simpa using hyp
    by_cases hm0 : m = 0
    · have dm : ((m : Int) == 0) = true := by simp [hm0]
      have HN := Lib.hid (HFst.out hyp (by rw [HOL.out]; exact hm0))
      clear HLow HFst HStd hm0
      go_enter Try.func30, Try.ntmps30
      go_wp2_with (go_at_call 31; refine HI.out.mono ?_; rintro e w' ⟨rfl, rfl⟩)
      go_quiet (fail)
      go_wp2
      go_ret
      exact ⟨by (rw [HN.out]; try rfl), below_drewN (Below.refl _ _) nq⟩
    · have dm : ((m : Int) == 0) = false := by simp; omega
      have hlast := last_at HOL.out (show 0 < m by omega)
      have hml : m - 1 < out.length := by rw [HOL.out]; omega
      obtain ⟨a4, hA4, hab4, hc4⟩ := HOut.out.str (k := m - 1) hml
      subst hA4
      have HUQ := Lib.hid (show (out.getLastD []).length = n from HOl.out (by rw [HOL.out]; exact hm0))
      rw [← hlast] at hc4
      obtain ⟨u, hu⟩ : ∃ u, u = out.getLastD [] := ⟨_, rfl⟩
      rw [← hu] at hc4 HUQ HStd
      have e1 : IntKind.i64.wrap ((m : Int) - 1) = (m : Int) - 1 := IntWalk.i64_in _ (by omega)
      have e2 : ((m : Int) - 1).toNat = m - 1 := by omega
      have e3 : (0 : Int) ≤ (m : Int) - 1 := by omega
      have e4 : (m : Int) - 1 < (m : Int) := by omega
      have e5 : (1 : Int) ≤ (m : Int) := by omega
      have e6 : 0 < m := by omega
      have e7 : 1 ≤ m := by omega
      have e8 : m - 1 < m := by omega
      have HS := Lib.hid (fun b h => HStd.out b hyp (by rw [HOL.out]; exact hm0) h)
      obtain ⟨st, hst⟩ : ∃ st, st = stand q u x := ⟨_, rfl⟩
      have HE := Lib.hid (show bb = st from HS.out _ hst.symm)
      have HCon := Lib.hid (show ∀ w9, Below w.heap.size w w9 → Calls Try.prog 32 #[.string ⟨u.toArray⟩, .string ⟨x.toArray⟩, .slice A1 n1 c1] w9 fun e w' => e = .returned (.bool st) ∧ Below w9.heap.size w9 w' by
        intro w9 hb9
        rw [hst]
        exact stands_any u x A1 n1 c1 q w9 (HCol.out.later hb9) (by rw [HUQ.out]; omega) (by rw [HXQ.out, HUQ.out]))
      clear hlast hu hml HLow HFst HStd HS hst
      cases st
      all_goals
        go_enter Try.func30, Try.ntmps30
        go_wp2_with (go_at_call 31; refine HI.out.mono ?_; rintro e w' ⟨rfl, rfl⟩)
        go_region_held3 (fun w' => w'.cell? ⟨b2, 0, none⟩ = some (.slice (some a3) H c3) ∧ w'.cell? ⟨b3, 0, none⟩ = some (.int .i64 p) ∧ w'.cell? (a3.add p) = some (.slice (some a5) m5 c5) ∧ w'.cell? (a5.add k) = some (.int .i64 y) ∧ w'.cell? ⟨b4, 0, none⟩ = some (.slice (some a4) m c4) ∧ w'.cell? (a4.add (m - 1)) = some (.string ⟨u.toArray⟩) ∧ w'.cell? ⟨b5, 0, none⟩ = some (.slice A1 n1 c1))
          (first | go_keep | exact ⟨cell_keep hb1 (by simpa using c2'), cell_keep hb1 (by simpa using c3'), cell_keep hb1 (by simpa using hcm), cell_keep hb1 (by simpa using hc5), cell_keep hb1 (by simpa using c4'), cell_keep hb1 (by simpa using hc4), cell_keep hb1 (by simpa using c5')⟩)
          (first | (go_at_call 32; (with_reducible refine (HCon.out _ (bdR _)).mono ?_); rintro e w1 ⟨rfl, hb1⟩))
        go_wp2
        go_ret
        exact ⟨by (rw [HE.out]; try rfl), (bdR w).trans (hb1.mono (bdR w).size)⟩
  · have dy : decide ((0 : Int) < y) = false := by simpa using hyp
    have HN := Lib.hid (HLow.out hyp)
    clear HLow HFst HStd
    go_enter Try.func30, Try.ntmps30
    go_wp2_with (go_at_call 31; refine HI.out.mono ?_; rintro e w' ⟨rfl, rfl⟩)
    go_quiet (fail)
    go_wp2
    go_ret
    exact ⟨by (rw [HN.out]; try rfl), below_drewN (Below.refl _ _) nq⟩
end
section
open Go.RowKit

/-- the closure's predicate, of a string -/
def pStr (col rows : Pch) (n : Nat) (out : Pch) (x : List UInt8) : Bool := (List.range rows.length).any fun k => decide (rows.getD k [] = x) && cnd col rows n out k
theorem pStr_at {col rows : Pch} {n : Nat} {out : Pch} (hnd : rows.Nodup) {k : Nat} (hk : k < rows.length) : pStr col rows n out rows[k] = cnd col rows n out k := by
  cases hc : cnd col rows n out k
  · unfold pStr
    rw [List.any_eq_false]
    intro j hj
    have hj2 := List.mem_range.1 hj
    rw [getD_at hj2]
    by_cases he : rows[j] = rows[k]
    · have : j = k := by
        rcases Nat.lt_trichotomy j k with h | h | h
        · exact absurd he (List.pairwise_iff_getElem.1 hnd j k hj2 hk h)
        · exact h
        · exact absurd he.symm (List.pairwise_iff_getElem.1 hnd k j hk hj2 h)
      subst this
      simp [hc]
    · simp [he]
  · unfold pStr
    rw [List.any_eq_true]
    exact ⟨k, List.mem_range.2 hk, by rw [getD_at hk]; simp [hc]⟩
theorem idxP_chosen {col rows : Pch} {n : Nat} {out : Pch} (hnd : rows.Nodup) (h : ∃ k, k < rows.length ∧ cnd col rows n out k = true) : idxP (pStr col rows n out) rows = (chosen col rows n out : Nat) := by
  obtain ⟨h1, h2, h3⟩ := chosen_at h
  exact idxP_hit h1 (by rw [pStr_at hnd h1]; exact h2) (fun j hj => by rw [pStr_at hnd (by omega)]; exact h3 j hj)
theorem idxP_no {col rows : Pch} {n : Nat} {out : Pch} (hnd : rows.Nodup) (h : ∀ k, cnd col rows n out k = false) : idxP (pStr col rows n out) rows = -1 :=
  idxP_none (fun j hj => by rw [pStr_at hnd hj]; exact h j)

theorem Mem.cellN {W w : World} {L : List Row} (h : Mem W w L) (e : TypeId) (v : Value) {b : Nat} (hb : b = w.heap.size) : Mem W (w.alloc (.cells #[v] e)) (CellR e b v :: L) := by
  subst hb; exact h.add (Own.made (w0 := w) (w := w) (Below.refl _ _) e [v] (by simp))
theorem Mem.nilN {W w : World} {L : List Row} (h : Mem W w L) (e : TypeId) {b : Nat} (hb : b = w.heap.size) : Mem W (w.alloc (.cells #[] e)) (⟨e, some ⟨b, 0, none⟩, 0, 0, []⟩ :: L) := by
  subst hb; exact h.add (Own.made0 (w0 := w) (w := w) (Below.refl _ _) e)
theorem Mem.setCellR {W w : World} {pre post : List Row} {e : TypeId} {b : Nat} {v : Value} (h : Mem W w (pre ++ CellR e b v :: post)) (u : Value) : Mem W (w.setCell ⟨b, 0, none⟩ u) (pre ++ CellR e b u :: post) := by
  have h1 := World.ownsRow.stored (h.row (r := CellR e b v) (by simp)) 0 u
  exact h.mark (pre := pre) (post := post) (e := e) (xs := [v]) (ys := [u]) h1.1 (Nat.le_refl _) h1.2

theorem Mem.neR {W w : World} {e e' : TypeId} {b b' : Nat} {v v' : Value} {L : List Row} (h : Mem W w (CellR e b v :: CellR e' b' v' :: L)) : ¬ b = b' := by
  have h1 := (List.pairwise_cons.1 h.2.2).1 (CellR e' b' v') (by simp)
  simpa [CellR, Row.blk, Value.ownBlock] using h1

set_option maxRecDepth 4096 in
set_option maxHeartbeats 3200000 in
theorem cFirstObeyingI (a h : Int) (A0 : Option Addr) (n0 c0 : Nat) (r : Pch) (A1 : Option Addr) (n1 c1 : Nat) (q : Pch) (W : World) (h0 : SIn W A0 n0 c0 r) (h1 : SIn W A1 n1 c1 q) :
    Calls Try.prog 12 #[.int .i64 a, .int .i64 h, .slice A0 n0 c0, .slice A1 n1 c1] W (RetSB 9 W (firstOb a h r q).1 (firstOb a h r q).2) := by
  obtain ⟨res, hres⟩ : ∃ res, res = firstOb a h r q := ⟨_, rfl⟩
  rw [← hres]
  have HM0 := Lib.hid (show Mem W (W.alloc (.cells #[.slice A1 n1 c1] 23)) [CellR 23 W.heap.size (.slice A1 n1 c1)] from (Mem.start W).add (Own.made (w0 := W) (w := W) (Below.refl _ _) 23 [.slice A1 n1 c1] (by simp)))
  have HCo := Lib.hid (obeying_any a h A0 n0 c0 r A1 n1 c1 q _ (h0.later HM0.out.bel) (h1.later HM0.out.bel))
  have HCell := Lib.hid (HM0.out.cellR (e := 23) (b := W.heap.size) (v := .slice A1 n1 c1) (by simp))
  have HS1 := Lib.hid h1
  clear h0 h1
  cases hk : okC a h r q
  case false =>
    rw [hk] at HCo
    have HE := Lib.hid (show res = ([], false) by rw [hres]; unfold firstOb firstOk; rw [hk]; rfl)
    clear hk hres
    go_enter Try.func12, Try.ntmps12
    have hcell := HCell.out
    go_wp2_with fail
    refine HCo.out.mono ?_
    rintro e w1 ⟨A, n, c, A2, n2, c2, rs, rfl, hm, _, _⟩
    have HM := Lib.hid (HM0.out.addAll hm)
    clear hm hcell
    go_wp2
    go_ret2
    rw [HE.out]
    exact ⟨none, 0, 0, rfl, Own.nil ((HM.out.cellN _ _ rfl).cellN _ _ rfl).bel _⟩
  case true =>
    rw [hk] at HCo
    have hp := okC_parts (okC_yes hk).1
    obtain ⟨n, rfl⟩ : ∃ n : Nat, a = n := ⟨a.toNat, by omega⟩
    obtain ⟨H, rfl⟩ : ∃ m : Nat, h = m := ⟨h.toNat, by omega⟩
    have hn : n ≤ 3 := by omega
    have hH1 : 1 ≤ H := by omega
    have hH : H ≤ 20 := by omega
    obtain ⟨rows, hrows⟩ : ∃ rows, rows = rowsN r n := ⟨_, rfl⟩
    have HRC := Lib.hid (show rowsC n H r q = rows by rw [hrows]; unfold rowsC; rw [if_pos (okC_yes hk).1]; rfl)
    have HGC := Lib.hid (show gridC n H r q = levs q rows H by rw [hrows]; unfold gridC; rw [if_pos hk]; rfl)
    have HRes := Lib.hid (show res = if 0 < (lev q rows (H - 1)).sum then (fo q rows H H, true) else ([], false) by
      rw [hres, hrows]; unfold firstOb firstOk; rw [hk]; simp)
    have HNd := Lib.hid (show rows.Nodup by rw [hrows]; exact rowsN_nodup r hn)
    have HRow := Lib.hid (show ∀ x ∈ rows, x.length = n by rw [hrows]; exact fun x hx => (rowsN_row hx).1)
    have HL64 := Lib.hid (show rows.length ≤ 64 by rw [hrows]; exact rowsN_len r hn)
    clear hk hres hrows hp
    go_enter Try.func12, Try.ntmps12
    have hcell := HCell.out
    go_wp2_with fail
    refine HCo.out.mono ?_
    rintro e w1 ⟨A2, L, c2, A3, n3, c3, rs, rfl, hm, hx, _⟩
    rw [HRC.out] at hm
    rw [HGC.out] at hx
    have hn3 : n3 = H := by have h1 := hm.rd0.1; have h2 := xs_len hx; rw [levs_len] at h2; simp only [List.length_map] at h1; omega
    subst hn3
    have HX := Lib.hid hx
    have HM := Lib.hid (HM0.out.addAll hm)
    clear hm hx hcell
    have e0 : IntKind.i64.wrap ((n3 : Int) - 1) = (n3 : Int) - 1 := IntWalk.i64_in _ (by omega)
    go_wp2
    obtain ⟨TL, hTL⟩ : ∃ TL, TL = CellR 48 (w1.heap.size + 1) (.slice A3 n3 c3) :: CellR 23 w1.heap.size (.slice A2 L c2) :: (({ e := 51, A := A3, n := n3, c := c3, xs := List.map SVal rs } :: (rs ++ [{ e := 9, A := A2, n := L, c := c2, xs := svs rows }])) ++ [CellR 23 W.heap.size (.slice A1 n1 c1)]) := ⟨_, rfl⟩
    have HT2 := Lib.hid (show CellR 48 (w1.heap.size + 1) (.slice A3 n3 c3) ∈ TL by rw [hTL]; simp)
    have HT1 := Lib.hid (show CellR 23 w1.heap.size (.slice A2 L c2) ∈ TL by rw [hTL]; simp)
    have HT5 := Lib.hid (show CellR 23 W.heap.size (.slice A1 n1 c1) ∈ TL by rw [hTL]; simp)
    have HTr := Lib.hid (show ({ e := 9, A := A2, n := L, c := c2, xs := svs rows } : Row) ∈ TL by rw [hTL]; simp)
    have HTg := Lib.hid (show ({ e := 51, A := A3, n := n3, c := c3, xs := List.map SVal rs } : Row) ∈ TL by rw [hTL]; simp)
    have HTi := Lib.hid (show ∀ r ∈ rs, r ∈ TL by rw [hTL]; intro r hr; simp [hr])
    have HM1 := Lib.hid (by
      have h1 := (HM.out.cellN 23 (.slice A2 L c2) rfl).cellN 48 (.slice A3 n3 c3) (b := w1.heap.size + 1) (by simp)
      rw [← hTL] at h1
      exact (((h1.nilN 9 (b := w1.heap.size + 1 + 1) (by simp)).cellN 23 (.slice (some { block := w1.heap.size + 1 + 1, off := 0 }) 0 0) (b := w1.heap.size + 1 + 1 + 1) (by simp)).cellN 3 (.int .i64 ((n3 : Int) - 1)) (b := w1.heap.size + 1 + 1 + 1 + 1) (by simp)))
    obtain ⟨b1, hb1⟩ : ∃ b1, b1 = w1.heap.size := ⟨_, rfl⟩
    obtain ⟨b2, hb2⟩ : ∃ b2, b2 = w1.heap.size + 1 := ⟨_, rfl⟩
    obtain ⟨b4, hb4⟩ : ∃ b4, b4 = w1.heap.size + 1 + 1 + 1 := ⟨_, rfl⟩
    obtain ⟨b5, hb5⟩ : ∃ b5, b5 = W.heap.size := ⟨_, rfl⟩
    rw [← hb4] at HM1 ⊢
    rw [← hb2] at HT2 HM1 ⊢
    rw [← hb1] at HT1 ⊢
    rw [← hb5] at HT5 ⊢
    clear hb1 hb2 hb4 hb5
    clear hTL HM e0 HCell HM0 HCo HRC HGC
    go_loopg [14] n3 (fun gg pn wr => ∃ (p1 m b3 : Nat) (A4 : Option Addr) (c4 : Nat), p1 ≤ gg ∧ p1 + m = n3 ∧ pn = .pointer (some ⟨b3, 0, none⟩) ∧ Mem W wr (CellR 3 b3 (.int .i64 ((p1 : Int) - 1)) :: CellR 23 b4 (.slice A4 m c4) :: ⟨9, A4, m, c4, svs (fo q rows n3 m)⟩ :: TL) ∧ (0 < (lev q rows (n3 - 1)).sum ∨ m = 0))
    case atStart => exact ⟨n3, 0, _, _, _, Nat.le_refl _, by omega, rfl, HM1.out, Or.inr rfl⟩
    case round =>
      clear HM1
      obtain ⟨p1, m, b3, A4, c4, hgg, hpm, rfl, hmem, hsm⟩ := hrel
      have HMk := Lib.hid hmem
      have HSM := Lib.hid hsm
      clear hmem hsm
      have hc3 := HMk.out.cellR (e := 3) (b := b3) (v := .int .i64 ((p1 : Int) - 1)) List.mem_cons_self
      have hc1 := HMk.out.cellR (e := 23) (b := b1) (v := .slice A2 L c2) (by simp [HT1.out])
      have hc4 := HMk.out.cellR (e := 23) (b := b4) (v := .slice A4 m c4) (by simp)
      by_cases hp1 : 0 < p1
      · obtain ⟨p, hp⟩ : ∃ p, p = p1 - 1 := ⟨_, rfl⟩
        have hpe : (p1 : Int) - 1 = (p : Int) := by omega
        rw [hpe] at hc3
        have HMp := Lib.hid (by have h := HMk.out; rw [hpe] at h; exact h)
        have hpgg := Nat.lt_of_lt_of_le (show p < p1 by omega) hgg
        have dge : decide ((0 : Int) ≤ (p : Int)) = true := by simp
        have hpm2 : p + 1 + m = n3 := by omega
        have hpn : p < n3 := by omega
        have HPH := Lib.hid (show n3 - (m + 1) = p by omega)
        have hLL : L ≤ 64 := by have h1 := HL64.out; have h2 : rows.length = L := (HMp.out.rd (r := { e := 9, A := A2, n := L, c := c2, xs := svs rows }) (by simp [HTr.out])).lenS; omega
        obtain ⟨out, hout⟩ : ∃ out, out = fo q rows n3 m := ⟨_, rfl⟩
        rw [← hout] at HMp
        have HOL := Lib.hid (show out.length = m by rw [hout]; exact fo_len q rows n3 m)
        have HOl := Lib.hid (show out.length ≠ 0 → (out.getLastD []).length = n by
          intro h0
          have hm0 : ¬ m = 0 := by rw [← HOL.out]; exact h0
          have hs := HSM.out.resolve_right hm0
          rcases fo_ok (col := q) (rows := rows) (h := n3) hs m (by omega) with h | ⟨k2, hk2, h2, _⟩
          · exact absurd h hm0
          · rw [hout, h2, getD_at hk2]; exact HRow.out _ (List.getElem_mem hk2))
        have HCon := Lib.hid (indexFunc_any 30 #[.pointer (some ⟨b1, 0, none⟩), .pointer (some ⟨b2, 0, none⟩), .pointer (some ⟨b3, 0, none⟩), .pointer (some ⟨b4, 0, none⟩), .pointer (some ⟨b5, 0, none⟩)] (fun _ _ => rfl) A2 L c2 wr.heap.size rows (pStr q rows p out) wr (HMp.out.rd (r := { e := 9, A := A2, n := L, c := c2, xs := svs rows }) (by simp [HTr.out])) (Nat.le_refl _) (by omega) (by
          intro w hb x hx
          obtain ⟨k, hk, rfl⟩ := List.getElem_of_mem hx
          rw [pStr_at HNd.out hk]
          have hm := HMp.out.later hb
          exact first1_any W w _ b1 b2 b3 b4 b5 A2 L c2 rows A3 n3 c3 rs A4 m c4 out A1 n1 c1 q p k n hm (by simp [HT1.out]) (by simp [HT2.out]) List.mem_cons_self (by simp) (by simp [HT5.out])
            (hm.rd (r := { e := 9, A := A2, n := L, c := c2, xs := svs rows }) (by simp [HTr.out])) (Mem.rdG hm (e := 51) (c := c3) (by simp [HTg.out]) (fun r hr => by simp [HTi.out r hr])) HX.out (hm.rd (r := { e := 9, A := A4, n := m, c := c4, xs := svs out }) (by simp)) (HS1.out.later hm.bel)
            hpn hH hLL hk HNd.out HRow.out hn HOl.out (by omega)))
        by_cases hs : 0 < (lev q rows (n3 - 1)).sum
        · have HHas := Lib.hid (by have h := fo_has (j := m) (h := n3) (by omega) hs (fo_ok hs m (by omega)); rw [HPH.out, ← hout] at h; exact h)
          obtain ⟨kc, hkc⟩ : ∃ kc, kc = chosen q rows p out := ⟨_, rfl⟩
          have hkl : kc < rows.length := by rw [hkc]; exact (chosen_at HHas.out).1
          have HFN := Lib.hid (show fo q rows n3 (m + 1) = out ++ [rows[kc]] by rw [fo, HPH.out, ← hout, ← hkc, getD_at hkl])
          have HC2 := Lib.hid (by have h := HCon.out; rw [idxP_chosen HNd.out HHas.out, ← hkc] at h; exact h)
          have HSS := Lib.hid hs
          obtain ⟨x, hx⟩ : ∃ x, x = rows[kc] := ⟨_, rfl⟩
          rw [← hx] at HFN
          have HXc := Lib.hid (show ∀ w : World, Rd w w.heap.size A2 L (svs rows) → ∃ a2, A2 = some a2 ∧ a2.block < w.heap.size ∧ w.cell? (a2.add kc) = some (.string ⟨x.toArray⟩) from fun w hr => by
            have h := hr.str (k := kc) hkl
            rw [← hx] at h; exact h)
          have hkL : kc < L := by have h2 : rows.length = L := (HMp.out.rd (r := { e := 9, A := A2, n := L, c := c2, xs := svs rows }) (by simp [HTr.out])).lenS; omega
          have dk : decide ((kc : Int) < 0) = false := by simp
          clear hpe hp hp1 hgg hpm hout hkc hx hs HCon hkl
          go_wp2_with (go_at_call 29; refine HC2.out.mono ?_; rintro e w7 ⟨rfl, hb7⟩)
          have HM7 := Lib.hid (HMp.out.later hb7)
          clear hb7 HC2 HMk hc3 hc1 hc4 HMp
          obtain ⟨a2, hA2, hab2, hcx⟩ := HXc.out w7 (HM7.out.rd (r := { e := 9, A := A2, n := L, c := c2, xs := svs rows }) (by simp [HTr.out]))
          subst hA2
          have hc1 := HM7.out.cellR (e := 23) (b := b1) (v := .slice (some a2) L c2) (by simp [HT1.out])
          have hc4 := HM7.out.cellR (e := 23) (b := b4) (v := .slice A4 m c4) (by simp)
          have hf4 : w7.frozen? ⟨b4, 0, none⟩ = false := (HM7.out.row (r := CellR 23 b4 (.slice A4 m c4)) (by simp)).frozenAt 0
          have i1 : (0 : Int) ≤ (kc : Int) := by omega
          have i2 : (kc : Int) < (L : Int) := by omega
          have hb4lt : b4 < w7.heap.size := World.block_lt_of_cell? w7 _ hc4
          have HXd := Lib.hid (show ∀ w : World, Rd w w.heap.size (some a2) L (svs rows) → w.cell? (a2.add kc) = some (.string ⟨x.toArray⟩) from fun w hr => by
            obtain ⟨a9, h9, _, h8⟩ := HXc.out w hr
            injection h9 with h9; subst h9; exact h8)
          have hb4lt : b4 < w7.heap.size := World.block_lt_of_cell? w7 _ hc4
          go_region_law (first | (refine step_app_mem [CellR 3 b3 (.int .i64 (p : Int)), CellR 23 b4 (.slice A4 m c4)] TL (.tmp 39) (.tmp 44) _ _ _ 16 (by rfl) (by rfl) Try.underlying23 infoS (by rfl) (by rfl) ((HM7.out.alloc _).drew) (by rfl) (by omega) (Rd.one _ _ _) (by simp [Value.oneCell']) (by omega) (by omega) ?_; intro A6 c6 w6 hm6; have hc6 : w6.cell? ⟨b4, 0, none⟩ = some (.slice A4 m c4) := hm6.cellR (e := 23) (by simp); have hf6 : w6.frozen? ⟨b4, 0, none⟩ = false := (hm6.row (r := CellR 23 b4 (.slice A4 m c4)) (by simp)).frozenAt 0))
          all_goals
            have HM8 := Lib.hid (Mem.setCellR (pre := [_]) hm6 (.slice A6 (m + 1) c6))
            rw [← svs_snoc, ← HFN.out] at HM8
            obtain ⟨w8, hw8⟩ : ∃ w8, w8 = w6.setCell ⟨b4, 0, none⟩ (.slice A6 (m + 1) c6) := ⟨_, rfl⟩
            rw [← hw8] at HM8 ⊢
            have hc8 := HM8.out.cellR (e := 3) (b := b3) (v := .int .i64 (p : Int)) (by simp)
            have e9 : IntKind.i64.wrap ((p : Int) - 1) = (p : Int) - 1 := IntWalk.i64_in _ (by omega)
            have HM9 := Lib.hid (HM8.out.drop (rs' := CellR 23 b4 (.slice A6 (m + 1) c6) :: ⟨9, A6, m + 1, c6, svs (fo q rows n3 (m + 1))⟩ :: TL) (by simp))
            clear HM8 hw8 hc1 hc4 hf4 hcx HM7 HOl HOL HPH hLL
            go_wp2
            go_roundg p
            case measure => exact hpgg
            case rel =>
              refine ⟨p, m + 1, w8.heap.size, A6, c6, Nat.le_refl _, by omega, rfl, ?_, Or.inl HSS.out⟩
              first | exact HM9.out.cellN _ _ rfl | exact Mem.setCellR (pre := []) (HM9.out.cellN _ (.int .i64 (p : Int)) rfl) _
        · have hm0 : m = 0 := HSM.out.resolve_left hs
          have HC2 := Lib.hid (by
            have h := HCon.out
            rw [idxP_no HNd.out (fun k => by
              have h2 := cnd_none (col := q) (rows := rows) (h := n3) (by omega) k
              rw [hout, hm0, show p = n3 - 1 by omega]; exact h2)] at h
            exact h)
          have HR := Lib.hid (show res = ([], false) by rw [HRes.out, if_neg hs])
          clear hpe hp hp1 hgg hpm hout hs HCon
          go_wp2_with (go_at_call 29; refine HC2.out.mono ?_; rintro e w7 ⟨rfl, hb7⟩)
          go_ret2
          rw [HR.out]
          exact ⟨none, 0, 0, rfl, Own.nil (HMp.out.later hb7).bel _⟩
      · have hm3 : m = n3 := by omega
        have hs := HSM.out.resolve_right (by omega)
        have HR := Lib.hid (show res = (fo q rows n3 n3, true) by rw [HRes.out, if_pos hs])
        have hpe : (p1 : Int) - 1 = -1 := by omega
        rw [hpe] at hc3
        have HO := Lib.hid (by have h := HMk.out; rw [hm3] at h; exact Mem.own (pre := [_, _]) h)
        clear hpe hs hpm hgg
        subst hm3
        go_wp2
        go_ret2
        rw [HR.out]
        exact ⟨A4, m, c4, rfl, HO.out⟩
theorem firstOb_len (a h : Int) (r q : Pch) : (firstOb a h r q).1.length ≤ 1048576 := by
  unfold firstOb
  split
  · rename_i hf
    have hk : okC a h r q = true := by unfold firstOk at hf; simp only [Bool.and_eq_true] at hf; exact hf.1
    have hp := okC_parts (okC_yes hk).1
    show (fo _ _ _ _).length ≤ _
    rw [fo_len]; omega
  · simp
end
end Go.Proofs.Ytbaleboljcoigaa
