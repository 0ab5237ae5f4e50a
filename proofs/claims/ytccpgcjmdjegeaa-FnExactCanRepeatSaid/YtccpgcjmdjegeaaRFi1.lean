/-
  Contract of the closure of the program's FirstObeying. Conditions: what it captured.
-/
import Derived.Test.YtccpgcjmdjegeaaRFun
import Derived.Test.YtccpgcjmdjegeaaRFos
namespace Go.Proofs.Ytccpgcjmdjegeaa
open Go.RowKit

theorem allW_nodup : ∀ n, n ≤ 3 → (allW n).Nodup
  | 0, _ => by decide +kernel
  | 1, _ => by decide +kernel
  | 2, _ => by decide +kernel
  | 3, _ => by decide +kernel
theorem rowsN_nodup (r : Pch) {n : Nat} (hn : n ≤ 3) : (rowsN r n).Nodup := by rw [rowsN_all]; exact (allW_nodup n hn).filter _
theorem cell_keep {w w' : World} (hb : Below w.heap.size w w') {a : Addr} {v : Value} (h : w.cell? a = some v) : w'.cell? a = some v := by
  rw [hb.cell (World.block_lt_of_cell? w _ h)]; exact h
/-- a variable that a closure has captured -/
def CellR (e : TypeId) (b : Nat) (v : Value) : Row := ⟨e, some ⟨b, 0, none⟩, 1, 1, [v]⟩
theorem Mem.cellR {w0 w : World} {rs : List Row} (h : Mem w0 w rs) {e : TypeId} {b : Nat} {v : Value} (hr : CellR e b v ∈ rs) : w.cell? ⟨b, 0, none⟩ = some v := (h.row hr).cellAt 0 (by simp [CellR])

set_option maxRecDepth 4096 in
set_option maxHeartbeats 1600000 in
theorem first1_any (W w : World) (LR : List Row) (b1 b2 b3 b4 b5 : Nat) (A2 : Option Addr) (L c2 : Nat) (rows : Pch) (A3 : Option Addr) (H c3 : Nat) (rs : List Row) (A4 : Option Addr) (m c4 : Nat) (out : Pch) (A1 : Option Addr) (n1 c1 : Nat) (q : Pch) (p k n : Nat)
    (hm : Mem W w LR) (h1 : CellR 22 b1 (.slice A2 L c2) ∈ LR) (h2 : CellR 52 b2 (.slice A3 H c3) ∈ LR) (h3 : CellR 3 b3 (.int .i64 p) ∈ LR) (h4 : CellR 22 b4 (.slice A4 m c4) ∈ LR) (h5 : CellR 22 b5 (.slice A1 n1 c1) ∈ LR)
    (hrow : Rd w w.heap.size A2 L (svs rows)) (hgrid : RdG w A3 H rs) (hx : rs.map Row.xs = (levs q rows H).map ivs) (hout : Rd w w.heap.size A4 m (svs out)) (hcol : SIn w A1 n1 c1 q)
    (hp : p < H) (hH : H ≤ 20) (hL : L ≤ 64) (hk : k < rows.length) (hnd : rows.Nodup) (hlen : ∀ x ∈ rows, x.length = n) (hn : n ≤ 3) (hol : out.length ≠ 0 → (out.getLastD []).length = n) (hm20 : m ≤ 20) :
    Calls Try.prog 48 #[.string ⟨rows[k].toArray⟩, .pointer (some ⟨b1, 0, none⟩), .pointer (some ⟨b2, 0, none⟩), .pointer (some ⟨b3, 0, none⟩), .pointer (some ⟨b4, 0, none⟩), .pointer (some ⟨b5, 0, none⟩)] w fun e w' => e = .returned (.bool (cnd q rows p out k)) ∧ Below w.heap.size w w' := by
  have c1' := hm.cellR h1
  have c2' := hm.cellR h2
  have c3' := hm.cellR h3
  have c4' := hm.cellR h4
  have c5' := hm.cellR h5
  have hkL : k < L := by have := hrow.lenS; omega
  have hidx := index_at A2 L c2 _ rows rows[k] k w hrow (by omega) hk rfl (fun i hi => List.pairwise_iff_getElem.1 hnd i k (by omega) hk hi)
  have HI := Lib.hid hidx
  obtain ⟨a3, A5, m5, c5, hA3, hab3, hcm, hrd⟩ := grid_at hgrid hx (q := p) (by rw [levs_len]; exact hp)
  rw [levs_get _ _ hp] at hrd
  have hm5 : m5 = L := by rw [← hrd.lenI, lev_len]; exact hrow.lenS
  obtain ⟨a5, hA5, hab5, hc5⟩ := hrd.int (k := k) (by rw [lev_len]; exact hk)
  rw [← getD_at (d := 0) (by rw [lev_len]; exact hk)] at hc5
  subst hA3 hA5 hm5
  have HLow := Lib.hid (fun h => cnd_low (col := q) (rows := rows) (p := p) (out := out) (k := k) h)
  have HFst := Lib.hid (fun h h0 => cnd_first (col := q) (rows := rows) (p := p) (out := out) (k := k) h h0)
  have HStd := Lib.hid (fun b h h0 hs => cnd_stand (col := q) (rows := rows) (p := p) (out := out) (k := k) (b := b) h h0 hk hs)
  have HOL := Lib.hid hout.lenS
  have HOut := Lib.hid hout
  have HOl := Lib.hid hol
  have HCol := Lib.hid hcol
  obtain ⟨y, hy⟩ : ∃ y, y = (lev q rows p).getD k 0 := ⟨_, rfl⟩
  rw [← hy] at hc5 HLow HFst HStd
  obtain ⟨x, hxx⟩ : ∃ x, x = rows[k] := ⟨_, rfl⟩
  have HXQ := Lib.hid (show x.length = n by rw [hxx]; exact hlen _ (List.getElem_mem hk))
  rw [← hxx] at HStd HI ⊢
  obtain ⟨bb, hbb⟩ : ∃ bb, bb = cnd q rows p out k := ⟨_, rfl⟩
  rw [← hbb] at HLow HFst HStd ⊢
  clear hy hxx hrd hm h1 h2 h3 h4 h5 hrow hgrid hx hout hcol hk hnd hlen hol hidx hbb
  have i1 : (p : Int) < (H : Int) := by omega
  have i2 : (k : Int) < (m5 : Int) := by omega
  have i3 : (0 : Int) ≤ (p : Int) := by omega
  have i4 : (0 : Int) ≤ (k : Int) := by omega
  by_cases hyp : 0 < y
  · have dy : decide ((0 : Int) < y) = true := by simpa using hyp
    by_cases hm0 : m = 0
    · have dm : ((m : Int) == 0) = true := by simp [hm0]
      have HN := Lib.hid (HFst.out hyp (by rw [HOL.out]; exact hm0))
      clear HLow HFst HStd hm0
      go_enter Try.func48, Try.ntmps48
      go_wp2_with (go_at_call 49; refine HI.out.mono ?_; rintro e w' ⟨rfl, rfl⟩)
      go_quiet (fail)
      go_wp2
      go_ret
      exact ⟨by (rw [HN.out]; try rfl), below_drewN (Below.refl _ _) nq⟩
    · have dm : ((m : Int) == 0) = false := by simp; omega
      have hlast := last_at HOL.out (show 0 < m by omega)
      have hml : m - 1 < out.length := by rw [HOL.out]; omega
      obtain ⟨a4, hA4, hab4, hc4⟩ := HOut.out.str (k := m - 1) hml
      subst hA4
      have HUQ := Lib.hid (show (out.getLastD []).length = n from HOl.out (by rw [HOL.out]; exact hm0))
      rw [← hlast] at hc4
      obtain ⟨u, hu⟩ : ∃ u, u = out.getLastD [] := ⟨_, rfl⟩
      rw [← hu] at hc4 HUQ HStd
      have e1 : IntKind.i64.wrap ((m : Int) - 1) = (m : Int) - 1 := IntWalk.i64_in _ (by omega)
      have e2 : ((m : Int) - 1).toNat = m - 1 := by omega
      have e3 : (0 : Int) ≤ (m : Int) - 1 := by omega
      have e4 : (m : Int) - 1 < (m : Int) := by omega
      have e5 : (1 : Int) ≤ (m : Int) := by omega
      have e6 : 0 < m := by omega
      have e7 : 1 ≤ m := by omega
      have e8 : m - 1 < m := by omega
      have HS := Lib.hid (fun b h => HStd.out b hyp (by rw [HOL.out]; exact hm0) h)
      obtain ⟨st, hst⟩ : ∃ st, st = stand q u x := ⟨_, rfl⟩
      have HE := Lib.hid (show bb = st from HS.out _ hst.symm)
      have HCon := Lib.hid (show ∀ w9, Below w.heap.size w w9 → Calls Try.prog 41 #[.string ⟨u.toArray⟩, .string ⟨x.toArray⟩, .slice A1 n1 c1] w9 fun e w' => e = .returned (.bool st) ∧ Below w9.heap.size w9 w' by
        intro w9 hb9
        rw [hst]
        exact stands_any u x A1 n1 c1 q w9 (HCol.out.later hb9) (by rw [HUQ.out]; omega) (by rw [HXQ.out, HUQ.out]))
      clear hlast hu hml HLow HFst HStd HS hst
      cases st
      all_goals
        go_enter Try.func48, Try.ntmps48
        go_wp2_with (go_at_call 49; refine HI.out.mono ?_; rintro e w' ⟨rfl, rfl⟩)
        go_region_held3 (fun w' => w'.cell? ⟨b2, 0, none⟩ = some (.slice (some a3) H c3) ∧ w'.cell? ⟨b3, 0, none⟩ = some (.int .i64 p) ∧ w'.cell? (a3.add p) = some (.slice (some a5) m5 c5) ∧ w'.cell? (a5.add k) = some (.int .i64 y) ∧ w'.cell? ⟨b4, 0, none⟩ = some (.slice (some a4) m c4) ∧ w'.cell? (a4.add (m - 1)) = some (.string ⟨u.toArray⟩) ∧ w'.cell? ⟨b5, 0, none⟩ = some (.slice A1 n1 c1))
          (first | go_keep | exact ⟨cell_keep hb1 (by simpa using c2'), cell_keep hb1 (by simpa using c3'), cell_keep hb1 (by simpa using hcm), cell_keep hb1 (by simpa using hc5), cell_keep hb1 (by simpa using c4'), cell_keep hb1 (by simpa using hc4), cell_keep hb1 (by simpa using c5')⟩)
          (first | (go_at_call 41; (with_reducible refine (HCon.out _ (bdR _)).mono ?_); rintro e w1 ⟨rfl, hb1⟩))
        go_wp2
        go_ret
        exact ⟨by (rw [HE.out]; try rfl), (bdR w).trans (hb1.mono (bdR w).size)⟩
  · have dy : decide ((0 : Int) < y) = false := by simpa using hyp
    have HN := Lib.hid (HLow.out hyp)
    clear HLow HFst HStd
    go_enter Try.func48, Try.ntmps48
    go_wp2_with (go_at_call 49; refine HI.out.mono ?_; rintro e w' ⟨rfl, rfl⟩)
    go_quiet (fail)
    go_wp2
    go_ret
    exact ⟨by (rw [HN.out]; try rfl), below_drewN (Below.refl _ _) nq⟩
end Go.Proofs.Ytccpgcjmdjegeaa
