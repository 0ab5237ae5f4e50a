/-
  Contracts of the program's small, its closures and SmallAuto. No conditions beyond a valid automaton for small.
-/
import Derived.Test.YtcicoplmpinnmaaDoorACls
import Derived.Test.YtcicoplmpinnmaaDoorASml
import Derived.Test.YtcicoplmpinnmaaDoorAOf
import Derived.RegionTactic
import Derived.BigRegion
import Derived.RegionCalls
import Derived.Deep.RegionHeld3
import Derived.Deep.DeepCutAuto
namespace Go.Proofs.YtcicoplmpinnmaaDoor
open Go.RowKit

def qW (ow : List Nat) (s t : Nat) : Bool := qP (fun j => ((ow.getD j 0 : Nat) : Int)) s t
theorem qW_self (ow : List Nat) (s : Nat) : qW ow s s = true := by simp [qW, qP]
theorem fidx_gIdx {q : Nat → Nat → Bool} (S : List Nat) (y : Nat) : fidx (fun k => q (S.getD k 0) y) S.length = if gIdx q S y < S.length then (gIdx q S y : Int) else -1 := by
  by_cases h : gIdx q S y < S.length
  · rw [if_pos h]
    have h1 := (List.findIdx_eq (xs := S) (p := fun s => q s y) h).1 rfl
    refine fidx_hit h ?_ (fun j hj => ?_)
    · rw [getD_of h]; exact h1.1
    · rw [getD_of (by omega)]; exact h1.2 j hj
  · rw [if_neg h]
    have h1 : S.findIdx (fun s => q s y) = S.length := by have := gIdx_le (q := q) S y; unfold gIdx at *; omega
    refine fidx_none (fun j hj => ?_)
    rw [getD_of hj]
    exact List.findIdx_eq_length.1 h1 _ (List.getElem_mem hj)

set_option maxHeartbeats 1600000 in
theorem small11_any (W w : World) (LR : List Row) (g3 g8 : Nat) (C : Option Addr) (n cc : Nat) (ow : List Nat) (x y : Nat) (hm : Mem W w LR) (h3 : CellV 54 g3 (.slice C n cc) ∈ LR) (h8 : CellV 3 g8 (.int .i64 (y : Int)) ∈ LR) (hc : (⟨3, C, n, cc, nvs ow⟩ : Row) ∈ LR) (hx : x < n) (hy : y < n) :
    Calls Tryd.prog 47 #[.int .i64 (x : Int), .pointer (some ⟨g3, 0, none⟩), .pointer (some ⟨g8, 0, none⟩)] w fun e w' => e = .returned (.bool (qW ow x y)) ∧ Below w.heap.size w w' := by
  have c3 := hm.cellV h3
  have c8 := hm.cellV h8
  have hl : ow.length = n := (hm.rd hc).lenN
  obtain ⟨a, ha, _, hcx⟩ := (hm.rd hc).nat (k := x) (by omega)
  obtain ⟨a2, ha2, _, hcy⟩ := (hm.rd hc).nat (k := y) (by omega)
  simp only at ha ha2
  subst ha
  obtain rfl := Option.some.inj ha2
  rw [show ow[x]'(by omega) = ofL ow x from (getD_of (by omega)).symm] at hcx
  rw [show ow[y]'(by omega) = ofL ow y from (getD_of (by omega)).symm] at hcy
  obtain ⟨res, hres⟩ : ∃ res, res = qW ow x y := ⟨_, rfl⟩
  rw [← hres]
  have HR := Lib.hid (show res = ((ofL ow x : Int) == (ofL ow y : Int)) from hres)
  obtain ⟨u, hu⟩ : ∃ u, u = ofL ow x := ⟨_, rfl⟩
  obtain ⟨v, hv⟩ : ∃ v, v = ofL ow y := ⟨_, rfl⟩
  rw [← hu] at hcx HR
  rw [← hv] at hcy HR
  have i1 : (0 : Int) ≤ (x : Int) := by omega
  have i2 : (x : Int) < (n : Int) := by omega
  have i3 : (0 : Int) ≤ (y : Int) := by omega
  have i4 : (y : Int) < (n : Int) := by omega
  clear hres hu hv hm h3 h8 hc
  by_cases huv : (u : Int) = (v : Int)
  · have d1 : ((u : Int) == (v : Int)) = true := by simp only [beq_iff_eq]; exact huv
    have HN := Lib.hid (show res = true by rw [HR.out, d1])
    clear huv HR
    go_enter Tryd.func47, Tryd.ntmps47
    go_wp2
    go_quiet (fail)
    go_wp2
    go_ret
    exact ⟨by (rw [HN.out]; try rfl), below_drewN (Below.refl _ _) nq⟩
  · have d1 : ((u : Int) == (v : Int)) = false := by rw [beq_eq_false_iff_ne]; exact huv
    have HN := Lib.hid (show res = false by rw [HR.out, d1])
    clear huv HR
    go_enter Tryd.func47, Tryd.ntmps47
    go_wp2
    go_quiet (fail)
    go_wp2
    go_ret
    exact ⟨by (rw [HN.out]; try rfl), below_drewN (Below.refl _ _) nq⟩
set_option maxRecDepth 4096 in
set_option maxHeartbeats 3200000 in
theorem small1_any (W w : World) (RS : List Row) (g5 g3 : Nat) (N : Option Addr) (cN : Nat) (C : Option Addr) (n cc : Nat) (ow S : List Nat) (y : Nat) (hm : Mem W w (CellV 54 g5 (.slice N S.length cN) :: ⟨3, N, S.length, cN, nvs S⟩ :: RS)) (h3 : CellV 54 g3 (.slice C n cc) ∈ RS) (hc : (⟨3, C, n, cc, nvs ow⟩ : Row) ∈ RS) (hf : GFit n S) (hy : y < n) (hn : n ≤ 8) :
    Calls Tryd.prog 45 #[.int .i64 (y : Int), .pointer (some ⟨g5, 0, none⟩), .pointer (some ⟨g3, 0, none⟩)] w fun e w' => e = .returned (.int .i64 (gIdx (qW ow) S y : Nat)) ∧ ∃ N' cN', Mem W w' (CellV 54 g5 (.slice N' (gAdd (qW ow) S y).length cN') :: ⟨3, N', (gAdd (qW ow) S y).length, cN', nvs (gAdd (qW ow) S y)⟩ :: RS) := by
  have HM := Lib.hid (hm.newV 3 (.int .i64 (y : Int)) (b := w.heap.size) rfl)
  have hS8 : S.length ≤ 8 := by have := nodup_len _ _ hf.1 hf.2; omega
  have c5 := HM.out.cellV (e := 54) (b := g5) (v := .slice N S.length cN) (by simp)
  have HI := Lib.hid (indexFuncI_any 47 #[.pointer (some ⟨g3, 0, none⟩), .pointer (some ⟨w.heap.size, 0, none⟩)] (fun _ _ => rfl) N S.length cN S (fun k => qW ow (S.getD k 0) y) _ (HM.out.rd (r := ⟨3, N, S.length, cN, nvs S⟩) (by simp)) (by omega) (by
    intro w2 hb k hk
    have hm2 := HM.out.later hb
    show Calls Tryd.prog 47 _ _ _
    rw [getD_of hk]
    exact small11_any W w2 _ g3 w.heap.size C n cc ow S[k] y hm2 (by simp [h3]) (by simp) (by simp [hc]) (hf.2 _ (List.getElem_mem hk)) hy))
  rw [fidx_gIdx] at HI
  obtain ⟨p, hp⟩ : ∃ p, p = gIdx (qW ow) S y := ⟨_, rfl⟩
  have HG := Lib.hid (show gAdd (qW ow) S y = if p < S.length then S else S ++ [y] by rw [hp]; rfl)
  have HPl := Lib.hid (show p ≤ S.length by rw [hp]; exact gIdx_le S y)
  rw [← hp] at HI ⊢
  clear hp hm
  by_cases hps : p < S.length
  · have HG2 := Lib.hid (show gAdd (qW ow) S y = S by rw [HG.out, if_pos hps])
    rw [if_pos hps] at HI
    rw [HG2.out]
    have d2 : decide ((p : Int) < 0) = false := by simp
    clear HG hps
    go_enter Tryd.func45, Tryd.ntmps45
    go_wp2_with (go_at_call 46; refine HI.out.mono ?_; rintro e w2 ⟨rfl, hb2⟩)
    go_ret
    exact ⟨rfl, N, cN, (HM.out.later hb2).drop ((List.Sublist.refl _).cons _)⟩
  · have hpe : p = S.length := by have := HPl.out; omega
    have HG2 := Lib.hid (show gAdd (qW ow) S y = S ++ [y] by rw [HG.out, if_neg hps])
    rw [if_neg hps] at HI
    rw [HG2.out]
    obtain ⟨g8, hg8⟩ : ∃ g, g = w.heap.size := ⟨_, rfl⟩
    clear HG
    go_enter Tryd.func45, Tryd.ntmps45
    go_wp2_with (first
      | (go_at_call 46; refine HI.out.mono ?_; rintro e w2 ⟨rfl, hb2⟩; have HM2 := Lib.hid (HM.out.later hb2); have c52 := HM2.out.cellV (e := 54) (b := g5) (v := .slice N S.length cN) (by simp); have c82 := HM2.out.cellV (e := 3) (b := w.heap.size) (v := .int .i64 (y : Int)) (by simp))
      | (at_builtin; refine app_mem [CellV 3 w.heap.size (.int .i64 (y : Int)), CellV 54 g5 (.slice N S.length cN)] RS (.tmp 13) (.tmp 15) _ _ _ 8 rfl rfl Tryd.underlying54 infoI rfl rfl (HM2.out.alloc _) rfl (by omega) (Rd.one _ _ _) (by simp [Value.oneCell']) (by omega) (by omega) ?_; intro A8 c8 w8 hm8; have c58 := hm8.cellV (e := 54) (b := g5) (v := .slice N S.length cN) (by simp); have f58 := hm8.cellVF (e := 54) (b := g5) (v := .slice N S.length cN) (by simp)))
    have HM9 := Lib.hid (Mem.setV (pre := [CellV 3 w.heap.size (.int .i64 (y : Int))]) hm8 (.slice A8 (S.length + 1) c8))
    rw [← nvs_snoc] at HM9
    have HPE := Lib.hid hpe
    go_ret
    refine ⟨by (rw [HPE.out]; try rfl), A8, c8, ?_⟩
    rw [show (S ++ [y]).length = S.length + 1 by simp]
    exact HM9.out.drop ((List.Sublist.refl _).cons _)
theorem gAt_succ {q : Nat → Nat → Bool} {nx : Nat → List Nat} {st : Nat} {out : Nat → UInt8} {i : Nat} (h : i < (gAt q nx st i).length) : gAt q nx st (i + 1) = gAdds q (gAt q nx st i) (nx ((gAt q nx st i).getD i 0)) ∧ gRows q nx st (i + 1) = gRows q nx st i ++ [gRowS q (gAt q nx st i) (nx ((gAt q nx st i).getD i 0))] ∧ gOuts q nx st out (i + 1) = gOuts q nx st out i ++ [out ((gAt q nx st i).getD i 0)] := by
  refine ⟨?_, ?_, ?_⟩
  · show (if i < (gAt q nx st i).length then _ else _) = _
    rw [if_pos h]
  · show (if i < (gAt q nx st i).length then _ else _) = _
    rw [if_pos h]
  · show (if i < (gAt q nx st i).length then _ else _) = _
    rw [if_pos h]
theorem pAdd_get {q : Nat → Nat → Bool} {S : List Nat} (y : Nat) {i : Nat} (h : i < S.length) : (gAdd q S y)[i]? = S[i]? := by
  unfold gAdd
  split
  · rfl
  · rw [List.getElem?_append_left h]
theorem pAdds_get {q : Nat → Nat → Bool} : ∀ (ys : List Nat) {S : List Nat} {i : Nat}, i < S.length → (gAdds q S ys)[i]? = S[i]?
  | [], _, _, _ => rfl
  | y :: ys, S, i, h => by
    show (gAdds q (gAdd q S y) ys)[i]? = _
    rw [pAdds_get ys (Nat.lt_of_lt_of_le h (gAdd_len S y)), pAdd_get y h]
theorem Mem.nilP {W w : World} {L : List Row} (h : Mem W w L) (e : TypeId) {b : Nat} (hb : b = w.heap.size) : Mem W (w.alloc (.cells #[] e)) (⟨e, some ⟨b, 0, none⟩, 0, 0, []⟩ :: L) := by
  subst hb; exact h.add (Own.made0 (w0 := w) (w := w) (Below.refl _ _) e)
set_option maxRecDepth 4096 in
set_option maxHeartbeats 6400000 in
theorem small_any (b : Nat) (A : Option Addr) (n c : Nat) (zss : Tab) (o : List UInt8) (hgd : Good b zss) (hol : o.length = zss.length) (W : World) (hg : GIn W A n c zss) :
    Calls Tryd.prog 23 #[AutoV b A n c o] W fun e w' => ∃ A' n' c' rs, e = .returned (AutoV b A' n' c' (smOut zss o b)) ∧ Mem W w' (⟨54, A', n', c', rs.map SVal⟩ :: rs) ∧ rs.map Row.xs = (smTab zss o b).map ivs := by
  have HM0 := Lib.hid (((Mem.start W).box 25 b A n c o).box 25 0 none 0 0 [])
  have HG := Lib.hid hg
  have HGd := Lib.hid hgd
  have HLen := Lib.hid hg.len
  have HOL0 := Lib.hid hol
  have HCl := Lib.hid (fun (w : World) (h : GIn w A n c zss) => classes_any b A n c zss o hgd hol w h)
  rw [show (W.alloc (.cells #[.int .i64 (b : Int), .slice A n c, .string ⟨o.toArray⟩] 25)).heap.size = W.heap.size + 1 by simp] at HM0
  obtain ⟨g1, hg1⟩ : ∃ g, g = W.heap.size := ⟨_, rfl⟩
  obtain ⟨g2, hg2⟩ : ∃ g, g = W.heap.size + 1 := ⟨_, rfl⟩
  obtain ⟨w0, hw0⟩ : ∃ w0, w0 = (W.alloc (.cells #[.int .i64 (b : Int), .slice A n c, .string ⟨o.toArray⟩] 25)).alloc (.cells #[.int .i64 0, .slice none 0 0, .string ⟨#[]⟩] 25) := ⟨_, rfl⟩
  have HM1 := Lib.hid (show Mem W w0 [BoxR 25 g2 0 none 0 0 [], BoxR 25 g1 (b : Int) A n c o] by rw [hw0, hg1, hg2]; exact HM0.out)
  have HWW := Lib.hid hw0
  have HG1 := Lib.hid hg1
  have HG2 := Lib.hid hg2
  clear hg hgd hol hw0 hg1 hg2 HM0
  go_enter Tryd.func23, Tryd.ntmps23
  go_wp2
  rw [← HWW.out, ← HG2.out, ← HG1.out]
  clear HWW HG1 HG2
  obtain ⟨bx0, bx1, bx2⟩ := HM1.out.boxAt (t := 25) (g := g1) (b := (b : Int)) (A := A) (n := n) (c := c) (o := o) (by simp)
  have HC2 := Lib.hid (show ∀ (w : World) (L : List Row), Mem W w L → BoxR 25 g1 (b : Int) A n c o ∈ L → Below w0.heap.size w0 w → Calls Tryd.prog 44 #[AutoV b A n c o] w fun e w' => ∃ C cc ow, e = .returned (.slice C n cc) ∧ Mem W w' (⟨3, C, n, cc, nvs ow⟩ :: L) ∧ OwnOk zss o b n n ow ∧ Below w0.heap.size w0 w' by
    intro w L hm hb hB
    refine (HCl.out w (HG.out.later hm.bel)).mono ?_
    rintro e w' ⟨C, cc, ow, he, ho, hk⟩
    exact ⟨C, cc, ow, he, hm.add ho, hk, hB.trans (ho.bel.mono hB.size)⟩)
  have hl0 : g1 < w0.heap.size := World.block_lt_of_cell? w0 _ bx0
  have hne0 : ¬ g1 = w0.heap.size := by omega
  have hne1 : ¬ g1 = w0.heap.size + 1 := by omega
  have HMa := Lib.hid HM1.out.drew
  have HMb := Lib.hid (HM1.out.newV 54 (.slice none 0 0) (b := w0.heap.size) rfl).drew
  have HMc := Lib.hid (HM1.out.box 25 0 none 0 0 []).drew
  have HMd := Lib.hid ((HM1.out.newV 54 (.slice none 0 0) (b := w0.heap.size) rfl).box 25 0 none 0 0 []).drew
  have HMe := Lib.hid ((HM1.out.box 25 0 none 0 0 []).newV 54 (.slice none 0 0) (b := w0.heap.size + 1) (by simp)).drew
  rw [show (w0.alloc (.cells #[.slice none 0 0] 54)).heap.size = w0.heap.size + 1 by simp] at HMd
  have HCa := Lib.hid (HC2.out _ _ HMa.out (by simp) (by (repeat' (first | exact Below.refl _ _ | refine Below.drew ?_ | refine Below.alloc ?_ (by simp <;> omega) _))))
  have HCb := Lib.hid (HC2.out _ _ HMb.out (by simp) (by (repeat' (first | exact Below.refl _ _ | refine Below.drew ?_ | refine Below.alloc ?_ (by simp <;> omega) _))))
  have HCc := Lib.hid (HC2.out _ _ HMc.out (by simp) (by (repeat' (first | exact Below.refl _ _ | refine Below.drew ?_ | refine Below.alloc ?_ (by simp <;> omega) _))))
  have HCd := Lib.hid (HC2.out _ _ HMd.out (by simp) (by (repeat' (first | exact Below.refl _ _ | refine Below.drew ?_ | refine Below.alloc ?_ (by simp <;> omega) _))))
  have HCe := Lib.hid (HC2.out _ _ HMe.out (by simp) (by (repeat' (first | exact Below.refl _ _ | refine Below.drew ?_ | refine Below.alloc ?_ (by simp <;> omega) _))))
  clear HC2 HMa HMb HMc HMd HMe
  go_upto_region 1 with (fail)
  go_cut [3, 4] (fun s3 s4 wc => ∃ (g3 g4 : Nat) (C : Option Addr) (cc : Nat) (ow : List Nat), s3 = .pointer (some ⟨g3, 0, none⟩) ∧ s4 = .pointer (some ⟨g4, 0, none⟩) ∧ Mem W wc (CellV 54 g3 (.slice C n cc) :: BoxR 25 g4 (b : Int) none 0 0 [] :: ⟨3, C, n, cc, nvs ow⟩ :: [BoxR 25 g2 0 none 0 0 [], BoxR 25 g1 (b : Int) A n c o]) ∧ Hid (OwnOk zss o b n n ow))
  case first => as_aux_lemma =>
    go_region_held3 (fun w' => w'.cell? ⟨g1, 0, none⟩ = some (.int .i64 (b : Int)) ∧ w'.cell? ⟨g1, 1, none⟩ = some (.slice A n c) ∧ w'.cell? ⟨g1, 2, none⟩ = some (.string ⟨o.toArray⟩))
      (first | go_keep | exact ⟨q0, q1, q2⟩ | exact BoxAt.later (w := w0) ⟨bx0, bx1, bx2⟩ (by (repeat' (first | exact hB4 | refine Below.drew ?_ | refine Below.setCell ?_ (by simp) _ | refine Below.alloc ?_ (by have := hB4.size; simp <;> omega) _))))
      (first
        | (go_at_call 44; (with_reducible refine HCa.out.mono ?_); rintro e w4 ⟨C, cc, ow, rfl, hm4, hok, hB4⟩; obtain ⟨q0, q1, q2⟩ := hm4.boxAt (t := 25) (g := g1) (b := (b : Int)) (A := A) (n := n) (c := c) (o := o) (by simp); have hl4 := World.block_lt_of_cell? w4 _ q0)
        | (go_at_call 44; (with_reducible refine HCb.out.mono ?_); rintro e w4 ⟨C, cc, ow, rfl, hm4, hok, hB4⟩; obtain ⟨q0, q1, q2⟩ := hm4.boxAt (t := 25) (g := g1) (b := (b : Int)) (A := A) (n := n) (c := c) (o := o) (by simp); have hl4 := World.block_lt_of_cell? w4 _ q0; have c3 := hm4.cellV (e := 54) (b := w0.heap.size) (v := .slice none 0 0) (by simp); have f3 := hm4.cellVF (e := 54) (b := w0.heap.size) (v := .slice none 0 0) (by simp); have l3 := World.block_lt_of_cell? w4 _ c3)
        | (go_at_call 44; (with_reducible refine HCc.out.mono ?_); rintro e w4 ⟨C, cc, ow, rfl, hm4, hok, hB4⟩; obtain ⟨q0, q1, q2⟩ := hm4.boxAt (t := 25) (g := g1) (b := (b : Int)) (A := A) (n := n) (c := c) (o := o) (by simp); have hl4 := World.block_lt_of_cell? w4 _ q0; obtain ⟨c40, c41, c42⟩ := hm4.boxAt (t := 25) (g := w0.heap.size) (b := 0) (A := none) (n := 0) (c := 0) (o := []) (by simp); have f4 := fun j => hm4.boxFree (t := 25) (g := w0.heap.size) (b := 0) (A := none) (n := 0) (c := 0) (o := []) (by simp) j; have f40 := f4 0; have f41 := f4 1; have f42 := f4 2; have l4 := World.block_lt_of_cell? w4 _ c40)
        | (go_at_call 44; (with_reducible refine HCd.out.mono ?_); rintro e w4 ⟨C, cc, ow, rfl, hm4, hok, hB4⟩; obtain ⟨q0, q1, q2⟩ := hm4.boxAt (t := 25) (g := g1) (b := (b : Int)) (A := A) (n := n) (c := c) (o := o) (by simp); have hl4 := World.block_lt_of_cell? w4 _ q0; have c3 := hm4.cellV (e := 54) (b := w0.heap.size) (v := .slice none 0 0) (by simp); have f3 := hm4.cellVF (e := 54) (b := w0.heap.size) (v := .slice none 0 0) (by simp); have l3 := World.block_lt_of_cell? w4 _ c3; obtain ⟨c40, c41, c42⟩ := hm4.boxAt (t := 25) (g := w0.heap.size + 1) (b := 0) (A := none) (n := 0) (c := 0) (o := []) (by simp); have f4 := fun j => hm4.boxFree (t := 25) (g := w0.heap.size + 1) (b := 0) (A := none) (n := 0) (c := 0) (o := []) (by simp) j; have f40 := f4 0; have f41 := f4 1; have f42 := f4 2; have l4 := World.block_lt_of_cell? w4 _ c40)
        | (go_at_call 44; (with_reducible refine HCe.out.mono ?_); rintro e w4 ⟨C, cc, ow, rfl, hm4, hok, hB4⟩; obtain ⟨q0, q1, q2⟩ := hm4.boxAt (t := 25) (g := g1) (b := (b : Int)) (A := A) (n := n) (c := c) (o := o) (by simp); have hl4 := World.block_lt_of_cell? w4 _ q0; have c3 := hm4.cellV (e := 54) (b := w0.heap.size + 1) (v := .slice none 0 0) (by simp); have f3 := hm4.cellVF (e := 54) (b := w0.heap.size + 1) (v := .slice none 0 0) (by simp); have l3 := World.block_lt_of_cell? w4 _ c3; obtain ⟨c40, c41, c42⟩ := hm4.boxAt (t := 25) (g := w0.heap.size) (b := 0) (A := none) (n := 0) (c := 0) (o := []) (by simp); have f4 := fun j => hm4.boxFree (t := 25) (g := w0.heap.size) (b := 0) (A := none) (n := 0) (c := 0) (o := []) (by simp) j; have f40 := f4 0; have f41 := f4 1; have f42 := f4 2; have l4 := World.block_lt_of_cell? w4 _ c40))
    · have h := (hm4.newV 54 (.slice C n cc) (b := w4.heap.size) rfl).box 25 (b : Int) none 0 0 []
      rw [show (w4.alloc (.cells #[.slice C n cc] 54)).heap.size = w4.heap.size + 1 by simp] at h
      have HP := Lib.hid (h.perm (List.Perm.swap _ _ _))
      have HK := Lib.hid hok
      clear h hm4 hok
      go_wp2_with fail
      go_meet
      exact ⟨_, _, C, cc, ow, rfl, rfl, HP.out, HK⟩
    · have HP := Lib.hid ((hm4.box 25 (b : Int) none 0 0 []).newV 54 (.slice C n cc) (b := w4.heap.size + 1) (by simp))
      have HK := Lib.hid hok
      clear hm4 hok
      go_wp2_with fail
      go_meet
      exact ⟨_, _, C, cc, ow, rfl, rfl, HP.out, HK⟩
    · have h := (Mem.setV (pre := [_]) hm4 (.slice C n cc)).box 25 (b : Int) none 0 0 []
      rw [show (w4.setCell ⟨w0.heap.size, 0, none⟩ (.slice C n cc)).heap.size = w4.heap.size by simp] at h
      have HP := Lib.hid (h.perm (List.perm_middle (l₁ := [_, _])))
      have HK := Lib.hid hok
      clear h hm4 hok
      go_wp2_with fail
      go_meet
      exact ⟨_, _, C, cc, ow, rfl, rfl, HP.out, HK⟩
    · have h := Mem.boxAll (pre := [_]) (Mem.setV (pre := [_, _]) hm4 (.slice C n cc)) (b : Int) none 0 0 []
      have HP := Lib.hid (h.perm ((List.perm_middle (l₁ := [_, _])).trans (List.Perm.cons _ (List.Perm.swap _ _ _))))
      have HK := Lib.hid hok
      clear h hm4 hok
      go_wp2_with fail
      go_meet
      exact ⟨_, _, C, cc, ow, rfl, rfl, HP.out, HK⟩
    · have h := (Mem.boxAll (pre := [_]) hm4 (b : Int) none 0 0 []).newV 54 (.slice C n cc) (b := w4.heap.size) (by simp)
      have HP := Lib.hid (h.perm (List.Perm.cons _ (List.Perm.swap _ _ _)))
      have HK := Lib.hid hok
      clear h hm4 hok
      go_wp2_with fail
      go_meet
      exact ⟨_, _, C, cc, ow, rfl, rfl, HP.out, HK⟩
    · have h := Mem.boxAll (pre := [_, _]) (Mem.setV (pre := [_]) hm4 (.slice C n cc)) (b : Int) none 0 0 []
      have HP := Lib.hid (h.perm ((List.Perm.swap _ _ _).trans (List.Perm.cons _ (List.Perm.swap _ _ _))))
      have HK := Lib.hid hok
      clear h hm4 hok
      go_wp2_with fail
      go_meet
      exact ⟨_, _, C, cc, ow, rfl, rfl, HP.out, HK⟩
  case rest => as_aux_lemma =>
    obtain ⟨g3, g4, C, cc, ow, rfl, rfl, hmc, hok⟩ := hcut
    have HMc := Lib.hid hmc
    clear hmc HCa HCb HCc HCd HCe hne0 hne1 hl0 HCl bx0 bx1 bx2 HM1
    have hn8 : n ≤ 8 := by have := HGd.out.2.2.2.1; have := HLen.out; omega
    have hn1 : 1 ≤ n := by have := HGd.out.2.2.1; have := HLen.out; omega
    have hon : o.length = n := by rw [HOL0.out]; exact HLen.out
    have HT := Lib.hid (show ∀ s < n, ∀ y ∈ nxt zss b s, y < n from fun s hs y hy => by
      obtain ⟨d, hd, rfl⟩ := List.mem_map.1 hy
      have h := tab_lt HGd.out (s := s) (by rw [HLen.out]; exact hs) (List.mem_range.1 hd)
      rwa [HLen.out] at h)
    have HSim := Lib.hid (fun i => small_sim (o := o) HGd.out (own := fun j => ((ow.getD j 0 : Nat) : Int)) (fun i k hi hk => by
      rw [HLen.out] at hi hk
      have h := hok.out.2.2 i k hi hk
      show ((ow.getD i 0 : Nat) : Int) = ((ow.getD k 0 : Nat) : Int) ↔ cl zss o b zss.length i = cl zss o b zss.length k
      rw [HLen.out, ← h]
      exact Int.natCast_inj) i)
    have HFitA := Lib.hid (fun i => gAt_fit (q := qW ow) (nx := nxt zss b) (st := 0) (n := n) (qW_self ow) HT.out (by omega) i)
    obtain ⟨TL, hTL⟩ : ∃ TL : List Row, TL = [CellV 54 g3 (.slice C n cc), ⟨3, C, n, cc, nvs ow⟩, BoxR 25 g2 0 none 0 0 [], BoxR 25 g1 (b : Int) A n c o] := ⟨_, rfl⟩
    have HT3 := Lib.hid (show CellV 54 g3 (.slice C n cc) ∈ TL by rw [hTL]; simp)
    have HTC := Lib.hid (show (⟨3, C, n, cc, nvs ow⟩ : Row) ∈ TL by rw [hTL]; simp)
    have HT1 := Lib.hid (show BoxR 25 g1 (b : Int) A n c o ∈ TL by rw [hTL]; simp)
    have HT2 := Lib.hid (show BoxR 25 g2 0 none 0 0 [] ∈ TL by rw [hTL]; simp)
    have HTL := Lib.hid hTL
    have HM5 := Lib.hid (show Mem W ((wc.alloc (.cells #[.int .i64 ((0 : Nat) : Int)] 3)).alloc (.cells #[.slice (some ⟨wc.heap.size, 0, none⟩) 1 1] 54)) (CellV 54 (wc.heap.size + 1) (.slice (some ⟨wc.heap.size, 0, none⟩) (gAt (qW ow) (nxt zss b) 0 0).length 1) :: ⟨3, some ⟨wc.heap.size, 0, none⟩, (gAt (qW ow) (nxt zss b) 0 0).length, 1, nvs (gAt (qW ow) (nxt zss b) 0 0)⟩ :: ⟨54, none, 0, 0, ([] : List Row).map SVal⟩ :: ([] ++ BoxR 25 g4 (b : Int) none 0 0 (gOuts (qW ow) (nxt zss b) 0 (outS o) 0) :: TL)) by
      have h0 : Mem W wc (⟨54, none, 0, 0, []⟩ :: BoxR 25 g4 (b : Int) none 0 0 [] :: TL) := by
        rw [hTL]
        exact (HMc.out.perm (List.Perm.swap _ _ _)).add (Own.nil (Below.refl _ _) 54)
      have h1 := (h0.add (Own.made (w0 := wc) (w := wc) (Below.refl _ _) 3 [.int .i64 ((0 : Nat) : Int)] (by simp))).newV 54 (.slice (some ⟨wc.heap.size, 0, none⟩) 1 1) (b := wc.heap.size + 1) (by simp)
      exact h1)
    clear hTL HMc
    go_wp2_with fail
    obtain ⟨g5, hg5⟩ : ∃ g, g = wc.heap.size + 1 := ⟨_, rfl⟩
    rw [← hg5] at HM5 ⊢
    clear hg5
    go_loopw [7] (fun q wr => ∃ (i : Nat) (S : List Nat) (N : Option Addr) (cN : Nat) (A5 : Option Addr) (c5 : Nat) (rs : List Row), i ≤ S.length ∧ q = .int .i64 i ∧ Mem W wr (CellV 54 g5 (.slice N S.length cN) :: ⟨3, N, S.length, cN, nvs S⟩ :: ⟨54, A5, i, c5, rs.map SVal⟩ :: (rs ++ BoxR 25 g4 (b : Int) A5 i c5 (gOuts (qW ow) (nxt zss b) 0 (outS o) i) :: TL)) ∧ Hid (S = gAt (qW ow) (nxt zss b) 0 i) ∧ Hid (rs.map Row.xs = (gRows (qW ow) (nxt zss b) 0 i).map nvs)) (fun q _ => n - (intOf q).toNat)
    case atStart => exact ⟨0, _, _, 1, none, 0, [], Nat.zero_le _, rfl, HM5.out, Lib.hid rfl, Lib.hid rfl⟩
    case round =>
      clear HM5
      obtain ⟨i, S, N, cN, A5, c5, rs, him, rfl, hmem, HS, HX⟩ := hrel
      have HM := Lib.hid hmem
      clear hmem
      have HFit := Lib.hid (show GFit n S by rw [HS.out]; exact HFitA.out i)
      have hmn : S.length ≤ n := nodup_len _ _ HFit.out.1 HFit.out.2
      have hc5 := HM.out.cellV (e := 54) (b := g5) (v := .slice N S.length cN) (by simp)
      by_cases hlt : i < S.length
      · obtain ⟨hN1, hN2, hN3⟩ := gAt_succ (q := qW ow) (nx := nxt zss b) (st := 0) (out := outS o) (i := i) (by rw [← HS.out]; exact hlt)
        have hOl := (gRows_len (q := qW ow) (nx := nxt zss b) (st := 0) (out := outS o) i (by rw [← HS.out]; exact him)).2
        have HOl := Lib.hid hOl
        obtain ⟨ou, hou⟩ : ∃ ou, ou = gOuts (qW ow) (nxt zss b) 0 (outS o) i := ⟨_, rfl⟩
        rw [← hou] at hN3 HM HOl
        rw [← HS.out] at hN1 hN2 hN3
        obtain ⟨s, hs⟩ : ∃ s, s = S.getD i 0 := ⟨_, rfl⟩
        have HSi := Lib.hid (show S[i] = s by rw [hs, getD_of hlt])
        have hsn : s < n := HFit.out.2 s (by rw [← HSi.out]; exact List.getElem_mem hlt)
        have hsl : s < zss.length := by rw [HLen.out]; exact hsn
        rw [← hs] at hN1 hN2 hN3
        have HM6 := Lib.hid (HM.out.nilP 3 (b := wr.heap.size) rfl)
        obtain ⟨bx0, bx1, bx2⟩ := HM6.out.boxAt (t := 25) (g := g1) (b := (b : Int)) (A := A) (n := n) (c := c) (o := o) (by simp [HT1.out])
        have hc56 := HM6.out.cellV (e := 54) (b := g5) (v := .slice N S.length cN) (by simp)
        obtain ⟨aN, hAN, haNb, hcs⟩ := (HM6.out.rd (r := ⟨3, N, S.length, cN, nvs S⟩) (by simp)).nat (k := i) hlt
        subst hAN
        rw [HSi.out] at hcs
        obtain ⟨a, A1, m1, c1, rfl, hab, hcaW, hrd, hzl⟩ := HG.out.at hsl
        have hca := cell_keepA HM6.out.bel hcaW
        have hm1 : m1 = b := by have h1 := hrd.lenI; have h2 := (HGd.out.2.2.2.2 _ (List.getElem_mem hsl)).1; omega
        subst hm1
        have HRd := Lib.hid hrd
        have HTab := Lib.hid (fun d hd => tab_at HGd.out hsl (d := d) hd)
        have i1 : (0 : Int) ≤ (i : Int) := by omega
        have i2 : (i : Int) < (S.length : Int) := by omega
        have i3 : (0 : Int) ≤ (s : Int) := by omega
        have i4 : (s : Int) < (n : Int) := by omega
        have hb4 := HGd.out.2.1
        have HN1 := Lib.hid hN1
        have HN2 := Lib.hid hN2
        have HN3 := Lib.hid hN3
        clear hN1 hN2 hN3 hrd hzl hs hou HM hOl
        go_wp2_with fail
        go_quiet (fail)
        have HM7 := Lib.hid (HM6.out.later (below_drewN (Below.refl _ _) nq))
        obtain ⟨wq, hwq⟩ : ∃ wq, wq = (wr.alloc (.cells #[] 3)).drewN nq := ⟨_, rfl⟩
        obtain ⟨gR, hgR⟩ : ∃ gR, gR = wr.heap.size := ⟨_, rfl⟩
        rw [← hwq] at HM7 ⊢
        rw [← hgR] at HM7 ⊢
        obtain ⟨OL, hOL⟩ : ∃ OL : List Row, OL = (⟨54, A5, i, c5, rs.map SVal⟩ :: (rs ++ BoxR 25 g4 (m1 : Int) A5 i c5 ou :: TL)) := ⟨_, rfl⟩
        have HM8 := Lib.hid (show Mem W wq (CellV 54 g5 (.slice (some aN) S.length cN) :: ⟨3, some aN, S.length, cN, nvs S⟩ :: ⟨3, some ⟨gR, 0, none⟩, 0, 0, []⟩ :: OL) by
          rw [hOL]
          exact HM7.out.perm ((List.Perm.swap _ _ _).trans (List.Perm.cons _ (List.Perm.swap _ _ _))))
        have HO3 := Lib.hid (show CellV 54 g3 (.slice C n cc) ∈ OL by rw [hOL]; simp [HT3.out])
        have HOC := Lib.hid (show (⟨3, C, n, cc, nvs ow⟩ : Row) ∈ OL by rw [hOL]; simp [HTC.out])
        have HOL := Lib.hid hOL
        clear hwq hgR hOL bx0 bx1 bx2 hcs hca hcaW HM6 HM7 hc5 hc56
        obtain ⟨ys, hys⟩ : ∃ ys, ys = nxt zss m1 s := ⟨_, rfl⟩
        have HYl := Lib.hid (show ys.length = m1 by rw [hys]; exact nxt_len s)
        have HYg := Lib.hid (show ∀ d (hd : d < ys.length), ys[d] = tab zss s d by subst hys; intro d hd; simp [nxt])
        have HYf := Lib.hid (show ∀ y ∈ ys, y < n by rw [hys]; exact HT.out s hsn)
        rw [← hys] at HN1 HN2
        clear hys
        go_wp2_with fail
        go_loopw [34, 8] (fun q u wr => ∃ (d : Nat) (S' : List Nat) (N' : Option Addr) (cN' : Nat) (R' : Option Addr) (cR' : Nat), d ≤ m1 ∧ q = .int .i64 d ∧ u = .slice R' d cR' ∧ Mem W wr (CellV 54 g5 (.slice N' S'.length cN') :: ⟨3, N', S'.length, cN', nvs S'⟩ :: ⟨3, R', d, cR', nvs (gRowS (qW ow) S (ys.take d))⟩ :: OL) ∧ Hid (S' = gAdds (qW ow) S (ys.take d))) (fun q _ _ => m1 - (intOf q).toNat)
        case atStart => exact ⟨0, S, _, cN, _, 0, Nat.zero_le _, rfl, rfl, HM8.out, Lib.hid rfl⟩
        case round =>
          clear HM8
          obtain ⟨d, S', N', cN', R', cR', hd, rfl, rfl, hmem, HS'⟩ := hrel
          have HMd := Lib.hid hmem
          clear hmem
          by_cases hlt2 : d < m1
          · have hdy : d < ys.length := by rw [HYl.out]; exact hlt2
            have HSn := Lib.hid (gAdds_snoc (q := qW ow) (ys.take d) S ys[d])
            rw [← take_snoc ys d hdy, ← HS'.out] at HSn
            have HFd := Lib.hid (show GFit n S' by rw [HS'.out]; exact gAdds_fit (qW_self ow) _ HFit.out (fun y hy => HYf.out y (List.mem_of_mem_take hy)))
            have hyd : ys[d] < n := HYf.out _ (List.getElem_mem hdy)
            have hyc := HYg.out d hdy
            obtain ⟨t1, t2, t3⟩ := HTab.out d hlt2
            obtain ⟨a1, ha1, _, hcx⟩ := (HRd.out.later HMd.out.bel).int t2
            subst ha1
            rw [t3, ← hyc] at hcx
            obtain ⟨y, hy⟩ : ∃ y, y = ys[d] := ⟨_, rfl⟩
            rw [← hy] at HSn hyd hcx
            have HC := Lib.hid (small1_any W wr (⟨3, R', d, cR', nvs (gRowS (qW ow) S (ys.take d))⟩ :: OL) g5 g3 N' cN' C n cc ow S' y HMd.out (by simp [HO3.out]) (by simp [HOC.out]) HFd.out hyd hn8)
            obtain ⟨p, hp⟩ : ∃ p, p = gIdx (qW ow) S' y := ⟨_, rfl⟩
            rw [← hp] at HC HSn
            have j1 : (0 : Int) ≤ (y : Int) := by omega
            have j3 : (0 : Int) ≤ (d : Int) := by omega
            have j4 : (d : Int) < (m1 : Int) := by omega
            have dI : decide ((i : Int) < (S.length : Int)) = true := by simp; omega
            clear t2 t3 hyc hy hp
            go_wp2_with (first
              | (go_at_call 45; refine HC.out.mono ?_; rintro e w7 ⟨rfl, N7, cN7, hm7⟩)
              | (at_builtin; refine app_mem [CellV 54 g5 (.slice N7 (gAdd (qW ow) S' y).length cN7), ⟨3, N7, (gAdd (qW ow) S' y).length, cN7, nvs (gAdd (qW ow) S' y)⟩] OL (.tmp 38) (.tmp 42) _ _ _ 8 rfl rfl Tryd.underlying54 infoI rfl rfl (hm7.alloc _) rfl (by omega) (Rd.one _ _ _) (by simp [Value.oneCell']) (by omega) (by omega) ?_; intro A8 c8 w8 hm8))
            exact ⟨⟨d + 1, gAdd (qW ow) S' y, N7, cN7, A8, c8, by omega, by go_num, rfl, by rw [HSn.out.2, nvs_snoc]; exact hm8, Lib.hid HSn.out.1.symm⟩, by simp [intOf]; omega⟩
          · obtain rfl : m1 = d := by omega
            have HYall := Lib.hid (show ys.take m1 = ys from List.take_of_length_le (by rw [HYl.out]; exact Nat.le_refl _))
            rw [HYall.out] at HMd HS'
            have HGet := Lib.hid (show S'[i]? = S[i]? by rw [HS'.out]; exact pAdds_get (q := qW ow) ys hlt)
            have HS2 := Lib.hid (show S' = gAt (qW ow) (nxt zss m1) 0 (i + 1) by rw [HS'.out, HN1.out])
            have HSle := Lib.hid (show S.length ≤ S'.length by rw [HS'.out]; exact gAdds_len _ _)
            obtain ⟨r, hr⟩ : ∃ r, r = gRowS (qW ow) S ys := ⟨_, rfl⟩
            rw [← hr] at HMd HN2
            have HM9 := Lib.hid (show Mem W wr (CellV 54 g5 (.slice N' S'.length cN') :: ⟨3, N', S'.length, cN', nvs S'⟩ :: ⟨3, R', m1, cR', nvs r⟩ :: (⟨54, A5, i, c5, rs.map SVal⟩ :: (rs ++ BoxR 25 g4 (m1 : Int) A5 i c5 ou :: TL))) by rw [← HOL.out]; exact HMd.out)
            obtain ⟨by0, by1, by2⟩ := HM9.out.boxAt (t := 25) (g := g4) (b := (m1 : Int)) (A := A5) (n := i) (c := c5) (o := ou) (by simp)
            clear hr HMd HO3 HOC HOL HYg HYf HS'
            have hi8 : i ≤ 8 := by omega
            go_wp2_with (at_builtin; refine app_mem [CellV 54 g5 (.slice N' S'.length cN'), ⟨3, N', S'.length, cN', nvs S'⟩, ⟨3, R', m1, cR', nvs r⟩] (rs ++ BoxR 25 g4 (m1 : Int) A5 i c5 ou :: TL) (.tmp 46) (.tmp 48) _ _ _ 24 rfl rfl Tryd.underlying23 infoG rfl rfl (HM9.out.alloc _) rfl (by omega) (Rd.one _ _ _) (by simp [Value.oneCell']) (by omega) (by omega) ?_; intro A9 c9 w9 hm9; have bz1 := (hm9.boxAt (t := 25) (g := g4) (b := (m1 : Int)) (A := A5) (n := i) (c := c5) (o := ou) (by simp)).2.1; have bf1 := hm9.boxFree (t := 25) (g := g4) (b := (m1 : Int)) (A := A5) (n := i) (c := c5) (o := ou) (by simp) 1)
            have HM10 := Lib.hid (Mem.box1 (pre := CellV 54 g5 (.slice N' S'.length cN') :: ⟨3, N', S'.length, cN', nvs S'⟩ :: ⟨3, R', m1, cR', nvs r⟩ :: ⟨54, A9, i + 1, c9, rs.map SVal ++ [.slice R' m1 cR']⟩ :: rs) (post := TL) (by simpa using hm9) A9 (i + 1) c9)
            obtain ⟨wz, hwz⟩ : ∃ wz, wz = w9.setCell ⟨g4, 1, none⟩ (.slice A9 (i + 1) c9) := ⟨_, rfl⟩
            rw [← hwz] at HM10 ⊢
            clear hwz hm9 bz1 bf1 by0 by1 by2 HM9
            obtain ⟨bx0, bx1, bx2⟩ := HM10.out.boxAt (t := 25) (g := g1) (b := (m1 : Int)) (A := some a) (n := n) (c := c) (o := o) (by simp [HT1.out])
            obtain ⟨by0, by1, by2⟩ := HM10.out.boxAt (t := 25) (g := g4) (b := (m1 : Int)) (A := A9) (n := i + 1) (c := c9) (o := ou) (by simp)
            have bf2 := HM10.out.boxFree (t := 25) (g := g4) (b := (m1 : Int)) (A := A9) (n := i + 1) (c := c9) (o := ou) (by simp) 2
            have hc5z := HM10.out.cellV (e := 54) (b := g5) (v := .slice N' S'.length cN') (by simp)
            have him' : i < S'.length := by have := HSle.out; omega
            have HSi2 := Lib.hid (show S'[i]'him' = s by
              have h := HGet.out
              rw [List.getElem?_eq_getElem him', List.getElem?_eq_getElem hlt] at h
              have h2 := Option.some.inj h
              rw [h2]; exact HSi.out)
            obtain ⟨aN', hAN', _, hcs⟩ := (HM10.out.rd (r := ⟨3, N', S'.length, cN', nvs S'⟩) (by simp)).nat (k := i) him'
            subst hAN'
            rw [HSi2.out] at hcs
            have hso : s < o.length := by omega
            have HOs := Lib.hid (show outS o s = o[s] from getD_inA hso)
            have HDr := Lib.hid (show List.drop s (List.take (s + 1) o) = [o[s]] by
              rw [take_snoc o _ hso, List.drop_append_of_le_length (by rw [List.length_take]; omega), List.drop_eq_nil_of_le (by rw [List.length_take]; omega)]; rfl)
            rw [HOs.out] at HN3
            obtain ⟨ch, hch⟩ : ∃ ch, ch = o[s] := ⟨_, rfl⟩
            rw [← hch] at HN3 HDr
            have k1 : (0 : Int) ≤ (s : Int) := by omega
            have k2 : (s : Int) + 1 ≤ (o.length : Int) := by omega
            have k3 : (s : Int) ≤ (s : Int) + 1 := by omega
            have k4 : IntKind.i64.wrap ((s : Int) + 1) = (s : Int) + 1 := IntWalk.i64_in _ (by omega)
            have k5 : ((s : Int) + 1).toNat = s + 1 := by omega
            have k6 : s ≤ o.length := by omega
            have k7 : (i : Int) < (S'.length : Int) := by omega
            have hol2 : ou.length = i := HOl.out
            have hcat : ¬ 9223372036854775807 < ou.length + (List.drop s (List.take (s + 1) o)).length := by rw [HDr.out, hol2]; simp; omega
            have k8 : s + 1 ≤ o.length := by omega
            clear hch
            go_region
            have HM11 := Lib.hid ((Mem.box2 (pre := CellV 54 g5 (.slice (some aN') S'.length cN') :: ⟨3, some aN', S'.length, cN', nvs S'⟩ :: ⟨3, R', m1, cR', nvs r⟩ :: ⟨54, A9, i + 1, c9, rs.map SVal ++ [.slice R' m1 cR']⟩ :: rs) (post := TL) HM10.out (ou ++ List.drop s (List.take (s + 1) o))).drew)
            rw [HDr.out, ← HN3.out] at HM11
            rw [HDr.out]
            rw [show ou ++ [ch] = gOuts (qW ow) (nxt zss m1) 0 (outS o) (i + 1) from HN3.out.symm]
            obtain ⟨wy, hwy⟩ : ∃ wy, wy = (wz.setCell ⟨g4, 2, none⟩ (.string ⟨(gOuts (qW ow) (nxt zss m1) 0 (outS o) (i + 1)).toArray⟩)).drew := ⟨_, rfl⟩
            rw [← hwy] at HM11 ⊢
            clear hwy HM10 bx0 bx1 bx2 by0 by1 by2 bf2 hcs hc5z
            go_wp2
            refine ⟨⟨i + 1, S', some aN', cN', A9, c9, rs ++ [⟨3, R', m1, cR', nvs r⟩], by omega, by go_num, ?_, HS2, ?_⟩, by simp [intOf]; omega⟩
            · refine Mem.perm HM11.out ?_
              simp only [List.map_append, List.map_cons, List.map_nil, SVal, List.cons_append, List.append_assoc, List.nil_append]
              refine List.Perm.cons _ (List.Perm.cons _ ?_)
              exact (List.perm_middle (l₁ := ⟨54, A9, i + 1, c9, rs.map (fun r => .slice r.A r.n r.c) ++ [.slice R' m1 cR']⟩ :: rs)).symm
            · exact Lib.hid (by rw [HN2.out, List.map_append, List.map_append, HX.out]; rfl)
      · have hmi : S.length ≤ i := by omega
        obtain ⟨hs1, hs2, hs3⟩ := HSim.out i
        have hle : (smAt zss o b i).length ≤ i := by
          have h : (gAt (qW ow) (nxt zss b) 0 i).length = (smAt zss o b i).length := hs1
          rw [← h, ← HS.out]; exact hmi
        obtain ⟨he1, he2, he3⟩ := smAt_end (zss := zss) (o := o) HGd.out (i := i) hle (by rw [HLen.out]; omega)
        have HE3 := Lib.hid (show gOuts (qW ow) (nxt zss b) 0 (outS o) i = smOut zss o b from hs3.trans he3.symm)
        have HE2 := Lib.hid (show rs.map Row.xs = (smTab zss o b).map ivs by
          rw [HX.out]; unfold smTab; rw [he2, ← hs2, List.map_map]
          exact List.map_congr_left (fun r _ => nvs_ivs' r))
        obtain ⟨bx0, bx1, bx2⟩ := HM.out.boxAt (t := 25) (g := g4) (b := (b : Int)) (A := A5) (n := i) (c := c5) (o := gOuts (qW ow) (nxt zss b) 0 (outS o) i) (by simp)
        obtain ⟨by0, by1, by2⟩ := HM.out.boxAt (t := 25) (g := g2) (b := 0) (A := none) (n := 0) (c := 0) (o := []) (by simp [HT2.out])
        have fx := fun j => HM.out.boxFree (t := 25) (g := g2) (b := 0) (A := none) (n := 0) (c := 0) (o := []) (by simp [HT2.out]) j
        have fx0 := fx 0
        have fx1 := fx 1
        have fx2 := fx 2
        rw [HE3.out] at HM bx2
        obtain ⟨oo, hoo⟩ : ∃ oo, oo = smOut zss o b := ⟨_, rfl⟩
        rw [← hoo] at HM bx2
        have HOO := Lib.hid hoo
        clear fx he1 he2 he3 hs1 hs2 hs3 hle HX hoo
        repeat (first | go_values | go_skip | go_guarded | go_step | go_upon)
        (try simp only [Exit.inBlock, Exit.then])
        have HM9 := Lib.hid (Mem.boxAll (pre := CellV 54 g5 (.slice N S.length cN) :: ⟨3, N, S.length, cN, nvs S⟩ :: ⟨54, A5, i, c5, rs.map SVal⟩ :: (rs ++ [BoxR 25 g4 (b : Int) A5 i c5 oo, CellV 54 g3 (.slice C n cc), ⟨3, C, n, cc, nvs ow⟩])) (post := [BoxR 25 g1 (b : Int) A n c o]) (by have h := HM.out; rw [HTL.out] at h; simpa using h) (b : Int) A5 i c5 oo)
        obtain ⟨w9, hw9⟩ : ∃ w9, w9 = (((wr.setCell ⟨g2, 0, none⟩ (.int .i64 (b : Int))).setCell ⟨g2, 1, none⟩ (.slice A5 i c5)).setCell ⟨g2, 2, none⟩ (.string ⟨oo.toArray⟩)) := ⟨_, rfl⟩
        rw [← hw9] at HM9 ⊢
        clear hw9 HM bx0 bx1 bx2 by0 by1 by2 fx0 fx1 fx2
        obtain ⟨by0, by1, by2⟩ := HM9.out.boxAt (t := 25) (g := g2) (b := (b : Int)) (A := A5) (n := i) (c := c5) (o := oo) (by simp)
        refine bodyPost_ret (v := AutoV (b : Int) A5 i c5 oo) (by simp [results, Tryd.results23, go_sem, by0, by1, by2]) rfl ?_
        exact ⟨A5, i, c5, rs, by rw [HOO.out], HM9.out.drop (((((List.sublist_append_left rs _).cons_cons _).cons _).cons _).trans (List.sublist_append_left _ _)), HE2.out⟩
end Go.Proofs.YtcicoplmpinnmaaDoor
