/-
  A row of bytes of the call's own whose block may bear the mark of a conversion behind its cells: what '[]byte(s)' makes; reading it, appending a string's bytes onto it. No conditions.
-/
import Derived.Test.YtcicoplmpinnmaaDoorMem
import Derived.Test.YtcicoplmpinnmaaDoorRowW
import Derived.Lib.AppendStr
import Derived.Lib.ConvBytes
import Derived.Lib.FrozenHead
namespace Go.Proofs.YtcicoplmpinnmaaDoor
open Go.RowKit

def OwnM (w0 w : World) (e : TypeId) (A : Option Addr) (n c : Nat) (l : List UInt8) : Prop :=
  (∃ g cur fz, A = some ⟨g, 0, none⟩ ∧ w0.heap.size ≤ g ∧ w.heap[g]? = some (.cells cur e fz) ∧ (fz.2 = 0 ∨ cur.size ≤ fz.1) ∧ n ≤ c ∧ c ≤ maxLen ∧ cur.size = c ∧ l.length = n ∧ cur.toList.take n = bvs l) ∧ Below w0.heap.size w0 w
section
variable {w0 w w' : World} {e : TypeId} {A : Option Addr} {n c : Nat} {l : List UInt8}
theorem OwnM.bel (h : OwnM w0 w e A n c l) : Below w0.heap.size w0 w := h.2
theorem OwnM.len (h : OwnM w0 w e A n c l) : l.length = n := by obtain ⟨⟨_, _, _, _, _, _, _, _, _, _, h1, _⟩, _⟩ := h; exact h1
theorem OwnM.cap (h : OwnM w0 w e A n c l) : n ≤ c := by obtain ⟨⟨_, _, _, _, _, _, _, h1, _⟩, _⟩ := h; exact h1
theorem OwnM.later (h : OwnM w0 w e A n c l) (hb : Below w.heap.size w w') : OwnM w0 w' e A n c l := by
  obtain ⟨⟨g, cur, fz, hA, hg, hh, r⟩, hb0⟩ := h
  exact ⟨⟨g, cur, fz, hA, hg, by rw [hb.block g (Array.getElem?_eq_some_iff.1 hh).1]; exact hh, r⟩, hb0.trans (hb.mono hb0.size)⟩
theorem OwnM.up {w1 : World} (h : OwnM w1 w e A n c l) (hb : Below w0.heap.size w0 w1) : OwnM w0 w e A n c l := by
  obtain ⟨⟨g, cur, fz, hA, hg, r⟩, hb0⟩ := h
  exact ⟨⟨g, cur, fz, hA, Nat.le_trans hb.size hg, r⟩, hb.trans (hb0.mono hb.size)⟩
theorem OwnM.drew (h : OwnM w0 w e A n c l) : OwnM w0 w.drew e A n c l := h.later ((Below.refl _ _).drew)
theorem OwnM.drewN (h : OwnM w0 w e A n c l) (k : Nat) : OwnM w0 (w.drewN k) e A n c l := h.later (below_drewN (Below.refl _ _) k)
theorem OwnM.rd (h : OwnM w0 w e A n c l) : Rd w w.heap.size A n (bvs l) := by
  obtain ⟨⟨g, cur, fz, rfl, hg, hh, hfz, hnc, hcm, hcs, hl, ht⟩, _⟩ := h
  refine ⟨by simp [bvs, hl], fun j u hu => ⟨_, rfl, (Array.getElem?_eq_some_iff.1 hh).1, ?_⟩⟩
  have hadd : (⟨g, 0, none⟩ : Addr).add j = ⟨g, j, none⟩ := by unfold Addr.add; split <;> simp_all
  rw [hadd, cell_of_row w g j cur e fz hh]
  rw [← ht, List.getElem?_take] at hu
  split at hu
  · simpa using hu
  · cases hu
theorem strCells_bvs (y : List UInt8) : Lib.strCells ⟨y.toArray⟩ = bvs y := by simp [Lib.strCells, bvs]
theorem bytes_size (y : List UInt8) : (⟨y.toArray⟩ : ByteArray).size = y.length := by show y.toArray.size = _; simp
/-- '[]byte(s)' -/
theorem OwnM.made (hb : Below w0.heap.size w0 w) (e : TypeId) (y : List UInt8) (hy : y.length ≤ 140737488355328) :
    OwnM w0 (Lib.bytesWorld w e ⟨y.toArray⟩) e (some ⟨w.heap.size, 0, none⟩) (⟨y.toArray⟩ : ByteArray).size (grownCap w (⟨y.toArray⟩ : ByteArray).size 0 e) y := by
  have hsz := bytes_size y
  have hge := grownCap_ge w y.length 0 e
  have hcm : grownCap w y.length 0 e ≤ maxLen := grownCap_le_maxLen w y.length 0 e (by unfold maxLen; omega)
  have hcs : (Lib.bytesCells w e ⟨y.toArray⟩).size = grownCap w y.length 0 e := by
    unfold Lib.bytesCells
    rw [hsz]
    simp; omega
  rw [hsz]
  refine ⟨⟨w.heap.size, _, _, rfl, hb.size, Lib.bytesWorld_at_new w e ⟨y.toArray⟩, Or.inr (Nat.le_refl _), hge, hcm, hcs, rfl, ?_⟩, ?_⟩
  · unfold Lib.bytesCells
    simp only [Array.toList_append, Array.toList_map]
    rw [List.take_append_of_le_length (by simp), List.take_of_length_le (by simp)]
    simp [bvs]
  · have h1 : ∀ (W : World) (a : Addr), (W.freeze a 1).os = W.os ∧ (W.freeze a 1).tape = W.tape ∧ (W.freeze a 1).output = W.output := fun W a => by
      unfold World.freeze
      rw [if_neg (by decide)]
      exact ⟨rfl, rfl, rfl⟩
    refine ⟨?_, ?_, ?_, by rw [Lib.bytesWorld_size]; have := hb.size; omega, fun k hk => ?_⟩
    · exact (h1 _ _).1.trans hb.os
    · exact (h1 _ _).2.1.trans hb.tape
    · exact (h1 _ _).2.2.trans hb.output
    · rw [Lib.bytesWorld_at_old w e ⟨y.toArray⟩ k (by have := hb.size; omega)]; exact hb.block k hk
/-- storing into the row, its mark lying behind -/
theorem store_atM (P : Program) (g o : Nat) (t : TypeId) (fz : Nat × Nat) : ∀ (vs : List Value) (i : Nat) (cur : Array Value) (w : World), w.heap[g]? = some (.cells cur t fz) → (fz.2 = 0 ∨ cur.size ≤ fz.1) → o + i + vs.length ≤ cur.size → (∀ v ∈ vs, v.oneCell' = true) →
    (storeCells ⟨g, o, none⟩ vs i).run P w = .ok () (w.setRow g (cur.toList.take (o + i) ++ vs ++ cur.toList.drop (o + i + vs.length)).toArray)
  | [], i, cur, w, hg, _, _, _ => by
    simp only [storeCells, List.append_nil, List.length_nil, Nat.add_zero, List.take_append_drop, Array.toArray_toList]
    rw [setRow_self w g cur t fz hg]
    rfl
  | v :: rest, i, cur, w, hg, hfz, hl, h1 => by
    have hi : o + i < cur.size := by simp at hl; omega
    have hadd : (⟨g, o, none⟩ : Addr).add i = ⟨g, o + i, none⟩ := by unfold Addr.add; split <;> simp_all
    have hcell : w.cell? ⟨g, o + i, none⟩ = some cur[o + i] := by simp [World.cell?, hg, hi]
    have hfro : w.frozen? ⟨g, o + i, none⟩ = false := by
      obtain ⟨lo, hi'⟩ := fz
      simp only [World.frozen?, hg, Bool.and_eq_false_iff, decide_eq_false_iff_not]
      simp only at hfz
      omega
    have hst : (store ((⟨g, o, none⟩ : Addr).add i) v).run P w = .ok () (w.setRow g (cur.setIfInBounds (o + i) v)) := by
      rw [hadd, run_store P w _ v _ (h1 v (by simp)), hcell]
      simp [hfro, setCell_eq_setRow w g (o + i) cur t fz v hg]
    have ih := store_atM P g o t fz rest (i + 1) (cur.setIfInBounds (o + i) v) (w.setRow g (cur.setIfInBounds (o + i) v)) (setRow_heap w g cur _ t _ hg) (by simpa using hfz) (by simp at hl ⊢; omega) (fun x hx => h1 x (by simp [hx]))
    simp only [storeCells, Sem.run_bind, hst, Result.andThen_ok, ih, setRow_setRow]
    congr 3
    have e := list_seg_step cur.toList (o + i) v rest (by simp at hl ⊢; omega)
    simpa [Array.toList_setIfInBounds, Nat.add_assoc] using e
/-- append of a string's bytes -/
theorem run_app_strM {P : Program} (t u ty : TypeId) (ht : P.underlying t = some (.slice e)) (hu : P.underlying u = some .string) (hinf : (P.info? e).map (fun i => (i.zero, i.size, i.bytes)) = some (some (.int .u8 0), 1, 1))
    (h : OwnM w0 w e A n c l) (y : List UInt8) (hbytes : n + y.length ≤ 140737488355328) :
    ∃ A' c' w', (Builtin.append_ #[t, u] ty #[.slice A n c, .string ⟨y.toArray⟩]).run P w = .ok (.slice A' (n + y.length) c') w' ∧ OwnM w0 w' e A' (n + y.length) c' (l ++ y) ∧ ∀ p j v, A = some p → (bvs l)[j]? = some v → w'.cell? (p.add j) = some v := by
  obtain ⟨i, hi, hz, hsz, hby⟩ := info_parts hinf
  have hsize := bytes_size y
  have hlen := h.len
  have hbel := h.bel
  have hrd := h.rd
  obtain ⟨⟨g, cur, fz, rfl, hg, hh, hfz, hnc, hcm, hcs, hl, ht2⟩, hb⟩ := h
  by_cases hroom : n + y.length ≤ c
  · have hf := Lib.run_firstCells_string (P := P) w 1 ⟨y.toArray⟩
    have hst := store_atM P g n e fz (Lib.strCells ⟨y.toArray⟩) 0 cur w hh hfz (by rw [Lib.strCells_length, hsize]; omega) (Lib.strCells_oneCell _)
    simp only [Nat.add_zero, Lib.strCells_length] at hst
    have hroom' : n + (⟨y.toArray⟩ : ByteArray).size ≤ c := by rw [hsize]; exact hroom
    have hr : (Builtin.append_ #[t, u] ty #[.slice (some ⟨g, 0, none⟩) n c, .string ⟨y.toArray⟩]).run P w =
        .ok (.slice (some ⟨g, 0, none⟩) (n + (⟨y.toArray⟩ : ByteArray).size) c) (w.setRow g (cur.toList.take n ++ Lib.strCells ⟨y.toArray⟩ ++ cur.toList.drop (n + (⟨y.toArray⟩ : ByteArray).size)).toArray) := by
      simp [Builtin.append_, run_underlying ht, run_underlying hu, sizeOf, typeInfo, hi, hsz, Builtin.lenOf, hroom', hf, Addr.add_lit, hst]
    rw [hsize] at hr
    have hM : OwnM w0 (w.setRow g (cur.toList.take n ++ Lib.strCells ⟨y.toArray⟩ ++ cur.toList.drop (n + y.length)).toArray) e (some ⟨g, 0, none⟩) (n + y.length) c (l ++ y) := ?_
    refine ⟨_, _, _, hr, hM, fun p j v hp hv => ?_⟩
    · injection hp with hp
      subst hp
      obtain ⟨a, ha, _, hc⟩ := hM.rd.2 j v (by rw [bvs, List.map_append, List.getElem?_append_left (by simpa [bvs] using (List.getElem?_eq_some_iff.1 hv).1)]; exact hv)
      injection ha with ha
      rw [ha]; exact hc
    refine ⟨⟨g, _, fz, rfl, hg, setRow_heap w g cur _ e _ hh, ?_, hroom, hcm, ?_, by rw [List.length_append]; omega, ?_⟩, ?_⟩
    · have : (cur.toList.take n ++ Lib.strCells ⟨y.toArray⟩ ++ cur.toList.drop (n + y.length)).toArray.size = cur.size := by
        simp only [List.size_toArray, List.length_append, List.length_take, List.length_drop, Array.length_toList, Lib.strCells_length, hsize]; omega
      rw [this]; exact hfz
    · simp only [List.size_toArray, List.length_append, List.length_take, List.length_drop, Array.length_toList, Lib.strCells_length, hsize]; omega
    · rw [ht2, strCells_bvs]
      have e1 : n + y.length = (bvs l ++ bvs y).length := by simp [bvs, hl]
      show List.take _ ((bvs l ++ bvs y) ++ _) = _
      rw [e1, List.take_left]
      simp [bvs]
    · refine ⟨hb.os, hb.tape, hb.output, by have := hb.size; simpa using this, fun k hk => ?_⟩
      rw [setRow_other w g k _ (by omega)]; exact hb.block k hk
  · have holds : ∀ j v, (bvs l)[j]? = some v → w.cell? ((⟨g, 0, none⟩ : Addr).add j) = some v := fun j v hv => by
      obtain ⟨a, ha, _, hc⟩ := hrd.2 j v hv
      injection ha with ha
      rw [ha]; exact hc
    have hge := grownCap_ge w (n + y.length) c e
    have hcm2 : grownCap w (n + y.length) c e ≤ maxLen := grownCap_le_maxLen w (n + y.length) c e (by unfold maxLen; omega)
    have hr := Lib.run_append_grow_string (P := P) w t u ty e i (.int .u8 0) ht hu hi hz ⟨g, 0, none⟩ n c (bvs l) (by rw [hsz]; simp [bvs, hl]) holds ⟨y.toArray⟩ (by rw [hsize]; omega) (by rw [hsize]; omega) (by rw [hby, hsize]; exact growslice_fits (by omega) (by omega))
    rw [hsize, strCells_bvs] at hr
    refine ⟨_, _, _, hr, ⟨⟨w.heap.size, _, _, rfl, hb.size, heap_alloc_new w.drew _, Or.inl rfl, hge, hcm2, ?_, by rw [List.length_append]; omega, ?_⟩, ?_⟩, fun p j v hp hv => ?_⟩
    · have hz1 : (Value.int IntKind.u8 0).cells.size = 1 := rfl
      simp only [Array.size_append, List.size_toArray, size_zeroCells, hz1, bvs, List.length_map]
      omega
    · simp only [Array.toList_append]
      have e1 : n + y.length = (bvs l ++ bvs y).length := by simp [bvs, hl]
      rw [show (bvs l).toArray.toList ++ (bvs y).toArray.toList ++ (Builtin.zeroCells (Value.int IntKind.u8 0).cells (grownCap w (n + y.length) c e - (n + y.length))).toList = (bvs l ++ bvs y) ++ (Builtin.zeroCells (Value.int IntKind.u8 0).cells (grownCap w (n + y.length) c e - (n + y.length))).toList by simp]
      rw [e1, List.take_left]
      simp [bvs]
    · exact (hb.drew).alloc (by have := hb.size; simpa using this) _
    · injection hp with hp
      subst hp
      have hcv := holds j v hv
      have hB : Below w.heap.size w (w.drew.alloc (.cells ((bvs l).toArray ++ (bvs y).toArray ++ Builtin.zeroCells (Value.int IntKind.u8 0).cells (grownCap w (n + y.length) c e - (n + y.length))) e)) := ((Below.refl _ _).drew).alloc (by simp) _
      rw [hB.cell (World.block_lt_of_cell? w _ hcv)]; exact hcv
theorem step_app_strM {P : Program} {ops : Array Oper} {o : Oper} {a : Act} {K : Act → World → Prop} {Q : Exit → Act → World → Prop} {E : Prop} (s x : Operand) (t u e : TypeId)
    (hgd : o.guard = none) (ho : o.op = .call { callee := .builtin .append, args := #[s, x], argTypes := #[t, u] })
    (ht : P.underlying t = some (.slice e)) (hu : P.underlying u = some .string) (hinf : (P.info? e).map (fun i => (i.zero, i.size, i.bytes)) = some (some (.int .u8 0), 1, 1))
    (hs : a.eval s = .slice A n c) (hown : OwnM w0 w e A n c l)
    {y : List UInt8} (hx : a.eval x = .string ⟨y.toArray⟩)
    (hbytes : n + y.length ≤ 140737488355328)
    (h : ∀ A' c' w', OwnM w0 w' e A' (n + y.length) c' (l ++ y) → (∀ p j v, A = some p → (bvs l)[j]? = some v → w'.cell? (p.add j) = some v) → K (a.put o.dst (.slice A' (n + y.length) c')) w') :
    if Region.wanted o (yielded ops a.tmps) = true then Oper.wp P o a w K Q else E := by
  have hw : Region.wanted o (yielded ops a.tmps) = true := by simp [Region.wanted, hgd]
  rw [if_pos hw]
  obtain ⟨A', c', w', hr, h2, h3⟩ := run_app_strM (P := P) t u o.type ht hu hinf hown y hbytes
  unfold Oper.wp execOp
  simp only [ho, resolve, invoke, builtin, Sem.run_bind, Sem.run_pure, Result.andThen_ok, List.map_toArray, List.map_cons, List.map_nil, hs, hx, hr]
  exact h A' c' w' h2 h3
theorem conv_strM {P : Program} (src dst e : TypeId) (hs : P.underlying src = some .string) (hd : P.underlying dst = some (.slice e)) (he : P.underlying e = some (.int .u8)) (y : List UInt8) (hy : y.length ≤ 140737488355328) (hb : Below w0.heap.size w0 w) :
    ∃ A' c' w', (convert src dst (.string ⟨y.toArray⟩)).run P w = .ok (.slice A' y.length c') w' ∧ OwnM w0 w' e A' y.length c' y := by
  have hr := Lib.run_convert_string_bytes (P := P) w src dst e ⟨y.toArray⟩ hs hd he
  have h2 := OwnM.made hb e y hy
  rw [bytes_size] at hr h2
  exact ⟨_, _, _, hr, h2⟩
end
end Go.Proofs.YtcicoplmpinnmaaDoor
