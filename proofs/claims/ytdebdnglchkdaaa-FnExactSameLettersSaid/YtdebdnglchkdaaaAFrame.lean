/-
  How an automaton as a law's argument is opened. No conditions.
-/
import Derived.Test.YtdebdnglchkdaaaFrame
import Derived.Test.YtdebdnglchkdaaaAHelp
import Derived.Deep.Matrix
import Derived.Lib.SmallJoins
namespace Go.Proofs.Ytdebdnglchkdaaa
open Go.ChangeShapes Go.WideShapes Go.ChangeAt Go.RowKit Go.Joins Go.Deep

section
variable {H : Type} {enc : TypeId × Value → H} {P : Program} {W : World} {v : Value} {d : DataW H} {ps : List MemPlace}
theorem grid_of {te t e q : TypeId} {fuel : Nat} {cs : List Value} {x : DataW H × List MemPlace} (ht : P.underlying t = some (.slice e)) (he : P.underlying e = some (.slice q)) (hq : P.underlying q = some (.int .i64))
    (ce : P.cellsOf e = 1) (cq : P.cellsOf q = 1) (h : DataW.trod enc P W 0 (fun _ => true) true fuel t cs = some x) : ∃ A n c zss, cs = [.slice A n c] ∧ GArg W A n c zss := by
  rcases Go.Deep.open_int_rows ht he hq ce cq h with ⟨rfl, _⟩ | ⟨a, len, cap, A, L, C, Z, rfl, _, hl, hm, _, hr⟩
  · exact ⟨none, 0, 0, [], rfl, [], ⟨Rd.zero, by simp⟩, rfl, Nat.le_refl _, by omega, by simp⟩
  · refine ⟨some a, len, cap, (List.range len).map fun r => (Z r).take (L r), rfl, (List.range len).map fun r => ⟨te, A r, L r, C r, ivs ((Z r).take (L r))⟩, ⟨?_, ?_⟩, ?_, hl, by unfold maxLen at hm; omega, ?_⟩
    · refine rd_of_cells (m := cap) (f := fun r => .slice (A r) (L r) (C r)) (by simp) hl ?_ (fun i hi => (hr i hi).1)
      intro j u hu
      obtain ⟨hj, rfl⟩ := List.getElem?_eq_some_iff.1 hu
      simp [SVal]
    · intro r hrm
      obtain ⟨j, hj, rfl⟩ := List.mem_map.1 hrm
      have hj2 : j < cap := by have := List.mem_range.1 hj; omega
      obtain ⟨_, h2, h3, h4, _, h6, h7⟩ := hr j hj2
      show Rd W W.heap.size (A j) (L j) (ivs ((Z j).take (L j)))
      cases hA : A j with
      | none =>
        have := h6 hA
        have hz : L j = 0 := by omega
        rw [hz]; exact Rd.zero
      | some a' =>
        obtain ⟨_, h8⟩ := h7 a' hA
        refine rd_of_cells (m := C j) (f := fun i => .int .i64 ((Z j).getD i 0)) (by simp [ivs]; omega) h2 ?_ h8
        intro i u hu
        obtain ⟨hi, rfl⟩ := List.getElem?_eq_some_iff.1 hu
        simp [ivs] at hi ⊢
        rw [List.getElem?_eq_getElem (by omega)]; rfl
    · simp
    · intro z hz
      obtain ⟨j, hj, rfl⟩ := List.mem_map.1 hz
      have hj2 : j < cap := by have := List.mem_range.1 hj; omega
      obtain ⟨_, h2, h3, h4, _⟩ := hr j hj2
      unfold maxLen at h3
      simp; omega
theorem arg_auto {r : Reach} {b0 : Nat} {t e q : TypeId} {f0 f1 f2 : Field} (hs : P.underlying t = some (.struct #[f0, f1, f2])) (hone : oneCellFields P #[f0, f1, f2] = true) (hC : P.cellsOf t = 3)
    (h0 : P.underlying f0.type = some (.int .i64)) (h1 : P.underlying f1.type = some (.slice e)) (he : P.underlying e = some (.slice q)) (hq : P.underlying q = some (.int .i64)) (ce : P.cellsOf e = 1) (cq : P.cellsOf q = 1) (h2 : P.underlying f2.type = some .string)
    (hval : Value.okWide P W r b0 t v) (hd : DataW.Trod enc P W 0 (fun _ => true) true t v d ps) :
    ∃ b A n c zss o, v = AutoV b A n c o ∧ GArg W A n c zss ∧ StrArg o := by
  obtain ⟨v0, v1, v2, y0, y1, y2, m, rfl, _, _, k0, k1, k2⟩ := open_agg3 hs hone hC hval hd
  obtain ⟨b, hb, _⟩ := DataW.trod_int h0 k0
  obtain ⟨A, n, c, zss, hn, hg⟩ := grid_of (te := q) h1 he hq ce cq k1
  obtain ⟨s, hs2, _, hsz⟩ := DataW.trod_string h2 k2
  obtain ⟨o, rfl, ho⟩ := arg_str s hsz
  simp only [List.cons.injEq, and_true] at hb hn hs2
  subst hb hn hs2
  exact ⟨b, A, n, c, zss, o, rfl, hg, ho⟩
end
end Go.Proofs.Ytdebdnglchkdaaa
