/-
  Contracts of the laws' own helpers on substitutions: size, copy, equality of equals, marks; how a substitution as an argument is opened. No conditions beyond small lengths.
-/
import Derived.Test.YtcicoplmpinnmaaDoorASub
import Derived.Test.YtcicoplmpinnmaaDoorAHelp
import Derived.Test.YtcicoplmpinnmaaDoorAOf
import Derived.Test.YtcicoplmpinnmaaDoorHelpS
import Derived.Test.YtcicoplmpinnmaaDoorFrame
import Derived.Lib.SmallJoins
namespace Go.Proofs.YtcicoplmpinnmaaDoor
open Go.ChangeShapes Go.WideShapes Go.ChangeAt Go.RowKit Go.Joins Go.Deep

theorem Mem.sub0 {W w : World} {pre post : List Row} {t : TypeId} {g : Nat} {A : Option Addr} {n c : Nat} (h : Mem W w (pre ++ SubR t g A n c :: post)) (A' : Option Addr) (n' c' : Nat) : Mem W (w.setCell ⟨g, 0, none⟩ (.slice A' n' c')) (pre ++ SubR t g A' n' c' :: post) := by
  have h1 := World.ownsRow.stored (h.row (r := SubR t g A n c) (by simp)) 0 (.slice A' n' c')
  exact h.mark (pre := pre) (post := post) (ys := [.slice A' n' c']) h1.1 (Nat.le_refl _) h1.2
theorem Mem.subFree {W w : World} {L : List Row} (h : Mem W w L) {t : TypeId} {g : Nat} {A : Option Addr} {n c : Nat} (hr : SubR t g A n c ∈ L) (j : Nat) : w.frozen? ⟨g, j, none⟩ = false := (h.row hr).frozenAt j
section
variable {H : Type} {enc : TypeId × Value → H} {P : Program} {W : World} {v : Value} {d : DataW H} {ps : List MemPlace}
theorem strs_of {t e : TypeId} {fuel : Nat} {cs : List Value} {x : DataW H × List MemPlace} (ht : P.underlying t = some (.slice e)) (he : P.underlying e = some .string) (hc : P.cellsOf e = 1)
    (h : DataW.trod enc P W 0 (fun _ => true) true fuel t cs = some x) : ∃ A n c ss, cs = [.slice A n c] ∧ StrsArg W A n c ss := by
  rcases open_strings ht he hc h with ⟨hcs, _⟩ | ⟨a, l, cap, ss, hcs, _, hl, hm, hz, _, hcell, hws⟩
  · exact ⟨_, _, _, [], hcs, Rd.zero, by omega, by omega, by simp⟩
  · simp at hz
    refine ⟨_, _, _, (ss.take l).map (·.data.toList), hcs, rd_of_cells (m := ss.length) (f := fun i => .string (ss.getD i ByteArray.empty)) (by simp [svs]; omega) (by omega) ?_ hcell, hl, by unfold maxLen at hm; omega, ?_⟩
    · intro j u hu
      obtain ⟨hj, rfl⟩ := List.getElem?_eq_some_iff.1 hu
      simp [svs] at hj ⊢
      rw [List.getElem?_eq_getElem (by omega)]; rfl
    · intro s hs
      obtain ⟨x, hx, rfl⟩ := List.mem_map.1 hs
      have h := hws x (List.mem_of_mem_take hx)
      have e : x.data.toList.length = x.data.size := Array.length_toList
      have e2 : x.size = x.data.size := rfl
      unfold maxLen at h; omega
theorem arg_subst {r : Reach} {b0 : Nat} {t e : TypeId} {f0 : Field} (hs : P.underlying t = some (.struct #[f0])) (hone : oneCellFields P #[f0] = true) (hC : P.cellsOf t = 1)
    (h0 : P.underlying f0.type = some (.slice e)) (he : P.underlying e = some .string) (ce : P.cellsOf e = 1)
    (hval : Value.okWide P W r b0 t v) (hd : DataW.Trod enc P W 0 (fun _ => true) true t v d ps) :
    ∃ A n c ss, v = SubV A n c ∧ StrsArg W A n c ss := by
  obtain ⟨cs, rfl, hsz⟩ := okWide_struct hs hval
  obtain ⟨c0, rfl⟩ : ∃ c0, cs = #[c0] := by
    obtain ⟨l⟩ := cs
    match l, (hsz.trans hC) with
    | [c0], _ => exact ⟨c0, rfl⟩
  obtain ⟨fuel, hf⟩ := hd
  obtain ⟨y0, m, hx, hlen, k0⟩ := trod_struct1 hs hf
  obtain ⟨o0, k00⟩ := hone_of hone 0 f0 rfl
  have k1 : DataW.trod enc P W 0 (fun _ => true) true m f0.type [c0] = some y0 := by simpa [Value.cells, o0, k00] using k0
  obtain ⟨A, n, c, ss, hn, hg⟩ := strs_of h0 he ce k1
  simp only [List.cons.injEq, and_true] at hn
  subst hn
  exact ⟨A, n, c, ss, rfl, hg⟩
end
end Go.Proofs.YtcicoplmpinnmaaDoor
