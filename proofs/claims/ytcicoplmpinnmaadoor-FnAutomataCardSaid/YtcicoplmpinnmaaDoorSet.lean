/-
  A set kept in a map[string]bool that the call makes: it holds just the words of an ordered list. No conditions.
-/
import Derived.Test.YtcicoplmpinnmaaDoorIns
import Derived.Maps.OwnSet
import Derived.Maps.OwnOps
namespace Go.Proofs.YtcicoplmpinnmaaDoor
open Go.RowKit Go.Maps Go.WideMaps

abbrev SD := DataW Unit
/-- the map's datum D holds just the words of the ordered list S -/
def SetIs (D : SD) (S : List (List UInt8)) : Prop := Tidy D ∧ Maps.size D = S.length ∧ ∀ k, Maps.has D (.string k) = decide (k ∈ S)
theorem SetIs.none : SetIs (.map []) [] := ⟨tidy_empty, rfl, fun k => by simp [has_eq]⟩
theorem SetIs.put {D : SD} {S : List (List UInt8)} (h : SetIs D S) (hS : Srt S) (x : List UInt8) (u : SD) : SetIs (D.put (.string x) u) (insS x S) := by
  obtain ⟨h1, h2, h3⟩ := h
  refine ⟨h1.put (show WideAt.IsKeyLit (.string x) from trivial) u, ?_, fun k => ?_⟩
  · rw [size_put h1, h3 x, len_insS x hS, h2]
    by_cases hm : x ∈ S <;> simp [hm]
  · by_cases e : k = x
    · subst e
      rw [has_put_same h1.isMap (show WideAt.IsKeyLit (.string k) from trivial)]
      simp [mem_insS]
    · rw [has_put_other (show Lit.string k ≠ Lit.string x by simpa using e), h3 k]
      simp [mem_insS, e]

/-- the set lies in block b of w -/
def SetAt (P : Program) (kt et : TypeId) (w : World) (b n : Nat) (S : List (List UInt8)) : Prop := ∃ D : SD, w.ownsMap P kt (plainElem P et) b n D ∧ SetIs D S
section
variable {P : Program} {kt et : TypeId} {w w' : World} {b n : Nat} {S : List (List UInt8)}
theorem SetAt.made (w : World) : SetAt P kt et (w.alloc (.map #[] 0)) w.heap.size 0 [] := ⟨_, World.ownsMap_made _ _ _ _, SetIs.none⟩
theorem SetAt.lt (h : SetAt P kt et w b n S) : b < w.heap.size := let ⟨_, h1, _⟩ := h; h1.lt
theorem SetAt.later (h : SetAt P kt et w b n S) (hb : Below w.heap.size w w') : SetAt P kt et w' b n S := by
  obtain ⟨D, h1, h2⟩ := h
  exact ⟨D, h1.kept (grown_of_below hb none) (by simp), h2⟩
theorem SetAt.alloc (h : SetAt P kt et w b n S) (o : Obj) : SetAt P kt et (w.alloc o) b n S := by
  obtain ⟨D, h1, h2⟩ := h
  exact ⟨D, h1.alloc o, h2⟩
theorem SetAt.mono (h : SetAt P kt et w b n S) {m : Nat} (hm : n ≤ m) : SetAt P kt et w b m S := by
  obtain ⟨D, h1, h2⟩ := h
  exact ⟨D, h1.mono hm, h2⟩

/-- 'm[k] = true' at the operation -/
theorem setAt_put (w : World) {ops : Array Oper} {rest : List Oper} {o : Oper} {a : Act} {Q : Exit → Act → World → Prop}
    (hg : o.guard = none) (m x v : Operand) (t : TypeId) (hop : o.op = Op.mapUpdate t m x v)
    (hk : P.underlying kt = some .string) (he : P.underlying et = some .bool) (ht : P.underlying t = some (.map kt et))
    (hm : a.eval m = .map (some b)) (hown : SetAt P kt et w b n S) (hn : n < 1073741824) (hS : Srt S) (l : List UInt8) (hl : l.length ≤ 1073741824) (hx : a.eval x = .string ⟨l.toArray⟩) (bv : Bool) (hv : a.eval v = .bool bv)
    (hK : ∀ w', SetAt P kt et w' b (n + 1) (insS l S) → w.grownBy w' (some b) → wpList P ops Q rest (a.put o.dst undef) w') :
    wpList P ops Q (o :: rest) a w := by
  obtain ⟨D, h1, h2⟩ := hown
  refine wpList_mapUpdate_own w hg m x v t hop kt et (string_keyed hk) ht (plainElem P et) b n D hm h1 (by unfold maxLen; omega) _ _ _ hx hv (keyOf_string_mk hk (by unfold maxLen; show l.toArray.size ≤ _; simp; omega)) _ [] (plainElem_bool he bv) ?_
  intro w1 h3 h4
  exact hK w1 ⟨_, h3, h2.put hS l _⟩ h4
/-- 'len(m)' at the operation -/
theorem setAt_len {ops : Array Oper} {rest : List Oper} {o : Oper} {a : Act} {Q : Exit → Act → World → Prop} (hg : o.guard = none) (m : Operand) (t : TypeId) (hop : o.op = Op.call { callee := Callee.builtin Builtin.len, args := #[m], argTypes := #[t] })
    (ht : P.underlying t = some (.map kt et)) (hm : a.eval m = .map (some b)) (hown : SetAt P kt et w b n S)
    (hK : wpList P ops Q rest (a.put o.dst (.int .i64 (S.length : Nat))) w) :
    wpList P ops Q (o :: rest) a w := by
  obtain ⟨D, h1, h2⟩ := hown
  refine wpList_len_own w hg m t hop kt et ht _ b n D hm h1 ?_
  rw [h2.2.1]; exact hK
end
end Go.Proofs.YtcicoplmpinnmaaDoor
