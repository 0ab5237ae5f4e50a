/-
  A part of a row that is read while the row is appended to. No conditions.
-/
import Derived.Test.YtbaleboljcoigaaTwo
namespace Go.Proofs.Ytbaleboljcoigaa
open Go.RowKit

/-- the address p keeps what it holds while the row at A is appended to -/
def Seen (w : World) (A : Option Addr) (n c : Nat) (p : Addr) : Prop :=
  p.block < w.heap.size ∧ ∀ g, (Value.slice A n c).ownBlock = some g → p.block = g → ∃ off, p = ⟨g, off, none⟩ ∧ off < n
section
variable {P : Program} {w0 w w' : World} {e : TypeId} {A : Option Addr} {n c : Nat} {xs : List Value}
theorem Seen.alloc {p : Addr} (h : Seen w A n c p) (o : Obj) : Seen (w.alloc o) A n c p := ⟨by have := h.1; simp; omega, h.2⟩
theorem Seen.cellAlloc {p : Addr} (h : Seen w A n c p) (o : Obj) : (w.alloc o).cell? p = w.cell? p := ((Below.refl _ _).alloc (Nat.le_refl _) o).cell h.1

theorem run_app_seen (t ty e : TypeId) (z : Value) (bytes : Nat)
    (ht : P.underlying t = some (.slice e)) (hinf : (P.info? e).map (fun i => (i.zero, i.size, i.bytes)) = some (some z, 1, bytes)) (hz1 : z.cells.size = 1)
    {A : Option Addr} {n c : Nat} {xs : List Value} (hown : Own w0 w e A n c xs)
    {ad : Addr} {B m d : Nat} {ys : List Value} (hm : 0 < m) (hr : Rd w B (some ad) m ys) (h1 : ∀ u ∈ ys, u.oneCell' = true)
    (h63 : n + m ≤ 9223372036854775807) (hbytes : (n + m) * bytes ≤ 140737488355328) :
    ∃ A' c' w', (Builtin.append_ #[t, t] ty #[.slice A n c, .slice (some ad) m d]).run P w = .ok (.slice A' (n + m) c') w' ∧ Own w0 w' e A' (n + m) c' (xs ++ ys) ∧
      ∀ p, Seen w A n c p → w'.cell? p = w.cell? p ∧ Seen w' A' (n + m) c' p := by
  obtain ⟨A', c', w', hrun, hown', hg⟩ := run_app_own (P := P) t ty e z bytes ht hinf hz1 hown (fun h => by cases h) hr h1 h63 hbytes
  refine ⟨A', c', w', hrun, hown', ?_⟩
  obtain ⟨i, hi, hz, hsz, hby⟩ := info_parts hinf
  have hnews : ∀ j u, ys[j]? = some u → w.cell? (ad.add j) = some u := by
    intro j u hu
    obtain ⟨_, hc, _, hcell⟩ := hr.2 j u hu
    injection hc with hc
    subst hc
    exact hcell
  have hl : ys.length = m * i.size := by rw [hsz, hr.1, Nat.mul_one]
  have hsize := hg.size
  intro p hp
  rcases hown.1.2 with ⟨hv, hn⟩ | ⟨g0, cap, cur, hv, hbg, hh, hnc, hcm, hcs, htake⟩
  · subst hn
    injection hv with hA _ hc
    subst hA hc
    rw [run_append_nil (P := P) w t ty e i z ht hi hz ad m d ys hl hnews hm (by omega) (by rw [hby]; have hb := hbytes; simp only [Nat.zero_add] at hb; omega)] at hrun
    injection hrun with h1 h2
    injection h1 with hA2
    refine ⟨?_, Nat.lt_of_lt_of_le hp.1 hsize, fun g hgb hpg => ?_⟩
    · rw [← h2]
      exact ((Below.refl w.heap.size w).drew.alloc (Nat.le_refl _) _).cell hp.1
    · subst hA2
      simp [Value.ownBlock] at hgb
      have := hp.1; omega
  · injection hv with hA _ hc
    subst hA hc
    by_cases hroom : n + m ≤ c
    · obtain ⟨w2, hr2, ho2, hg2⟩ := run_append_fits (P := P) w w0.heap.size t ty e i 1 ht hi hsz g0 n c xs hown.1 ad m d ys (by rw [hr.1, Nat.mul_one]) hnews h1 hroom
      rw [hr2] at hrun
      injection hrun with h1 h2
      injection h1 with hA _ hc
      subst hA hc h2
      refine ⟨?_, Nat.lt_of_lt_of_le hp.1 hsize, fun g hgb hpg => ?_⟩
      · by_cases hpb : p.block = g0
        · obtain ⟨off, rfl, hoff⟩ := hp.2 g0 rfl hpb
          have e1 := hown.1.cells (g := g0) rfl
          have e2 := ho2.cells (g := g0) rfl
          have hx : off < xs.length := by have := hown.len; omega
          have a1 := e1 off xs[off] (List.getElem?_eq_getElem hx)
          have a2 := e2 off xs[off] (by rw [List.getElem?_append_left hx]; exact List.getElem?_eq_getElem hx)
          have had : (⟨g0, 0, none⟩ : Addr).add off = ⟨g0, off, none⟩ := by unfold Addr.add; split <;> simp_all
          rw [had] at a1 a2
          rw [a1, a2]
        · have hb := hg2.block p.block hp.1 (fun h => by injection h with h; exact hpb h)
          unfold World.cell?
          rw [hb]
      · obtain ⟨off, hpe, hoff⟩ := hp.2 g hgb hpg
        exact ⟨off, hpe, by omega⟩
    · have holds : ∀ j u, xs[j]? = some u → w.cell? ((⟨g0, 0, none⟩ : Addr).add j) = some u := hown.1.cells (g := g0) rfl
      rw [run_append_grow (P := P) w t ty e i z ht hi hz ⟨g0, 0, none⟩ n c xs (by rw [hsz]; exact hown.1.1) holds ad m d ys hl hnews (by omega) (by omega) (by rw [hby]; exact growslice_fits (by omega) hbytes)] at hrun
      injection hrun with h1 h2
      injection h1 with hA
      refine ⟨?_, Nat.lt_of_lt_of_le hp.1 hsize, fun g hgb hpg => ?_⟩
      · rw [← h2]
        exact ((Below.refl w.heap.size w).drew.alloc (Nat.le_refl _) _).cell hp.1
      · subst hA
        simp [Value.ownBlock] at hgb
        have := hp.1; omega

theorem app_one_seen {ops : Array Oper} {rest : List Oper} {o : Oper} {a : Act} {Q : Exit → Act → World → Prop} (s x : Operand) (t e : TypeId) (z : Value) (bytes : Nat)
    (hgd : o.guard = none) (ho : o.op = .call { callee := .builtin .append, args := #[s, x], argTypes := #[t, t] })
    (ht : P.underlying t = some (.slice e)) (hinf : (P.info? e).map (fun i => (i.zero, i.size, i.bytes)) = some (some z, 1, bytes)) (hz1 : z.cells.size = 1)
    {A : Option Addr} {n c : Nat} {xs : List Value} {u : Value} (hs : a.eval s = .slice A n c) (hown : Own w0 w e A n c xs)
    (hx : a.eval x = .slice (some ⟨w.heap.size, 0, none⟩) 1 1) (h1 : u.oneCell' = true)
    (h63 : n + 1 ≤ 9223372036854775807) (hbytes : (n + 1) * bytes ≤ 140737488355328)
    (h : ∀ A' c' w', Own w0 w' e A' (n + 1) c' (xs ++ [u]) → (∀ p, Seen w A n c p → w'.cell? p = w.cell? p ∧ Seen w' A' (n + 1) c' p) → wpList P ops Q rest (a.put o.dst (.slice A' (n + 1) c')) w') : wpList P ops Q (o :: rest) a (w.alloc (.cells #[u] e)) := by
  refine wpList_plain hgd fun K hK => ?_
  obtain ⟨A', c', w', hrun, h2, h3⟩ := run_app_seen (P := P) t o.type e z bytes ht hinf hz1 (hown.alloc (.cells #[u] e)) (d := 1) (by omega) (Rd.one w u e) (by simpa using h1) h63 hbytes
  unfold Oper.wp execOp
  simp only [ho, resolve, invoke, builtin, Sem.run_bind, Sem.run_pure, Result.andThen_ok, List.map_toArray, List.map_cons, List.map_nil, hs, hx, hrun]
  exact hK _ _ (h A' c' w' h2 (fun p hp => ⟨((h3 p (hp.alloc _)).1).trans (hp.cellAlloc _), (h3 p (hp.alloc _)).2⟩))
end
/-- words that are read in a part of the row -/
def ViewAt (w : World) (A : Option Addr) (n c : Nat) (V : Option Addr) (ss : List (List UInt8)) : Prop :=
  ∀ (j : Nat) (h : j < ss.length), ∃ a, V = some a ∧ Seen w A n c (a.add j) ∧ w.cell? (a.add j) = some (.string ⟨(ss[j]).toArray⟩)
theorem ViewAt.next {w w' : World} {A A' : Option Addr} {n c n' c' : Nat} {V : Option Addr} {ss : List (List UInt8)} (h : ViewAt w A n c V ss)
    (hk : ∀ p, Seen w A n c p → w'.cell? p = w.cell? p ∧ Seen w' A' n' c' p) : ViewAt w' A' n' c' V ss := fun j hj => by
  obtain ⟨a, hV, hs, hc⟩ := h j hj
  exact ⟨a, hV, (hk _ hs).2, (hk _ hs).1.trans hc⟩
/-- the view at its start: a part of the row -/
theorem ViewAt.start {w0 w : World} {e : TypeId} {A : Option Addr} {n c : Nat} {pre ss : List (List UInt8)} (h : Own w0 w e A n c (svs (pre ++ ss))) : ViewAt w A n c (A.map (·.add pre.length)) ss := fun j hj => by
  have hl : (pre ++ ss).length = n := by have := h.len; simpa [svs] using this
  have hn : pre.length + j < n := by rw [← hl, List.length_append]; omega
  obtain ⟨g, rfl⟩ := own_form h.1 (by omega)
  obtain ⟨a, ha, hab, hc⟩ := h.rd.str (k := pre.length + j) (by omega)
  injection ha with ha
  subst ha
  refine ⟨(⟨g, 0, none⟩ : Addr).add pre.length, rfl, ⟨by rw [add_block, add_block]; exact hab, fun g2 hg2 hp => ?_⟩, ?_⟩
  · simp [Value.ownBlock] at hg2
    subst hg2
    refine ⟨pre.length + j, ?_, hn⟩
    rw [add_add]
    unfold Addr.add; split <;> simp_all
  · rw [add_add, hc]
    have hx : (pre ++ ss)[pre.length + j]'(by omega) = ss[j] := by rw [List.getElem_append_right (by omega)]; congr 1; omega
    rw [hx]
end Go.Proofs.Ytbaleboljcoigaa
