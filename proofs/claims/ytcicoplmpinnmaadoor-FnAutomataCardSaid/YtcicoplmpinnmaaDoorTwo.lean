/-
  Appends beside other rows of the call's own: the new block is the old one or a fresh one. No conditions.
-/
import Derived.Test.YtcicoplmpinnmaaDoorRowW
namespace Go.Proofs.YtcicoplmpinnmaaDoor
open Go.RowKit

theorem Rd.two (w : World) (u v : Value) (e : TypeId) : Rd (w.alloc (.cells #[u, v] e)) (w.heap.size + 1) (some ⟨w.heap.size, 0, none⟩) 2 [u, v] := by
  have h := (Own.made (w0 := w) (w := w) (Below.refl _ _) e [u, v] (by simp)).rd
  have hs : (w.alloc (.cells #[u, v] e)).heap.size = w.heap.size + 1 := by simp
  rw [← hs]
  exact h

section
variable {P : Program} {w0 w w' : World}

theorem run_app_apart (t ty e : TypeId) (z : Value) (bytes : Nat)
    (ht : P.underlying t = some (.slice e)) (hinf : (P.info? e).map (fun i => (i.zero, i.size, i.bytes)) = some (some z, 1, bytes)) (hz1 : z.cells.size = 1)
    {A : Option Addr} {n c : Nat} {xs : List Value} (hown : Own w0 w e A n c xs)
    {ad : Addr} {B m d : Nat} {ys : List Value} (hm : 0 < m) (hr : Rd w B (some ad) m ys) (h1 : ∀ u ∈ ys, u.oneCell' = true)
    (h63 : n + m ≤ 9223372036854775807) (hbytes : (n + m) * bytes ≤ 140737488355328) :
    ∃ A' c' w', (Builtin.append_ #[t, t] ty #[.slice A n c, .slice (some ad) m d]).run P w = .ok (.slice A' (n + m) c') w' ∧ Own w0 w' e A' (n + m) c' (xs ++ ys) ∧ w.grownBy w' (Value.slice A n c).ownBlock ∧
      ∀ g, (Value.slice A' (n + m) c').ownBlock = some g → (Value.slice A n c).ownBlock = some g ∨ w.heap.size ≤ g := by
  obtain ⟨A', c', w', hrun, hown', hg⟩ := run_app_own (P := P) t ty e z bytes ht hinf hz1 hown (fun h => by cases h) hr h1 h63 hbytes
  refine ⟨A', c', w', hrun, hown', hg, ?_⟩
  obtain ⟨i, hi, hz, hsz, hby⟩ := info_parts hinf
  have hnews : ∀ j u, ys[j]? = some u → w.cell? (ad.add j) = some u := by
    intro j u hu
    obtain ⟨_, hc, _, hcell⟩ := hr.2 j u hu
    injection hc with hc
    subst hc
    exact hcell
  have hl : ys.length = m * i.size := by rw [hsz, hr.1, Nat.mul_one]
  intro g hgb
  rcases hown.1.2 with ⟨hv, hn⟩ | ⟨g0, cap, cur, hv, hbg, hh, hnc, hcm, hcs, htake⟩
  · subst hn
    rw [hv] at hrun
    rw [run_append_nil (P := P) w t ty e i z ht hi hz ad m d ys hl hnews hm (by omega) (by rw [hby]; have hb := hbytes; simp only [Nat.zero_add] at hb; omega)] at hrun
    injection hrun with h1 h2
    injection h1 with hA
    subst hA
    simp [Value.ownBlock] at hgb
    right; omega
  · injection hv with hA _ hc
    subst hA hc
    by_cases hroom : n + m ≤ c
    · obtain ⟨w2, hr2, _, _⟩ := run_append_fits (P := P) w w0.heap.size t ty e i 1 ht hi hsz g0 n c xs hown.1 ad m d ys (by rw [hr.1, Nat.mul_one]) hnews h1 hroom
      rw [hr2] at hrun
      injection hrun with h1 h2
      injection h1 with hA _ hc
      subst hA hc
      left; exact hgb
    · have holds : ∀ j u, xs[j]? = some u → w.cell? ((⟨g0, 0, none⟩ : Addr).add j) = some u := hown.1.cells (g := g0) rfl
      rw [run_append_grow (P := P) w t ty e i z ht hi hz ⟨g0, 0, none⟩ n c xs (by rw [hsz]; exact hown.1.1) holds ad m d ys hl hnews (by omega) (by omega) (by rw [hby]; exact growslice_fits (by omega) hbytes)] at hrun
      injection hrun with h1 h2
      injection h1 with hA
      subst hA
      simp [Value.ownBlock] at hgb
      right; omega

theorem Mem.grow {pre post : List Row} {e : TypeId} {A A' : Option Addr} {n c n' c' : Nat} {xs ys : List Value} (h : Mem w0 w (pre ++ ⟨e, A, n, c, xs⟩ :: post))
    (ho : Own w0 w' e A' n' c' ys) (hg : w.grownBy w' (Value.slice A n c).ownBlock)
    (hf : ∀ g, (Value.slice A' n' c').ownBlock = some g → (Value.slice A n c).ownBlock = some g ∨ w.heap.size ≤ g) : Mem w0 w' (pre ++ ⟨e, A', n', c', ys⟩ :: post) := by
  obtain ⟨h1, h2, h3⟩ := h
  have hme := h2 ⟨e, A, n, c, xs⟩ (by simp)
  have hother : ∀ s, s ∈ pre ∨ s ∈ post → s.blk = none ∨ s.blk ≠ (Value.slice A n c).ownBlock := by
    intro s hs
    rw [List.pairwise_append] at h3
    obtain ⟨_, hq, hc⟩ := h3
    rcases hs with hs | hs
    · exact hc s hs ⟨e, A, n, c, xs⟩ (by simp)
    · have := (List.pairwise_cons.1 hq).1 s hs
      rcases this with h0 | h0
      · cases hsb : s.blk with
        | none => exact Or.inl rfl
        | some g => right; have h0' : (Value.slice A n c).ownBlock = none := h0; rw [h0']; simp
      · exact Or.inr fun hc => h0 hc.symm
  have hlt : ∀ s, s ∈ pre ∨ s ∈ post → ∀ g, s.blk = some g → g < w.heap.size := fun s hs g hgs => (own_blk_lt (h2 s (by rcases hs with hs | hs <;> simp [hs])) g hgs).2
  have hnew : ∀ s, s ∈ pre ∨ s ∈ post → s.blk = none ∨ s.blk ≠ (Value.slice A' n' c').ownBlock := by
    intro s hs
    cases hsb : s.blk with
    | none => exact Or.inl rfl
    | some g =>
      refine Or.inr fun hc => ?_
      have hl := hlt s hs g hsb
      rcases hf g hc.symm with h4 | h4
      · rcases hother s hs with h5 | h5
        · rw [hsb] at h5; cases h5
        · exact h5 (hsb.trans h4.symm)
      · omega
  refine ⟨ho.2, fun r hr => ?_, ?_⟩
  · have keepIt : ∀ s, s ∈ pre ∨ s ∈ post → w'.ownsRow w0.heap.size s.e 1 (.slice s.A s.n s.c) s.n s.xs := fun s hs =>
      (h2 s (by rcases hs with hs | hs <;> simp [hs])).kept hg (hother s hs)
    rw [List.mem_append, List.mem_cons] at hr
    rcases hr with hr | rfl | hr
    · exact keepIt r (Or.inl hr)
    · exact ho.1
    · exact keepIt r (Or.inr hr)
  · rw [List.pairwise_append, List.pairwise_cons] at h3 ⊢
    obtain ⟨hp, ⟨hq1, hq⟩, hc⟩ := h3
    refine ⟨hp, ⟨fun s hs => ?_, hq⟩, fun a ha b hb => ?_⟩
    · rcases hnew s (Or.inr hs) with h4 | h4
      · cases hb2 : (Row.blk ⟨e, A', n', c', ys⟩) with
        | none => exact Or.inl rfl
        | some g => right; rw [h4]; simp
      · exact Or.inr fun hc2 => h4 hc2.symm
    · rcases List.mem_cons.1 hb with rfl | hb
      · exact hnew a (Or.inl ha)
      · exact hc a ha b (by simp [hb])

theorem Mem.own {pre post : List Row} {e : TypeId} {A : Option Addr} {n c : Nat} {xs : List Value} (h : Mem w0 w (pre ++ ⟨e, A, n, c, xs⟩ :: post)) : Own w0 w e A n c xs := ⟨h.2.1 ⟨e, A, n, c, xs⟩ (by simp), h.1⟩
theorem Mem.alloc {rs : List Row} (h : Mem w0 w rs) (o : Obj) : Mem w0 (w.alloc o) rs := h.later (Below.refl _ _ |>.alloc (Nat.le_refl _) o)
theorem Mem.drew {rs : List Row} (h : Mem w0 w rs) : Mem w0 w.drew rs := ⟨h.1.drew, fun r hr => (h.2.1 r hr).drew, h.2.2⟩

/-- append onto one of the rows (a drawn region or a walk's step) -/
theorem wp_app_mem {o : Oper} {a : Act} {K : Act → World → Prop} {Q : Exit → Act → World → Prop} (pre post : List Row) (s x : Operand) (t e : TypeId) (z : Value) (bytes : Nat)
    (ho : o.op = .call { callee := .builtin .append, args := #[s, x], argTypes := #[t, t] })
    (ht : P.underlying t = some (.slice e)) (hinf : (P.info? e).map (fun i => (i.zero, i.size, i.bytes)) = some (some z, 1, bytes)) (hz1 : z.cells.size = 1)
    {A : Option Addr} {n c : Nat} {xs : List Value} (hs : a.eval s = .slice A n c) (hmem : Mem w0 w (pre ++ ⟨e, A, n, c, xs⟩ :: post))
    {ad : Addr} {B m d : Nat} {ys : List Value} (hx : a.eval x = .slice (some ad) m d) (hm : 0 < m) (hr : Rd w B (some ad) m ys) (h1 : ∀ u ∈ ys, u.oneCell' = true)
    (h63 : n + m ≤ 9223372036854775807) (hbytes : (n + m) * bytes ≤ 140737488355328)
    (h : ∀ A' c' w', Mem w0 w' (pre ++ ⟨e, A', n + m, c', xs ++ ys⟩ :: post) → K (a.put o.dst (.slice A' (n + m) c')) w') : o.wp P a w K Q := by
  obtain ⟨A', c', w', hrun, h2, h3, h4⟩ := run_app_apart (P := P) t o.type e z bytes ht hinf hz1 hmem.own hm hr h1 h63 hbytes (d := d)
  unfold Oper.wp execOp
  simp only [ho, resolve, invoke, builtin, Sem.run_bind, Sem.run_pure, Result.andThen_ok, List.map_toArray, List.map_cons, List.map_nil, hs, hx, hrun]
  exact h A' c' w' (hmem.grow h2 h3 h4)

theorem app_mem {ops : Array Oper} {rest : List Oper} {o : Oper} {a : Act} {Q : Exit → Act → World → Prop} (pre post : List Row) (s x : Operand) (t e : TypeId) (z : Value) (bytes : Nat)
    (hgd : o.guard = none) (ho : o.op = .call { callee := .builtin .append, args := #[s, x], argTypes := #[t, t] })
    (ht : P.underlying t = some (.slice e)) (hinf : (P.info? e).map (fun i => (i.zero, i.size, i.bytes)) = some (some z, 1, bytes)) (hz1 : z.cells.size = 1)
    {A : Option Addr} {n c : Nat} {xs : List Value} (hs : a.eval s = .slice A n c) (hmem : Mem w0 w (pre ++ ⟨e, A, n, c, xs⟩ :: post))
    {ad : Addr} {B m d : Nat} {ys : List Value} (hx : a.eval x = .slice (some ad) m d) (hm : 0 < m) (hr : Rd w B (some ad) m ys) (h1 : ∀ u ∈ ys, u.oneCell' = true)
    (h63 : n + m ≤ 9223372036854775807) (hbytes : (n + m) * bytes ≤ 140737488355328)
    (h : ∀ A' c' w', Mem w0 w' (pre ++ ⟨e, A', n + m, c', xs ++ ys⟩ :: post) → wpList P ops Q rest (a.put o.dst (.slice A' (n + m) c')) w') : wpList P ops Q (o :: rest) a w :=
  wpList_plain hgd fun _ hK => wp_app_mem pre post s x t e z bytes ho ht hinf hz1 hs hmem hx hm hr h1 h63 hbytes fun A' c' w' h2 => hK _ _ (h A' c' w' h2)

theorem step_app_mem {ops : Array Oper} {o : Oper} {a : Act} {K : Act → World → Prop} {Q : Exit → Act → World → Prop} {E : Prop} (pre post : List Row) (s x : Operand) (t e : TypeId) (z : Value) (bytes : Nat)
    (hgd : o.guard = none) (ho : o.op = .call { callee := .builtin .append, args := #[s, x], argTypes := #[t, t] })
    (ht : P.underlying t = some (.slice e)) (hinf : (P.info? e).map (fun i => (i.zero, i.size, i.bytes)) = some (some z, 1, bytes)) (hz1 : z.cells.size = 1)
    {A : Option Addr} {n c : Nat} {xs : List Value} (hs : a.eval s = .slice A n c) (hmem : Mem w0 w (pre ++ ⟨e, A, n, c, xs⟩ :: post))
    {ad : Addr} {B m d : Nat} {ys : List Value} (hx : a.eval x = .slice (some ad) m d) (hm : 0 < m) (hr : Rd w B (some ad) m ys) (h1 : ∀ u ∈ ys, u.oneCell' = true)
    (h63 : n + m ≤ 9223372036854775807) (hbytes : (n + m) * bytes ≤ 140737488355328)
    (h : ∀ A' c' w', Mem w0 w' (pre ++ ⟨e, A', n + m, c', xs ++ ys⟩ :: post) → K (a.put o.dst (.slice A' (n + m) c')) w') :
    if Region.wanted o (yielded ops a.tmps) = true then Oper.wp P o a w K Q else E := by
  have hw : Region.wanted o (yielded ops a.tmps) = true := by simp [Region.wanted, hgd]
  rw [if_pos hw]
  exact wp_app_mem pre post s x t e z bytes ho ht hinf hz1 hs hmem hx hm hr h1 h63 hbytes h
end
end Go.Proofs.YtcicoplmpinnmaaDoor
