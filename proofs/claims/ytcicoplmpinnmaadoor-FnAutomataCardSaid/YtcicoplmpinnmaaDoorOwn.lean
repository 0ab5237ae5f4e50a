/-
  Rows that the call itself makes: what they hold, append onto them, bytes to a string. No conditions.
-/
import Derived.Test.YtcicoplmpinnmaaDoorWords
import Derived.Laws.AppendOwnNone
namespace Go.Proofs.YtcicoplmpinnmaaDoor
open Go.RowKit

/-- Since the call began in w0, nothing old has turned, and the slice value at A owns the row xs. -/
def Own (w0 w : World) (e : TypeId) (A : Option Addr) (n c : Nat) (xs : List Value) : Prop :=
  w.ownsRow w0.heap.size e 1 (.slice A n c) n xs ∧ Below w0.heap.size w0 w

section
variable {w0 w w' : World} {e : TypeId} {A : Option Addr} {n c : Nat} {xs : List Value}
theorem Own.bel (h : Own w0 w e A n c xs) : Below w0.heap.size w0 w := h.2
theorem Own.len (h : Own w0 w e A n c xs) : xs.length = n := by simpa using h.1.1
theorem Own.cap (h : Own w0 w e A n c xs) : n ≤ c := by
  rcases h.1.2 with ⟨hv, hn⟩ | ⟨g, cap, cur, hv, _, _, hc, _⟩
  · omega
  · injection hv with _ _ hc2; omega
theorem Own.rd (h : Own w0 w e A n c xs) : Rd w w.heap.size A n xs := Rd.own h.1
theorem Own.drew (h : Own w0 w e A n c xs) : Own w0 w.drew e A n c xs := ⟨h.1.drew, h.2.drew⟩
theorem Own.drewN (h : Own w0 w e A n c xs) (k : Nat) : Own w0 (w.drewN k) e A n c xs := ⟨h.1, ⟨h.2.os, h.2.tape, h.2.output, h.2.size, h.2.block⟩⟩
theorem Own.alloc (h : Own w0 w e A n c xs) (o : Obj) : Own w0 (w.alloc o) e A n c xs := ⟨h.1.alloc o, h.2.alloc h.2.size o⟩
theorem Own.nil (h : Below w0.heap.size w0 w) (e : TypeId) : Own w0 w e none 0 0 [] := ⟨World.ownsRow_nil _ _ _ _, h⟩
/-- a later world in which nothing of this one has turned -/
theorem Own.later (h : Own w0 w e A n c xs) (hb : Below w.heap.size w w') : Own w0 w' e A n c xs := by
  refine ⟨⟨h.1.1, ?_⟩, h.2.trans (hb.mono h.2.size)⟩
  rcases h.1.2 with h2 | ⟨g, cap, cur, hv, hg, hh, r⟩
  · exact Or.inl h2
  · exact Or.inr ⟨g, cap, cur, hv, hg, by rw [hb.block g (Array.getElem?_eq_some_iff.1 hh).1]; exact hh, r⟩
/-- an empty row made by 'T{}' or 'make([]T, 0)': a block without cells -/
theorem Own.made0 (h : Below w0.heap.size w0 w) (e : TypeId) : Own w0 (w.alloc (.cells #[] e)) e (some ⟨w.heap.size, 0, none⟩) 0 0 [] :=
  ⟨World.ownsRow_made w #[] 0 h.size (by simp) (by simp), h.alloc h.size _⟩
/-- the value seen from the caller: the row began where the callee did -/
theorem Own.up {w1 : World} (h : Own w1 w e A n c xs) (hb : Below w0.heap.size w0 w1) : Own w0 w e A n c xs := by
  refine ⟨⟨h.1.1, ?_⟩, hb.trans (h.2.mono hb.size)⟩
  rcases h.1.2 with h2 | ⟨g, cap, cur, hv, hg, hh, r⟩
  · exact Or.inl h2
  · exact Or.inr ⟨g, cap, cur, hv, Nat.le_trans hb.size hg, hh, r⟩
end

/-- a row written out in one new block -/
theorem Own.made {w0 w : World} (h : Below w0.heap.size w0 w) (e : TypeId) (xs : List Value) (hx : xs.length ≤ 9223372036854775807) :
    Own w0 (w.alloc (.cells xs.toArray e)) e (some ⟨w.heap.size, 0, none⟩) xs.length xs.length xs :=
  ⟨⟨by simp, .inr ⟨w.heap.size, xs.length, xs.toArray, rfl, h.size, heap_alloc_new w _, Nat.le_refl _, by unfold maxLen; omega, by simp, by simp⟩⟩, h.alloc h.size _⟩

theorem bvs_snoc (l : List UInt8) (c : UInt8) : bvs (l ++ [c]) = bvs l ++ [.int .u8 (c.toNat : Nat)] := by simp [bvs]
theorem svs_snoc (l : List (List UInt8)) (c : List UInt8) : svs (l ++ [c]) = svs l ++ [.string ⟨c.toArray⟩] := by simp [svs]
theorem ivs_snoc (l : List Int) (c : Int) : ivs (l ++ [c]) = ivs l ++ [.int .i64 c] := by simp [ivs]

section
variable {P : Program} {w0 w : World}

/-- append onto a row of the call's own, from whatever slice reads as ys -/
theorem run_app_own (t ty e : TypeId) (z : Value) (bytes : Nat)
    (ht : P.underlying t = some (.slice e)) (hinf : (P.info? e).map (fun i => (i.zero, i.size, i.bytes)) = some (some z, 1, bytes)) (hz1 : z.cells.size = 1)
    {A : Option Addr} {n c : Nat} {xs : List Value} (hown : Own w0 w e A n c xs)
    {X : Option Addr} {B m d : Nat} {ys : List Value} (hX : X = none → d = 0) (hr : Rd w B X m ys) (h1 : ∀ u ∈ ys, u.oneCell' = true)
    (h63 : n + m ≤ 9223372036854775807) (hbytes : (n + m) * bytes ≤ 140737488355328) :
    ∃ A' c' w', (Builtin.append_ #[t, t] ty #[.slice A n c, .slice X m d]).run P w = .ok (.slice A' (n + m) c') w' ∧ Own w0 w' e A' (n + m) c' (xs ++ ys) ∧ w.grownBy w' (Value.slice A n c).ownBlock := by
  obtain ⟨i, hi, hz, hsz, hby⟩ := info_parts hinf
  rcases X with _ | ad
  · have hys : ys = [] := by
      cases hys : ys with
      | nil => rfl
      | cons y r => subst hys; obtain ⟨_, hc, _⟩ := hr.2 0 y rfl; cases hc
    subst hys
    have hm : m = 0 := by simpa using hr.1.symm
    subst hm
    have hd := hX rfl
    subst hd
    refine ⟨A, c, w, ?_, by simpa using hown, World.grownBy.refl _ _⟩
    exact run_append_owned_none (P := P) (w := w) w0.heap.size t ty e i 1 ht hi (.slice A n c) n xs hown.1
  · obtain ⟨v', w', hrun, h2, h3, _⟩ := run_append_own (P := P) w w0.heap.size t ty e i z 1 bytes ht hi hz hsz hby hz1 (by omega) (.slice A n c) n xs hown.1 ad m d ys (by simpa using hr.1) (by
      intro j u hu
      obtain ⟨_, hc, _, hcell⟩ := hr.2 j u hu
      injection hc with hc
      subst hc
      exact hcell) h1 (by unfold maxLen; omega) hbytes hown.2.size
    have hbel : Below w0.heap.size w0 w' := hown.2.grown h3 hown.2.size (fun k hk => (hown.1.lt k hk).1)
    have hform : ∃ A' c', v' = .slice A' (n + m) c' := by
      rcases h2.2 with ⟨hv, hn⟩ | ⟨g, cap, cur, hv, _⟩
      · exact ⟨none, 0, by rw [hv, hn]⟩
      · exact ⟨_, _, hv⟩
    obtain ⟨A', c', rfl⟩ := hform
    exact ⟨A', c', w', hrun, ⟨h2, hbel⟩, h3⟩

theorem wp_app_own {o : Oper} {a : Act} {K : Act → World → Prop} {Q : Exit → Act → World → Prop} (s x : Operand) (t e : TypeId) (z : Value) (bytes : Nat)
    (ho : o.op = .call { callee := .builtin .append, args := #[s, x], argTypes := #[t, t] })
    (ht : P.underlying t = some (.slice e)) (hinf : (P.info? e).map (fun i => (i.zero, i.size, i.bytes)) = some (some z, 1, bytes)) (hz1 : z.cells.size = 1)
    {A : Option Addr} {n c : Nat} {xs : List Value} (hs : a.eval s = .slice A n c) (hown : Own w0 w e A n c xs)
    {X : Option Addr} {B m d : Nat} {ys : List Value} (hx : a.eval x = .slice X m d) (hX : X = none → d = 0) (hr : Rd w B X m ys) (h1 : ∀ u ∈ ys, u.oneCell' = true)
    (h63 : n + m ≤ 9223372036854775807) (hbytes : (n + m) * bytes ≤ 140737488355328)
    (h : ∀ A' c' w', Own w0 w' e A' (n + m) c' (xs ++ ys) → w.grownBy w' (Value.slice A n c).ownBlock → K (a.put o.dst (.slice A' (n + m) c')) w') : o.wp P a w K Q := by
  obtain ⟨A', c', w', hrun, h2, h3⟩ := run_app_own (P := P) t o.type e z bytes ht hinf hz1 hown hX hr h1 h63 hbytes
  unfold Oper.wp execOp
  simp only [ho, resolve, invoke, builtin, Sem.run_bind, Sem.run_pure, Result.andThen_ok, List.map_toArray, List.map_cons, List.map_nil, hs, hx, hrun]
  exact h A' c' w' h2 h3

theorem app_own {ops : Array Oper} {rest : List Oper} {o : Oper} {a : Act} {Q : Exit → Act → World → Prop} (s x : Operand) (t e : TypeId) (z : Value) (bytes : Nat)
    (hgd : o.guard = none) (ho : o.op = .call { callee := .builtin .append, args := #[s, x], argTypes := #[t, t] })
    (ht : P.underlying t = some (.slice e)) (hinf : (P.info? e).map (fun i => (i.zero, i.size, i.bytes)) = some (some z, 1, bytes)) (hz1 : z.cells.size = 1)
    {A : Option Addr} {n c : Nat} {xs : List Value} (hs : a.eval s = .slice A n c) (hown : Own w0 w e A n c xs)
    {X : Option Addr} {B m d : Nat} {ys : List Value} (hx : a.eval x = .slice X m d) (hX : X = none → d = 0) (hr : Rd w B X m ys) (h1 : ∀ u ∈ ys, u.oneCell' = true)
    (h63 : n + m ≤ 9223372036854775807) (hbytes : (n + m) * bytes ≤ 140737488355328)
    (h : ∀ A' c' w', Own w0 w' e A' (n + m) c' (xs ++ ys) → w.grownBy w' (Value.slice A n c).ownBlock → wpList P ops Q rest (a.put o.dst (.slice A' (n + m) c')) w') : wpList P ops Q (o :: rest) a w :=
  wpList_plain hgd fun _ hK => wp_app_own s x t e z bytes ho ht hinf hz1 hs hown hx hX hr h1 h63 hbytes fun A' c' w' h2 h3 => hK _ _ (h A' c' w' h2 h3)

/-- the same in a region that draws its order -/
theorem step_app_own {ops : Array Oper} {o : Oper} {a : Act} {K : Act → World → Prop} {Q : Exit → Act → World → Prop} {E : Prop} (s x : Operand) (t e : TypeId) (z : Value) (bytes : Nat)
    (hgd : o.guard = none) (ho : o.op = .call { callee := .builtin .append, args := #[s, x], argTypes := #[t, t] })
    (ht : P.underlying t = some (.slice e)) (hinf : (P.info? e).map (fun i => (i.zero, i.size, i.bytes)) = some (some z, 1, bytes)) (hz1 : z.cells.size = 1)
    {A : Option Addr} {n c : Nat} {xs : List Value} (hs : a.eval s = .slice A n c) (hown : Own w0 w e A n c xs)
    {X : Option Addr} {B m d : Nat} {ys : List Value} (hx : a.eval x = .slice X m d) (hX : X = none → d = 0) (hr : Rd w B X m ys) (h1 : ∀ u ∈ ys, u.oneCell' = true)
    (h63 : n + m ≤ 9223372036854775807) (hbytes : (n + m) * bytes ≤ 140737488355328)
    (h : ∀ A' c' w', Own w0 w' e A' (n + m) c' (xs ++ ys) → w.grownBy w' (Value.slice A n c).ownBlock → K (a.put o.dst (.slice A' (n + m) c')) w') :
    if Region.wanted o (yielded ops a.tmps) = true then Oper.wp P o a w K Q else E := by
  have hw : Region.wanted o (yielded ops a.tmps) = true := by simp [Region.wanted, hgd]
  rw [if_pos hw]
  exact wp_app_own s x t e z bytes ho ht hinf hz1 hs hown hx hX hr h1 h63 hbytes h

theorem Rd.one (w : World) (u : Value) (e : TypeId) : Rd (w.alloc (.cells #[u] e)) (w.heap.size + 1) (some ⟨w.heap.size, 0, none⟩) 1 [u] :=
  ⟨rfl, fun j v hj => by
    have hj0 : j = 0 := by have := (List.getElem?_eq_some_iff.1 hj).1; simpa using this
    subst hj0
    simp at hj
    subst hj
    exact ⟨_, rfl, by simp, by
      rw [show (⟨w.heap.size, 0, none⟩ : Addr).add 0 = ⟨w.heap.size, 0, none⟩ from rfl, cell_of_row (w.alloc (.cells #[u] e)) w.heap.size 0 #[u] e (0, 0) (heap_alloc_new w _)]
      rfl⟩⟩

/-- append of ONE element, as the walk shows it: the element in a new block of one cell -/
theorem app_one {ops : Array Oper} {rest : List Oper} {o : Oper} {a : Act} {Q : Exit → Act → World → Prop} (s x : Operand) (t e : TypeId) (z : Value) (bytes : Nat)
    (hgd : o.guard = none) (ho : o.op = .call { callee := .builtin .append, args := #[s, x], argTypes := #[t, t] })
    (ht : P.underlying t = some (.slice e)) (hinf : (P.info? e).map (fun i => (i.zero, i.size, i.bytes)) = some (some z, 1, bytes)) (hz1 : z.cells.size = 1)
    {A : Option Addr} {n c : Nat} {xs : List Value} {u : Value} (hs : a.eval s = .slice A n c) (hown : Own w0 w e A n c xs)
    (hx : a.eval x = .slice (some ⟨w.heap.size, 0, none⟩) 1 1) (h1 : u.oneCell' = true)
    (h63 : n + 1 ≤ 9223372036854775807) (hbytes : (n + 1) * bytes ≤ 140737488355328)
    (h : ∀ A' c' w', Own w0 w' e A' (n + 1) c' (xs ++ [u]) → wpList P ops Q rest (a.put o.dst (.slice A' (n + 1) c')) w') : wpList P ops Q (o :: rest) a (w.alloc (.cells #[u] e)) :=
  app_own s x t e z bytes hgd ho ht hinf hz1 hs (hown.alloc _) hx (fun h => by cases h) (Rd.one w u e) (by simpa using h1) h63 hbytes (fun A' c' w' h2 _ => h A' c' w' h2)

/-- string(bytes) -/
theorem conv_bytes {B : Nat} {A : Option Addr} {n c : Nat} {l : List UInt8} (src dst e : TypeId) (hs : P.underlying src = some (.slice e)) (he : P.underlying e = some (.int .u8)) (hd : P.underlying dst = some .string)
    (h : Rd w B A n (bvs l)) : (convert src dst (.slice A n c)).run P w = .ok (.string ⟨l.toArray⟩) w := by
  rcases A with _ | ad
  · have hl : l = [] := by
      cases l with
      | nil => rfl
      | cons y r => obtain ⟨_, hc, _⟩ := h.2 0 _ rfl; cases hc
    subst hl
    rw [run_convert_bytes_nil w src e hs he n c dst hd]
    rfl
  · have hlen : l.length = n := h.lenB
    have hl : (loadCells ad n).run P w = .ok ((l.map fun c => (c.toNat : Int)).map (Value.int .u8)).toArray w := by
      have := run_loadCells_list (P := P) w ad (bvs l) (fun j v hj => by
        obtain ⟨_, hc, _, hcell⟩ := h.2 j v hj
        injection hc with hc
        subst hc
        exact hcell)
      rw [List.map_map]
      simpa [bvs, hlen, Function.comp_def] using this
    rw [run_convert_bytes_string w src dst e _ n c hs he hd, run_bytesToString w _ n c _ hl, foldl_push_bytes]
    simp [ByteArray.empty, ByteArray.emptyWithCapacity, Function.comp_def]
    rfl
end
end Go.Proofs.YtcicoplmpinnmaaDoor
