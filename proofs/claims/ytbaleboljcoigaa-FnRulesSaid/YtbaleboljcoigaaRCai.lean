/-
  slices.DeleteFunc over a row of the call's own. Conditions: the predicate is good for the row's own elements.
-/
import Derived.Test.YtbaleboljcoigaaRCan
import Derived.Test.YtbaleboljcoigaaRCou
import Derived.Test.YtbaleboljcoigaaRFi
import Derived.Lib.SliceRun
namespace Go.Proofs.Ytbaleboljcoigaa
section
open Go.RowKit

theorem any_hit {rows : Pch} {f : List UInt8 → Bool} {k : Nat} (hk : k < rows.length) (h : f rows[k] = true) : rows.any f = true := List.any_eq_true.2 ⟨_, List.getElem_mem hk, h⟩
theorem any_none {rows : Pch} {f : List UInt8 → Bool} (h : ∀ j (hj : j < rows.length), f rows[j] = false) : rows.any f = false := by
  rw [List.any_eq_false]
  intro x hx
  obtain ⟨j, hj, rfl⟩ := List.getElem_of_mem hx
  simp [h j hj]


theorem rowsR_snoc {r : Pch} {n j : Nat} {s : List UInt8} {l : Pch} (hj : j < l.length) (hs : l[j] = s) : (l.take (j + 1)).filter (fun s => decide (wrapP n s ∈ r)) = (l.take j).filter (fun s => decide (wrapP n s ∈ r)) ++ (if decide (wrapP n s ∈ r) = true then [s] else []) := by
  rw [take_snoc l j hj, List.filter_append, hs]
  by_cases h : wrapP n s ∈ r <;> simp [h]
theorem wrap_cuts {s : List UInt8} {n : Nat} (hs : s.length = n) (hn : 1 ≤ n) : s.drop (n - 1) = [s.getD (n - 1) 0] ∧ s.take 1 = [s.getD 0 0] := by
  subst hs
  constructor
  · rw [List.drop_eq_getElem_cons (by omega), getD_at (by omega), List.drop_of_length_le (by omega)]
  · cases s with
    | nil => simp at hn
    | cons a l => simp
end
section
open Go.RowKit

set_option maxHeartbeats 800000 in
theorem containsFunc_any (g : Nat) (lb : Array Value) (eg : ∀ args w, (callFunc g args).run Try.prog w = .ok (.enter g args) w) (A : Option Addr) (n c B : Nat) (ss : Pch) (p : List UInt8 → Bool) (W : World) (hr : Rd W B A n (svs ss)) (hB : B ≤ W.heap.size) (hn : n ≤ 1048576)
    (hp : ∀ w, Below W.heap.size W w → ∀ x ∈ ss, Calls Try.prog g (#[.string ⟨x.toArray⟩] ++ lb) w fun e w' => e = .returned (.bool (p x)) ∧ Below w.heap.size w w') :
    Calls Try.prog 40 #[.slice A n c, .func (.func g) #[] lb] W fun e w' => e = .returned (.bool (ss.any p)) ∧ Below W.heap.size W w' := by
  have HC := Lib.hid (indexFunc_any g lb eg A n c B ss p W hr hB hn hp)
  have HE := Lib.hid (idxP_any p ss)
  obtain ⟨z, hz⟩ : ∃ z, z = idxP p ss := ⟨_, rfl⟩
  rw [← hz] at HC HE
  obtain ⟨res, hres⟩ : ∃ res, res = ss.any p := ⟨_, rfl⟩
  rw [← hres] at HE ⊢
  clear hz hres hp hr eg
  go_enter Try.func40, Try.ntmps40
  go_wp2_with (go_at_call 29; refine HC.out.mono ?_; rintro e w2 ⟨rfl, hb2⟩)
  go_ret
  exact ⟨by (rw [← HE.out]; try rfl), hb2⟩
set_option maxHeartbeats 800000 in
theorem canRep2_any (W w : World) (LR : List Row) (b1 b2 : Nat) (u t : List UInt8) (A1 : Option Addr) (n1 c1 : Nat) (q : Pch)
    (hm : Mem W w LR) (h1 : CellR 9 b1 (.string ⟨t.toArray⟩) ∈ LR) (h2 : CellR 23 b2 (.slice A1 n1 c1) ∈ LR) (hcol : SIn w A1 n1 c1 q) (hu : u.length ≤ 64) (ht : t.length = u.length) :
    Calls Try.prog 41 #[.string ⟨u.toArray⟩, .pointer (some ⟨b1, 0, none⟩), .pointer (some ⟨b2, 0, none⟩)] w fun e w' => e = .returned (.bool (stand q u t)) ∧ Below w.heap.size w w' := by
  have c1' := hm.cellR h1
  have c2' := hm.cellR h2
  have HC := Lib.hid (stands_any u t A1 n1 c1 q w hcol hu ht)
  clear hm h1 h2 hcol hu ht
  go_enter Try.func41, Try.ntmps41
  go_wp2_with (go_at_call 32; refine HC.out.mono ?_; rintro e w2 ⟨rfl, hb2⟩)
  go_ret
  exact ⟨rfl, hb2⟩
set_option maxRecDepth 4096 in
set_option maxHeartbeats 800000 in
theorem canRep1_any (W w : World) (LR : List Row) (b1 b2 : Nat) (s : List UInt8) (A0 : Option Addr) (n0 c0 : Nat) (r : Pch) (n : Nat)
    (hm : Mem W w LR) (h1 : CellR 23 b1 (.slice A0 n0 c0) ∈ LR) (h2 : CellR 3 b2 (.int .i64 (n : Int)) ∈ LR) (hrow : SIn w A0 n0 c0 r) (hsn : s.length = n) (hn1 : 1 ≤ n) (hn : n ≤ 3) :
    Calls Try.prog 38 #[.string ⟨s.toArray⟩, .pointer (some ⟨b1, 0, none⟩), .pointer (some ⟨b2, 0, none⟩)] w fun e w' => e = .returned (.bool (!decide (wrapP n s ∈ r))) ∧ Below w.heap.size w w' := by
  have c1' := hm.cellR h1
  have c2' := hm.cellR h2
  obtain ⟨hd1, hd2⟩ := wrap_cuts hsn hn1
  obtain ⟨x, hx⟩ : ∃ x, x = s.getD (n - 1) 0 := ⟨_, rfl⟩
  obtain ⟨y, hy⟩ : ∃ y, y = s.getD 0 0 := ⟨_, rfl⟩
  have HW := Lib.hid (show wrapP n s = [x, y] by rw [hx, hy]; rfl)
  rw [HW.out]
  rw [← hx] at hd1
  rw [← hy] at hd2
  have e1 : IntKind.i64.wrap ((n : Int) - 1) = (n : Int) - 1 := IntWalk.i64_in _ (by omega)
  have e2 : ((n : Int) - 1).toNat = n - 1 := by omega
  have e3 : (0 : Int) ≤ (n : Int) - 1 := by omega
  have e4 : (n : Int) - 1 ≤ (s.length : Int) := by omega
  have e5 : (1 : Int) ≤ (s.length : Int) := by omega
  have e6 : n - 1 ≤ s.length := by omega
  have e7 : 1 ≤ s.length := by omega
  have e8 : (1 : Int) ≤ (n : Int) := by omega
  have hcat : ¬ 9223372036854775807 < [x].length + [y].length := by simp
  have HQ := Lib.hid (hrow.later (bdR w)).1
  have hn0 := hrow.2.1
  clear hx hy hsn hm h1 h2 hrow
  cases hin : decide ([x, y] ∈ r)
  all_goals
    have HIN := Lib.hid hin
    clear hin
    go_enter Try.func38, Try.ntmps38
    go_wp2
    go_region_held3 (fun w' => w'.cell? ⟨b1, 0, none⟩ = some (.slice A0 n0 c0) ∧ w'.cell? ⟨b2, 0, none⟩ = some (.int .i64 (n : Int))) (first | go_keep | exact ⟨by simpa using c1', by simpa using c2'⟩) (first | (go_at_call 39; (with_reducible refine (contains_is HIN.out _ HQ.out hn0).mono ?_); rintro e w' ⟨rfl, rfl⟩))
    clear e1
    go_wp2
    go_ret
    exact ⟨rfl, bdR _⟩
end
section
open Go.RowKit

/-- cells overwritten from the place o on: what lies ahead stays -/
theorem Own.setCells {w0 : World} {e : TypeId} {g n c : Nat} : ∀ (vs : List Value) (o : Nat) (w : World) (xs : List Value), Own w0 w e (some ⟨g, 0, none⟩) n c xs → ∃ ys, Own w0 (w.setCells g o vs) e (some ⟨g, 0, none⟩) n c ys ∧ ys.take o = xs.take o
  | [], o, w, xs, h => ⟨xs, h, rfl⟩
  | v :: vs, o, w, xs, h => by
    obtain ⟨ys, h1, h2⟩ := Own.setCells vs (o + 1) _ _ (h.store o v)
    refine ⟨ys, h1, ?_⟩
    have h3 := congrArg (List.take o) h2
    rw [List.take_take, List.take_take, Nat.min_eq_left (by omega)] at h3
    rw [h3, List.take_set_of_le (Nat.le_refl _)]
/-- the row cut short -/
theorem Own.cut {w0 w : World} {e : TypeId} {g n c i : Nat} {xs : List Value} (h : Own w0 w e (some ⟨g, 0, none⟩) n c xs) (hi : i ≤ n) : Own w0 w e (some ⟨g, 0, none⟩) i c (xs.take i) := by
  refine ⟨⟨by have := h.len; simp; omega, ?_⟩, h.2⟩
  rcases h.1.2 with ⟨hv, _⟩ | ⟨g', cap, cur, hv, hb, hh, hnc, hcm, hcs, ht⟩
  · simp at hv
  · injection hv with hA hn hc
    subst hc
    exact Or.inr ⟨g', c, cur, by rw [hA], hb, hh, by omega, hcm, hcs, by rw [← ht, List.take_take]; simp [Nat.min_eq_left hi]⟩
/-- the row while DeleteFunc goes through it: i kept, j looked at -/
def DelAt (p : List UInt8 → Bool) (ss cur : Pch) (i j : Nat) : Prop := cur.length = ss.length ∧ i < j ∧ j ≤ ss.length ∧ cur.take i = (ss.take j).filter (fun x => !p x) ∧ cur.drop j = ss.drop j
theorem DelAt.keep {p : List UInt8 → Bool} {ss cur : Pch} {i j : Nat} (h : DelAt p ss cur i j) (hj : j < ss.length) (hp : p ss[j] = false) : DelAt p ss (cur.set i ss[j]) (i + 1) (j + 1) := by
  obtain ⟨h1, h2, h3, h4, h5⟩ := h
  refine ⟨by simpa using h1, by omega, by omega, ?_, ?_⟩
  · rw [take_snoc _ i (by simp; omega), List.take_set_of_le (Nat.le_refl _), h4, take_snoc ss j hj, List.filter_append]
    simp [hp]
  · rw [List.drop_set_of_lt (by omega)]
    have h6 := congrArg (List.drop 1) h5
    rw [List.drop_drop, List.drop_drop] at h6
    exact h6
theorem DelAt.skip {p : List UInt8 → Bool} {ss cur : Pch} {i j : Nat} (h : DelAt p ss cur i j) (hj : j < ss.length) (hp : p ss[j] = true) : DelAt p ss cur i (j + 1) := by
  obtain ⟨h1, h2, h3, h4, h5⟩ := h
  refine ⟨h1, by omega, by omega, ?_, ?_⟩
  · rw [h4, take_snoc ss j hj, List.filter_append]
    simp [hp]
  · have h6 := congrArg (List.drop 1) h5
    rw [List.drop_drop, List.drop_drop] at h6
    exact h6
theorem DelAt.start {p : List UInt8 → Bool} {ss : Pch} {k : Nat} (hk : k < ss.length) (hp : p ss[k] = true) (hb : ∀ j (hj : j < k), p (ss[j]'(by omega)) = false) : DelAt p ss ss k (k + 1) := by
  refine ⟨rfl, by omega, by omega, ?_, rfl⟩
  rw [take_snoc ss k hk, List.filter_append]
  have h1 : (ss.take k).filter (fun x => !p x) = ss.take k := by
    rw [List.filter_eq_self]
    intro x hx
    obtain ⟨j, hj, rfl⟩ := List.getElem_of_mem hx
    simp at hj
    simp [hb j (by omega)]
  rw [h1]; simp [hp]
theorem DelAt.get {p : List UInt8 → Bool} {ss cur : Pch} {i j : Nat} (h : DelAt p ss cur i j) (hj : j < ss.length) : cur[j]'(by have := h.1; omega) = ss[j] := by
  have h1 := congrArg (fun l : Pch => l[0]?) h.2.2.2.2
  simp only [List.getElem?_drop, Nat.add_zero] at h1
  rw [List.getElem?_eq_getElem (by have := h.1; omega), List.getElem?_eq_getElem hj] at h1
  exact Option.some.inj h1
set_option maxRecDepth 4096 in
set_option maxHeartbeats 1600000 in
theorem deleteFunc_any (g : Nat) (lb : Array Value) (eg : ∀ args w, (callFunc g args).run Try.prog w = .ok (.enter g args) w) (W1 W : World) (A : Option Addr) (n c : Nat) (ss : Pch) (p : List UInt8 → Bool) (hown : Own W1 W 9 A n c (svs ss)) (hn : n ≤ 64)
    (hp : ∀ w, Below W1.heap.size W1 w → ∀ x ∈ ss, Calls Try.prog g (#[.string ⟨x.toArray⟩] ++ lb) w fun e w' => e = .returned (.bool (p x)) ∧ Below w.heap.size w w') :
    Calls Try.prog 36 #[.slice A n c, .func (.func g) #[] lb] W fun e w' => ∃ m c', e = .returned (.slice A m c') ∧ Own W1 w' 9 A m c' (svs (ss.filter fun x => !p x)) := by
  have HI := Lib.hid (indexFunc_any g lb eg A n c _ ss p W hown.rd (Nat.le_refl _) (by omega) (fun w hb x hx => hp w (hown.bel.trans (hb.mono hown.bel.size)) x hx))
  have HO := Lib.hid hown
  have HP := Lib.hid hp
  have HLen := Lib.hid (show ss.length = n by have := hown.len; simpa [svs] using this)
  clear hown hp
  by_cases hk : ss.findIdx p < ss.length
  · obtain ⟨k0, hk0⟩ : ∃ k0, k0 = ss.findIdx p := ⟨_, rfl⟩
    have hkl : k0 < ss.length := by rw [hk0]; exact hk
    obtain ⟨hpk, hb⟩ := (List.findIdx_eq hkl).1 hk0.symm
    have HD := Lib.hid (DelAt.start hkl hpk hb)
    have HE := Lib.hid (by have h := HI.out; rw [idxP_hit (p := p) hkl hpk hb] at h; exact h)
    have hkn : k0 < n := by rw [← HLen.out]; exact hkl
    obtain ⟨g0, rfl⟩ := own_form HO.out.1 (by omega)
    have hm1 : ((k0 : Int) == -1) = false := beq_eq_false_iff_ne.2 (by omega)
    clear hk0 hk hpk hb HI hkl
    go_enter Try.func36, Try.ntmps36
    go_wp2_with (go_at_call 29; refine HE.out.mono ?_; rintro e w2 ⟨rfl, hb2⟩)
    go_loopw [6, 5] (fun j i wr => ∃ (jn inn : Nat) (cur : Pch), jn ≤ n ∧ inn < jn ∧ j = .int .i64 jn ∧ i = .int .i64 inn ∧ Hid (DelAt p ss cur inn jn) ∧ Own W1 wr 9 (some ⟨g0, 0, none⟩) n c (svs cur)) (fun j _ _ => n - (intOf j).toNat)
    case atStart => exact ⟨k0 + 1, k0, ss, by omega, by omega, by go_num, rfl, HD, HO.out.later hb2⟩
    case round =>
      obtain ⟨jn, inn, cur, hj, hij, rfl, rfl, hd, hown⟩ := hrel
      have HO2 := Lib.hid hown
      have HD2 := Lib.hid hd.out
      have HCL := Lib.hid (show cur.length = n by rw [hd.out.1]; exact HLen.out)
      clear hd hown HD HE
      by_cases hlt : jn < n
      · have hjl : jn < ss.length := by rw [HLen.out]; exact hlt
        have hcell := HO2.out.cellAt (j := jn) (by simp only [svs, List.length_map]; rw [HCL.out]; exact hlt)
        rw [svs_get (by rw [HCL.out]; exact hlt)] at hcell
        rw [HD2.out.get hjl] at hcell
        have HCon := Lib.hid (HP.out wr HO2.out.bel ss[jn] (List.getElem_mem hjl))
        have HK := Lib.hid (fun h => HD2.out.keep hjl h)
        have HSk := Lib.hid (fun h => HD2.out.skip hjl h)
        obtain ⟨x, hx⟩ : ∃ x, x = ss[jn] := ⟨_, rfl⟩
        rw [← hx] at hcell HCon HK HSk
        have HIn := Lib.hid (show inn < (svs cur).length by simp only [svs, List.length_map]; rw [HCL.out]; omega)
        cases hpx : p x
        · rw [hpx] at HCon
          have HN := Lib.hid (HK.out hpx)
          clear hx hpx HK HSk
          go_wp2_with (go_at_fn g; refine HCon.out.mono ?_; rintro e w3 ⟨rfl, hb3⟩; have hst := (HO2.out.later hb3).cellAt HIn.out; have hfr := (HO2.out.later hb3).frozenAt inn)
          exact ⟨⟨jn + 1, inn + 1, cur.set inn x, by omega, by omega, by go_num, by go_num, HN, by
            have h := (HO2.out.later hb3).store inn (.string ⟨x.toArray⟩)
            rw [show svs (cur.set inn x) = (svs cur).set inn (.string ⟨x.toArray⟩) by simp [svs, List.map_set]]
            exact h⟩, by simp [intOf]; omega⟩
        · rw [hpx] at HCon
          have HN := Lib.hid (HSk.out hpx)
          clear hx hpx HK HSk
          go_wp2_with (go_at_fn g; refine HCon.out.mono ?_; rintro e w3 ⟨rfl, hb3⟩)
          exact ⟨⟨jn + 1, inn, cur, by omega, by omega, by go_num, rfl, HN, HO2.out.later hb3⟩, by simp [intOf]; omega⟩
      · have hjn : jn = ss.length := by rw [HLen.out]; omega
        have HT := Lib.hid (show cur.take inn = ss.filter fun x => !p x by have h := HD2.out.2.2.2.1; rw [h, hjn, List.take_length])
        have hin : inn < n := by omega
        have hcl : ∀ ty, (Builtin.clear_ #[23] ty #[.slice (some ⟨g0, inn, none⟩) (n - inn) (c - inn)]).run Try.prog wr = .ok (.tuple #[]) (wr.setCells g0 inn (List.replicate (n - inn) (.string ⟨#[]⟩))) := fun ty =>
          Lib.run_clear_slice wr _ 9 ty _ Try.underlying23 (fun _ => rfl) rfl rfl g0 inn _ _ (by omega)
            (fun t ht => by rw [HO2.out.cellAt (j := inn + t) (by simp only [svs, List.length_map]; rw [HCL.out]; omega)]; rfl) (fun t ht => HO2.out.frozenAt _)
        obtain ⟨ys, HOy, hys⟩ := Own.setCells (List.replicate (n - inn) (.string ⟨#[]⟩)) inn wr _ HO2.out
        have HOz := Lib.hid (HOy.cut (i := inn) (by omega))
        rw [hys, show (svs cur).take inn = svs (cur.take inn) by simp [svs, List.map_take], HT.out] at HOz
        have hcap := HO2.out.cap
        have i1 : (inn : Int) ≤ (c : Int) := by omega
        have i2 : inn ≤ c := by omega
        have i3 : (inn : Int) ≤ (n : Int) := by omega
        have i4 : ¬ c = 0 := by omega
        go_wp2
        go_ret
        exact ⟨inn, _, rfl, HOz.out⟩
  · have hall : ∀ x ∈ ss, p x = false := List.findIdx_eq_length.1 (by have := List.findIdx_le_length (xs := ss) (p := p); omega)
    have HF := Lib.hid (show ss.filter (fun x => !p x) = ss from List.filter_eq_self.2 (fun x hx => by simp [hall x hx]))
    have HE := Lib.hid (by have h := HI.out; rw [idxP_none (fun j hj => hall _ (List.getElem_mem hj))] at h; exact h)
    clear hall hk HI
    go_enter Try.func36, Try.ntmps36
    go_wp2_with (go_at_call 29; refine HE.out.mono ?_; rintro e w2 ⟨rfl, hb2⟩)
    go_ret
    exact ⟨_, _, rfl, by rw [HF.out]; exact HO.out.later hb2⟩
end
end Go.Proofs.Ytbaleboljcoigaa
