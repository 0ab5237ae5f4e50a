/-
  Contracts of FromRuns (program and reference). No conditions.
-/
import Derived.Test.YtdnfkhfhhffaeaaSInner
import Derived.Test.YtdnfkhfhhffaeaaShelf
import Derived.Lib.AppendStr
import Derived.Deep.RegionHeld3
namespace Go.Proofs.Ytdnfkhfhhffaeaa
open Go.RowKit

/-! ## the plain law -/
def adj (l : List UInt8) (i : Nat) : Bool := l[i]? == l[(i + 1) % l.length]?
def okL (l : List UInt8) : Bool := isW l && (decide (2 ≤ l.length) && (List.range l.length).all fun i => !adj l i)
def frGood (zs : List Int) : Bool := zs.all (fun z => wi z 1 400) && decide (zs.sum ≤ 400)
def frOut (l : List UInt8) (zs : List Int) (k : Nat) : List UInt8 := (List.range k).flatMap fun i => List.replicate (zs.getD i 0).toNat (l.getD (i % l.length) 0)
def fromRuns (zs : List Int) (l : List UInt8) : List UInt8 × Bool := if okL l && frGood zs then (frOut l zs zs.length, true) else ([], false)

theorem okL_noW {l : List UInt8} (h : isW l = false) : okL l = false := by simp [okL, h]
theorem okL_short {l : List UInt8} (h : ¬ 2 ≤ l.length) : okL l = false := by simp [okL, h]
theorem okL_bad {l : List UInt8} {k : Nat} (hk : k < l.length) (h : adj l k = true) : okL l = false := by
  have : ((List.range l.length).all fun i => !adj l i) = false := by
    rw [Bool.eq_false_iff]; intro h2; have := List.all_eq_true.1 h2 k (List.mem_range.2 hk); rw [h] at this; cases this
  simp [okL, this]
theorem okL_good {l : List UInt8} (h1 : isW l = true) (h2 : 2 ≤ l.length) (h3 : ∀ i, i < l.length → adj l i = false) : okL l = true := by
  have : ((List.range l.length).all fun i => !adj l i) = true := List.all_eq_true.2 fun i hi => by rw [h3 i (List.mem_range.1 hi)]; rfl
  simp [okL, h1, h2, this]
theorem fr_no {zs : List Int} {l : List UInt8} (h : okL l = false) : ([], false) = fromRuns zs l := by simp [fromRuns, h]
theorem fr_no2 {zs : List Int} {l : List UInt8} (h : frGood zs = false) : ([], false) = fromRuns zs l := by simp [fromRuns, h]
theorem fr_yes {zs : List Int} {l : List UInt8} (h : okL l = true) (h2 : frGood zs = true) : (frOut l zs zs.length, true) = fromRuns zs l := by simp [fromRuns, h, h2]

def g4 (z : Int) : Bool := wi z 1 400
theorem sum_bd : ∀ {zs : List Int}, zs.all g4 = true → (zs.length : Int) ≤ zs.sum ∧ zs.sum ≤ 400 * (zs.length : Int)
  | [], _ => by simp
  | z :: zs, h => by
    rw [List.all_cons, Bool.and_eq_true] at h
    have h1 := sum_bd h.2
    have h2 := wi_yes (show wi z 1 400 = true from h.1)
    simp only [List.length_cons, List.sum_cons]; omega
theorem good_take {zs : List Int} (h : frGood zs = true) (k : Nat) : (zs.take k).sum ≤ 400 := by
  simp only [frGood, Bool.and_eq_true, decide_eq_true_eq] at h
  have h1 : zs.all g4 = true := h.1
  have h2 : (zs.drop k).all g4 = true := List.all_eq_true.2 fun z hz => List.all_eq_true.1 h1 z (List.mem_of_mem_drop hz)
  have h3 := sum_bd h2
  have h4 : (zs.take k).sum + (zs.drop k).sum = zs.sum := by rw [← List.sum_append, List.take_append_drop]
  omega
theorem good_big {zs : List Int} {k : Nat} (h : 400 < (zs.take k).sum) : frGood zs = false := by
  cases hg : frGood zs with
  | false => rfl
  | true => have := good_take hg k; omega
theorem good_long {zs : List Int} (h : 400 < zs.length) : frGood zs = false := by
  cases hg : frGood zs with
  | false => rfl
  | true =>
    simp only [frGood, Bool.and_eq_true, decide_eq_true_eq] at hg
    have := (sum_bd (zs := zs) hg.1).1; omega
theorem good_bad {zs : List Int} {k : Nat} (hk : k < zs.length) (h : g4 zs[k] = false) : frGood zs = false := by
  have : zs.all g4 = false := all_bad (p := g4) hk h
  unfold frGood; rw [show (zs.all fun z => wi z 1 400) = false from this]; rfl
theorem good_done {zs : List Int} (h : zs.all g4 = true) (h2 : zs.sum ≤ 400) : frGood zs = true := by
  unfold frGood; rw [show (zs.all fun z => wi z 1 400) = true from h]; simp [h2]
theorem sum_snoc {zs : List Int} {k : Nat} (hk : k < zs.length) : (zs.take (k + 1)).sum = (zs.take k).sum + zs[k] := by
  rw [take_snoc zs k hk, List.sum_append]; simp
theorem frOut_snoc {l : List UInt8} {zs : List Int} {k m : Nat} (hk : k < zs.length) (hm : k % l.length = m) (hml : m < l.length) : frOut l zs (k + 1) = frOut l zs k ++ List.replicate zs[k].toNat l[m] := by
  subst hm
  unfold frOut
  rw [List.range_succ, List.flatMap_append]
  simp [List.getD, List.getElem?_eq_getElem hk, List.getElem?_eq_getElem hml]
theorem frOut_len {l : List UInt8} {zs : List Int} : ∀ {k : Nat}, k ≤ zs.length → (zs.take k).all g4 = true → ((frOut l zs k).length : Int) = (zs.take k).sum
  | 0, _, _ => by simp [frOut]
  | k + 1, hk, h => by
    rw [take_snoc zs k hk, List.all_append, Bool.and_eq_true] at h
    have ih := frOut_len (l := l) (Nat.le_of_succ_le hk) h.1
    have h2 := wi_yes (show wi zs[k] 1 400 = true by simpa [g4] using h.2)
    rw [sum_snoc hk, ← ih]
    unfold frOut
    rw [List.range_succ, List.flatMap_append, List.length_append]
    simp [List.getElem?_eq_getElem (show k < zs.length from hk)]
    omega
theorem take_len_sum {zs : List Int} {k : Nat} (h : (zs.take k).all g4 = true) (hk : k ≤ zs.length) : (k : Int) ≤ (zs.take k).sum ∧ (zs.take k).sum ≤ 400 * (k : Int) := by
  have := sum_bd h
  rw [List.length_take, Nat.min_eq_left hk] at this
  exact this
theorem rep_one (x : UInt8) : ∀ c, Lib.repeatL [x] c = List.replicate c x
  | 0 => rfl
  | c + 1 => by rw [Lib.repeatL, rep_one x c, List.replicate_succ]; rfl
theorem cut_one {l : List UInt8} {m : Nat} (h : m < l.length) : (l.take (m + 1)).drop m = [l[m]] := by
  rw [List.take_succ_eq_append_getElem h, List.drop_append_of_le_length (by simp; omega), List.drop_of_length_le (by simp; exact Nat.min_le_left _ _)]; rfl

/-! ## append of a string's bytes onto a row of the call's own -/
section
variable {P : Program} {w0 w : World}
theorem wp_app_str {o : Oper} {a : Act} {K : Act → World → Prop} {Q : Exit → Act → World → Prop} (s x : Operand) (t u e : TypeId)
    (ho : o.op = .call { callee := .builtin .append, args := #[s, x], argTypes := #[t, u] })
    (ht : P.underlying t = some (.slice e)) (hu : P.underlying u = some .string) (hinf : (P.info? e).map (fun i => (i.zero, i.size, i.bytes)) = some (some (.int .u8 0), 1, 1))
    {A : Option Addr} {n c : Nat} {xs : List Value} (hs : a.eval s = .slice A n c) (hown : Own w0 w e A n c xs)
    {y : List UInt8} (hx : a.eval x = .string ⟨y.toArray⟩)
    (hbytes : n + y.length ≤ 140737488355328)
    (h : ∀ A' c' w', Own w0 w' e A' (n + y.length) c' (xs ++ bvs y) → K (a.put o.dst (.slice A' (n + y.length) c')) w') : o.wp P a w K Q := by
  obtain ⟨i, hi, hz, hsz, hby⟩ := info_parts hinf
  have hsize : (⟨y.toArray⟩ : ByteArray).size = y.length := by show y.toArray.size = _; simp
  obtain ⟨v', w', hr, h2, h3, _⟩ := Lib.run_append_own_string (P := P) w w0.heap.size t u o.type e i ht hu hi hz hsz hby (.slice A n c) n xs hown.1 ⟨y.toArray⟩ (by rw [hsize]; unfold maxLen; omega) (by rw [hsize]; omega) hown.2.size
  rw [hsize] at h2
  have hbel : Below w0.heap.size w0 w' := hown.2.grown h3 hown.2.size (fun k hk => (hown.1.lt k hk).1)
  have hform : ∃ A' c', v' = .slice A' (n + y.length) c' := by
    rcases h2.2 with ⟨hv, hn⟩ | ⟨g, cap, cur, hv, _⟩
    · exact ⟨none, 0, by rw [hv, hn]⟩
    · exact ⟨_, _, hv⟩
  obtain ⟨A', c', rfl⟩ := hform
  have h4 : Own w0 w' e A' (n + y.length) c' (xs ++ bvs y) := ⟨h2, hbel⟩
  unfold Oper.wp execOp
  simp only [ho, resolve, invoke, builtin, Sem.run_bind, Sem.run_pure, Result.andThen_ok, List.map_toArray, List.map_cons, List.map_nil, hs, hx, hr]
  exact h A' c' w' h4
theorem step_app_str {ops : Array Oper} {o : Oper} {a : Act} {K : Act → World → Prop} {Q : Exit → Act → World → Prop} {E : Prop} (s x : Operand) (t u e : TypeId)
    (hgd : o.guard = none) (ho : o.op = .call { callee := .builtin .append, args := #[s, x], argTypes := #[t, u] })
    (ht : P.underlying t = some (.slice e)) (hu : P.underlying u = some .string) (hinf : (P.info? e).map (fun i => (i.zero, i.size, i.bytes)) = some (some (.int .u8 0), 1, 1))
    {A : Option Addr} {n c : Nat} {xs : List Value} (hs : a.eval s = .slice A n c) (hown : Own w0 w e A n c xs)
    {y : List UInt8} (hx : a.eval x = .string ⟨y.toArray⟩)
    (hbytes : n + y.length ≤ 140737488355328)
    (h : ∀ A' c' w', Own w0 w' e A' (n + y.length) c' (xs ++ bvs y) → K (a.put o.dst (.slice A' (n + y.length) c')) w') :
    if Region.wanted o (yielded ops a.tmps) = true then Oper.wp P o a w K Q else E := by
  have hw : Region.wanted o (yielded ops a.tmps) = true := by simp [Region.wanted, hgd]
  rw [if_pos hw]
  exact wp_app_str s x t u e ho ht hu hinf hs hown hx hbytes h
end
theorem bvs_app (a b : List UInt8) : bvs (a ++ b) = bvs a ++ bvs b := by simp [bvs]

/-! ## the program's walk -/
set_option maxHeartbeats 1600000 in
theorem iFromRuns_any (A : Option Addr) (n c B : Nat) (zs : List Int) (l : List UInt8) (w : World) (hr : Rd w B A n (ivs zs)) (hB : B ≤ w.heap.size) (hn : n ≤ 1048576) (hl : l.length ≤ 9223372036854775807) :
    Calls Try.prog 22 #[.slice A n c, .string ⟨l.toArray⟩] w fun e w' => e = .returned (.tuple #[.string ⟨(fromRuns zs l).1.toArray⟩, .bool (fromRuns zs l).2]) ∧ Below w.heap.size w w' := by
  have hlen := Lib.hid hr.lenI
  have HR := Lib.hid (hr.more hB)
  clear hr
  cases hw : isW l
  case false =>
    have HE := Lib.hid (fr_no (zs := zs) (okL_noW hw))
    go_enter Try.func22, Try.ntmps22
    go_wp2_with (go_at_call 30; refine (isWord_any l hl _).mono ?_; rintro e w' ⟨rfl, rfl⟩)
    go_ret2
    exact ⟨ret_sb HE.out, Below.refl _ _⟩
  by_cases h2 : 2 ≤ l.length
  case neg =>
    have HE := Lib.hid (fr_no (zs := zs) (okL_short h2))
    go_enter Try.func22, Try.ntmps22
    go_wp2_with (go_at_call 30; refine (isWord_any l hl _).mono ?_; rintro e w' ⟨rfl, rfl⟩)
    go_ret2
    exact ⟨ret_sb HE.out, Below.refl _ _⟩
  have h4 := isW_len hw
  have HIW := Lib.hid hw
  have hcw := isWord_any l hl w
  rw [hw] at hcw
  have HC := Lib.hid hcw
  clear hcw hw
  go_enter Try.func22, Try.ntmps22
  go_wp2_with (go_at_call 30; refine HC.out.mono ?_; rintro e w' ⟨rfl, rfl⟩)
  go_loopw [21] (fun i wr => ∃ k : Nat, k ≤ l.length ∧ i = .int .i64 k ∧ (∀ i, i < k → adj l i = false) ∧ Below w.heap.size w wr) (fun i _ => l.length - (intOf i).toNat)
  case atStart => exact ⟨0, Nat.zero_le _, rfl, fun i hi => absurd hi (Nat.not_lt_zero _), Below.refl _ _⟩
  case round =>
    obtain ⟨k, hk, rfl, ha, hb⟩ := hrel
    have HA := Lib.hid ha
    clear ha
    by_cases hlt : k < l.length
    · obtain ⟨m, hm⟩ : ∃ m, m = (k + 1) % l.length := ⟨_, rfl⟩
      have hml : m < l.length := by rw [hm]; exact Nat.mod_lt _ (by omega)
      have e1 : ((k : Int) + 1).tmod (l.length : Int) = (m : Int) := by rw [Int.tmod_eq_emod_of_nonneg (by omega), hm]; rfl
      have e2 : IntKind.i64.wrap (m : Int) = (m : Int) := IntWalk.i64_in _ (by omega)
      have e3 : (0 : Int) ≤ (m : Int) := by omega
      have e6 : (m : Int) < (l.length : Int) := by omega
      have HM := Lib.hid hm
      clear hm
      cases hq : ((l[k].toNat : Int) == (l[m].toNat : Int))
      · have H := Lib.hid (show adj l k = false by
          unfold adj
          rw [← HM.out, List.getElem?_eq_getElem hlt, List.getElem?_eq_getElem hml]
          simp at hq ⊢
          intro he; exact hq (by rw [he]))
        go_wp2
        go_quiet (fail)
        all_goals
          go_wp2
          exact ⟨⟨k + 1, by omega, by go_num, fun i hi => by
            by_cases he : i = k
            · subst he; exact H.out
            · exact HA.out i (by omega), below_drewN' hb nq⟩, by simp [intOf]; omega⟩
      · have HE := Lib.hid (fr_no (zs := zs) (okL_bad hlt (show adj l k = true by
          unfold adj
          rw [← HM.out, List.getElem?_eq_getElem hlt, List.getElem?_eq_getElem hml]
          simp at hq ⊢
          exact UInt8.toNat_inj.1 (by omega))))
        go_wp2
        go_quiet (fail)
        all_goals
          go_wp2
          go_ret2
          exact ⟨ret_sb HE.out, below_drewN' hb nq⟩
    · have HOK := Lib.hid (okL_good HIW.out h2 (fun i hi => HA.out i (by omega)))
      go_wp2
      go_loopw [39, 8, 7] (fun i s out wr => ∃ (k : Nat) (z : Int) (A' : Option Addr) (m c' : Nat) (x : List UInt8), k ≤ n ∧ i = .int .i64 k ∧ z = (zs.take k).sum ∧ s = .int .i64 z ∧ out = .slice A' m c' ∧ m ≤ 400 ∧ Own w wr 5 A' m c' (bvs x) ∧ (zs.take k).all g4 = true ∧ (z ≤ 400 → x = frOut l zs k)) (fun i _ _ _ => n - (intOf i).toNat)
      case atStart => exact ⟨0, 0, _, _, _, [], Nat.zero_le _, rfl, rfl, rfl, rfl, by omega, Own.made0 hb _, rfl, fun _ => rfl⟩
      case round =>
        clear hb
        obtain ⟨k, z, A', m, c', x, hk, rfl, hz, rfl, rfl, hm4, hown, ha, hx⟩ := hrel
        have hbd := take_len_sum ha (by rw [hlen.out]; exact hk)
        rw [← hz] at hbd
        have HA := Lib.hid ha
        have HX := Lib.hid hx
        have HZ := Lib.hid hz
        clear ha hx hz
        by_cases hkn : k < n
        · have hkl : k < zs.length := by rw [hlen.out]; exact hkn
          obtain ⟨a, rfl, hab, hcell⟩ := (HR.out.below hown.2).int (k := k) hkl
          obtain ⟨y, hy⟩ : ∃ y, y = zs[k] := ⟨_, rfl⟩
          rw [← hy] at hcell
          have HY := Lib.hid hy
          clear hy
          cases hg : wi y 1 400
          · have HE := Lib.hid (fr_no2 (l := l) (good_bad hkl (show g4 zs[k] = false by rw [← HY.out]; exact hg)))
            go_wp2_with (go_at_call 26; refine (within_any _ _ _ _).mono ?_; rintro e w' ⟨rfl, rfl⟩)
            go_ret2
            exact ⟨ret_sb HE.out, hown.2⟩
          · have hy2 := wi_yes hg
            have HN := Lib.hid (all_snoc (p := g4) hkl HA.out (by rw [← HY.out]; exact hg))
            have HS := Lib.hid (show z + y = (zs.take (k + 1)).sum by rw [sum_snoc hkl, HY.out, HZ.out])
            have hi1 : IntKind.i64.wrap (z + y) = z + y := IntWalk.i64_in _ (by omega)
            by_cases h400 : z + y ≤ 400
            · obtain ⟨q, hq⟩ : ∃ q, q = k % l.length := ⟨_, rfl⟩
              have hql : q < l.length := by rw [hq]; exact Nat.mod_lt _ (by omega)
              have e1 : (k : Int).tmod (l.length : Int) = (q : Int) := by rw [Int.tmod_eq_emod_of_nonneg (by omega), hq]; rfl
              have e2 : IntKind.i64.wrap (q : Int) = (q : Int) := IntWalk.i64_in _ (by omega)
              obtain ⟨v, rfl⟩ := Int.eq_ofNat_of_zero_le (show 0 ≤ y by omega)
              have HF := Lib.hid (show frOut l zs (k + 1) = x ++ List.replicate v l[q] by
                rw [frOut_snoc hkl hq.symm hql, HX.out (by omega), ← HY.out]; rfl)
              obtain rfl : m = x.length := by have := hown.len; simpa [bvs] using this.symm
              have hmz : (x.length : Int) = z := by rw [HX.out (by omega), frOut_len (by omega) HA.out, HZ.out]
              have HREP : ∀ W, Calls Try.prog 34 #[.string ⟨((l.take (q + 1)).drop q).toArray⟩, .int .i64 (v : Int)] W fun e w' => e = .returned (.string ⟨(List.replicate v l[q]).toArray⟩) ∧ Below W.heap.size W w' := fun W => by
                rw [cut_one hql]
                refine (Try.strings_Repeat ⟨[l[q]].toArray⟩ v W (by omega) (by show [l[q]].toArray.size * v ≤ _; simp; omega)).mono ?_
                rintro e w' ⟨he, hb⟩
                refine ⟨he.trans ?_, hb⟩
                rw [show (⟨[l[q]].toArray⟩ : ByteArray).data.toList = [l[q]] from rfl, rep_one]
              have HRE := Lib.hid HREP
              have z0 : ¬ l = [] := by intro h; rw [h] at h2; simp at h2
              have z1 : ¬ ((l.length : Int) = 0) := by omega
              have z2 : (0 : Int) ≤ (q : Int) := by omega
              have z3 : (q : Int) + 1 ≤ (l.length : Int) := by omega
              have z4 : (q : Int) ≤ (q : Int) + 1 := by omega
              have z5 : IntKind.i64.wrap ((q : Int) + 1) = (q : Int) + 1 := IntWalk.i64_in _ (by omega)
              have z6 : (0 : Int) < (l.length : Int) := by omega
              clear HREP hq
              go_wp2_with (go_at_call 26; refine (within_any _ _ _ _).mono ?_; rintro e w' ⟨rfl, rfl⟩)
              go_region_held3 (fun _ => True) (trivial)
                (first | (go_at_call 34; refine (HRE.out _).mono ?_; rintro e w1 ⟨rfl, hb1⟩) | (refine step_app_str (.tmp 52) (.tmp 65) _ _ _ (by rfl) (by rfl) Try.underlying35 Try.underlying9 infoB (by rfl) (hown.drew.later hb1) (by rfl) (by simp; omega) ?_; intro A2 c2 w2 hown2))
              all_goals
                go_wp2
                rw [List.length_replicate] at hown2
                exact ⟨⟨k + 1, _, A2, _, c2, x ++ List.replicate v l[q], by omega, by go_num, HS.out, rfl, rfl, by omega, by rw [bvs_app]; exact hown2, HN.out, fun _ => HF.out.symm⟩, by simp [intOf]; omega⟩
            · go_wp2_with (go_at_call 26; refine (within_any _ _ _ _).mono ?_; rintro e w' ⟨rfl, rfl⟩)
              exact ⟨⟨k + 1, _, A', _, c', x, by omega, by go_num, HS.out, rfl, rfl, hm4, hown, HN.out, fun h => absurd h (by omega)⟩, by simp [intOf]; omega⟩
        · obtain rfl : k = n := by omega
          have ht : zs.take k = zs := List.take_of_length_le (by rw [hlen.out]; omega)
          by_cases h400 : z ≤ 400
          · have HE := Lib.hid (show (x, true) = fromRuns zs l by
              rw [← fr_yes HOK.out (good_done (by have := HA.out; rwa [ht] at this) (by have := HZ.out; rw [ht] at this; omega)), HX.out h400, hlen.out])
            have hconv := conv_bytes (P := Try.prog) 35 9 5 Try.underlying35 Try.underlying5 Try.underlying9 hown.rd (c := c')
            go_wp2
            go_ret2
            exact ⟨ret_sb HE.out, hown.2⟩
          · have HE := Lib.hid (fr_no2 (l := l) (good_big (k := k) (by rw [← HZ.out]; omega)))
            go_wp2
            go_ret2
            exact ⟨ret_sb HE.out, hown.2⟩

/-! ## the reference's walk -/
theorem replicate_snoc (v : Nat) (x : UInt8) : List.replicate (v + 1) x = List.replicate v x ++ [x] := List.replicate_succ'
set_option maxHeartbeats 1600000 in
theorem sFromRuns_any (A : Option Addr) (n c B : Nat) (zs : List Int) (l : List UInt8) (w : World) (hr : Rd w B A n (ivs zs)) (hB : B ≤ w.heap.size) (hn : n ≤ 1048576) (hl : l.length ≤ 9223372036854775807) :
    Calls Try.prog 20 #[.slice A n c, .string ⟨l.toArray⟩] w fun e w' => e = .returned (.tuple #[.string ⟨(fromRuns zs l).1.toArray⟩, .bool (fromRuns zs l).2]) ∧ Below w.heap.size w w' := by
  have hlen := Lib.hid hr.lenI
  have HR := Lib.hid (hr.more hB)
  clear hr
  cases hw : isW l
  case false =>
    have HE := Lib.hid (fr_no (zs := zs) (okL_noW hw))
    go_enter Try.func20, Try.ntmps20
    go_wp2_with (go_at_call 27; refine (WordOk_any l hl _).mono ?_; rintro e w' ⟨rfl, rfl⟩)
    go_ret2
    exact ⟨ret_sb HE.out, Below.refl _ _⟩
  by_cases h2 : 2 ≤ l.length
  case neg =>
    have HE := Lib.hid (fr_no (zs := zs) (okL_short h2))
    go_enter Try.func20, Try.ntmps20
    go_wp2_with (go_at_call 27; refine (WordOk_any l hl _).mono ?_; rintro e w' ⟨rfl, rfl⟩)
    go_ret2
    exact ⟨ret_sb HE.out, Below.refl _ _⟩
  by_cases h400 : n ≤ 400
  case neg =>
    have HE := Lib.hid (fr_no2 (l := l) (good_long (zs := zs) (by rw [hlen.out]; omega)))
    go_enter Try.func20, Try.ntmps20
    go_wp2_with (go_at_call 27; refine (WordOk_any l hl _).mono ?_; rintro e w' ⟨rfl, rfl⟩)
    go_ret2
    exact ⟨ret_sb HE.out, Below.refl _ _⟩
  have h4 := isW_len hw
  have HIW := Lib.hid hw
  have hcw := WordOk_any l hl w
  rw [hw] at hcw
  have HC := Lib.hid hcw
  clear hcw hw
  go_enter Try.func20, Try.ntmps20
  go_wp2_with (go_at_call 27; refine HC.out.mono ?_; rintro e w' ⟨rfl, rfl⟩)
  go_loopw [6] (fun i wr => ∃ k : Nat, k ≤ l.length ∧ i = .int .i64 k ∧ (∀ i, i < k → adj l i = false) ∧ Below w.heap.size w wr) (fun i _ => l.length - (intOf i).toNat)
  case atStart => exact ⟨0, Nat.zero_le _, rfl, fun i hi => absurd hi (Nat.not_lt_zero _), Below.refl _ _⟩
  case round =>
    obtain ⟨k, hk, rfl, ha, hb⟩ := hrel
    have HA := Lib.hid ha
    clear ha
    by_cases hlt : k < l.length
    · obtain ⟨m, hm⟩ : ∃ m, m = (k + 1) % l.length := ⟨_, rfl⟩
      have hml : m < l.length := by rw [hm]; exact Nat.mod_lt _ (by omega)
      have e1 : ((k : Int) + 1).tmod (l.length : Int) = (m : Int) := by rw [Int.tmod_eq_emod_of_nonneg (by omega), hm]; rfl
      have e2 : IntKind.i64.wrap (m : Int) = (m : Int) := IntWalk.i64_in _ (by omega)
      have e3 : (0 : Int) ≤ (m : Int) := by omega
      have e6 : (m : Int) < (l.length : Int) := by omega
      have HM := Lib.hid hm
      clear hm
      cases hq : ((l[k].toNat : Int) == (l[m].toNat : Int))
      · have H := Lib.hid (show adj l k = false by
          unfold adj
          rw [← HM.out, List.getElem?_eq_getElem hlt, List.getElem?_eq_getElem hml]
          simp at hq ⊢
          intro he; exact hq (by rw [he]))
        go_wp2
        go_quiet (fail)
        all_goals
          go_wp2
          exact ⟨⟨k + 1, by omega, by go_num, fun i hi => by
            by_cases he : i = k
            · subst he; exact H.out
            · exact HA.out i (by omega), below_drewN' hb nq⟩, by simp [intOf]; omega⟩
      · have HE := Lib.hid (fr_no (zs := zs) (okL_bad hlt (show adj l k = true by
          unfold adj
          rw [← HM.out, List.getElem?_eq_getElem hlt, List.getElem?_eq_getElem hml]
          simp at hq ⊢
          exact UInt8.toNat_inj.1 (by omega))))
        go_wp2
        go_quiet (fail)
        all_goals
          go_wp2
          go_ret2
          exact ⟨ret_sb HE.out, below_drewN' hb nq⟩
    · have HOK := Lib.hid (okL_good HIW.out h2 (fun i hi => HA.out i (by omega)))
      go_wp2
      go_loopw [44, 7] (fun i out wr => ∃ (k : Nat) (A' : Option Addr) (m c' : Nat), k ≤ n ∧ i = .int .i64 k ∧ out = .slice A' m c' ∧ (m : Int) = (zs.take k).sum ∧ m ≤ 400 ∧ Own w wr 5 A' m c' (bvs (frOut l zs k)) ∧ (zs.take k).all g4 = true) (fun i _ _ => n - (intOf i).toNat)
      case atStart => exact ⟨0, _, _, _, Nat.zero_le _, rfl, rfl, rfl, by omega, Own.made0 hb _, rfl⟩
      case round =>
        clear hb
        obtain ⟨k, A', m, c', hk, rfl, rfl, hz, hm4, hown, ha⟩ := hrel
        have HA := Lib.hid ha
        have HZ := Lib.hid hz
        clear ha hz
        by_cases hkn : k < n
        · have hkl : k < zs.length := by rw [hlen.out]; exact hkn
          obtain ⟨a, rfl, hab, hcell⟩ := (HR.out.below hown.2).int (k := k) hkl
          obtain ⟨y, hy⟩ : ∃ y, y = zs[k] := ⟨_, rfl⟩
          rw [← hy] at hcell
          have HY := Lib.hid hy
          clear hy
          cases hg : wi y 1 400
          · have HE := Lib.hid (fr_no2 (l := l) (good_bad hkl (show g4 zs[k] = false by rw [← HY.out]; exact hg)))
            go_wp2_with (go_at_call 25; refine (l01In_any _ _ _ _).mono ?_; rintro e w' ⟨rfl, rfl⟩)
            go_ret2
            exact ⟨ret_sb HE.out, hown.2⟩
          · have hy2 := wi_yes hg
            have HN := Lib.hid (all_snoc (p := g4) hkl HA.out (by rw [← HY.out]; exact hg))
            have HS := Lib.hid (show (m : Int) + y = (zs.take (k + 1)).sum by rw [sum_snoc hkl, HY.out, HZ.out])
            have hi1 : IntKind.i64.wrap ((m : Int) + y) = (m : Int) + y := IntWalk.i64_in _ (by omega)
            by_cases h400 : (m : Int) + y ≤ 400
            · obtain ⟨q, hq⟩ : ∃ q, q = k % l.length := ⟨_, rfl⟩
              have hql : q < l.length := by rw [hq]; exact Nat.mod_lt _ (by omega)
              have e1 : (k : Int).tmod (l.length : Int) = (q : Int) := by rw [Int.tmod_eq_emod_of_nonneg (by omega), hq]; rfl
              have e2 : IntKind.i64.wrap (q : Int) = (q : Int) := IntWalk.i64_in _ (by omega)
              obtain ⟨v, rfl⟩ := Int.eq_ofNat_of_zero_le (show 0 ≤ y by omega)
              have HF := Lib.hid (show frOut l zs (k + 1) = frOut l zs k ++ List.replicate v l[q] by
                rw [frOut_snoc hkl hq.symm hql, ← HY.out]; rfl)
              clear hq
              go_wp2_with (go_at_call 25; refine (l01In_any _ _ _ _).mono ?_; rintro e w' ⟨rfl, rfl⟩)
              go_loopw [10, 7] (fun j out wr => ∃ (t : Nat) (A' : Option Addr) (c' : Nat), t ≤ v ∧ j = .int .i64 t ∧ out = .slice A' (m + t) c' ∧ Own w wr 5 A' (m + t) c' (bvs (frOut l zs k ++ List.replicate t l[q]))) (fun j _ _ => v - (intOf j).toNat)
              case atStart => exact ⟨0, _, _, Nat.zero_le _, rfl, rfl, by simpa using hown⟩
              case round =>
                clear hcell hown
                obtain ⟨t, A', c', ht, rfl, rfl, hown⟩ := hrel
                by_cases htv : t < v
                · go_wp2_with (at_builtin; refine app_one (.tmp 64) (.tmp 71) _ _ _ 1 rfl rfl Try.underlying35 infoB rfl rfl hown rfl rfl (by omega) (by omega) ?_; intro A2 c2 w1 hown1)
                  exact ⟨⟨t + 1, A2, c2, by omega, by go_num, rfl, by rw [replicate_snoc, ← List.append_assoc, bvs_snoc]; exact hown1⟩, by simp [intOf]; omega⟩
                · obtain rfl : t = v := by omega
                  go_wp2
                  exact ⟨⟨k + 1, A', _, c', by omega, by go_num, rfl, by rw [← HS.out]; rfl, by omega, by rw [HF.out]; exact hown, HN.out⟩, by simp [intOf]; omega⟩
            · have HE := Lib.hid (fr_no2 (l := l) (good_big (zs := zs) (k := k + 1) (by rw [← HS.out]; omega)))
              go_wp2_with (go_at_call 25; refine (l01In_any _ _ _ _).mono ?_; rintro e w' ⟨rfl, rfl⟩)
              go_ret2
              exact ⟨ret_sb HE.out, hown.2⟩
        · obtain rfl : k = n := by omega
          have ht : zs.take k = zs := List.take_of_length_le (by rw [hlen.out]; omega)
          have HE := Lib.hid (show (frOut l zs k, true) = fromRuns zs l by
            rw [← fr_yes HOK.out (good_done (by have := HA.out; rwa [ht] at this) (by have := HZ.out; rw [ht] at this; omega)), hlen.out])
          have hconv := conv_bytes (P := Try.prog) 35 9 5 Try.underlying35 Try.underlying5 Try.underlying9 hown.rd (c := c')
          go_wp2
          go_ret2
          exact ⟨ret_sb HE.out, hown.2⟩

set_option maxHeartbeats 1000000 in
theorem walk_FnExactFromRuns (A : Option Addr) (n c : Nat) (zs : List Int) (l : List UInt8) (w : World) (hzs : IntsArg w A n c zs) (hl : StrArg l) : Calls Try.prog 7 #[.slice A n c, .string ⟨l.toArray⟩] w fun e w' => e = .returned (.bool true) ∧ Below w.heap.size w w' := by
  obtain ⟨hrd, hnc, hcm, _⟩ := hzs
  unfold StrArg at hl
  by_cases hbig : n ≤ 1048576
  case neg =>
    go_enter Try.func7, Try.ntmps7
    go_wp2_with fail
    go_ret
    exact ⟨rfl, Below.refl _ _⟩
  by_cases hbig2 : l.length ≤ 1048576
  case neg =>
    go_enter Try.func7, Try.ntmps7
    go_wp2_with fail
    go_ret
    exact ⟨rfl, Below.refl _ _⟩
  have HR := Lib.hid hrd
  clear hrd
  go_enter Try.func7, Try.ntmps7
  go_wp2_with fail
  refine (toIntS_any _ _ _ _ _ HR.out (by omega)).mono ?_
  rintro e w1 ⟨A1, rfl, o1⟩
  have M1 := (Mem.start w).add o1
  clear o1
  go_wp2_with fail
  refine (sFromRuns_any _ _ _ _ _ _ _ (M1.rd0) (Nat.le_refl _) (by omega) hl).mono ?_
  rintro e w2 ⟨rfl, hb2⟩
  have M2 := M1.later hb2
  clear M1
  go_wp2_with fail
  refine (toIntS_any _ _ _ _ _ (HR.out.later M2.bel) (by omega)).mono ?_
  rintro e w3 ⟨A3, rfl, o3⟩
  have M3 := M2.add o3
  clear o3 M2
  go_wp2_with fail
  refine (iFromRuns_any _ _ _ _ _ _ _ (M3.rd0) (Nat.le_refl _) (by omega) hl).mono ?_
  rintro e w4 ⟨rfl, hb4⟩
  have M4 := M3.later hb4
  clear M3
  go_wp2_with fail
  refine (toIntS_any _ _ _ _ _ (HR.out.later M4.bel) (by omega)).mono ?_
  rintro e w5 ⟨A5, rfl, o5⟩
  have M5 := M4.add o5
  clear o5 M4
  go_wp2_with fail
  refine (eqIntS_same _ _ _ _ _ _ _ _ _ (M5.rd1) (M5.rd0) (Nat.le_refl _) (Nat.le_refl _) (by omega)).mono ?_
  rintro e w6 ⟨rfl, hb6⟩
  have M6 := M5.later hb6
  go_wp2_with fail
  go_ret
  exact ⟨rfl, M6.bel⟩
end Go.Proofs.Ytdnfkhfhhffaeaa
