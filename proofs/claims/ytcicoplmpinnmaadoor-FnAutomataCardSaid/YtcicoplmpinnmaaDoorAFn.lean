/-
  Contracts of slices.IndexFunc and slices.Equal over rows of numbers, and of the closures of small and classes. Conditions: slices that can be read; what the closures captured.
-/
import Derived.Test.YtcicoplmpinnmaaDoorASml
import Derived.Test.YtcicoplmpinnmaaDoorAHelp
import Derived.Test.YtcicoplmpinnmaaDoorCell
import Derived.Shelf.Abstract
namespace Go.Proofs.YtcicoplmpinnmaaDoor
open Go.RowKit

/-- the first index below n at which p holds, or -1 -/
def fidx (p : Nat → Bool) (n : Nat) : Int := if (List.range n).findIdx p < n then ((List.range n).findIdx p : Nat) else -1
theorem fidx_hit {p : Nat → Bool} {n k : Nat} (hk : k < n) (h : p k = true) (hb : ∀ j < k, p j = false) : fidx p n = (k : Int) := by
  have h1 : (List.range n).findIdx p = k := (List.findIdx_eq (by simpa using hk)).2 ⟨by simpa using h, fun j hj => by simpa using hb j hj⟩
  unfold fidx; rw [h1, if_pos hk]
theorem fidx_none {p : Nat → Bool} {n : Nat} (h : ∀ j < n, p j = false) : fidx p n = -1 := by
  have h1 : (List.range n).findIdx p = (List.range n).length := List.findIdx_eq_length.2 (fun x hx => h x (List.mem_range.1 hx))
  unfold fidx; rw [h1, List.length_range, if_neg (by omega)]

set_option maxHeartbeats 800000 in
theorem equalI_any (A B : Option Addr) (n m c d : Nat) (xs ys : List Int) (w : World) (ha : Rd w w.heap.size A n (ivs xs)) (hb : Rd w w.heap.size B m (ivs ys)) (hn : n ≤ 1048576) (hm : m ≤ 1048576) :
    Calls Tryd.prog 26 #[.slice A n c, .slice B m d] w fun e w' => e = .returned (.bool (xs == ys)) ∧ Below w.heap.size w w' := by
  have HA := Lib.hid ha
  have HB := Lib.hid hb
  have HLa := Lib.hid ha.lenI
  have HLb := Lib.hid hb.lenI
  obtain ⟨res, hres⟩ : ∃ res, res = (xs == ys) := ⟨_, rfl⟩
  rw [← hres]
  have HR := Lib.hid hres
  clear ha hb hres
  by_cases hnm : n = m
  · subst hnm
    go_enter Tryd.func26, Tryd.ntmps26
    go_wp2
    go_loopw [13] (fun i wr => ∃ k : Nat, k ≤ n ∧ i = .int .i64 k ∧ Below w.heap.size w wr ∧ Hid (∀ j (h1 : j < xs.length) (h2 : j < ys.length), j < k → xs[j] = ys[j])) (fun i _ => n - (intOf i).toNat)
    case atStart => exact ⟨0, Nat.zero_le _, rfl, Below.refl _ _, Lib.hid (fun j h1 h2 hj => absurd hj (Nat.not_lt_zero _))⟩
    case round =>
      obtain ⟨k, hk, rfl, hbel, HS⟩ := hrel
      have HBel := Lib.hid hbel
      by_cases hlt : k < n
      · have hx : k < xs.length := by rw [HLa.out]; exact hlt
        have hy : k < ys.length := by rw [HLb.out]; exact hlt
        obtain ⟨a, rfl, hab, hca⟩ := (HA.out.later hbel).int hx
        obtain ⟨b, rfl, hbb, hcb⟩ := (HB.out.later hbel).int hy
        have HY := Lib.hid (fun (he : xs[k] = ys[k]) => show ∀ j (h1 : j < xs.length) (h2 : j < ys.length), j < k + 1 → xs[j] = ys[j] from fun j h1 h2 hj => by
          by_cases hjk : j = k
          · subst hjk; exact he
          · exact HS.out j h1 h2 (by omega))
        have HN := Lib.hid (fun (he : ¬ xs[k] = ys[k]) => show res = false by
          rw [HR.out, beq_eq_false_iff_ne]
          intro h
          subst h
          exact he rfl)
        obtain ⟨u, hu⟩ : ∃ u, u = xs[k] := ⟨_, rfl⟩
        obtain ⟨v, hv⟩ : ∃ v, v = ys[k] := ⟨_, rfl⟩
        rw [← hu] at hca HY HN
        rw [← hv] at hcb HY HN
        have i1 : (0 : Int) ≤ (k : Int) := by omega
        have i2 : (k : Int) < (n : Int) := by omega
        clear hu hv hbel HS
        by_cases he : u = v
        · have d1 : (u != v) = false := by simp [he]
          have HY2 := Lib.hid (HY.out he)
          clear he HY HN
          go_wp2_with fail
          go_quiet (fail)
          go_wp2
          exact ⟨⟨k + 1, by omega, by go_num, below_drewN HBel.out nq, HY2⟩, by simp [intOf]; omega⟩
        · have d1 : (u != v) = true := by simp [he]
          have HN2 := Lib.hid (HN.out he)
          clear he HY HN
          go_wp2_with fail
          go_quiet (fail)
          go_wp2
          go_ret
          exact ⟨by (rw [HN2.out]; try rfl), below_drewN HBel.out nq⟩
      · have HE := Lib.hid (show res = true by
          rw [HR.out, beq_iff_eq]
          have h1 := HLa.out
          have h2 := HLb.out
          exact List.ext_getElem (by omega) (fun j h3 h4 => HS.out j h3 h4 (by omega)))
        clear hbel
        go_wp2
        go_ret
        exact ⟨by (rw [HE.out]; try rfl), HBel.out⟩
  · have HN := Lib.hid (show res = false by
      rw [HR.out, beq_eq_false_iff_ne]
      intro h
      subst h
      exact hnm (HLa.out.symm.trans HLb.out))
    have d1 : ((n : Int) != (m : Int)) = true := by simp; omega
    go_enter Tryd.func26, Tryd.ntmps26
    go_wp2
    go_ret
    exact ⟨by (rw [HN.out]; try rfl), Below.refl _ _⟩
set_option maxHeartbeats 800000 in
theorem indexFuncI_any (g : Nat) (lb : Array Value) (eg : ∀ args w, (callFunc g args).run Tryd.prog w = .ok (.enter g args) w) (A : Option Addr) (n c : Nat) (ss : List Nat) (p : Nat → Bool) (W : World) (hr : Rd W W.heap.size A n (nvs ss)) (hn : n ≤ 1048576)
    (hp : ∀ w, Below W.heap.size W w → ∀ k (hk : k < ss.length), Calls Tryd.prog g (#[.int .i64 (ss[k] : Nat)] ++ lb) w fun e w' => e = .returned (.bool (p k)) ∧ Below w.heap.size w w') :
    Calls Tryd.prog 46 #[.slice A n c, .func (.func g) #[] lb] W fun e w' => e = .returned (.int .i64 (fidx p n)) ∧ Below W.heap.size W w' := by
  have HR := Lib.hid hr
  have HLen := Lib.hid hr.lenN
  have HP := Lib.hid hp
  clear hr hp
  go_enter Tryd.func46, Tryd.ntmps46
  go_wp2
  go_loopw [8] (fun i wr => ∃ k : Nat, k ≤ n ∧ i = .int .i64 k ∧ Below W.heap.size W wr ∧ Hid (∀ j < k, p j = false)) (fun i _ => n - (intOf i).toNat)
  case atStart => exact ⟨0, Nat.zero_le _, rfl, Below.refl _ _, Lib.hid (fun j hj => absurd hj (Nat.not_lt_zero _))⟩
  case round =>
    obtain ⟨k, hk, rfl, hbel, hno⟩ := hrel
    by_cases hlt : k < n
    · have hks : k < ss.length := by rw [HLen.out]; exact hlt
      obtain ⟨a, rfl, hab, hca⟩ := (HR.out.later hbel).nat (k := k) hks
      have hcon := HP.out wr hbel k hks
      obtain ⟨x, hx⟩ : ∃ x, x = ss[k] := ⟨_, rfl⟩
      rw [← hx] at hca hcon
      have HBel := Lib.hid hbel
      cases hpx : p k
      · rw [hpx] at hcon
        have HC := Lib.hid hcon
        have HN := Lib.hid (show ∀ j < k + 1, p j = false from fun j hj => by
          by_cases he : j = k
          · subst he; exact hpx
          · exact hno.out j (by omega))
        clear hcon hpx hx hno hbel
        go_wp2_with (go_at_fn g; refine HC.out.mono ?_; rintro e w2 ⟨rfl, hb2⟩)
        exact ⟨⟨k + 1, by omega, by go_num, HBel.out.trans (hb2.mono HBel.out.size), HN⟩, by simp [intOf]; omega⟩
      · rw [hpx] at hcon
        have HC := Lib.hid hcon
        have HN := Lib.hid (fidx_hit (p := p) hlt hpx hno.out)
        clear hcon hpx hx hno hbel
        go_wp2_with (go_at_fn g; refine HC.out.mono ?_; rintro e w2 ⟨rfl, hb2⟩)
        go_ret
        exact ⟨by (rw [HN.out]; try rfl), HBel.out.trans (hb2.mono HBel.out.size)⟩
    · have HN := Lib.hid (show fidx p n = -1 from fidx_none (fun j hj => hno.out j (by omega)))
      have HBel := Lib.hid hbel
      clear hno hbel
      go_wp2
      go_ret
      exact ⟨by (rw [HN.out]; try rfl), HBel.out⟩
set_option maxHeartbeats 800000 in
theorem indexFuncG_any (g : Nat) (lb : Array Value) (eg : ∀ args w, (callFunc g args).run Tryd.prog w = .ok (.enter g args) w) (A : Option Addr) (n c : Nat) (rs : List Row) (p : Nat → Bool) (W : World) (hr : RdG W A n rs) (hn : n ≤ 1048576)
    (hp : ∀ w, Below W.heap.size W w → ∀ k (hk : k < rs.length), Calls Tryd.prog g (#[.slice rs[k].A rs[k].n rs[k].c] ++ lb) w fun e w' => e = .returned (.bool (p k)) ∧ Below w.heap.size w w') :
    Calls Tryd.prog 55 #[.slice A n c, .func (.func g) #[] lb] W fun e w' => e = .returned (.int .i64 (fidx p n)) ∧ Below W.heap.size W w' := by
  have HR := Lib.hid hr
  have HLen := Lib.hid hr.len
  have HP := Lib.hid hp
  clear hr hp
  go_enter Tryd.func55, Tryd.ntmps55
  go_wp2
  go_loopw [8] (fun i wr => ∃ k : Nat, k ≤ n ∧ i = .int .i64 k ∧ Below W.heap.size W wr ∧ Hid (∀ j < k, p j = false)) (fun i _ => n - (intOf i).toNat)
  case atStart => exact ⟨0, Nat.zero_le _, rfl, Below.refl _ _, Lib.hid (fun j hj => absurd hj (Nat.not_lt_zero _))⟩
  case round =>
    obtain ⟨k, hk, rfl, hbel, hno⟩ := hrel
    by_cases hlt : k < n
    · have hks : k < rs.length := by rw [HLen.out]; exact hlt
      obtain ⟨a, rfl, hab, hca⟩ := (HR.out.later hbel).cell (k := k) hks
      have hcon := HP.out wr hbel k hks
      obtain ⟨x, hx⟩ : ∃ x, x = rs[k] := ⟨_, rfl⟩
      rw [← hx] at hca hcon
      have HBel := Lib.hid hbel
      cases hpx : p k
      · rw [hpx] at hcon
        have HC := Lib.hid hcon
        have HN := Lib.hid (show ∀ j < k + 1, p j = false from fun j hj => by
          by_cases he : j = k
          · subst he; exact hpx
          · exact hno.out j (by omega))
        clear hcon hpx hx hno hbel
        go_wp2_with (go_at_fn g; refine HC.out.mono ?_; rintro e w2 ⟨rfl, hb2⟩)
        exact ⟨⟨k + 1, by omega, by go_num, HBel.out.trans (hb2.mono HBel.out.size), HN⟩, by simp [intOf]; omega⟩
      · rw [hpx] at hcon
        have HC := Lib.hid hcon
        have HN := Lib.hid (fidx_hit (p := p) hlt hpx hno.out)
        clear hcon hpx hx hno hbel
        go_wp2_with (go_at_fn g; refine HC.out.mono ?_; rintro e w2 ⟨rfl, hb2⟩)
        go_ret
        exact ⟨by (rw [HN.out]; try rfl), HBel.out.trans (hb2.mono HBel.out.size)⟩
    · have HN := Lib.hid (show fidx p n = -1 from fidx_none (fun j hj => hno.out j (by omega)))
      have HBel := Lib.hid hbel
      clear hno hbel
      go_wp2
      go_ret
      exact ⟨by (rw [HN.out]; try rfl), HBel.out⟩
end Go.Proofs.YtcicoplmpinnmaaDoor
