/-
  Contracts of slices.EqualFunc over rows of numbers, of the reference's l18Equal and SameLetters. No conditions beyond slices that can be read.
-/
import Derived.Test.YtcicoplmpinnmaaDoorASmS
import Derived.Test.YtcicoplmpinnmaaDoorACls
import Derived.Test.YtcicoplmpinnmaaDoorASmA
namespace Go.Proofs.YtcicoplmpinnmaaDoor
open Go.RowKit

set_option maxRecDepth 4096 in
set_option maxHeartbeats 1600000 in
theorem equalG_any (A B : Option Addr) (n m c d : Nat) (zss yss : Tab) (w : World) (ha : GIn w A n c zss) (hb : GIn w B m d yss) :
    Calls Tryd.prog 25 #[.slice A n c, .slice B m d, .func (.func 26) #[] #[]] w fun e w' => e = .returned (.bool (zss == yss)) ∧ Below w.heap.size w w' := by
  have HA := Lib.hid ha
  have HB := Lib.hid hb
  have HLa := Lib.hid ha.len
  have HLb := Lib.hid hb.len
  have hn := ha.choose_spec.2.2.1
  have hm := hb.choose_spec.2.2.1
  obtain ⟨res, hres⟩ : ∃ res, res = (zss == yss) := ⟨_, rfl⟩
  rw [← hres]
  have HR := Lib.hid hres
  clear ha hb hres
  by_cases hnm : n = m
  · subst hnm
    go_enter Tryd.func25, Tryd.ntmps25
    go_wp2
    go_loopw [17] (fun i wr => ∃ k : Nat, k ≤ n ∧ i = .int .i64 k ∧ Below w.heap.size w wr ∧ Hid (∀ j (h1 : j < zss.length) (h2 : j < yss.length), j < k → zss[j] = yss[j])) (fun i _ => n - (intOf i).toNat)
    case atStart => exact ⟨0, Nat.zero_le _, rfl, Below.refl _ _, Lib.hid (fun j h1 h2 hj => absurd hj (Nat.not_lt_zero _))⟩
    case round =>
      obtain ⟨k, hk, rfl, hbel, HS⟩ := hrel
      have HBel := Lib.hid hbel
      by_cases hlt : k < n
      · have hx : k < zss.length := by rw [HLa.out]; exact hlt
        have hy : k < yss.length := by rw [HLb.out]; exact hlt
        obtain ⟨a, A1, m1, c1, rfl, hab, hca, hrd, hzl⟩ := (HA.out.later hbel).at hx
        obtain ⟨b, A2, m2, c2, rfl, hbb, hcb, hrd2, hzl2⟩ := (HB.out.later hbel).at hy
        have HY := Lib.hid (fun (he : zss[k] = yss[k]) => show ∀ j (h1 : j < zss.length) (h2 : j < yss.length), j < k + 1 → zss[j] = yss[j] from fun j h1 h2 hj => by
          by_cases hjk : j = k
          · subst hjk; exact he
          · exact HS.out j h1 h2 (by omega))
        have HN := Lib.hid (fun (he : ¬ zss[k] = yss[k]) => show res = false by
          rw [HR.out, beq_eq_false_iff_ne]
          intro h
          subst h
          exact he rfl)
        have HC := Lib.hid (equalI_any A1 A2 m1 m2 c1 c2 _ _ wr hrd hrd2 (by rw [← hrd.lenI]; exact hzl) (by rw [← hrd2.lenI]; exact hzl2))
        obtain ⟨u, hu⟩ : ∃ u, u = zss[k] := ⟨_, rfl⟩
        obtain ⟨v, hv⟩ : ∃ v, v = yss[k] := ⟨_, rfl⟩
        rw [← hu] at HY HN HC
        rw [← hv] at HY HN HC
        have i1 : (0 : Int) ≤ (k : Int) := by omega
        have i2 : (k : Int) < (n : Int) := by omega
        clear hu hv hbel HS hrd hrd2 hzl hzl2
        cases he : (u == v)
        · have HN2 := Lib.hid (HN.out (beq_eq_false_iff_ne.1 he))
          rw [he] at HC
          clear he HY HN
          go_wp2_with (go_at_call 26; refine HC.out.mono ?_; rintro e w7 ⟨rfl, hb7⟩)
          go_ret
          exact ⟨by (rw [HN2.out]; try rfl), HBel.out.trans (hb7.mono HBel.out.size)⟩
        · have HY2 := Lib.hid (HY.out (eq_of_beq he))
          rw [he] at HC
          clear he HY HN
          go_wp2_with (go_at_call 26; refine HC.out.mono ?_; rintro e w7 ⟨rfl, hb7⟩)
          exact ⟨⟨k + 1, by omega, by go_num, HBel.out.trans (hb7.mono HBel.out.size), HY2⟩, by simp [intOf]; omega⟩
      · have HE := Lib.hid (show res = true by
          rw [HR.out, beq_iff_eq]
          have h1 := HLa.out
          have h2 := HLb.out
          exact List.ext_getElem (by omega) (fun j h3 h4 => HS.out j h3 h4 (by omega)))
        clear hbel
        go_wp2
        go_ret
        exact ⟨by (rw [HE.out]; try rfl), HBel.out⟩
  · have HN := Lib.hid (show res = false by
      rw [HR.out, beq_eq_false_iff_ne]
      intro h
      subst h
      exact hnm (HLa.out.symm.trans HLb.out))
    have d1 : ((n : Int) != (m : Int)) = true := by simp; omega
    go_enter Tryd.func25, Tryd.ntmps25
    go_wp2
    go_ret
    exact ⟨by (rw [HN.out]; try rfl), Below.refl _ _⟩
theorem smT_row (b : Int) (zss : Tab) (o : List UInt8) : ∀ z ∈ smT b zss o, z.length = (smB b zss o).toNat := by
  unfold smT smB
  split
  · rename_i h
    obtain ⟨bn, rfl, hg, _, _⟩ := aOk_good h
    intro z hz
    unfold smTab at hz
    obtain ⟨r, hr, rfl⟩ := List.mem_map.1 hz
    have h1 := gRows_row (q := qS) (nx := nxS zss o bn) (st := clN zss o bn 0) (m := bn) (fun s => nxS_len s) zss.length r hr
    simp; omega
  · intro z hz; simp at hz
def sameL (b : Int) (x : Tab) (o : List UInt8) (b' : Int) (y : Tab) (o' : List UInt8) : Bool :=
  aOk b x o && (aOk b' y o' && (smB b x o == smB b' y o' && (smO b x o == smO b' y o' && smT b x o == smT b' y o')))
end Go.Proofs.YtcicoplmpinnmaaDoor
