/-
  Contracts of slices.Equal at []string, samePatch and GrownFrom (program and reference). No conditions.
-/
import Derived.Test.YtbjhjpakjinpiaaPAnc
import Derived.Test.YtbjhjpakjinpiaaBGrowI
import Derived.Test.YtbjhjpakjinpiaaJoinI
namespace Go.Proofs.Ytbjhjpakjinpiaa
open Go.RowKit

def grown (b p : Pch) : List UInt8 × Bool :=
  if decide (0 ≤ (anc b p).2) && (decide ((anc b p).1.length = 1) && (decide (wd (anc b p).1 = 1) && ((growBlock b ((anc b p).1.headD []) (anc b p).2).2 && decide ((growBlock b ((anc b p).1.headD []) (anc b p).2).1 = p))))
  then ((anc b p).1.headD [], true) else ([], false)

theorem grown_eq (b p : Pch) : grown b p =
  if decide (0 ≤ (anc b p).2) && (decide ((anc b p).1.length = 1) && (decide (wd (anc b p).1 = 1) && ((growBlock b ((anc b p).1.headD []) (anc b p).2).2 && decide ((growBlock b ((anc b p).1.headD []) (anc b p).2).1 = p))))
  then ((anc b p).1.headD [], true) else ([], false) := rfl

theorem growBlock_ok {b : Pch} {l : List UInt8} {z : Int} (h : (growBlock b l z).2 = true) : rOk b = true ∧ letOk b l = true ∧ 0 ≤ z ∧ z ≤ 5 ∧ (growBlock b l z).1 = growP b l z.toNat := by
  unfold growBlock at h ⊢
  split at h
  · rename_i h2
    rw [if_pos h2]
    simp only [Bool.and_eq_true] at h2
    have := wi_yes h2.2.2
    exact ⟨h2.1, h2.2.1, this.1, this.2, rfl⟩
  · cases h
theorem growBlock_rows {b : Pch} {l : List UInt8} {z : Int} (h : (growBlock b l z).2 = true) : (growBlock b l z).1 ≠ [] ∧ (growBlock b l z).1.length ≤ 32 ∧ ∀ x ∈ (growBlock b l z).1, x.all isLet = true ∧ x.length ≤ 32 := by
  obtain ⟨h1, h2, h3, h4, h5⟩ := growBlock_ok h
  rw [h5]
  have hr := growP_rows h1 h2 z.toNat
  have hp := pow_le5 (m := z.toNat) (by omega)
  refine ⟨fun he => ?_, by omega, fun x hx => ⟨(hr.2 x hx).1.1, by rw [(hr.2 x hx).2]; omega⟩⟩
  rw [he] at hr; simp at hr; omega

set_option maxHeartbeats 800000 in
theorem equalS_any (A B : Option Addr) (n c m d : Nat) (ss ts : Pch) (w : World) (ha : Rd w w.heap.size A n (svs ss)) (hb : Rd w w.heap.size B m (svs ts)) (hn : n ≤ 1048576) (hm : m ≤ 1048576) :
    Calls Try.prog 46 #[.slice A n c, .slice B m d] w fun e w' => e = .returned (.bool (decide (ss = ts))) ∧ Below w.heap.size w w' := by
  have hla := Lib.hid ha.lenS
  have hlb := Lib.hid hb.lenS
  have HA := Lib.hid ha
  have HB := Lib.hid hb
  clear ha hb
  by_cases hnm : n = m
  case neg =>
    have hd : ((n : Int) != (m : Int)) = true := by simp; omega
    have hd2 : (n != m) = true := by simpa using hnm
    have HE := Lib.hid (show decide (ss = ts) = false from decide_eq_false fun h => hnm (by rw [← hla.out, ← hlb.out, h]))
    clear hnm
    go_enter Try.func46, Try.ntmps46
    go_wp2
    go_ret
    exact ⟨ret_bool HE.out.symm, Below.same⟩
  subst hnm
  go_enter Try.func46, Try.ntmps46
  go_wp2
  go_loopw [13] (fun i wr => ∃ k : Nat, k ≤ n ∧ i = .int .i64 k ∧ ss.take k = ts.take k ∧ Below w.heap.size w wr) (fun i _ => n - (intOf i).toNat)
  case atStart => exact ⟨0, Nat.zero_le _, rfl, rfl, Below.refl _ _⟩
  case round =>
    obtain ⟨k, hk, rfl, ht, hbel⟩ := hrel
    have HT := Lib.hid ht
    clear ht
    by_cases hlt : k < n
    · have hka : k < ss.length := by rw [hla.out]; exact hlt
      have hkb : k < ts.length := by rw [hlb.out]; exact hlt
      obtain ⟨a, rfl, hab, hca⟩ := (HA.out.below hbel).str (k := k) hka
      obtain ⟨b, rfl, hbb, hcb⟩ := (HB.out.below hbel).str (k := k) hkb
      obtain ⟨x, hx⟩ : ∃ x, x = ss[k] := ⟨_, rfl⟩
      obtain ⟨y, hy⟩ : ∃ y, y = ts[k] := ⟨_, rfl⟩
      rw [← hx] at hca
      rw [← hy] at hcb
      have i0 : (0 : Int) ≤ (k : Int) := by omega
      have i1 : (k : Int) < (n : Int) := by omega
      by_cases hxy : x = y
      · have H := Lib.hid (show ss.take (k + 1) = ts.take (k + 1) by rw [take_snoc ss k hka, take_snoc ts k hkb, HT.out, ← hx, ← hy, hxy])
        have g1 : (x == y) = true := by simp [hxy]
        have g2 : (x != y) = false := by simp [hxy]
        clear hx hy hxy
        go_wp2
        go_quiet (fail)
        go_wp2
        exact ⟨⟨k + 1, by omega, by go_num, H.out, below_drewN hbel _⟩, by simp [intOf]; omega⟩
      · have HE := Lib.hid (show decide (ss = ts) = false from decide_eq_false fun h => hxy (by rw [hx, hy]; simp [h]))
        have g1 : (x == y) = false := by simp [hxy]
        have g2 : (x != y) = true := by simp [hxy]
        clear hx hy hxy
        go_wp2
        go_quiet (fail)
        go_wp2
        go_ret
        exact ⟨ret_bool HE.out.symm, below_drewN hbel _⟩
    · have HE := Lib.hid (show decide (ss = ts) = true from decide_eq_true (by
        have h1 := HT.out
        rwa [List.take_of_length_le (by rw [hla.out]; omega), List.take_of_length_le (by rw [hlb.out]; omega)] at h1))
      go_wp2
      go_ret
      exact ⟨ret_bool HE.out.symm, hbel⟩
theorem samePatch_any (A B : Option Addr) (n c m d : Nat) (ss ts : Pch) (w : World) (ha : Rd w w.heap.size A n (svs ss)) (hb : Rd w w.heap.size B m (svs ts)) (hn : n ≤ 1048576) (hm : m ≤ 1048576) :
    Calls Try.prog 34 #[.slice A n c, .slice B m d] w fun e w' => e = .returned (.bool (decide (ss = ts))) ∧ Below w.heap.size w w' := by
  have HC := Lib.hid (equalS_any A B n c m d ss ts w ha hb hn hm)
  clear ha hb
  go_enter Try.func34, Try.ntmps34
  go_wp2_with (go_at_call 46; refine HC.out.mono ?_; rintro e w' ⟨rfl, hb1⟩)
  go_ret
  exact ⟨rfl, hb1⟩


set_option maxHeartbeats 3200000 in
theorem cGrownFromI (A0 : Option Addr) (n0 c0 : Nat) (b : Pch) (A1 : Option Addr) (n1 c1 : Nat) (p : Pch) (W : World) (hb : SIn W A0 n0 c0 b) (hp : SIn W A1 n1 c1 p) :
    Calls Try.prog 17 #[.slice A0 n0 c0, .slice A1 n1 c1] W fun e w' => e = .returned (.tuple #[.string ⟨(grown b p).1.toArray⟩, .bool (grown b p).2]) ∧ Below W.heap.size W w' := by
  have hca := cAncestorPatchI A0 n0 c0 b A1 n1 c1 p W hb hp
  have HG := Lib.hid (grown_eq b p)
  have hql := anc_len b p
  have hqp : 0 ≤ (anc b p).2 → pOk p = true ∧ pOk (anc b p).1 = true ∧ (anc b p).2 ≤ 32 := by
    intro h
    unfold anc at h ⊢
    split at h
    · rename_i h2
      rw [if_pos h2]
      simp only [Bool.and_eq_true] at h2
      exact ⟨h2.2, ancF_pOk b 32 p h2.2, by have := ancF_len b 32 p; show ((ancF b 32 p).2 : Int) ≤ 32; omega⟩
    · exact absurd h (by decide)
  obtain ⟨q, hq⟩ : ∃ q, q = (anc b p).1 := ⟨_, rfl⟩
  obtain ⟨z, hz⟩ : ∃ z, z = (anc b p).2 := ⟨_, rfl⟩
  rw [← hq, ← hz] at hca HG hqp
  rw [← hq] at hql
  have HQP := Lib.hid hqp
  have HB := Lib.hid hb
  have HP := Lib.hid hp
  have hlen := Lib.hid hp.1.lenS
  have HCA := Lib.hid hca
  clear hq hz hca hqp hb hp
  go_enter Try.func17, Try.ntmps17
  go_wp2_with fail
  refine HCA.out.mono ?_
  rintro e w1 ⟨A2, m, c2, rfl, ho⟩
  have hqm : q.length = m := by have := ho.len; simpa [svs] using this
  have HO := Lib.hid ho
  clear HCA ho
  by_cases hz0 : z < 0
  case pos =>
    have HE := Lib.hid (show grown b p = ([], false) by rw [HG.out, decide_eq_false (by omega)]; rfl)
    clear HG
    go_wp2
    go_ret2
    exact ⟨by rw [HE.out]; rfl, HO.out.2⟩
  obtain ⟨hpo, hqo, hz32⟩ := HQP.out (by omega)
  have HPO := Lib.hid hpo
  have HQO := Lib.hid hqo
  clear HQP hpo hqo
  have hzb : (decide (0 ≤ z)) = true := by simp; omega
  by_cases hm1 : m = 1
  case neg =>
    have HE := Lib.hid (show grown b p = ([], false) by rw [HG.out, hqm, decide_eq_false hm1]; simp)
    have g1 : ((m : Int) != 1) = true := by simp; omega
    clear HG hqm hzb
    go_wp2
    go_ret2
    exact ⟨by rw [HE.out]; rfl, HO.out.2⟩
  subst hm1
  obtain ⟨l, rfl⟩ : ∃ l, q = [l] := by
    match q, hqm with
    | [l], _ => exact ⟨l, rfl⟩
  have hl := pOk_wd HQO.out
  have hlw : wd [l] = l.length := rfl
  rw [hlw] at hl HG
  have hhd : ([l] : Pch).headD [] = l := rfl
  rw [hhd] at HG
  obtain ⟨a2, rfl, hab2, hq0⟩ := HO.out.rd.str (k := 0) (by simp)
  have hqc : w1.cell? a2 = some (.string ⟨l.toArray⟩) := hq0
  have hcap := HO.out.cap
  clear hq0 hlw hhd hqm
  by_cases hl1 : l.length = 1
  case neg =>
    have HE := Lib.hid (show grown b p = ([], false) by rw [HG.out, decide_eq_false hl1]; simp)
    have g1 : ((l.length : Int) != 1) = true := by simp; omega
    clear HG hzb
    go_wp2
    go_ret2
    exact ⟨by rw [HE.out]; rfl, HO.out.2⟩
  have g1 : ((l.length : Int) != 1) = false := by simp; omega
  have hcg := cGrowBlockI A0 n0 c0 b l z w1 (HB.out.later HO.out.2) (by omega)
  cases hgo : (growBlock b l z).2
  case false =>
    have HE := Lib.hid (show grown b p = ([], false) by rw [HG.out, hgo]; simp)
    rw [hgo] at hcg
    have HCG := Lib.hid hcg
    clear HG hzb hcg hgo
    go_wp2_with fail
    refine HCG.out.mono ?_
    rintro e w2 ⟨A3, n3, c3, rfl, ho3⟩
    go_wp2
    go_ret2
    exact ⟨by rw [HE.out]; rfl, HO.out.2.trans (ho3.2.mono HO.out.2.size)⟩
  have hrows := growBlock_rows hgo
  rw [hgo] at hcg HG
  obtain ⟨g, hg⟩ : ∃ g, g = (growBlock b l z).1 := ⟨_, rfl⟩
  rw [← hg] at hcg HG hrows
  obtain ⟨hg0, hg32, hgr⟩ := hrows
  have HCG := Lib.hid hcg
  have HG0 := Lib.hid hg0
  have HGR := Lib.hid hgr
  clear hcg hgo hg hgr hg0
  have HGP := Lib.hid (show grown b p = if decide (g = p) then (l, true) else ([], false) by
    rw [HG.out, hzb, decide_eq_true hl1]; simp)
  clear HG hzb hl1
  cases hgp : decide (g = p)
  all_goals
    rw [hgp] at HGP
    have HGP2 := Lib.hid hgp
    clear hgp
    go_wp2_with fail
    refine HCG.out.mono ?_
    rintro e w2 ⟨A3, n3, c3, rfl, ho3⟩
    have h3 : n3 ≤ 32 := by have := ho3.len; simp only [svs, List.length_map] at this; omega
    have HO3 := Lib.hid ho3
    have HB3 := Lib.hid (HO.out.2.trans (ho3.2.mono HO.out.2.size))
    clear ho3
    go_wp2_with fail
    refine (samePatch_any _ _ _ _ _ _ g p _ HO3.out.rd (HP.out.later HB3.out).1 (by omega) (HP.out.2.1)).mono ?_
    rintro e w3 ⟨he, hb3⟩
    rw [HGP2.out] at he
    subst he
    have HB4 := Lib.hid (HB3.out.trans (hb3.mono HB3.out.size))
    have hqc2 : w3.cell? a2 = some (.string ⟨l.toArray⟩) := ((hb3.cell (p := a2) (Nat.lt_of_lt_of_le (by assumption) HO3.out.2.size)).trans (HO3.out.2.cell (p := a2) (by assumption))).trans hqc
    clear hb3
    go_wp2
    go_ret2
    exact ⟨by rw [HGP.out]; rfl, HB4.out⟩
end Go.Proofs.Ytbjhjpakjinpiaa
