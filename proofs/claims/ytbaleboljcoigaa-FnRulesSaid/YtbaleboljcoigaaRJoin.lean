/-
  Contracts of slices.Clone at []string, ordered, JoinRules and RulesOf (program and reference). No conditions.
-/
import Derived.Test.YtbaleboljcoigaaRFault
import Derived.Test.YtbaleboljcoigaaSortC
namespace Go.Proofs.Ytbaleboljcoigaa
open Go.RowKit

theorem pairsOk_srt {l : Pch} (h : pairsOk l = true) : Srt l := by
  have h1 : ∀ (i : Nat) (hi : i + 1 < l.length), l[i]'(by omega) < l[i + 1] := by
    intro i hi
    have h2 := range_all_at h hi
    unfold pr1 at h2
    simp only [Bool.and_eq_true, Bool.or_eq_true, decide_eq_true_eq] at h2
    have h3 := h2.2.2.resolve_left (by omega)
    simpa [List.getD, List.getElem?_eq_getElem hi, List.getElem?_eq_getElem (show i < l.length by omega)] using h3
  unfold Srt
  rw [List.pairwise_iff_getElem]
  intro i j hi hj hij
  have h2 : ∀ (d : Nat) (hd : i + 1 + d < l.length), l[i]'(by omega) < l[i + 1 + d] := by
    intro d
    induction d with
    | zero => intro hd; exact h1 i hd
    | succ d ih => intro hd; exact List.lt_trans (ih (by omega)) (h1 (i + 1 + d) hd)
  have h3 := h2 (j - i - 1) (by omega)
  have h4 : i + 1 + (j - i - 1) = j := by omega
  simpa only [h4] using h3
theorem insF_id {l : Pch} (h : Srt l) : insF l = l := srt_ext (insF_srt l) h (fun x => insF_mem l x)
theorem pairsOk_row {l : Pch} (h : pairsOk l = true) : ∀ x ∈ l, isW x = true ∧ x.length = 2 := by
  intro x hx
  obtain ⟨i, hi, rfl⟩ := List.mem_iff_getElem.1 hx
  have h2 := range_all_at h hi
  unfold pr1 at h2
  simp only [Bool.and_eq_true, decide_eq_true_eq] at h2
  have h3 : l.getD i [] = l[i] := by simp [List.getD, List.getElem?_eq_getElem hi]
  rw [h3] at h2
  exact ⟨h2.1, h2.2.1⟩
def joinRules (a b : Pch) : Pch × Bool := if rulesOk a b then (insF (a ++ b), true) else ([], false)
theorem joinRules_len (a b : Pch) : (joinRules a b).1.length ≤ a.length + b.length := by
  unfold joinRules
  split
  · have := insF_len (a ++ b); rwa [List.length_append] at this
  · simp

def SNil (w : World) (A : Option Addr) (n c : Nat) (ss : Pch) : Prop := SIn w A n c ss ∧ (A = none → c = 0)
theorem SNil.of {w : World} {base : Nat} {e : TypeId} {A : Option Addr} {n c : Nat} {ss : Pch} (h : w.ownsRow base e 1 (.slice A n c) n (svs ss)) (hn : n ≤ 1048576) (hl : Lens ss) (hc : n ≤ c) : SNil w A n c ss :=
  ⟨SIn.of (Rd.own h) hn hl hc, fun hA => by
    rcases h.2 with ⟨hv, _⟩ | ⟨g, cap, cur, hv, _⟩
    · injection hv
    · injection hv with h1; rw [hA] at h1; cases h1⟩

set_option maxHeartbeats 800000 in
theorem cloneR_any (A : Option Addr) (n c : Nat) (p : Pch) (W : World) (hp : SNil W A n c p) :
    Calls Try.prog 34 #[.slice A n c] W (RetS 9 W p) := by
  have HP := Lib.hid hp.1
  have hn := hp.1.2.1
  have HXA := Lib.hid hp.2
  have hl := hp.1.1.1
  have hnil := fun w => Lib.run_eql_slice_nil (P := Try.prog) w 23 9 A n c 0 0 Try.underlying23
  have hz : A = none → p = [] := fun hA => by
    cases hpp : p with
    | nil => rfl
    | cons x r =>
      obtain ⟨a, ha, _⟩ := hp.1.1.str (k := 0) (by rw [hpp]; simp)
      rw [hA] at ha; cases ha
  clear hp
  cases A with
  | none =>
    have HZ := Lib.hid (hz rfl)
    clear hz hl
    go_enter Try.func34, Try.ntmps34
    go_wp2
    go_ret
    rw [HZ.out]
    exact ⟨_, _, _, rfl, Own.nil (Below.refl _ _) _⟩
  | some a =>
    clear hz hl
    go_enter Try.func34, Try.ntmps34
    go_wp2_with (at_builtin; (refine app_own (.tmp 5) (.tmp 6) _ _ _ 16 rfl rfl Try.underlying23 infoS rfl rfl (Own.made0 (w0 := W) (Below.refl _ _) 9) rfl HXA.out (HP.out.1.later (Below.allocI W _)) (svs_one p) (by omega) (by omega) ?_; intro A2 c2 w1 hown1 _; simp only [Nat.zero_add, List.nil_append] at hown1))
    go_ret
    exact ⟨_, _, _, rfl, hown1⟩

/-- ordered: its argument is a row of the call's own -/
theorem ordered_any (w0 : World) (A : Option Addr) (n c : Nat) (ss : Pch) (w : World) (h : Own w0 w 9 A n c (svs ss)) (hn : n ≤ 1048576) :
    Calls Try.prog 21 #[.slice A n c] w fun e w' => ∃ m, e = .returned (.slice A m c) ∧ Own w0 w' 9 A m c (svs (insF ss)) := by
  have H := Lib.hid h
  have HE := Lib.hid (compact_sort ss)
  clear h
  go_enter Try.func21, Try.ntmps21
  go_wp2_with fail
  refine (sortS_any _ _ _ _ _ _ H.out.1 hn).mono ?_
  rintro e w4 ⟨rfl, o4, g4⟩
  have HO4 := Lib.hid o4
  have HB4 := Lib.hid (H.out.2.grown g4 H.out.2.size (fun q hq => (own_blk_lt H.out.1 q hq).1))
  clear o4 g4
  go_wp2_with fail
  refine (compactS_any _ _ _ _ _ _ HO4.out hn).mono ?_
  rintro e w5 ⟨rfl, o5, g5⟩
  have HO5 := Lib.hid o5
  have HB5 := Lib.hid (HB4.out.grown g5 HB4.out.size (fun q hq => (own_blk_lt HO4.out q hq).1))
  clear o5 g5
  go_wp2
  go_ret
  exact ⟨_, rfl, by rw [← HE.out]; exact ⟨HO5.out, HB5.out⟩⟩

set_option maxHeartbeats 1600000 in
theorem cJoinRulesI (A0 : Option Addr) (n0 c0 : Nat) (a : Pch) (A1 : Option Addr) (n1 c1 : Nat) (b : Pch) (W : World) (ha : SNil W A0 n0 c0 a) (hb : SNil W A1 n1 c1 b) (hnn : n0 + n1 ≤ 1048576) :
    Calls Try.prog 14 #[.slice A0 n0 c0, .slice A1 n1 c1] W (RetSB 9 W (joinRules a b).1 (joinRules a b).2) := by
  have hcr := iRulesOk_any A0 n0 c0 a A1 n1 c1 b W ha.1 hb.1
  cases hro : rulesOk a b
  case false =>
    have HE := Lib.hid (show joinRules a b = ([], false) by unfold joinRules; rw [hro]; rfl)
    rw [hro] at hcr
    have HC := Lib.hid hcr
    clear hcr hro
    go_enter Try.func14, Try.ntmps14
    go_wp2_with (go_at_call 6; refine HC.out.mono ?_; rintro e w' ⟨rfl, rfl⟩)
    go_ret2
    rw [HE.out]
    exact ⟨_, _, _, rfl, Own.nil (Below.refl _ _) _⟩
  rw [hro] at hcr
  have HC := Lib.hid hcr
  have HE := Lib.hid (show joinRules a b = (insF (a ++ b), true) by unfold joinRules; rw [hro]; rfl)
  have HA := Lib.hid ha
  have HB := Lib.hid hb
  clear hcr hro ha hb
  go_enter Try.func14, Try.ntmps14
  go_wp2_with (go_at_call 6; refine HC.out.mono ?_; rintro e w' ⟨rfl, rfl⟩)
  refine (cloneR_any _ _ _ a _ HA.out).mono ?_
  rintro e w1 ⟨G1, m1, d1, rfl, o1⟩
  obtain rfl : m1 = n0 := by have h2 := o1.len; have h3 := HA.out.1.1.lenS; simp only [svs, List.length_map] at h2; omega
  have hown1 := o1
  have HRB := Lib.hid (HB.out.1.1.later o1.2)
  clear o1 HC
  go_wp2_with (at_builtin; (refine app_own (.tmp 11) (.tmp 12) _ _ _ 16 rfl rfl Try.underlying23 infoS rfl rfl hown1 rfl HB.out.2 HRB.out (svs_one b) (by omega) (by omega) ?_; intro A2 c2 w2 hown2 _))
  have hown3 : Own W w2 9 A2 (m1 + n1) c2 (svs (a ++ b)) := by rw [svs_app]; exact hown2
  have HO3 := Lib.hid hown3
  clear hown1 hown2 hown3
  refine (ordered_any W _ _ _ (a ++ b) _ HO3.out (by omega)).mono ?_
  rintro e w3 ⟨m3, rfl, o3⟩
  have HO4 := Lib.hid o3
  clear o3
  go_wp2
  go_ret2
  rw [HE.out]
  exact ⟨_, _, _, rfl, HO4.out⟩

end Go.Proofs.Ytbaleboljcoigaa
