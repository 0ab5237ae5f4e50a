/-
  Contracts of IsBinary and IsSmooth (program and reference). No conditions.
-/
import Derived.Test.YtdnfkhfhhffaeaaSInner
import Derived.Test.YtdnfkhfhhffaeaaPat
import Derived.Test.YtdnfkhfhhffaeaaShelf
namespace Go.Proofs.Ytdnfkhfhhffaeaa
open Go.RowKit

theorem sum_set_last {zs : List Int} (h : 0 < zs.length) : (zs.set (zs.length - 1) (zs.getD (zs.length - 1) 0 + 1)).sum = zs.sum + 1 := by
  obtain ⟨a, z, rfl⟩ : ∃ a z, zs = a ++ [z] := ⟨zs.dropLast, zs.getLast (by intro h2; rw [h2] at h; simp at h), (List.dropLast_concat_getLast _).symm⟩
  have e : (a ++ [z]).length - 1 = a.length := by simp
  rw [e, List.set_append_right (h := Nat.le_refl _)]
  simp [List.getD, List.sum_append]
  omega
theorem rnsK_sum (l : List UInt8) : ∀ k, (rnsK l k).sum = k
  | 0 => rfl
  | k + 1 => by
    have ih := rnsK_sum l k
    cases h : rnew l k with
    | true => rw [rnsK_yes h, List.sum_append, ih]; simp
    | false =>
      have hk : 0 < k := by
        cases k with
        | zero => rw [rnew_zero] at h; cases h
        | succ k => omega
      rw [rnsK_no h, sum_set_last ((rnsK_len l k).2 hk), ih]; simp
theorem len_sum : ∀ {zs : List Int}, (∀ z ∈ zs, 1 ≤ z) → (zs.length : Int) ≤ zs.sum
  | [], _ => by simp
  | z :: zs, h => by
    have h1 := len_sum (zs := zs) (fun y hy => h y (by simp [hy]))
    have h2 := h z (by simp)
    simp only [List.length_cons, List.sum_cons]; omega
theorem ones : ∀ {zs : List Int}, (∀ z ∈ zs, 1 ≤ z) → zs.sum = (zs.length : Int) → ∀ z ∈ zs, z = 1
  | [], _, _, z, hz => by cases hz
  | y :: zs, h, hs, z, hz => by
    have h1 := len_sum (zs := zs) (fun y hy => h y (by simp [hy]))
    have h2 := h y (by simp)
    simp only [List.length_cons, List.sum_cons] at hs
    rcases List.mem_cons.1 hz with rfl | hz
    · omega
    · exact ones (fun x hx => h x (by simp [hx])) (by omega) z hz
/-- what is left is shorter -/
theorem inner_less {l : List UInt8} (h2 : 2 ≤ l.length) : (innerOf 1 (rns l)).length < l.length := by
  have hle := rns_len (l := l)
  have hil := inner_len 1 (rns l)
  by_cases he : (rns l).length = l.length
  · have h1 : ∀ z ∈ rns l, z = 1 := ones (fun z hz => (rnsK_bd l l.length z hz).1) (by unfold rns at he ⊢; rw [rnsK_sum, he])
    have hlast : (rns l)[(rns l).length - 1]? = some 1 := by
      rw [List.getElem?_eq_getElem (by omega)]
      congr 1
      exact h1 _ (List.getElem_mem _)
    unfold innerOf
    rw [if_neg (by omega), hlast]
    simp only [beq_self_eq_true, if_true]
    split
    · simp; omega
    · simp; omega
  · omega
theorem innerRun_less {l : List UInt8} (h2 : 2 ≤ l.length) (hok : (innerRun l).2 = true) : (innerRun l).1.length < l.length ∧ isW (innerRun l).1 = true := by
  unfold innerRun at hok ⊢
  split at hok
  · rename_i hw
    rw [if_pos hw]
    unfold runW at hok ⊢
    split at hok
    · rename_i hr
      rw [if_pos hr]
      have h3 := inner_less h2
      have h4 := isW_len hw
      refine ⟨by simpa using h3, ?_⟩
      unfold isW
      simp only [Bool.and_eq_true, decide_eq_true_eq]
      refine ⟨List.all_eq_true.2 fun c hc => ?_, by rw [List.length_map]; omega⟩
      obtain ⟨z, hz, rfl⟩ := List.mem_map.1 hc
      have h5 := List.all_eq_true.1 hr z hz
      have h6 := rns_small hw z (inner_mem hz)
      have h7 := runLet_nat h6.1 (by simpa [runOk] using h5)
      have h8 : z ≤ 2 := by simpa [runOk] using h5
      simp only [isLet, decide_eq_true_eq]; omega
    · cases hok
  · cases hok
def smF : Nat → List UInt8 → Bool
  | 0, _ => true
  | f + 1, l => if 2 ≤ l.length then (innerRun l).2 && smF f (innerRun l).1 else true
def binB (l : List UInt8) : Bool := isW l && hasB 2 l
def smooth (l : List UInt8) : Bool := binB l && smF 400 l
theorem smF_more : ∀ (f g : Nat) (l : List UInt8), l.length ≤ f → l.length ≤ g → smF f l = smF g l
  | 0, 0, _, _, _ => rfl
  | 0, g + 1, l, h, _ => by unfold smF; rw [if_neg (by omega)]
  | f + 1, 0, l, _, h => by unfold smF; rw [if_neg (by omega)]
  | f + 1, g + 1, l, h1, h2 => by
    unfold smF
    split
    · rename_i h3
      cases hok : (innerRun l).2 with
      | false => rfl
      | true =>
        have := (innerRun_less h3 hok).1
        rw [smF_more f g (innerRun l).1 (by omega) (by omega)]
    · rfl
theorem smF_stop {l : List UInt8} (h : ¬ 2 ≤ l.length) : smF 400 l = true := by unfold smF; rw [if_neg h]
theorem smF_bad {l : List UInt8} (h : 2 ≤ l.length) (hok : (innerRun l).2 = false) : smF 400 l = false := by unfold smF; rw [if_pos h, hok]; rfl
theorem smF_go {l : List UInt8} (h : 2 ≤ l.length) (h4 : l.length ≤ 400) (hok : (innerRun l).2 = true) : smF 400 l = smF 400 (innerRun l).1 := by
  have h5 := (innerRun_less h hok).1
  show (if 2 ≤ l.length then (innerRun l).2 && smF 399 (innerRun l).1 else true) = _
  rw [if_pos h, hok, Bool.true_and]
  exact smF_more 399 400 _ (by omega) (by omega)

theorem cany (cs : List UInt8) : ∀ l : List UInt8, Lib.containsAny l cs = l.any fun c => cs.contains c
  | [] => rfl
  | b :: l => by
    have ih := cany cs l
    have hge := Lib.indexAny_ge cs l
    unfold Lib.containsAny at ih ⊢
    unfold Lib.indexAny
    rw [List.any_cons, ← ih]
    cases hb : cs.contains b
    · simp only [Bool.false_eq_true, if_false, Bool.false_or]
      by_cases h : Lib.indexAny l cs = -1
      · rw [h]; rfl
      · rw [if_neg (by simpa using h)]
        congr 1
        exact propext ⟨fun _ => by omega, fun _ => by omega⟩
    · simp
theorem cd_any {l : List UInt8} (h : l.all isLet = true) : (!Lib.containsAny l [99, 100]) = hasB 2 l := by
  rw [cany]
  unfold hasB
  induction l with
  | nil => rfl
  | cons c l ih =>
    rw [List.all_cons, Bool.and_eq_true] at h
    have h2 := isLet_bd h.1
    rw [List.any_cons, List.all_cons, Bool.not_or, ih h.2]
    congr 1
    rcases (show c.toNat = 97 ∨ c.toNat = 98 ∨ c.toNat = 99 ∨ c.toNat = 100 by omega) with hc | hc | hc | hc
    · obtain rfl : c = 97 := UInt8.toNat_inj.1 hc
      rfl
    · obtain rfl : c = 98 := UInt8.toNat_inj.1 hc
      rfl
    · obtain rfl : c = 99 := UInt8.toNat_inj.1 hc
      rfl
    · obtain rfl : c = 100 := UInt8.toNat_inj.1 hc
      rfl
theorem isLet_ascii {l : List UInt8} (h : l.all isLet = true) : ∀ (j : Nat) b, l[j]? = some b → b.toNat < 128 := fun j b hb => by
  have := isLet_bd (List.all_eq_true.1 h b (List.mem_of_getElem? hb)); omega

theorem iIsBinary_any (l : List UInt8) (hl : l.length ≤ 9223372036854775807) (w : World) : Calls Try.prog 36 #[.string ⟨l.toArray⟩] w fun e w' => e = .returned (.bool (binB l)) ∧ Below w.heap.size w w' := by
  cases h : isW l
  · have HE := Lib.hid (show false = binB l by simp [binB, h])
    go_enter Try.func36, Try.ntmps36
    go_wp2_with (go_at_call 30; refine (isWord_any l hl _).mono ?_; rintro e w' ⟨rfl, rfl⟩)
    go_ret
    exact ⟨ret_bool HE.out, Below.refl _ _⟩
  · have HE := Lib.hid (show (!Lib.containsAny l [99, 100]) = binB l by rw [cd_any (isW_all h)]; simp [binB, h])
    have h4 := isW_len h
    have HC := Lib.hid (Try.strings_ContainsAny_laid ⟨l.toArray⟩ ⟨#[99, 100]⟩ w (by show l.toArray.size < _; simp; omega) (by decide) (by simpa using isLet_ascii (isW_all h)) (by simp only [List.toList_toArray]; exact isLet_ascii (l := [99, 100]) (by decide)))
    go_enter Try.func36, Try.ntmps36
    go_wp2_with (first | (go_at_call 30; refine (isWord_any l hl _).mono ?_; rintro e w' ⟨rfl, rfl⟩) | (go_at_call 44; refine HC.out.mono ?_; rintro e w1 ⟨rfl, hb1⟩))
    go_ret
    exact ⟨ret_bool HE.out, hb1⟩
theorem sIsBinary_any (l : List UInt8) (hl : l.length ≤ 9223372036854775807) (w : World) : Calls Try.prog 35 #[.string ⟨l.toArray⟩] w fun e w' => e = .returned (.bool (binB l)) ∧ w = w' := by
  cases h : isW l
  · have HE := Lib.hid (show false = binB l by simp [binB, h])
    go_enter Try.func35, Try.ntmps35
    go_wp2_with (go_at_call 27; refine (WordOk_any l hl _).mono ?_; rintro e w' ⟨rfl, rfl⟩)
    go_ret
    exact ⟨ret_bool HE.out, rfl⟩
  · have HE := Lib.hid (show hasB 2 l = binB l by simp [binB, h])
    have HC := Lib.hid (l03Within_any 2 (by omega) l hl (isW_all h) w)
    go_enter Try.func35, Try.ntmps35
    go_wp2_with (first | (go_at_call 27; refine (WordOk_any l hl _).mono ?_; rintro e w' ⟨rfl, rfl⟩) | (go_at_call 43; refine HC.out.mono ?_; rintro e w' ⟨rfl, rfl⟩))
    go_ret
    exact ⟨ret_bool HE.out, rfl⟩

def strLen (v : Value) : Nat := match v with | .string b => b.data.size | _ => 0

set_option maxHeartbeats 800000 in
theorem iIsSmooth_any (l : List UInt8) (hl : l.length ≤ 9223372036854775807) (w : World) : Calls Try.prog 24 #[.string ⟨l.toArray⟩] w fun e w' => e = .returned (.bool (smooth l)) ∧ Below w.heap.size w w' := by
  have hcb := iIsBinary_any l hl w
  cases h : binB l
  · have HE := Lib.hid (show false = smooth l by simp [smooth, h])
    rw [h] at hcb
    have HC := Lib.hid hcb
    clear hcb
    go_enter Try.func24, Try.ntmps24
    go_wp2_with (go_at_call 36; refine HC.out.mono ?_; rintro e w1 ⟨rfl, hb1⟩)
    go_ret
    exact ⟨ret_bool HE.out, hb1⟩
  · have HE := Lib.hid (show smF 400 l = smooth l by simp [smooth, h])
    have hw : isW l = true := by simp only [binB, Bool.and_eq_true] at h; exact h.1
    rw [h] at hcb
    have HC := Lib.hid hcb
    have HW0 := Lib.hid hw
    clear hcb h hw
    go_enter Try.func24, Try.ntmps24
    go_wp2_with (go_at_call 36; refine HC.out.mono ?_; rintro e w1 ⟨rfl, hb1⟩)
    go_loopw [0] (fun v wr => ∃ x : List UInt8, v = .string ⟨x.toArray⟩ ∧ isW x = true ∧ smF 400 x = smF 400 l ∧ Below w.heap.size w wr) (fun v _ => strLen v)
    case atStart => exact ⟨l, rfl, HW0.out, rfl, hb1⟩
    case round =>
      obtain ⟨x, rfl, hw, hs, hb⟩ := hrel
      have hx4 := isW_len hw
      have HS := Lib.hid hs
      have HW := Lib.hid hw
      clear hs hw
      by_cases h2 : 2 ≤ x.length
      · have hcr := iInnerRun_any x (by omega) wr
        cases hok : (innerRun x).2
        · have HF := Lib.hid (show false = smooth l by rw [← HE.out, ← HS.out, smF_bad h2 hok])
          rw [hok] at hcr
          have HR := Lib.hid hcr
          clear hcr hok
          go_wp2_with (go_at_call 19; refine HR.out.mono ?_; rintro e w2 ⟨rfl, hb2⟩)
          go_ret
          exact ⟨ret_bool HF.out, hb.trans (hb2.mono hb.size)⟩
        · have HL := Lib.hid (innerRun_less h2 hok)
          have HF := Lib.hid (show smF 400 (innerRun x).1 = smF 400 l by rw [← HS.out, smF_go h2 hx4 hok])
          rw [hok] at hcr
          have HR := Lib.hid hcr
          clear hcr hok
          go_wp2_with (go_at_call 19; refine HR.out.mono ?_; rintro e w2 ⟨rfl, hb2⟩)
          go_round
          case rel => exact ⟨_, rfl, HL.out.2, HF.out, hb.trans (hb2.mono hb.size)⟩
          case measure => have := HL.out.1; simp [strLen]; omega
      · have HF := Lib.hid (show true = smooth l by rw [← HE.out, ← HS.out, smF_stop h2])
        go_wp2
        go_ret
        exact ⟨ret_bool HF.out, hb⟩

set_option maxHeartbeats 800000 in
theorem sIsSmooth_any (l : List UInt8) (hl : l.length ≤ 9223372036854775807) (w : World) : Calls Try.prog 23 #[.string ⟨l.toArray⟩] w fun e w' => e = .returned (.bool (smooth l)) ∧ Below w.heap.size w w' := by
  have hcb := sIsBinary_any l hl w
  cases h : binB l
  · have HE := Lib.hid (show false = smooth l by simp [smooth, h])
    rw [h] at hcb
    have HC := Lib.hid hcb
    clear hcb
    go_enter Try.func23, Try.ntmps23
    go_wp2_with (go_at_call 35; refine HC.out.mono ?_; rintro e w1 ⟨rfl, rfl⟩)
    go_ret
    exact ⟨ret_bool HE.out, Below.refl _ _⟩
  · have HE := Lib.hid (show smF 400 l = smooth l by simp [smooth, h])
    have hw : isW l = true := by simp only [binB, Bool.and_eq_true] at h; exact h.1
    rw [h] at hcb
    have HC := Lib.hid hcb
    have HW0 := Lib.hid hw
    clear hcb h hw
    go_enter Try.func23, Try.ntmps23
    go_wp2_with (go_at_call 35; refine HC.out.mono ?_; rintro e w1 ⟨rfl, rfl⟩)
    go_loopw [0] (fun v wr => ∃ x : List UInt8, v = .string ⟨x.toArray⟩ ∧ isW x = true ∧ smF 400 x = smF 400 l ∧ Below w.heap.size w wr) (fun v _ => strLen v)
    case atStart => exact ⟨l, rfl, HW0.out, rfl, Below.refl _ _⟩
    case round =>
      obtain ⟨x, rfl, hw, hs, hb⟩ := hrel
      have hx4 := isW_len hw
      have HS := Lib.hid hs
      have HZ := Lib.hid (show Small (innerOf 1 (rns x)) from fun z hz => rns_small hw z (inner_mem hz))
      have HN := Lib.hid (Nat.le_trans (inner_len (1 : Int) (rns x)) (rns_len4 hw))
      have HQ := Lib.hid (show runW (innerOf 1 (rns x)) = innerRun x by simp [innerRun, hw])
      clear hs hw
      by_cases h2 : 2 ≤ x.length
      · cases hok : (innerRun x).2
        · have HF := Lib.hid (show false = smooth l by rw [← HE.out, ← HS.out, smF_bad h2 hok])
          have HO := Lib.hid (show (runW (innerOf 1 (rns x))).2 = false by rw [HQ.out, hok])
          clear hok
          go_wp2_with (first | (go_at_call 33; refine (sInner_any x hx4 _).mono ?_; rintro e w2 ⟨A, n, c, rfl, hrd, hb2⟩) | (go_at_call 28; refine (sl24Word_any _ _ _ _ _ _ hrd (Nat.le_refl _) (by have h1 := hrd.1; have h2 := HN.out; simp [ivs] at h1; omega) HZ.out).mono ?_; rintro e w3 ⟨rfl, hb3⟩; rw [HO.out]))
          go_ret
          exact ⟨ret_bool HF.out, hb.trans ((hb2.trans (hb3.mono hb2.size)).mono hb.size)⟩
        · have HL := Lib.hid (innerRun_less h2 hok)
          have HF := Lib.hid (show smF 400 (innerRun x).1 = smF 400 l by rw [← HS.out, smF_go h2 hx4 hok])
          have HO := Lib.hid (show (runW (innerOf 1 (rns x))).2 = true by rw [HQ.out, hok])
          clear hok
          go_wp2_with (first | (go_at_call 33; refine (sInner_any x hx4 _).mono ?_; rintro e w2 ⟨A, n, c, rfl, hrd, hb2⟩) | (go_at_call 28; refine (sl24Word_any _ _ _ _ _ _ hrd (Nat.le_refl _) (by have h1 := hrd.1; have h2 := HN.out; simp [ivs] at h1; omega) HZ.out).mono ?_; rintro e w3 ⟨rfl, hb3⟩; rw [HO.out, HQ.out]))
          go_round
          case rel => exact ⟨_, rfl, HL.out.2, HF.out, hb.trans ((hb2.trans (hb3.mono hb2.size)).mono hb.size)⟩
          case measure => have := HL.out.1; simp [strLen]; omega
      · have HF := Lib.hid (show true = smooth l by rw [← HE.out, ← HS.out, smF_stop h2])
        go_wp2
        go_ret
        exact ⟨ret_bool HF.out, hb⟩

set_option maxHeartbeats 400000 in
theorem walk_FnExactIsSmooth (l : List UInt8) (w : World) (hl : StrArg l) : Calls Try.prog 8 #[.string ⟨l.toArray⟩] w fun e w' => e = .returned (.bool true) ∧ Below w.heap.size w w' := by
  unfold StrArg at hl
  by_cases hbig : l.length ≤ 1048576
  · go_enter Try.func8, Try.ntmps8
    go_wp2_with (first | (go_at_call 23; refine (sIsSmooth_any l hl _).mono ?_; rintro e w1 ⟨rfl, hb1⟩) | (go_at_call 24; refine (iIsSmooth_any l hl _).mono ?_; rintro e w2 ⟨rfl, hb2⟩))
    go_ret
    exact ⟨rfl, hb1.trans (hb2.mono hb1.size)⟩
  · go_enter Try.func8, Try.ntmps8
    go_wp2_with fail
    go_ret
    exact ⟨rfl, Below.refl _ _⟩
end Go.Proofs.Ytdnfkhfhhffaeaa
