/-
  Contracts of runs (program) and l24Runs (reference). Condition: a string that is a word.
-/
import Derived.Test.YtdnfkhfhhffaeaaHelpI
import Derived.Test.YtdnfkhfhhffaeaaWd
namespace Go.Proofs.Ytdnfkhfhhffaeaa
open Go.RowKit

theorem below_drewN' {B : Nat} {a w : World} (h : Below B a w) (n : Nat) : Below B a (w.drewN n) := ⟨h.os, h.tape, h.output, h.size, h.block⟩

/-- one letter more: a new run, or the last one grows -/
def rnew (l : List UInt8) (i : Nat) : Bool := decide (i = 0) || !(l[i]? == l[i - 1]?)
def rnsK (l : List UInt8) : Nat → List Int
  | 0 => []
  | k + 1 => if rnew l k then rnsK l k ++ [1] else (rnsK l k).set ((rnsK l k).length - 1) ((rnsK l k).getD ((rnsK l k).length - 1) 0 + 1)
def rns (l : List UInt8) : List Int := rnsK l l.length

theorem rnsK_yes {l : List UInt8} {k : Nat} (h : rnew l k = true) : rnsK l (k + 1) = rnsK l k ++ [1] := by simp [rnsK, h]
theorem rnsK_no {l : List UInt8} {k : Nat} (h : rnew l k = false) : rnsK l (k + 1) = (rnsK l k).set ((rnsK l k).length - 1) ((rnsK l k).getD ((rnsK l k).length - 1) 0 + 1) := by simp [rnsK, h]
theorem rnsK_len (l : List UInt8) : ∀ k, (rnsK l k).length ≤ k ∧ (0 < k → 0 < (rnsK l k).length)
  | 0 => by simp [rnsK]
  | k + 1 => by
    have ih := rnsK_len l k
    cases h : rnew l k
    · rw [rnsK_no h]
      have hk : 0 < k := by simp [rnew] at h; omega
      have := ih.2 hk
      simp; omega
    · rw [rnsK_yes h]; simp; omega
theorem rnsK_bd (l : List UInt8) : ∀ k, ∀ x ∈ rnsK l k, 1 ≤ x ∧ x ≤ k
  | 0 => by simp [rnsK]
  | k + 1 => by
    have ih := rnsK_bd l k
    have il := rnsK_len l k
    intro x hx
    cases h : rnew l k
    · rw [rnsK_no h] at hx
      have hk : 0 < k := by simp [rnew] at h; omega
      have hl := il.2 hk
      rcases List.mem_or_eq_of_mem_set hx with hx | hx
      · have := ih x hx; omega
      · have hm : (rnsK l k).getD ((rnsK l k).length - 1) 0 ∈ rnsK l k := by
          have hlt : (rnsK l k).length - 1 < (rnsK l k).length := by omega
          simp only [List.getD, List.getElem?_eq_getElem hlt, Option.getD_some]
          exact List.getElem_mem hlt
        have := ih _ hm; omega
    · rw [rnsK_yes h] at hx
      rcases List.mem_append.1 hx with hx | hx
      · have := ih x hx; omega
      · simp at hx; omega

theorem rnew_zero (l : List UInt8) : rnew l 0 = true := by simp [rnew]
theorem rnew_ne {l : List UInt8} {k : Nat} (hk : k < l.length) (h : ((l[k].toNat : Int) != (l[k - 1].toNat : Int)) = true) : rnew l k = true := by
  have hne : l[k] ≠ l[k - 1] := by
    intro e; rw [e] at h; simp at h
  simp [rnew, List.getElem?_eq_getElem hk, List.getElem?_eq_getElem (show k - 1 < l.length by omega), hne]
theorem rnew_eq {l : List UInt8} {k : Nat} (hk : k < l.length) (h0 : 0 < k) (h : ((l[k].toNat : Int) != (l[k - 1].toNat : Int)) = false) : rnew l k = false := by
  have he : l[k] = l[k - 1] := by
    apply UInt8.toNat_inj.1
    simp at h; omega
  have : k ≠ 0 := by omega
  simp [rnew, List.getElem?_eq_getElem hk, List.getElem?_eq_getElem (show k - 1 < l.length by omega), he, this]


set_option maxHeartbeats 1000000 in
theorem iruns_any (l : List UInt8) (hl : l.length ≤ 400) (w : World) : Calls Try.prog 32 #[.string ⟨l.toArray⟩] w fun e w' => ∃ A n c, e = .returned (.slice A n c) ∧ Own w w' 3 A n c (ivs (rns l)) := by
  go_enter Try.func32, Try.ntmps32
  go_wp2
  go_loopw [8, 3] (fun i out wr => ∃ (k : Nat) (A : Option Addr) (n c : Nat), k ≤ l.length ∧ i = .int .i64 k ∧ out = .slice A n c ∧ Own w wr 3 A n c (ivs (rnsK l k))) (fun i _ _ => l.length - (intOf i).toNat)
  case atStart => exact ⟨0, _, _, _, Nat.zero_le _, rfl, rfl, Own.made0 (Below.refl _ _) _⟩
  case round =>
    obtain ⟨k, A, n, c, hk, rfl, rfl, hown⟩ := hrel
    by_cases hlt : k < l.length
    · have hn : n = (rnsK l k).length := by have := hown.len; simp [ivs] at this; omega
      have HN := Lib.hid hn
      have hn1 : n ≤ k := by have := (rnsK_len l k).1; omega
      have hn2 : 0 < k → 0 < n := by have := (rnsK_len l k).2; omega
      clear hn
      have hyes : rnew l k = true → wr = wr → True := fun _ _ => trivial
      by_cases hk0 : k = 0
      · have hq : ((k : Int) == 0) = true := by simp [hk0]
        have HY := Lib.hid (rnsK_yes (show rnew l k = true by rw [hk0]; exact rnew_zero l))
        clear hk0 hyes hn2
        go_wp2
        go_quiet (fail)
        go_wp2_with (at_builtin; refine app_one (.tmp 23) (.tmp 24) _ _ _ 8 rfl rfl Try.underlying27 infoI rfl rfl (hown.drewN nq) rfl rfl (by omega) (by omega) ?_; intro A' c' w1 hown1; obtain ⟨g, rfl⟩ := own_form hown1.1 (by omega); have hc1 := hown1.lastAt; have hf1 := hown1.frozenAt n)
        exact ⟨⟨k + 1, _, n + 1, c', by omega, by go_num, rfl, by rw [HY.out, ivs_snoc]; exact hown1.storeLast _⟩, by simp [intOf]; omega⟩
      · have hk1 : 0 < k := by omega
        have hq : ((k : Int) == 0) = false := by simp; omega
        have hn3 := hn2 hk1
        clear hyes hn2 hk0
        cases hne : ((l[k].toNat : Int) != (l[k - 1].toNat : Int))
        · have HY := Lib.hid (rnsK_no (rnew_eq hlt hk1 hne))
          go_wp2
          have i1 : 0 ≤ (k : Int) - 1 := by omega
          have i4 : 1 ≤ (k : Int) := by omega
          have i5 : k - 1 < l.length := by omega
          have i6 : (k : Int) - 1 < (l.length : Int) := by omega
          have i2 : ((k : Int) - 1).toNat = k - 1 := by omega
          have i3 : IntKind.i64.wrap ((k : Int) - 1) = (k : Int) - 1 := IntWalk.i64_in _ (by omega)
          obtain ⟨g, rfl⟩ := own_form hown.1 (by omega)
          have hlz : n - 1 < (rnsK l k).length := by have := HN.out; omega
          have hc1 := hown.cellAt (j := n - 1) (by simpa [ivs] using hlz)
          rw [ivs_get hlz] at hc1
          have hf1 := hown.frozenAt (n - 1)
          have hv := rnsK_bd l k _ (List.getElem_mem hlz)
          have HV := Lib.hid (show (rnsK l k)[n - 1] + 1 = (rnsK l k).getD ((rnsK l k).length - 1) 0 + 1 by rw [← HN.out, List.getD, List.getElem?_eq_getElem hlz]; rfl)
          go_quiet (fail)
          clear i3
          go_wp2
          refine ⟨⟨k + 1, _, n, c, by omega, by go_num, rfl, ?_⟩, by simp [intOf]; omega⟩
          have h3 := (hown.drewN nq).store (n - 1) (.int .i64 ((rnsK l k)[n - 1] + 1))
          rw [ivs_set] at h3
          rw [HY.out, ← HV.out, ← HN.out]
          exact h3
        · have HY := Lib.hid (rnsK_yes (rnew_ne hlt hne))
          go_wp2
          have i1 : 0 ≤ (k : Int) - 1 := by omega
          have i4 : 1 ≤ (k : Int) := by omega
          have i5 : k - 1 < l.length := by omega
          have i6 : (k : Int) - 1 < (l.length : Int) := by omega
          have i2 : ((k : Int) - 1).toNat = k - 1 := by omega
          have i3 : IntKind.i64.wrap ((k : Int) - 1) = (k : Int) - 1 := IntWalk.i64_in _ (by omega)
          go_quiet (fail)
          clear i3
          go_wp2_with (at_builtin; refine app_one (.tmp 23) (.tmp 24) _ _ _ 8 rfl rfl Try.underlying27 infoI rfl rfl (hown.drewN nq) rfl rfl (by omega) (by omega) ?_; intro A' c' w1 hown1; obtain ⟨g, rfl⟩ := own_form hown1.1 (by omega); have hc1 := hown1.lastAt; have hf1 := hown1.frozenAt n)
          exact ⟨⟨k + 1, _, n + 1, c', by omega, by go_num, rfl, by rw [HY.out, ivs_snoc]; exact hown1.storeLast _⟩, by simp [intOf]; omega⟩
    · have HE := Lib.hid (show k = l.length by omega)
      go_wp2
      go_ret
      exact ⟨_, _, _, rfl, by rw [rns, ← HE.out]; exact hown⟩
set_option maxHeartbeats 1000000 in
theorem sruns_any (l : List UInt8) (hl : l.length ≤ 400) (w : World) : Calls Try.prog 29 #[.string ⟨l.toArray⟩] w fun e w' => ∃ A n c, e = .returned (.slice A n c) ∧ Own w w' 3 A n c (ivs (rns l)) := by
  go_enter Try.func29, Try.ntmps29
  go_wp2
  go_loopw [4, 3] (fun i out wr => ∃ (k : Nat) (A : Option Addr) (n c : Nat), k ≤ l.length ∧ i = .int .i64 k ∧ out = .slice A n c ∧ Own w wr 3 A n c (ivs (rnsK l k))) (fun i _ _ => l.length - (intOf i).toNat)
  case atStart => exact ⟨0, _, _, _, Nat.zero_le _, rfl, rfl, Own.made0 (Below.refl _ _) _⟩
  case round =>
    obtain ⟨k, A, n, c, hk, rfl, rfl, hown⟩ := hrel
    by_cases hlt : k < l.length
    · have hn : n = (rnsK l k).length := by have := hown.len; simp [ivs] at this; omega
      have HN := Lib.hid hn
      have hn1 : n ≤ k := by have := (rnsK_len l k).1; omega
      have hn2 : 0 < k → 0 < n := by have := (rnsK_len l k).2; omega
      clear hn
      have hyes : rnew l k = true → wr = wr → True := fun _ _ => trivial
      by_cases hk0 : k = 0
      · have hq : ((k : Int) == 0) = true := by simp [hk0]
        have HY := Lib.hid (rnsK_yes (show rnew l k = true by rw [hk0]; exact rnew_zero l))
        clear hk0 hyes hn2
        go_wp2
        go_quiet (fail)
        go_wp2_with (at_builtin; refine app_one (.tmp 24) (.tmp 25) _ _ _ 8 rfl rfl Try.underlying27 infoI rfl rfl (hown.drewN nq) rfl rfl (by omega) (by omega) ?_; intro A' c' w1 hown1; obtain ⟨g, rfl⟩ := own_form hown1.1 (by omega); have hc1 := hown1.lastAt; have hf1 := hown1.frozenAt n)
        exact ⟨⟨k + 1, _, n + 1, c', by omega, by go_num, rfl, by rw [HY.out, ivs_snoc]; exact hown1.storeLast _⟩, by simp [intOf]; omega⟩
      · have hk1 : 0 < k := by omega
        have hq : ((k : Int) == 0) = false := by simp; omega
        have hn3 := hn2 hk1
        clear hyes hn2 hk0
        cases hne : ((l[k].toNat : Int) != (l[k - 1].toNat : Int))
        · have HY := Lib.hid (rnsK_no (rnew_eq hlt hk1 hne))
          go_wp2
          have i1 : 0 ≤ (k : Int) - 1 := by omega
          have i4 : 1 ≤ (k : Int) := by omega
          have i5 : k - 1 < l.length := by omega
          have i6 : (k : Int) - 1 < (l.length : Int) := by omega
          have i2 : ((k : Int) - 1).toNat = k - 1 := by omega
          have i3 : IntKind.i64.wrap ((k : Int) - 1) = (k : Int) - 1 := IntWalk.i64_in _ (by omega)
          obtain ⟨g, rfl⟩ := own_form hown.1 (by omega)
          have hlz : n - 1 < (rnsK l k).length := by have := HN.out; omega
          have hc1 := hown.cellAt (j := n - 1) (by simpa [ivs] using hlz)
          rw [ivs_get hlz] at hc1
          have hf1 := hown.frozenAt (n - 1)
          have hv := rnsK_bd l k _ (List.getElem_mem hlz)
          have HV := Lib.hid (show (rnsK l k)[n - 1] + 1 = (rnsK l k).getD ((rnsK l k).length - 1) 0 + 1 by rw [← HN.out, List.getD, List.getElem?_eq_getElem hlz]; rfl)
          go_quiet (fail)
          clear i3
          go_wp2
          refine ⟨⟨k + 1, _, n, c, by omega, by go_num, rfl, ?_⟩, by simp [intOf]; omega⟩
          have h3 := (hown.drewN nq).store (n - 1) (.int .i64 ((rnsK l k)[n - 1] + 1))
          rw [ivs_set] at h3
          rw [HY.out, ← HV.out, ← HN.out]
          exact h3
        · have HY := Lib.hid (rnsK_yes (rnew_ne hlt hne))
          go_wp2
          have i1 : 0 ≤ (k : Int) - 1 := by omega
          have i4 : 1 ≤ (k : Int) := by omega
          have i5 : k - 1 < l.length := by omega
          have i6 : (k : Int) - 1 < (l.length : Int) := by omega
          have i2 : ((k : Int) - 1).toNat = k - 1 := by omega
          have i3 : IntKind.i64.wrap ((k : Int) - 1) = (k : Int) - 1 := IntWalk.i64_in _ (by omega)
          go_quiet (fail)
          clear i3
          go_wp2_with (at_builtin; refine app_one (.tmp 24) (.tmp 25) _ _ _ 8 rfl rfl Try.underlying27 infoI rfl rfl (hown.drewN nq) rfl rfl (by omega) (by omega) ?_; intro A' c' w1 hown1; obtain ⟨g, rfl⟩ := own_form hown1.1 (by omega); have hc1 := hown1.lastAt; have hf1 := hown1.frozenAt n)
          exact ⟨⟨k + 1, _, n + 1, c', by omega, by go_num, rfl, by rw [HY.out, ivs_snoc]; exact hown1.storeLast _⟩, by simp [intOf]; omega⟩
    · have HE := Lib.hid (show k = l.length by omega)
      go_wp2
      go_ret
      exact ⟨_, _, _, rfl, by rw [rns, ← HE.out]; exact hown⟩

def runsOf (l : List UInt8) : List Int := if isW l then rns l else []
def RetInts (w0 : World) (zs : List Int) (e : Ending) (w' : World) : Prop := ∃ A n c, e = .returned (.slice A n c) ∧ Own w0 w' 3 A n c (ivs zs)
theorem rns_len {l : List UInt8} : (rns l).length ≤ l.length := (rnsK_len l l.length).1
theorem runsOf_len (l : List UInt8) : (runsOf l).length ≤ 400 := by
  unfold runsOf
  split
  · rename_i h; have := isW_len h; have := rns_len (l := l); omega
  · simp

set_option maxHeartbeats 400000 in
theorem iRunsOf_any (l : List UInt8) (hl : l.length ≤ 9223372036854775807) (w : World) : Calls Try.prog 14 #[.string ⟨l.toArray⟩] w (RetInts w (runsOf l)) := by
  cases h : isW l
  · have HE := Lib.hid (show [] = runsOf l by simp [runsOf, h])
    go_enter Try.func14, Try.ntmps14
    go_wp2_with (go_at_call 30; refine (isWord_any l hl _).mono ?_; rintro e w' ⟨rfl, rfl⟩)
    go_ret
    exact ⟨_, _, _, rfl, by rw [← HE.out]; exact Own.nil (Below.refl _ _) _⟩
  · have HE := Lib.hid (show rns l = runsOf l by simp [runsOf, h])
    have h4 := isW_len h
    go_enter Try.func14, Try.ntmps14
    go_wp2_with (first | (go_at_call 30; refine (isWord_any l hl _).mono ?_; rintro e w' ⟨rfl, rfl⟩) | (go_at_call 32; refine (iruns_any l h4 _).mono ?_; rintro e w1 ⟨A, n, c, rfl, hown⟩))
    go_ret
    exact ⟨_, _, _, rfl, by rw [← HE.out]; exact hown⟩

set_option maxHeartbeats 400000 in
theorem sRunsOf_any (l : List UInt8) (hl : l.length ≤ 9223372036854775807) (w : World) : Calls Try.prog 13 #[.string ⟨l.toArray⟩] w (RetInts w (runsOf l)) := by
  cases h : isW l
  · have HE := Lib.hid (show [] = runsOf l by simp [runsOf, h])
    go_enter Try.func13, Try.ntmps13
    go_wp2_with (go_at_call 27; refine (WordOk_any l hl _).mono ?_; rintro e w' ⟨rfl, rfl⟩)
    go_ret
    exact ⟨_, _, _, rfl, by rw [← HE.out]; exact Own.nil (Below.refl _ _) _⟩
  · have HE := Lib.hid (show rns l = runsOf l by simp [runsOf, h])
    have h4 := isW_len h
    go_enter Try.func13, Try.ntmps13
    go_wp2_with (first | (go_at_call 27; refine (WordOk_any l hl _).mono ?_; rintro e w' ⟨rfl, rfl⟩) | (go_at_call 29; refine (sruns_any l h4 _).mono ?_; rintro e w1 ⟨A, n, c, rfl, hown⟩))
    go_ret
    exact ⟨_, _, _, rfl, by rw [← HE.out]; exact hown⟩

set_option maxHeartbeats 1000000 in
theorem walk_FnExactRunsOf (l : List UInt8) (w : World) (hl : StrArg l) : Calls Try.prog 5 #[.string ⟨l.toArray⟩] w fun e w' => e = .returned (.bool true) ∧ Below w.heap.size w w' := by
  unfold StrArg at hl
  have HL := Lib.hid (runsOf_len l)
  by_cases hbig : l.length ≤ 1048576
  · go_enter Try.func5, Try.ntmps5
    go_wp2_with fail
    refine (sRunsOf_any l hl _).mono ?_
    rintro e w1 ⟨A1, n1, c1, rfl, o1⟩
    have M1 := (Mem.start w).add o1
    have hn1 : n1 ≤ 400 := by have := o1.len; have := HL.out; simp [ivs] at *; omega
    clear o1
    go_wp2_with fail
    refine (iRunsOf_any l hl _).mono ?_
    rintro e w2 ⟨A2, n2, c2, rfl, o2⟩
    obtain rfl : n1 = n2 := by have h1 := M1.rd0.1; have h2 := o2.len; omega
    have M2 := M1.add o2
    clear o2 M1
    go_wp2_with fail
    refine (eqIntS_same _ _ _ _ _ _ _ _ _ M2.rd0 M2.rd1 (Nat.le_refl _) (Nat.le_refl _) (by omega)).mono ?_
    rintro e w3 ⟨rfl, hb3⟩
    have M3 := M2.later hb3
    clear M2 hb3
    go_wp2_with fail
    refine (markIntS_any _ _ _ _ _ _ _ _ M3.row0 (by omega) (by omega) (by omega)).mono ?_
    rintro e w4 ⟨rfl, o4, g4⟩
    have M4 := M3.mark (pre := []) o4 (Nat.le_refl _) g4
    clear M3 o4 g4
    go_wp2_with fail
    refine (heldIntS_any _ _ _ _ _ _ M4.rd0 (by omega) (by omega) (by omega)).mono ?_
    rintro e w5 ⟨rfl, rfl⟩
    go_wp2_with fail
    refine (iRunsOf_any l hl _).mono ?_
    rintro e w6 ⟨A6, n6, c6, rfl, o6⟩
    obtain rfl : n1 = n6 := by have h1 := M4.rd1.1; have h2 := o6.len; omega
    have M6 := M4.add o6
    clear o6 M4
    go_wp2_with fail
    refine (eqIntS_same _ _ _ _ _ _ _ _ _ M6.rd0 M6.rd2 (Nat.le_refl _) (Nat.le_refl _) (by omega)).mono ?_
    rintro e w7 ⟨rfl, hb7⟩
    have M7 := M6.later hb7
    clear M6 hb7
    go_wp2_with fail
    refine (heldIntS_any _ _ _ _ _ _ M7.rd1 (by omega) (by omega) (by omega)).mono ?_
    rintro e w8 ⟨rfl, rfl⟩
    go_wp2_with fail
    go_ret
    exact ⟨rfl, M7.bel⟩
  · go_enter Try.func5, Try.ntmps5
    go_wp2_with fail
    go_ret
    exact ⟨rfl, Below.refl _ _⟩
end Go.Proofs.Ytdnfkhfhhffaeaa
