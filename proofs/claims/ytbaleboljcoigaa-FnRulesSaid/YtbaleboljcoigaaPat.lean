/-
  Contracts of PatchOk, haveBlocks, l03Within, RuleOk (program and reference). Condition: each string is shorter than 2^63.
-/
import Derived.Test.YtbaleboljcoigaaWd
import Derived.Test.YtbaleboljcoigaaRowW
namespace Go.Proofs.Ytbaleboljcoigaa
open Go.RowKit

def wd (p : List (List UInt8)) : Nat := (p.headD []).length
def rowOk (m : Nat) (l : List UInt8) : Bool := isW l && wi l.length 1 32 && decide (l.length = m)
theorem rowOk_mk {m : Nat} {l : List UInt8} (h1 : isW l = true) (h2 : wi l.length 1 32 = true) (h3 : l.length = m) : rowOk m l = true := by
  unfold rowOk; rw [h1, h2]; simp [h3]
def pOk (p : List (List UInt8)) : Bool := p.all (rowOk (wd p)) && wi p.length 1 32
theorem wd_zero {p : List (List UInt8)} (h : 0 < p.length) : wd p = p[0].length := by cases p with | nil => simp at h | cons a r => rfl
theorem pOk_len {p : List (List UInt8)} (h : pOk p = true) : 1 ≤ p.length ∧ p.length ≤ 32 := by
  simp only [pOk, Bool.and_eq_true] at h
  have := wi_yes h.2; omega
theorem pOk_row {p : List (List UInt8)} (h : pOk p = true) {l : List UInt8} (hl : l ∈ p) : isW l = true ∧ l.length = wd p ∧ 1 ≤ wd p ∧ wd p ≤ 32 := by
  simp only [pOk, Bool.and_eq_true] at h
  have h1 := List.all_eq_true.1 h.1 l hl
  simp only [rowOk, Bool.and_eq_true, decide_eq_true_eq] at h1
  have h2 := wi_yes h1.1.2
  exact ⟨h1.1.1, h1.2, by omega, by omega⟩
theorem pOk_wd {p : List (List UInt8)} (h : pOk p = true) : 1 ≤ wd p ∧ wd p ≤ 32 := by
  have h1 := pOk_len h
  have h2 := pOk_row h (List.getElem_mem (show 0 < p.length by omega))
  exact ⟨h2.2.2.1, h2.2.2.2⟩

def Longs (ss : List (List UInt8)) : Prop := ∀ s ∈ ss, s.length ≤ 9223372036854775807

set_option maxHeartbeats 800000 in
theorem iPatchOk_any (A : Option Addr) (n c B : Nat) (p : List (List UInt8)) (w : World) (hr : Rd w B A n (svs p)) (hn : n ≤ 1048576) (hs : Longs p) :
    Calls Try.prog 20 #[.slice A n c] w fun e w' => e = .returned (.bool (pOk p)) ∧ w = w' := by
  have hlen := Lib.hid hr.lenS
  have HR := Lib.hid hr
  have HS := Lib.hid hs
  clear hr hs
  go_enter Try.func20, Try.ntmps20
  go_wp2
  go_loop [7] (fun i => ∃ k : Nat, k ≤ n ∧ i = .int .i64 k ∧ (p.take k).all (rowOk (wd p)) = true) (fun i => n - (intOf i).toNat)
  case atStart => exact ⟨0, Nat.zero_le _, rfl, rfl⟩
  case round =>
    obtain ⟨k, hk, rfl, ha⟩ := hrel
    have HA := Lib.hid ha
    clear ha
    by_cases hlt : k < n
    · have hkl : k < p.length := by rw [hlen.out]; exact hlt
      have hpl : 0 < p.length := by omega
      obtain ⟨a, rfl, hab, hcell⟩ := HR.out.str (k := k) hkl
      obtain ⟨a', ha', _, hcell0⟩ := HR.out.str (k := 0) hpl
      injection ha' with ha'
      subst ha'
      have hcell00 : w.cell? a = some (.string ⟨(p[0]).toArray⟩) := hcell0
      have hl1 := HS.out _ (List.getElem_mem hkl)
      have hl0 := HS.out _ (List.getElem_mem hpl)
      have HW := Lib.hid (wd_zero hpl)
      cases h1 : isW p[k]
      · have HE := Lib.hid (show false = pOk p by rw [pOk, all_bad (p := rowOk (wd p)) hkl (by simp [rowOk, h1])]; rfl)
        go_wp2_with (first | (go_at_call 45; refine (isWord_any _ hl1 _).mono ?_; rintro e w' ⟨rfl, rfl⟩) | (go_at_call 35; refine (within_any _ _ _ _).mono ?_; rintro e w' ⟨rfl, rfl⟩))
        go_ret
        exact ⟨ret_bool HE.out, rfl⟩
      · cases h2 : wi ((p[k]).length : Int) 1 32
        · have HE := Lib.hid (show false = pOk p by rw [pOk, all_bad (p := rowOk (wd p)) hkl (by simp [rowOk, h2])]; rfl)
          go_wp2_with (first | (go_at_call 45; refine (isWord_any _ hl1 _).mono ?_; rintro e w' ⟨rfl, rfl⟩) | (go_at_call 35; refine (within_any _ _ _ _).mono ?_; rintro e w' ⟨rfl, rfl⟩))
          go_ret
          exact ⟨ret_bool HE.out, rfl⟩
        · cases h3 : (((p[k]).length : Int) != ((p[0]).length : Int))
          · have H := Lib.hid (all_snoc (p := rowOk (wd p)) hkl HA.out (by
              have : (p[k]).length = wd p := by rw [HW.out]; simp at h3; omega
              exact rowOk_mk h1 h2 this))
            go_wp2_with (first | (go_at_call 45; refine (isWord_any _ hl1 _).mono ?_; rintro e w' ⟨rfl, rfl⟩) | (go_at_call 35; refine (within_any _ _ _ _).mono ?_; rintro e w' ⟨rfl, rfl⟩))
            go_round
            case rel => exact ⟨k + 1, by omega, by go_num, H.out⟩
            case measure => simp [intOf]; omega
          · have HE := Lib.hid (show false = pOk p by
              have h4 : (p[k]).length ≠ wd p := by rw [HW.out]; simp at h3; omega
              rw [pOk, all_bad (p := rowOk (wd p)) hkl (by simp [rowOk, h4])]; rfl)
            go_wp2_with (first | (go_at_call 45; refine (isWord_any _ hl1 _).mono ?_; rintro e w' ⟨rfl, rfl⟩) | (go_at_call 35; refine (within_any _ _ _ _).mono ?_; rintro e w' ⟨rfl, rfl⟩))
            go_ret
            exact ⟨ret_bool HE.out, rfl⟩
    · have HE := Lib.hid (show wi (n : Int) 1 32 = pOk p by
        have hk2 : ¬ k < p.length := by rw [hlen.out]; exact hlt
        rw [pOk, all_done hk2 HA.out, hlen.out]; rfl)
      go_wp2_with (go_at_call 35; refine (within_any _ _ _ _).mono ?_; rintro e w' ⟨rfl, rfl⟩)
      go_ret
      exact ⟨ret_bool HE.out, rfl⟩
theorem pOk_no {p : List (List UInt8)} (h : wi p.length 1 32 = false) : pOk p = false := by simp [pOk, h]
theorem pOk_no2 {p : List (List UInt8)} (h0 : 0 < p.length) (h : wi ((p[0]).length : Int) 1 32 = false) : pOk p = false := by
  have : p.all (rowOk (wd p)) = false := all_bad (p := rowOk (wd p)) h0 (by simp [rowOk, h])
  simp [pOk, this]

set_option maxHeartbeats 800000 in
theorem sPatchOk_any (A : Option Addr) (n c B : Nat) (p : List (List UInt8)) (w : World) (hr : Rd w B A n (svs p)) (hn : n ≤ 1048576) (hs : Longs p) :
    Calls Try.prog 65 #[.slice A n c] w fun e w' => e = .returned (.bool (pOk p)) ∧ w = w' := by
  have hlen := Lib.hid hr.lenS
  have HR := Lib.hid hr
  have HS := Lib.hid hs
  clear hr hs
  cases g1 : wi (n : Int) 1 32
  · have HE := Lib.hid (show false = pOk p by rw [pOk_no (by rw [hlen.out]; exact g1)])
    go_enter Try.func65, Try.ntmps65
    go_wp2_with (go_at_call 61; refine (l01In_any _ _ _ _).mono ?_; rintro e w' ⟨rfl, rfl⟩)
    go_ret
    exact ⟨ret_bool HE.out, rfl⟩
  have hnb := wi_yes g1
  have hpl : 0 < p.length := by rw [hlen.out]; omega
  obtain ⟨a, rfl, hab, hcell0⟩ := HR.out.str (k := 0) hpl
  have hcell00 : w.cell? a = some (.string ⟨(p[0]).toArray⟩) := hcell0
  have hl0 := HS.out _ (List.getElem_mem hpl)
  have HW := Lib.hid (wd_zero hpl)
  cases g2 : wi ((p[0]).length : Int) 1 32
  · have HE := Lib.hid (show false = pOk p by rw [pOk_no2 hpl g2])
    go_enter Try.func65, Try.ntmps65
    go_wp2_with (go_at_call 61; refine (l01In_any _ _ _ _).mono ?_; rintro e w' ⟨rfl, rfl⟩)
    go_ret
    exact ⟨ret_bool HE.out, rfl⟩
  have G1 := Lib.hid g1
  have G2 := Lib.hid g2
  go_enter Try.func65, Try.ntmps65
  go_wp2_with (go_at_call 61; refine (l01In_any _ _ _ _).mono ?_; rintro e w' ⟨rfl, rfl⟩)
  clear g1 g2
  go_loop [19] (fun i => ∃ k : Nat, k ≤ n ∧ i = .int .i64 k ∧ (p.take k).all (rowOk (wd p)) = true) (fun i => n - (intOf i).toNat)
  case atStart => exact ⟨0, Nat.zero_le _, rfl, rfl⟩
  case round =>
    obtain ⟨k, hk, rfl, ha⟩ := hrel
    have HA := Lib.hid ha
    clear ha
    by_cases hlt : k < n
    · have hkl : k < p.length := by rw [hlen.out]; exact hlt
      obtain ⟨a', ha', _, hcell⟩ := HR.out.str (k := k) hkl
      injection ha' with ha'
      subst ha'
      have hl1 := HS.out _ (List.getElem_mem hkl)
      cases h3 : (((p[k]).length : Int) != ((p[0]).length : Int))
      · cases h1 : isW p[k]
        · have HE := Lib.hid (show false = pOk p by rw [pOk, all_bad (p := rowOk (wd p)) hkl (by simp [rowOk, h1])]; rfl)
          go_wp2_with (go_at_call 59; refine (WordOk_any _ hl1 _).mono ?_; rintro e w' ⟨rfl, rfl⟩)
          go_ret
          exact ⟨ret_bool HE.out, rfl⟩
        · have H := Lib.hid (all_snoc (p := rowOk (wd p)) hkl HA.out (by
            have h5 : (p[k]).length = (p[0]).length := by simp at h3; omega
            have h6 := G2.out
            rw [← h5] at h6
            have : (p[k]).length = wd p := by rw [HW.out]; exact h5
            exact rowOk_mk h1 h6 this))
          go_wp2_with (go_at_call 59; refine (WordOk_any _ hl1 _).mono ?_; rintro e w' ⟨rfl, rfl⟩)
          go_round
          case rel => exact ⟨k + 1, by omega, by go_num, H.out⟩
          case measure => simp [intOf]; omega
      · have HE := Lib.hid (show false = pOk p by
          have h4 : (p[k]).length ≠ wd p := by rw [HW.out]; simp at h3; omega
          rw [pOk, all_bad (p := rowOk (wd p)) hkl (by simp [rowOk, h4])]; rfl)
        go_wp2_with (go_at_call 59; refine (WordOk_any _ hl1 _).mono ?_; rintro e w' ⟨rfl, rfl⟩)
        go_ret
        exact ⟨ret_bool HE.out, rfl⟩
    · have HE := Lib.hid (show true = pOk p by
        have hk2 : ¬ k < p.length := by rw [hlen.out]; exact hlt
        rw [pOk, all_done hk2 HA.out, hlen.out, G1.out]; rfl)
      go_wp2
      go_ret
      exact ⟨ret_bool HE.out, rfl⟩

/-! ## letters that have a block -/
def hasB (n : Nat) (l : List UInt8) : Bool := l.all fun c => decide (c.toNat - 97 < n)
def AllW (ss : List (List UInt8)) : Prop := ∀ s ∈ ss, s.all isLet = true ∧ s.length ≤ 9223372036854775807
theorem let_at {l : List UInt8} (h : l.all isLet = true) {k : Nat} (hk : k < l.length) : 97 ≤ l[k].toNat ∧ l[k].toNat ≤ 100 := isLet_bd (List.all_eq_true.1 h _ (List.getElem_mem hk))

set_option maxHeartbeats 800000 in
theorem l03Within_any (n : Nat) (hn : n ≤ 1048576) (l : List UInt8) (hl : l.length ≤ 9223372036854775807) (hw : l.all isLet = true) (w : World) :
    Calls Try.prog 60 #[.int .i64 (n : Int), .string ⟨l.toArray⟩] w fun e w' => e = .returned (.bool (hasB n l)) ∧ w = w' := by
  have HW := Lib.hid hw
  clear hw
  go_enter Try.func60, Try.ntmps60
  go_wp2
  go_loop [5] (fun i => ∃ k : Nat, k ≤ l.length ∧ i = .int .i64 k ∧ (l.take k).all (fun c => decide (c.toNat - 97 < n)) = true) (fun i => l.length - (intOf i).toNat)
  case atStart => exact ⟨0, Nat.zero_le _, rfl, rfl⟩
  case round =>
    obtain ⟨k, hk, rfl, ha⟩ := hrel
    have HA := Lib.hid ha
    clear ha
    by_cases hlt : k < l.length
    · have hb := let_at HW.out hlt
      by_cases h1 : l[k].toNat - 97 < n
      · have H := Lib.hid (all_snoc (p := fun c : UInt8 => decide (c.toNat - 97 < n)) hlt HA.out (by simpa using h1))
        go_wp2
        go_round
        case rel => exact ⟨k + 1, by omega, by go_num, H.out⟩
        case measure => simp [intOf]; omega
      · have HE := Lib.hid (show false = hasB n l from (all_bad (p := fun c : UInt8 => decide (c.toNat - 97 < n)) hlt (by simpa using h1)).symm)
        go_wp2
        go_ret
        exact ⟨ret_bool HE.out, rfl⟩
    · have HE := Lib.hid (show true = hasB n l from (all_done hlt HA.out).symm)
      go_wp2
      go_ret
      exact ⟨ret_bool HE.out, rfl⟩

/-! ## rules -/
def w4 (l : List UInt8) : Bool := isW l && decide (l.length = 4)
def rOk (b : List (List UInt8)) : Bool := b.all w4 && (wi b.length 1 4 && b.all (hasB b.length))
theorem rOk_len {b : List (List UInt8)} (h : rOk b = true) : 1 ≤ b.length ∧ b.length ≤ 4 := by
  simp only [rOk, Bool.and_eq_true] at h
  have := wi_yes h.2.1; omega
theorem rOk_row {b : List (List UInt8)} (h : rOk b = true) {l : List UInt8} (hl : l ∈ b) : isW l = true ∧ l.length = 4 ∧ hasB b.length l = true := by
  simp only [rOk, Bool.and_eq_true] at h
  have h1 := List.all_eq_true.1 h.1 l hl
  have h2 := List.all_eq_true.1 h.2.2 l hl
  simp only [w4, Bool.and_eq_true, decide_eq_true_eq] at h1
  exact ⟨h1.1, h1.2, h2⟩
theorem w4_allW {b : List (List UInt8)} (h : b.all w4 = true) : AllW b := fun s hs => by
  have h1 := List.all_eq_true.1 h s hs
  simp only [w4, Bool.and_eq_true, decide_eq_true_eq] at h1
  exact ⟨isW_all h1.1, by omega⟩

def r3 (n : Nat) (l : List UInt8) : Bool := w4 l && hasB n l
theorem rOk_three (b : List (List UInt8)) : rOk b = (wi b.length 1 4 && b.all (r3 b.length)) := by
  rw [Bool.eq_iff_iff]
  simp only [rOk, r3, Bool.and_eq_true, List.all_eq_true]
  constructor
  · rintro ⟨h1, h2, h3⟩; exact ⟨h2, fun x hx => ⟨h1 x hx, h3 x hx⟩⟩
  · rintro ⟨h1, h2⟩; exact ⟨fun x hx => (h2 x hx).1, h1, fun x hx => (h2 x hx).2⟩

set_option maxHeartbeats 800000 in
theorem sRuleOk_any (A : Option Addr) (n c B : Nat) (b : List (List UInt8)) (w : World) (hr : Rd w B A n (svs b)) (hn : n ≤ 1048576) (hs : Longs b) :
    Calls Try.prog 58 #[.slice A n c] w fun e w' => e = .returned (.bool (rOk b)) ∧ w = w' := by
  have hlen := Lib.hid hr.lenS
  have HR := Lib.hid hr
  have HS := Lib.hid hs
  clear hr hs
  cases g1 : wi (n : Int) 1 4
  · have HE := Lib.hid (show false = rOk b by rw [rOk_three, hlen.out, g1]; rfl)
    go_enter Try.func58, Try.ntmps58
    go_wp2_with (go_at_call 61; refine (l01In_any _ _ _ _).mono ?_; rintro e w' ⟨rfl, rfl⟩)
    go_ret
    exact ⟨ret_bool HE.out, rfl⟩
  have HE := Lib.hid (show b.all (r3 n) = rOk b by rw [rOk_three, hlen.out, g1]; rfl)
  go_enter Try.func58, Try.ntmps58
  go_wp2_with (go_at_call 61; refine (l01In_any _ _ _ _).mono ?_; rintro e w' ⟨rfl, rfl⟩)
  go_loop [11] (fun i => ∃ k : Nat, k ≤ n ∧ i = .int .i64 k ∧ (b.take k).all (r3 n) = true) (fun i => n - (intOf i).toNat)
  case atStart => exact ⟨0, Nat.zero_le _, rfl, rfl⟩
  case round =>
    obtain ⟨k, hk, rfl, ha⟩ := hrel
    have HA := Lib.hid ha
    clear ha
    by_cases hlt : k < n
    · have hkl : k < b.length := by rw [hlen.out]; exact hlt
      obtain ⟨a, rfl, hab, hcell⟩ := HR.out.str (k := k) hkl
      have hl1 := HS.out _ (List.getElem_mem hkl)
      cases h3 : (((b[k]).length : Int) != 4)
      · have h4 : (b[k]).length = 4 := by simp at h3; omega
        have H4 := Lib.hid h4
        clear h4
        cases h1 : isW b[k]
        · have HF := Lib.hid (show false = rOk b by rw [← HE.out, all_bad (p := r3 n) hkl (by simp [r3, w4, h1])])
          go_wp2_with (go_at_call 59; refine (WordOk_any _ hl1 _).mono ?_; rintro e w' ⟨rfl, rfl⟩)
          go_ret
          exact ⟨ret_bool HF.out, rfl⟩
        · have HL := Lib.hid (isW_all h1)
          cases h5 : hasB n b[k]
          · have HF := Lib.hid (show false = rOk b by rw [← HE.out, all_bad (p := r3 n) hkl (by simp [r3, h5])])
            go_wp2_with (first | (go_at_call 59; refine (WordOk_any _ hl1 _).mono ?_; rintro e w' ⟨rfl, rfl⟩) | (go_at_call 60; refine (l03Within_any _ (by omega) _ hl1 HL.out _).mono ?_; rintro e w' ⟨rfl, rfl⟩))
            go_ret
            exact ⟨ret_bool HF.out, rfl⟩
          · have H := Lib.hid (all_snoc (p := r3 n) hkl HA.out (by unfold r3 w4; rw [h1, h5]; simp [H4.out]))
            go_wp2_with (first | (go_at_call 59; refine (WordOk_any _ hl1 _).mono ?_; rintro e w' ⟨rfl, rfl⟩) | (go_at_call 60; refine (l03Within_any _ (by omega) _ hl1 HL.out _).mono ?_; rintro e w' ⟨rfl, rfl⟩))
            go_round
            case rel => exact ⟨k + 1, by omega, by go_num, H.out⟩
            case measure => simp [intOf]; omega
      · have HF := Lib.hid (show false = rOk b by
          have h4 : (b[k]).length ≠ 4 := by simp at h3; omega
          rw [← HE.out, all_bad (p := r3 n) hkl (by simp [r3, w4, h4])])
        go_wp2_with (go_at_call 59; refine (WordOk_any _ hl1 _).mono ?_; rintro e w' ⟨rfl, rfl⟩)
        go_ret
        exact ⟨ret_bool HF.out, rfl⟩
    · have HF := Lib.hid (show true = rOk b by rw [← HE.out, all_done (by rw [hlen.out]; exact hlt) HA.out])
      go_wp2
      go_ret
      exact ⟨ret_bool HF.out, rfl⟩
end Go.Proofs.Ytbaleboljcoigaa
