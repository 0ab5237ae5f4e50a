/-
  Contracts of PatchOk, haveBlocks, l03Within, RuleOk (program and reference). Condition: each string is shorter than 2^63.
-/
import Derived.Test.YtbjhjpakjinpiaaWd
import Derived.Test.YtbjhjpakjinpiaaRowW
namespace Go.Proofs.Ytbjhjpakjinpiaa
open Go.RowKit

def wd (p : List (List UInt8)) : Nat := (p.headD []).length
def rowOk (m : Nat) (l : List UInt8) : Bool := isW l && wi l.length 1 32 && decide (l.length = m)
theorem rowOk_mk {m : Nat} {l : List UInt8} (h1 : isW l = true) (h2 : wi l.length 1 32 = true) (h3 : l.length = m) : rowOk m l = true := by
  unfold rowOk; rw [h1, h2]; simp [h3]
def pOk (p : List (List UInt8)) : Bool := p.all (rowOk (wd p)) && wi p.length 1 32
theorem wd_zero {p : List (List UInt8)} (h : 0 < p.length) : wd p = p[0].length := by cases p with | nil => simp at h | cons a r => rfl
theorem pOk_len {p : List (List UInt8)} (h : pOk p = true) : 1 ≤ p.length ∧ p.length ≤ 32 := by
  simp only [pOk, Bool.and_eq_true] at h
  have := wi_yes h.2; omega
theorem pOk_row {p : List (List UInt8)} (h : pOk p = true) {l : List UInt8} (hl : l ∈ p) : isW l = true ∧ l.length = wd p ∧ 1 ≤ wd p ∧ wd p ≤ 32 := by
  simp only [pOk, Bool.and_eq_true] at h
  have h1 := List.all_eq_true.1 h.1 l hl
  simp only [rowOk, Bool.and_eq_true, decide_eq_true_eq] at h1
  have h2 := wi_yes h1.1.2
  exact ⟨h1.1.1, h1.2, by omega, by omega⟩
theorem pOk_wd {p : List (List UInt8)} (h : pOk p = true) : 1 ≤ wd p ∧ wd p ≤ 32 := by
  have h1 := pOk_len h
  have h2 := pOk_row h (List.getElem_mem (show 0 < p.length by omega))
  exact ⟨h2.2.2.1, h2.2.2.2⟩

def Longs (ss : List (List UInt8)) : Prop := ∀ s ∈ ss, s.length ≤ 9223372036854775807

set_option maxHeartbeats 800000 in
theorem iPatchOk_any (A : Option Addr) (n c B : Nat) (p : List (List UInt8)) (w : World) (hr : Rd w B A n (svs p)) (hn : n ≤ 1048576) (hs : Longs p) :
    Calls Try.prog 12 #[.slice A n c] w fun e w' => e = .returned (.bool (pOk p)) ∧ w = w' := by
  have hlen := Lib.hid hr.lenS
  have HR := Lib.hid hr
  have HS := Lib.hid hs
  clear hr hs
  go_enter Try.func12, Try.ntmps12
  go_wp2
  go_loop [7] (fun i => ∃ k : Nat, k ≤ n ∧ i = .int .i64 k ∧ (p.take k).all (rowOk (wd p)) = true) (fun i => n - (intOf i).toNat)
  case atStart => exact ⟨0, Nat.zero_le _, rfl, rfl⟩
  case round =>
    obtain ⟨k, hk, rfl, ha⟩ := hrel
    have HA := Lib.hid ha
    clear ha
    by_cases hlt : k < n
    · have hkl : k < p.length := by rw [hlen.out]; exact hlt
      have hpl : 0 < p.length := by omega
      obtain ⟨a, rfl, hab, hcell⟩ := HR.out.str (k := k) hkl
      obtain ⟨a', ha', _, hcell0⟩ := HR.out.str (k := 0) hpl
      injection ha' with ha'
      subst ha'
      have hcell00 : w.cell? a = some (.string ⟨(p[0]).toArray⟩) := hcell0
      have hl1 := HS.out _ (List.getElem_mem hkl)
      have hl0 := HS.out _ (List.getElem_mem hpl)
      have HW := Lib.hid (wd_zero hpl)
      cases h1 : isW p[k]
      · have HE := Lib.hid (show false = pOk p by rw [pOk, all_bad (p := rowOk (wd p)) hkl (by simp [rowOk, h1])]; rfl)
        go_wp2_with (first | (go_at_call 28; refine (isWord_any _ hl1 _).mono ?_; rintro e w' ⟨rfl, rfl⟩) | (go_at_call 29; refine (within_any _ _ _ _).mono ?_; rintro e w' ⟨rfl, rfl⟩))
        go_ret
        exact ⟨ret_bool HE.out, rfl⟩
      · cases h2 : wi ((p[k]).length : Int) 1 32
        · have HE := Lib.hid (show false = pOk p by rw [pOk, all_bad (p := rowOk (wd p)) hkl (by simp [rowOk, h2])]; rfl)
          go_wp2_with (first | (go_at_call 28; refine (isWord_any _ hl1 _).mono ?_; rintro e w' ⟨rfl, rfl⟩) | (go_at_call 29; refine (within_any _ _ _ _).mono ?_; rintro e w' ⟨rfl, rfl⟩))
          go_ret
          exact ⟨ret_bool HE.out, rfl⟩
        · cases h3 : (((p[k]).length : Int) != ((p[0]).length : Int))
          · have H := Lib.hid (all_snoc (p := rowOk (wd p)) hkl HA.out (by
              have : (p[k]).length = wd p := by rw [HW.out]; simp at h3; omega
              exact rowOk_mk h1 h2 this))
            go_wp2_with (first | (go_at_call 28; refine (isWord_any _ hl1 _).mono ?_; rintro e w' ⟨rfl, rfl⟩) | (go_at_call 29; refine (within_any _ _ _ _).mono ?_; rintro e w' ⟨rfl, rfl⟩))
            go_round
            case rel => exact ⟨k + 1, by omega, by go_num, H.out⟩
            case measure => simp [intOf]; omega
          · have HE := Lib.hid (show false = pOk p by
              have h4 : (p[k]).length ≠ wd p := by rw [HW.out]; simp at h3; omega
              rw [pOk, all_bad (p := rowOk (wd p)) hkl (by simp [rowOk, h4])]; rfl)
            go_wp2_with (first | (go_at_call 28; refine (isWord_any _ hl1 _).mono ?_; rintro e w' ⟨rfl, rfl⟩) | (go_at_call 29; refine (within_any _ _ _ _).mono ?_; rintro e w' ⟨rfl, rfl⟩))
            go_ret
            exact ⟨ret_bool HE.out, rfl⟩
    · have HE := Lib.hid (show wi (n : Int) 1 32 = pOk p by
        have hk2 : ¬ k < p.length := by rw [hlen.out]; exact hlt
        rw [pOk, all_done hk2 HA.out, hlen.out]; rfl)
      go_wp2_with (go_at_call 29; refine (within_any _ _ _ _).mono ?_; rintro e w' ⟨rfl, rfl⟩)
      go_ret
      exact ⟨ret_bool HE.out, rfl⟩

/-! ## letters that have a block -/
def hasB (n : Nat) (l : List UInt8) : Bool := l.all fun c => decide (c.toNat - 97 < n)
def AllW (ss : List (List UInt8)) : Prop := ∀ s ∈ ss, s.all isLet = true ∧ s.length ≤ 9223372036854775807
theorem let_at {l : List UInt8} (h : l.all isLet = true) {k : Nat} (hk : k < l.length) : 97 ≤ l[k].toNat ∧ l[k].toNat ≤ 100 := isLet_bd (List.all_eq_true.1 h _ (List.getElem_mem hk))

set_option maxHeartbeats 800000 in
theorem haveBlocks_any (A : Option Addr) (n c B : Nat) (B2 : Option Addr) (m d : Nat) (ss : List (List UInt8)) (w : World) (hr : Rd w B B2 m (svs ss)) (hn : n ≤ 1048576) (hm : m ≤ 1048576) (hs : AllW ss) :
    Calls Try.prog 24 #[.slice A n c, .slice B2 m d] w fun e w' => e = .returned (.bool (ss.all (hasB n))) ∧ w = w' := by
  have hlen := Lib.hid hr.lenS
  have HR := Lib.hid hr
  have HS := Lib.hid hs
  clear hr hs
  go_enter Try.func24, Try.ntmps24
  go_wp2
  go_loop [10] (fun i => ∃ k : Nat, k ≤ m ∧ i = .int .i64 k ∧ (ss.take k).all (hasB n) = true) (fun i => m - (intOf i).toNat)
  case atStart => exact ⟨0, Nat.zero_le _, rfl, rfl⟩
  case round =>
    obtain ⟨k, hk, rfl, ha⟩ := hrel
    have HA := Lib.hid ha
    clear ha
    by_cases hlt : k < m
    · have hkl : k < ss.length := by rw [hlen.out]; exact hlt
      obtain ⟨a, rfl, hab, hcell⟩ := HR.out.str (k := k) hkl
      obtain ⟨hw1, hw2⟩ := HS.out _ (List.getElem_mem hkl)
      have HW := Lib.hid hw1
      clear hw1
      go_wp2
      go_loop [16] (fun i => ∃ j : Nat, j ≤ (ss[k]).length ∧ i = .int .i64 j ∧ ((ss[k]).take j).all (fun c => decide (c.toNat - 97 < n)) = true) (fun i => (ss[k]).length - (intOf i).toNat)
      case atStart => exact ⟨0, Nat.zero_le _, rfl, rfl⟩
      case round =>
        obtain ⟨j, hj, rfl, hb⟩ := hrel
        have HB := Lib.hid hb
        clear hb
        by_cases hjl : j < (ss[k]).length
        · have hb := let_at HW.out hjl
          by_cases h1 : (ss[k])[j].toNat - 97 < n
          · have H := Lib.hid (all_snoc (p := fun c : UInt8 => decide (c.toNat - 97 < n)) hjl HB.out (by simpa using h1))
            go_wp2
            go_round
            case rel => exact ⟨j + 1, by omega, by go_num, H.out⟩
            case measure => simp [intOf]; omega
          · have HE := Lib.hid (show false = ss.all (hasB n) from (all_bad (p := hasB n) hkl (all_bad (p := fun c : UInt8 => decide (c.toNat - 97 < n)) hjl (by simpa using h1))).symm)
            go_wp2
            go_ret
            exact ⟨ret_bool HE.out, rfl⟩
        · have H := Lib.hid (all_snoc (p := hasB n) hkl HA.out (show hasB n ss[k] = true from all_done hjl HB.out))
          go_wp2
          go_round
          case rel => exact ⟨k + 1, by omega, by go_num, H.out⟩
          case measure => simp [intOf]; omega
    · have HE := Lib.hid (show true = ss.all (hasB n) from (all_done (by rw [hlen.out]; exact hlt) HA.out).symm)
      go_wp2
      go_ret
      exact ⟨ret_bool HE.out, rfl⟩

/-! ## rules -/
def w4 (l : List UInt8) : Bool := isW l && decide (l.length = 4)
def rOk (b : List (List UInt8)) : Bool := b.all w4 && (wi b.length 1 4 && b.all (hasB b.length))
theorem rOk_len {b : List (List UInt8)} (h : rOk b = true) : 1 ≤ b.length ∧ b.length ≤ 4 := by
  simp only [rOk, Bool.and_eq_true] at h
  have := wi_yes h.2.1; omega
theorem rOk_row {b : List (List UInt8)} (h : rOk b = true) {l : List UInt8} (hl : l ∈ b) : isW l = true ∧ l.length = 4 ∧ hasB b.length l = true := by
  simp only [rOk, Bool.and_eq_true] at h
  have h1 := List.all_eq_true.1 h.1 l hl
  have h2 := List.all_eq_true.1 h.2.2 l hl
  simp only [w4, Bool.and_eq_true, decide_eq_true_eq] at h1
  exact ⟨h1.1, h1.2, h2⟩
theorem w4_allW {b : List (List UInt8)} (h : b.all w4 = true) : AllW b := fun s hs => by
  have h1 := List.all_eq_true.1 h s hs
  simp only [w4, Bool.and_eq_true, decide_eq_true_eq] at h1
  exact ⟨isW_all h1.1, by omega⟩

set_option maxHeartbeats 800000 in
theorem iRuleOk_any (A : Option Addr) (n c B : Nat) (b : List (List UInt8)) (w : World) (hr : Rd w B A n (svs b)) (hn : n ≤ 1048576) (hs : Longs b) :
    Calls Try.prog 23 #[.slice A n c] w fun e w' => e = .returned (.bool (rOk b)) ∧ w = w' := by
  have hlen := Lib.hid hr.lenS
  have HR := Lib.hid hr
  have HS := Lib.hid hs
  clear hr hs
  go_enter Try.func23, Try.ntmps23
  go_wp2
  go_loop [7] (fun i => ∃ k : Nat, k ≤ n ∧ i = .int .i64 k ∧ (b.take k).all w4 = true) (fun i => n - (intOf i).toNat)
  case atStart => exact ⟨0, Nat.zero_le _, rfl, rfl⟩
  case round =>
    obtain ⟨k, hk, rfl, ha⟩ := hrel
    have HA := Lib.hid ha
    clear ha
    by_cases hlt : k < n
    · have hkl : k < b.length := by rw [hlen.out]; exact hlt
      obtain ⟨a, rfl, hab, hcell⟩ := HR.out.str (k := k) hkl
      have hl1 := HS.out _ (List.getElem_mem hkl)
      cases h1 : isW b[k]
      · have HE := Lib.hid (show false = rOk b by rw [rOk, all_bad (p := w4) hkl (by simp [w4, h1])]; rfl)
        go_wp2_with (go_at_call 28; refine (isWord_any _ hl1 _).mono ?_; rintro e w' ⟨rfl, rfl⟩)
        go_ret
        exact ⟨ret_bool HE.out, rfl⟩
      · cases h3 : (((b[k]).length : Int) != 4)
        · have H := Lib.hid (all_snoc (p := w4) hkl HA.out (by
            have h4 : (b[k]).length = 4 := by simp at h3; omega
            unfold w4; rw [h1]; simp [h4]))
          go_wp2_with (go_at_call 28; refine (isWord_any _ hl1 _).mono ?_; rintro e w' ⟨rfl, rfl⟩)
          go_round
          case rel => exact ⟨k + 1, by omega, by go_num, H.out⟩
          case measure => simp [intOf]; omega
        · have HE := Lib.hid (show false = rOk b by
            have h4 : (b[k]).length ≠ 4 := by simp at h3; omega
            rw [rOk, all_bad (p := w4) hkl (by simp [w4, h4])]; rfl)
          go_wp2_with (go_at_call 28; refine (isWord_any _ hl1 _).mono ?_; rintro e w' ⟨rfl, rfl⟩)
          go_ret
          exact ⟨ret_bool HE.out, rfl⟩
    · have H4 := Lib.hid (all_done (by rw [hlen.out]; exact hlt) HA.out)
      have HE := Lib.hid (show (wi (n : Int) 1 4 && b.all (hasB n)) = rOk b by rw [rOk, H4.out, hlen.out]; rfl)
      cases g1 : wi (n : Int) 1 4
      · have HF := Lib.hid (show false = rOk b by rw [← HE.out, g1]; rfl)
        go_wp2_with (go_at_call 29; refine (within_any _ _ _ _).mono ?_; rintro e w' ⟨rfl, rfl⟩)
        go_ret
        exact ⟨ret_bool HF.out, rfl⟩
      · have HF := Lib.hid (show b.all (hasB n) = rOk b by rw [← HE.out, g1]; rfl)
        go_wp2_with (first | (go_at_call 29; refine (within_any _ _ _ _).mono ?_; rintro e w' ⟨rfl, rfl⟩) | (go_at_call 24; refine (haveBlocks_any _ _ _ _ _ _ _ _ _ HR.out (by omega) (by omega) (w4_allW H4.out)).mono ?_; rintro e w' ⟨rfl, rfl⟩))
        go_ret
        exact ⟨ret_bool HF.out, rfl⟩
end Go.Proofs.Ytbjhjpakjinpiaa
