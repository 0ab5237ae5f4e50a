/-
  Contracts of the reference's l17Words and l23Rows. Condition: at most three letters.
-/
import Derived.Test.YtbaleboljcoigaaRFault
import Derived.Test.YtbaleboljcoigaaView
import Derived.Test.YtbaleboljcoigaaMemG
namespace Go.Proofs.Ytbaleboljcoigaa
section
open Go.RowKit

def abcd : List UInt8 := [97, 98, 99, 100]
def more (own : List UInt8) (i : Nat) : List UInt8 := own ++ [UInt8.ofNat (97 + i)]
def grow4 (own : List UInt8) (i : Nat) : Pch := (List.range i).map (more own)
def ok1 (row : Pch) (s : List UInt8) : Bool := decide (outside (pairsL [s]) row = 0)
def growR (row : Pch) (own : List UInt8) (i : Nat) : Pch := (grow4 own i).filter (ok1 row)
def allW : Nat → Pch
  | 0 => [[]]
  | n + 1 => (allW n).flatMap fun own => grow4 own 4
def rowsN (row : Pch) : Nat → Pch
  | 0 => [[]]
  | n + 1 => (rowsN row n).flatMap fun own => growR row own 4
theorem grow4_snoc (own : List UInt8) (i : Nat) : grow4 own (i + 1) = grow4 own i ++ [more own i] := by unfold grow4; rw [List.range_succ, List.map_append]; rfl
theorem grow4_len (own : List UInt8) (i : Nat) : (grow4 own i).length = i := by simp [grow4]
theorem growR_snoc (row : Pch) (own : List UInt8) (i : Nat) : growR row own (i + 1) = growR row own i ++ if ok1 row (more own i) then [more own i] else [] := by
  unfold growR; rw [grow4_snoc, List.filter_append]
  by_cases h : ok1 row (more own i) <;> simp [h]
theorem growR_len (row : Pch) (own : List UInt8) (i : Nat) : (growR row own i).length ≤ i := by
  unfold growR; exact Nat.le_trans (List.length_filter_le _ _) (by rw [grow4_len]; exact Nat.le_refl _)
theorem allW_row {n : Nat} {s : List UInt8} (h : s ∈ allW n) : s.length = n ∧ s.all isLet = true := by
  induction n generalizing s with
  | zero => simp [allW] at h; subst h; exact ⟨rfl, rfl⟩
  | succ n ih =>
    obtain ⟨own, h1, h2⟩ := List.mem_flatMap.1 h
    obtain ⟨i, hi, rfl⟩ := List.mem_map.1 h2
    obtain ⟨h3, h4⟩ := ih h1
    refine ⟨by simp [more, h3], ?_⟩
    rw [more, List.all_append, h4]
    have hi4 : i < 4 := by simpa using hi
    have : i = 0 ∨ i = 1 ∨ i = 2 ∨ i = 3 := by omega
    rcases this with rfl | rfl | rfl | rfl <;> rfl
theorem prs_more (own : List UInt8) (c : UInt8) (j : Nat) (hj : j + 1 ≤ own.length) : prs (own ++ [c]) j = prs own j := by
  unfold prs
  apply List.map_congr_left
  intro i hi
  have : i < j := by simpa using hi
  rw [List.take_append_of_le_length (by omega)]
theorem ok1_prefix {row : Pch} {own : List UInt8} {i : Nat} (h : ok1 row (more own i) = true) : ok1 row own = true := by
  unfold ok1 at h ⊢
  simp only [decide_eq_true_eq] at h ⊢
  have h1 : ∀ s, pairsL [s] = prs s (s.length - 1) := fun s => by simp [pairsL]
  rw [h1] at h ⊢
  cases own with
  | nil => rfl
  | cons a r =>
    have h2 : (more (a :: r) i).length - 1 = (a :: r).length - 1 + 1 := by simp [more]
    rw [h2, prs_snoc, outside_app] at h
    have h3 : prs (more (a :: r) i) ((a :: r).length - 1) = prs (a :: r) ((a :: r).length - 1) := prs_more _ _ _ (by simp)
    rw [h3] at h
    omega
theorem rowsN_all (row : Pch) (n : Nat) : rowsN row n = (allW n).filter (ok1 row) := by
  induction n with
  | zero => rfl
  | succ n ih =>
    unfold rowsN allW
    rw [ih, List.filter_flatMap]
    generalize allW n = l
    induction l with
    | nil => rfl
    | cons x l ih2 =>
      rw [List.flatMap_cons, List.filter_cons]
      by_cases h : ok1 row x = true
      · rw [if_pos h, List.flatMap_cons, ih2]; rfl
      · rw [if_neg h, ih2]
        have h2 : List.filter (ok1 row) (grow4 x 4) = [] := by
          rw [List.filter_eq_nil_iff]
          intro s hs hok
          obtain ⟨i, _, rfl⟩ := List.mem_map.1 hs
          exact h (ok1_prefix hok)
        rw [h2, List.nil_append]
theorem flat_bound {α : Type} {l : List α} {f : α → Pch} {m : Nat} (h : ∀ x ∈ l, (f x).length ≤ m) : (l.flatMap f).length ≤ m * l.length := by
  induction l with
  | nil => simp
  | cons a l ih =>
    have h1 := ih (fun x hx => h x (by simp [hx]))
    have h2 := h a (by simp)
    rw [List.flatMap_cons, List.length_append, List.length_cons, Nat.mul_add]
    omega
theorem allW_len : ∀ n, (allW n).length ≤ 4 ^ n
  | 0 => by simp [allW]
  | n + 1 => by
    have h1 := allW_len n
    have h2 : (allW (n + 1)).length ≤ 4 * (allW n).length := flat_bound fun x _ => by rw [grow4_len]; exact Nat.le_refl _
    rw [Nat.pow_succ]; omega
theorem allW_pos : ∀ n, 0 < (allW n).length
  | 0 => by simp [allW]
  | n + 1 => by
    have h1 := allW_pos n
    obtain ⟨x, l, hx⟩ : ∃ x l, allW n = x :: l := by
      cases h : allW n with
      | nil => rw [h] at h1; simp at h1
      | cons x l => exact ⟨x, l, rfl⟩
    unfold allW
    rw [hx, List.flatMap_cons, List.length_append, grow4_len]
    omega
theorem pow4_le {n : Nat} (h : n ≤ 3) : 4 ^ n ≤ 64 := Nat.le_trans (Nat.pow_le_pow_right (by decide) h) (by decide)
theorem rowsN_len (row : Pch) {n : Nat} (h : n ≤ 3) : (rowsN row n).length ≤ 64 := by
  rw [rowsN_all]
  exact Nat.le_trans (List.length_filter_le _ _) (Nat.le_trans (allW_len n) (pow4_le h))
theorem rowsN_row {row : Pch} {n : Nat} {s : List UInt8} (h : s ∈ rowsN row n) : s.length = n ∧ s.all isLet = true := by
  rw [rowsN_all] at h
  exact allW_row (List.mem_filter.1 h).1

/-- how a word's text is lengthened by the letter at i -/
theorem more_eq (own : List UInt8) {i : Nat} : more own i = own ++ [UInt8.ofNat (97 + i)] := rfl

theorem abcd_at (own : List UInt8) {q : Nat} (h : q < 4) : ∃ ch, List.drop q ((97 : UInt8) :: List.take q [98, 99, 100]) = [ch] ∧ more own q = own ++ [ch] := by
  rcases (show q = 0 ∨ q = 1 ∨ q = 2 ∨ q = 3 by omega) with rfl | rfl | rfl | rfl <;> exact ⟨_, rfl, rfl⟩
set_option maxHeartbeats 3200000 in
theorem rowsOf_any (n : Nat) (hn : n ≤ 3) (A : Option Addr) (m c : Nat) (row : Pch) (W : World) (hr : SIn W A m c row) :
    Calls Try.prog 37 #[.int .i64 (n : Int), .slice A m c] W (RetS 9 W (rowsN row n)) := by
  have HR := Lib.hid hr
  have hm := hr.2.1
  clear hr
  go_enter Try.func37, Try.ntmps37
  go_wp2
  go_loopw [13, 5] (fun i out wr => ∃ (k : Nat) (A1 : Option Addr) (m1 c1 : Nat), k ≤ n ∧ i = .int .i64 k ∧ out = .slice A1 m1 c1 ∧ Own W wr 9 A1 m1 c1 (svs (rowsN row k))) (fun i _ _ => n - (intOf i).toNat)
  case atStart => exact ⟨0, _, _, _, Nat.zero_le _, rfl, rfl, Own.made (w0 := W) (w := W) (Below.refl _ _) 9 (svs [[]]) (by simp [svs])⟩
  case round =>
    obtain ⟨k, A1, m1, c1, hk, rfl, rfl, hown⟩ := hrel
    have hm1 : m1 ≤ 64 := by have h1 := hown.len; have h2 := rowsN_len row (n := k) (by omega); simp only [svs, List.length_map] at h1; omega
    have hlen := Lib.hid (show (rowsN row k).length = m1 by have := hown.len; simpa [svs] using this)
    have HO := Lib.hid hown
    clear hown
    obtain ⟨wo, rfl⟩ : ∃ wo : World, wo = wr := ⟨_, rfl⟩
    by_cases hlt : k < n
    · have hd : decide ((k : Int) < (n : Int)) = true := by simp; omega
      go_wp2
      go_loopw [18, 6] (fun i next w2 => ∃ (j : Nat) (A2 : Option Addr) (m2 c2 : Nat), j ≤ m1 ∧ i = .int .i64 j ∧ next = .slice A2 m2 c2 ∧ Own wo w2 9 A2 m2 c2 (svs (((rowsN row k).take j).flatMap fun own => growR row own 4))) (fun i _ _ => m1 - (intOf i).toNat)
      case atStart => exact ⟨0, _, _, _, Nat.zero_le _, rfl, rfl, Own.made0 (Below.refl _ _) _⟩
      case round =>
        obtain ⟨j, A2, m2, c2, hj, rfl, rfl, hown⟩ := hrel
        have hm2 : m2 ≤ 4 * j := by
          have h1 := hown.len
          have h2 := flat_bound (l := (rowsN row k).take j) (f := fun own => growR row own 4) (m := 4) (fun x _ => growR_len row x 4)
          have h3 : ((rowsN row k).take j).length ≤ j := List.length_take_le _ _
          simp only [svs, List.length_map] at h1
          omega
        have HO2 := Lib.hid hown
        clear hown
        by_cases hlt2 : j < m1
        · have hjl : j < (rowsN row k).length := by rw [hlen.out]; exact hlt2
          obtain ⟨a, rfl, hab, hcell⟩ := (HO.out.rd.below HO2.out.2).str (k := j) hjl
          obtain ⟨own, ho⟩ : ∃ own, own = (rowsN row k)[j] := ⟨_, rfl⟩
          rw [← ho] at hcell
          have hol : own.length = k := by rw [ho]; exact (rowsN_row (List.getElem_mem hjl)).1
          have HFS := Lib.hid (show ((rowsN row k).take (j + 1)).flatMap (fun own => growR row own 4) = ((rowsN row k).take j).flatMap (fun own => growR row own 4) ++ growR row own 4 by rw [ho]; exact flatm_snoc _ _ hjl)
          have HOL := Lib.hid hol
          have hol3 : own.length ≤ 3 := by omega
          have hd2 : decide ((j : Int) < (m1 : Int)) = true := by simp; omega
          clear ho hol
          go_wp2
          go_loopw [22, 6] (fun i next w3 => ∃ (q : Nat) (A3 : Option Addr) (m3 c3 : Nat), q ≤ 4 ∧ i = .int .i64 q ∧ next = .slice A3 m3 c3 ∧ Own wo w3 9 A3 m3 c3 (svs (((rowsN row k).take j).flatMap (fun own => growR row own 4) ++ growR row own q))) (fun i _ _ => 4 - (intOf i).toNat)
          case atStart => exact ⟨0, _, _, _, Nat.zero_le _, rfl, rfl, by rw [show growR row own 0 = [] from rfl, List.append_nil]; exact HO2.out⟩
          case round =>
            clear HO2 hm2
            obtain ⟨q, A3, m3, c3, hq, rfl, rfl, hown⟩ := hrel
            have hm3 : m3 ≤ 4 * j + 4 := by
              have h1 := hown.len
              have h2 := flat_bound (l := (rowsN row k).take j) (f := fun own => growR row own 4) (m := 4) (fun x _ => growR_len row x 4)
              have h3 : ((rowsN row k).take j).length ≤ j := List.length_take_le _ _
              have h4 := growR_len row own q
              simp only [svs, List.length_map, List.length_append] at h1
              omega
            have HO3 := Lib.hid hown
            have HGS := Lib.hid (growR_snoc row own q)
            clear hown
            by_cases hq4 : q < 4
            · obtain ⟨ch, hch, hmo⟩ := abcd_at own hq4
              have hlim : ¬ 9223372036854775807 < own.length + 1 := by omega
              have hml : (own ++ [ch]).length ≤ 64 := by rw [List.length_append]; simp; omega
              have HML := Lib.hid hml
              have HMO := Lib.hid hmo
              have HMade := Lib.hid (Own.made (w0 := wr) (w := wr) (Below.refl _ _) 9 (svs [own ++ [ch]]) (by simp [svs]))
              have hpl : (pairsL [own ++ [ch]]).length ≤ 64 := by
                have h1 := pairsL_len (p := [own ++ [ch]]) (fun x hx => by simp at hx; subst hx; simpa using hml)
                simpa using h1
              clear hml hmo
              go_wp2_with fail
              refine (pairsOf_any _ 1 1 [own ++ [ch]] _ (SIn.of HMade.out.rd (by omega) (fun s hs => by simp only [List.mem_singleton] at hs; subst hs; have := HML.out; omega) (Nat.le_refl _)) (by omega) (fun s hs => by simp only [List.mem_singleton] at hs; subst hs; exact HML.out)).mono ?_
              rintro e w4 ⟨A4, n4, c4, rfl, o4⟩
              have hn4 : n4 ≤ 64 := by have h1 := o4.len; simp only [svs, List.length_map] at h1; omega
              have HB4 := Lib.hid (HMade.out.2.trans (o4.2.mono HMade.out.2.size))
              have HBW := Lib.hid (HO.out.2.trans (HO3.out.2.mono HO.out.2.size))
              have HO4 := Lib.hid o4
              clear o4 HMade
              go_wp2_with fail
              refine (countOutside_any _ n4 _ _ _ m _ _ (pairsL [own ++ [ch]]) row _ HO4.out.rd (((HR.out.later HBW.out).later HB4.out).1) (by omega) hm).mono ?_
              rintro e w' ⟨rfl, rfl⟩
              have hout : outside (pairsL [own ++ [ch]]) row ≤ 64 := Nat.le_trans (outside_le _ _) hpl
              obtain ⟨x, hx⟩ : ∃ x, x = outside (pairsL [own ++ [ch]]) row := ⟨_, rfl⟩
              rw [← hx] at hout ⊢
              by_cases h0 : x = 0
              · have HOK := Lib.hid (show growR row own (q + 1) = growR row own q ++ [own ++ [ch]] by
                  rw [HGS.out, HMO.out]; unfold ok1; rw [← hx, h0]; rfl)
                have g1 : ((x : Int) == 0) = true := by simp [h0]
                have hown3 := HO3.out.later HB4.out
                clear hx h0 hch
                go_wp2_with (at_builtin; refine app_one (.tmp 37) (.tmp 39) _ _ _ 16 rfl rfl Try.underlying23 infoS rfl rfl hown3 rfl rfl (by omega) (by omega) ?_; intro A5 c5 w5 hown5)
                exact ⟨⟨q + 1, A5, _, c5, by omega, by go_num, rfl, by rw [HOK.out, ← List.append_assoc, svs_snoc]; exact hown5⟩, by simp [intOf]; omega⟩
              · have HOK := Lib.hid (show growR row own (q + 1) = growR row own q by
                  rw [HGS.out, HMO.out]; unfold ok1; rw [← hx]; simp [h0])
                have g1 : ((x : Int) == 0) = false := by simp [h0]
                have g2 : (x == 0) = false := by simp [h0]
                have hown3 := HO3.out.later HB4.out
                clear hx h0 hch
                go_wp2
                exact ⟨⟨q + 1, A3, _, c3, by omega, by go_num, rfl, by rw [HOK.out]; exact hown3⟩, by simp [intOf]; omega⟩
            · obtain rfl : q = 4 := by omega
              go_wp2
              exact ⟨⟨j + 1, A3, m3, c3, by omega, by go_num, rfl, by rw [HFS.out]; exact HO3.out⟩, by simp [intOf]; omega⟩
        · obtain rfl : j = m1 := by omega
          have HK := Lib.hid (show ((rowsN row k).take j).flatMap (fun own => growR row own 4) = rowsN row (k + 1) by rw [List.take_of_length_le (by rw [hlen.out]; omega)]; rfl)
          go_wp2
          exact ⟨⟨k + 1, A2, m2, c2, by omega, by go_num, rfl, by rw [← HK.out]; exact HO2.out.up HO.out.2⟩, by simp [intOf]; omega⟩
    · obtain rfl : k = n := by omega
      go_wp2
      go_ret
      exact ⟨_, _, _, rfl, HO.out⟩
end
section
open Go.RowKit

def preW : Nat → Pch
  | 0 => []
  | n + 1 => preW n ++ allW n
theorem preW_len : ∀ n, n ≤ 4 → (preW n).length ≤ 85
  | 0, _ => by simp [preW]
  | 1, _ => by decide
  | 2, _ => by decide
  | 3, _ => by decide
  | 4, _ => by decide
theorem preW_short : ∀ (n : Nat) {s : List UInt8}, s ∈ preW n → s.length < n
  | 0, s, h => by simp [preW] at h
  | n + 1, s, h => by
    rcases List.mem_append.1 h with h | h
    · have := preW_short n h; omega
    · have := (allW_row h).1; omega
def growAll (k j : Nat) : Pch := ((allW k).take j).flatMap fun own => grow4 own 4
theorem growAll_snoc {k j : Nat} (h : j < (allW k).length) : growAll k (j + 1) = growAll k j ++ grow4 (allW k)[j] 4 := flatm_snoc _ _ h
theorem growAll_len {k j : Nat} : (growAll k j).length ≤ 4 * j := by
  have h2 := flat_bound (l := (allW k).take j) (f := fun own => grow4 own 4) (m := 4) (fun x _ => by rw [grow4_len]; exact Nat.le_refl _)
  have h3 : ((allW k).take j).length ≤ j := List.length_take_le _ _
  unfold growAll
  omega

/-! ## the rows that are allowed -/
def okW (n : Nat) (row : Pch) (s : List UInt8) : Bool := decide (s.length = n) && ok1 row s
theorem okW_all (n : Nat) (row : Pch) : (preW n ++ allW n).filter (okW n row) = rowsN row n := by
  rw [List.filter_append, rowsN_all]
  have h1 : (preW n).filter (okW n row) = [] := by
    rw [List.filter_eq_nil_iff]
    intro s hs hok
    have := preW_short n hs
    simp only [okW, Bool.and_eq_true, decide_eq_true_eq] at hok
    omega
  rw [h1, List.nil_append]
  apply List.filter_congr
  intro s hs
  unfold okW
  rw [decide_eq_true (allW_row hs).1, Bool.true_and]
theorem filter_snocR {α : Type} {p : α → Bool} {l : List α} {k : Nat} (h : k < l.length) : (l.take (k + 1)).filter p = (l.take k).filter p ++ if p l[k] then [l[k]] else [] := by
  rw [take_snoc l k h, List.filter_append]
  congr 1
  by_cases hp : p l[k] = true <;> simp [hp]
theorem words_row {n : Nat} (hn : n ≤ 3) {s : List UInt8} (h : s ∈ preW n ++ allW n) : s.length ≤ 3 := by
  rcases List.mem_append.1 h with h | h
  · have := preW_short n h; omega
  · have := (allW_row h).1; omega
end
end Go.Proofs.Ytbaleboljcoigaa
