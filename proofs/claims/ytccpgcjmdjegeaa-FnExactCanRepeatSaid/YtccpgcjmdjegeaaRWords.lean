/-
  Contracts of the reference's l17Words and l23Rows. Condition: at most three letters.
-/
import Derived.Test.YtccpgcjmdjegeaaRRows
import Derived.Test.YtccpgcjmdjegeaaMemG
namespace Go.Proofs.Ytccpgcjmdjegeaa
open Go.RowKit

def preW : Nat → Pch
  | 0 => []
  | n + 1 => preW n ++ allW n
theorem preW_len : ∀ n, n ≤ 4 → (preW n).length ≤ 85
  | 0, _ => by simp [preW]
  | 1, _ => by decide
  | 2, _ => by decide
  | 3, _ => by decide
  | 4, _ => by decide
theorem preW_short : ∀ (n : Nat) {s : List UInt8}, s ∈ preW n → s.length < n
  | 0, s, h => by simp [preW] at h
  | n + 1, s, h => by
    rcases List.mem_append.1 h with h | h
    · have := preW_short n h; omega
    · have := (allW_row h).1; omega
def growAll (k j : Nat) : Pch := ((allW k).take j).flatMap fun own => grow4 own 4
theorem growAll_snoc {k j : Nat} (h : j < (allW k).length) : growAll k (j + 1) = growAll k j ++ grow4 (allW k)[j] 4 := flatm_snoc _ _ h
theorem growAll_len {k j : Nat} : (growAll k j).length ≤ 4 * j := by
  have h2 := flat_bound (l := (allW k).take j) (f := fun own => grow4 own 4) (m := 4) (fun x _ => by rw [grow4_len]; exact Nat.le_refl _)
  have h3 : ((allW k).take j).length ≤ j := List.length_take_le _ _
  unfold growAll
  omega

set_option maxHeartbeats 3200000 in
theorem l17Words_any (n : Nat) (hn : n ≤ 3) (W : World) : Calls Try.prog 64 #[.int .i64 4, .int .i64 (n : Int)] W (RetS 9 W (preW n ++ allW n)) := by
  go_enter Try.func64, Try.ntmps64
  go_wp2
  go_loopw [7, 5, 6] (fun i out fr wr => ∃ (k f : Nat) (A1 : Option Addr) (m1 c1 : Nat), k ≤ n ∧ i = .int .i64 k ∧ out = .slice A1 m1 c1 ∧ fr = .int .i64 f ∧ f = (preW k).length ∧ Own W wr 9 A1 m1 c1 (svs (preW k ++ allW k))) (fun i _ _ _ => n - (intOf i).toNat)
  case atStart => exact ⟨0, 0, _, _, _, Nat.zero_le _, rfl, rfl, rfl, rfl, Own.made (w0 := W) (w := W) (Below.refl _ _) 9 (svs [[]]) (by simp [svs])⟩
  case round =>
    obtain ⟨k, f, A1, m1, c1, hk, rfl, rfl, rfl, hf, hown⟩ := hrel
    have HO := Lib.hid hown
    have HF := Lib.hid hf
    have hfl : f ≤ 85 := by rw [hf]; exact preW_len k (by omega)
    have hal := allW_len k
    have hal2 := pow4_le (n := k) (by omega)
    have hap := allW_pos k
    have hm1 : m1 = f + (allW k).length := by have h1 := hown.len; simp only [svs, List.length_map, List.length_append] at h1; omega
    have HM1 := Lib.hid hm1
    have hm1a : m1 ≤ 149 := by omega
    have hfm : f < m1 := by omega
    have hcap := hown.cap
    have hcm := hown.capMax
    clear hf hown
    by_cases hlt : k < n
    · obtain ⟨L, hL⟩ : ∃ L, L = (allW k).length := ⟨_, rfl⟩
      have hmL : m1 - f = L := by omega
      have HL := Lib.hid hL
      obtain ⟨g1, hA1⟩ := own_form HO.out.1 (by omega)
      have HV := Lib.hid (by have h := ViewAt.start (pre := preW k) (ss := allW k) HO.out; rw [← HF.out] at h; exact h)
      have hne : ¬ c1 = f := by omega
      have hd : decide ((k : Int) < (n : Int)) = true := by simp; omega
      have hL64 : L ≤ 64 := by omega
      obtain ⟨a1, rfl⟩ : ∃ a1, A1 = some a1 := ⟨_, hA1⟩
      clear hA1 hal hal2 hap hm1 hL
      go_wp2_with fail
      go_loopw [25, 5] (fun i out wr => ∃ (j : Nat) (A2 : Option Addr) (m2 c2 : Nat), j ≤ L ∧ i = .int .i64 j ∧ out = .slice A2 m2 c2 ∧ Own W wr 9 A2 m2 c2 (svs (preW (k + 1) ++ growAll k j)) ∧ ViewAt wr A2 m2 c2 (some (a1.add f)) (allW k)) (fun i _ _ => L - (intOf i).toNat)
      case atStart => exact ⟨0, _, _, _, Nat.zero_le _, rfl, rfl, by rw [show growAll k 0 = [] from rfl, List.append_nil]; exact HO.out, HV.out⟩
      case round =>
        clear HV HO
        obtain ⟨j, A2, m2, c2, hj, rfl, rfl, hown, hview⟩ := hrel
        have HO2 := Lib.hid hown
        have HV2 := Lib.hid hview
        have hm2 : m2 ≤ 149 + 4 * j := by
          have h1 := hown.len
          have h2 := growAll_len (k := k) (j := j)
          have h3 := HM1.out
          have h4 : (preW (k + 1)).length = f + (allW k).length := by rw [HF.out]; simp [preW]
          simp only [svs, List.length_map, List.length_append] at h1; omega
        clear hown hview
        by_cases hjl : j < L
        · have hja : j < (allW k).length := by rw [← HL.out]; exact hjl
          obtain ⟨a, hVa, _, hcell⟩ := HV2.out j hja
          injection hVa with hVa
          subst hVa
          obtain ⟨own, ho⟩ : ∃ own, own = (allW k)[j] := ⟨_, rfl⟩
          rw [← ho] at hcell
          have hol3 : own.length ≤ 3 := by rw [ho, (allW_row (List.getElem_mem hja)).1]; omega
          have HGS := Lib.hid (show growAll k (j + 1) = growAll k j ++ grow4 own 4 by rw [ho]; exact growAll_snoc hja)
          have hd2 : decide ((j : Int) < (L : Int)) = true := by simp; omega
          have hd3 : decide (j < L) = true := by simp; omega
          clear ho
          go_wp2_with fail
          go_loopw [11, 5] (fun i out wr => ∃ (q : Nat) (A3 : Option Addr) (m3 c3 : Nat), q ≤ 4 ∧ i = .int .i64 q ∧ out = .slice A3 m3 c3 ∧ m3 = m2 + q ∧ Own W wr 9 A3 m3 c3 (svs (preW (k + 1) ++ growAll k j ++ grow4 own q)) ∧ ViewAt wr A3 m3 c3 (some (a1.add f)) (allW k)) (fun i _ _ => 4 - (intOf i).toNat)
          case atStart => exact ⟨0, _, _, _, Nat.zero_le _, rfl, rfl, rfl, by rw [show grow4 own 0 = [] from rfl, List.append_nil]; exact HO2.out, HV2.out⟩
          case round =>
            clear HO2 HV2 hcell
            obtain ⟨q, A3, m3, c3, hq, rfl, rfl, hm3, hown, hview⟩ := hrel
            have HO3 := Lib.hid hown
            have HV3 := Lib.hid hview
            have HG4 := Lib.hid (grow4_snoc own q)
            have hm3b : m3 ≤ 153 + 4 * j := by omega
            have HM3 := Lib.hid hm3
            clear hown hview hm3
            by_cases hq4 : q < 4
            · obtain ⟨ch, hch, hmo⟩ := abcd_at own hq4
              have hlim : ¬ 9223372036854775807 < own.length + 1 := by omega
              have HMO := Lib.hid hmo
              clear hmo
              go_wp2_with (at_builtin; refine app_one_seen (.tmp 34) (.tmp 41) _ _ _ 16 rfl rfl Try.underlying22 infoS rfl rfl HO3.out rfl rfl (by omega) (by omega) ?_; intro A5 c5 w5 hown5 hsn)
              exact ⟨⟨q + 1, A5, _, c5, by omega, by go_num, rfl, by have := HM3.out; omega, by rw [HG4.out, HMO.out, ← List.append_assoc, svs_snoc]; exact hown5, HV3.out.next hsn⟩, by simp [intOf]; omega⟩
            · obtain rfl : q = 4 := by omega
              go_wp2_with fail
              exact ⟨⟨j + 1, A3, m3, c3, by omega, by go_num, rfl, by rw [HGS.out, ← List.append_assoc]; exact HO3.out, HV3.out⟩, by simp [intOf]; omega⟩
        · have HJ := Lib.hid (show growAll k j = allW (k + 1) by
            unfold growAll
            rw [List.take_of_length_le (by rw [← HL.out]; omega)]; rfl)
          have HPF := Lib.hid (show m1 = (preW (k + 1)).length by rw [HM1.out, HF.out]; simp [preW])
          go_wp2_with fail
          exact ⟨⟨k + 1, m1, A2, m2, c2, by omega, by go_num, rfl, rfl, HPF.out, by rw [← HJ.out]; exact HO2.out⟩, by simp [intOf]; omega⟩
    · obtain rfl : k = n := by omega
      go_wp2
      go_ret
      exact ⟨_, _, _, rfl, HO.out⟩
/-! ## the rows that are allowed -/
def okW (n : Nat) (row : Pch) (s : List UInt8) : Bool := decide (s.length = n) && ok1 row s
theorem okW_all (n : Nat) (row : Pch) : (preW n ++ allW n).filter (okW n row) = rowsN row n := by
  rw [List.filter_append, rowsN_all]
  have h1 : (preW n).filter (okW n row) = [] := by
    rw [List.filter_eq_nil_iff]
    intro s hs hok
    have := preW_short n hs
    simp only [okW, Bool.and_eq_true, decide_eq_true_eq] at hok
    omega
  rw [h1, List.nil_append]
  apply List.filter_congr
  intro s hs
  unfold okW
  rw [decide_eq_true (allW_row hs).1, Bool.true_and]
theorem filter_snocR {α : Type} {p : α → Bool} {l : List α} {k : Nat} (h : k < l.length) : (l.take (k + 1)).filter p = (l.take k).filter p ++ if p l[k] then [l[k]] else [] := by
  rw [take_snoc l k h, List.filter_append]
  congr 1
  by_cases hp : p l[k] = true <;> simp [hp]
theorem words_row {n : Nat} (hn : n ≤ 3) {s : List UInt8} (h : s ∈ preW n ++ allW n) : s.length ≤ 3 := by
  rcases List.mem_append.1 h with h | h
  · have := preW_short n h; omega
  · have := (allW_row h).1; omega
set_option maxHeartbeats 1600000 in
theorem l23Rows_any (n : Nat) (hn : n ≤ 3) (A : Option Addr) (m c : Nat) (row : Pch) (W : World) (hr : SIn W A m c row) :
    Calls Try.prog 31 #[.int .i64 (n : Int), .slice A m c] W (RetS 9 W (rowsN row n)) := by
  have HR := Lib.hid hr
  have hm := hr.2.1
  clear hr
  have HM0 := Lib.hid (Own.made0 (w0 := W) (w := W) (Below.refl _ _) 9)
  go_enter Try.func31, Try.ntmps31
  go_wp2_with fail
  refine (l17Words_any n hn _).mono ?_
  rintro e w1 ⟨A1, m1, c1, rfl, ho1⟩
  have HO1 := Lib.hid ((((Mem.start W).add HM0.out).add ho1).perm (List.Perm.swap _ _ _))
  obtain ⟨words, hw⟩ : ∃ words, words = preW n ++ allW n := ⟨_, rfl⟩
  have hml : m1 = words.length := by rw [hw]; have h1 := ho1.len; simp only [svs, List.length_map] at h1; omega
  have hm1 : m1 ≤ 149 := by
    rw [hml, hw, List.length_append]
    have h1 := preW_len n (by omega)
    have h2 := allW_len n
    have h3 := pow4_le hn
    omega
  rw [← hw] at HO1
  have HALL := Lib.hid (show words.filter (okW n row) = rowsN row n by rw [hw]; exact okW_all n row)
  have HLEN := Lib.hid (show ∀ s ∈ words, s.length ≤ 3 by rw [hw]; exact fun s hs => words_row hn hs)
  have HML := Lib.hid hml
  clear ho1 HM0 hw hml
  go_wp2_with fail
  go_loopw [12, 5] (fun i out wr => ∃ (j : Nat) (A2 : Option Addr) (m2 c2 : Nat), j ≤ m1 ∧ i = .int .i64 j ∧ out = .slice A2 m2 c2 ∧ Mem W wr [⟨9, A2, m2, c2, svs ((words.take j).filter (okW n row))⟩, ⟨9, A1, m1, c1, svs words⟩]) (fun i _ _ => m1 - (intOf i).toNat)
  case atStart => exact ⟨0, _, _, _, Nat.zero_le _, rfl, rfl, HO1.out⟩
  case round =>
    clear HO1
    obtain ⟨j, A2, m2, c2, hj, rfl, rfl, hown⟩ := hrel
    have HO2 := Lib.hid hown
    have hm2 : m2 ≤ j := by
      have h1 := hown.rd0.1
      have h2 := List.length_filter_le (okW n row) (words.take j)
      have h3 : (words.take j).length ≤ j := List.length_take_le _ _
      simp only [svs, List.length_map] at h1
      omega
    clear hown
    by_cases hlt : j < m1
    · have hjl : j < words.length := by rw [← HML.out]; exact hlt
      obtain ⟨a, rfl, _, hcell⟩ := HO2.out.rd1.str (k := j) hjl
      have HFS := Lib.hid (filter_snocR (p := okW n row) hjl)
      obtain ⟨s, hs⟩ : ∃ s, s = words[j] := ⟨_, rfl⟩
      have hs3 : s.length ≤ 3 := by rw [hs]; exact HLEN.out _ (List.getElem_mem hjl)
      rw [← hs] at hcell HFS
      clear hs hjl
      by_cases hsn : s.length = n
      · have g1 : ((s.length : Int) == (n : Int)) = true := by simp [hsn]
        have g2 : (s.length == n) = true := by simp [hsn]
        have HMade := Lib.hid (Own.made (w0 := wr) (w := wr) (Below.refl _ _) 9 (svs [s]) (by simp [svs]))
        have hpl : (pairsL [s]).length ≤ 64 := by
          have h1 := pairsL_len (p := [s]) (fun x hx => by simp only [List.mem_singleton] at hx; subst hx; omega)
          simpa using h1
        have HSN := Lib.hid hsn
        clear hsn
        go_wp2_with fail
        refine (l23Faults_any _ 1 1 _ m _ [s] row _ (SIn.of HMade.out.rd (by omega) (fun x hx => by simp only [List.mem_singleton] at hx; subst hx; omega) (Nat.le_refl _)) ((HR.out.later HO2.out.bel).later HMade.out.2) (by omega) (fun x hx => by simp only [List.mem_singleton] at hx; subst hx; omega)).mono ?_
        rintro e w4 ⟨rfl, hb4⟩
        have HB4 := Lib.hid (HMade.out.2.trans (hb4.mono HMade.out.2.size))
        have hout : outside (pairsL [s]) row ≤ 64 := Nat.le_trans (outside_le _ _) hpl
        clear hb4 HMade
        obtain ⟨x, hx⟩ : ∃ x, x = outside (pairsL [s]) row := ⟨_, rfl⟩
        rw [← hx] at hout ⊢
        have hown3 := HO2.out.later HB4.out
        by_cases h0 : x = 0
        · have HOK := Lib.hid (show (words.take (j + 1)).filter (okW n row) = (words.take j).filter (okW n row) ++ [s] by
            rw [HFS.out]; unfold okW ok1; rw [HSN.out, ← hx, h0]; simp)
          have g3 : ((x : Int) == 0) = true := by simp [h0]
          clear hx h0
          go_wp2_with (at_builtin; refine app_mem [] [⟨9, some a, m1, c1, svs words⟩] (.tmp 27) (.tmp 29) _ _ _ 16 rfl rfl Try.underlying22 infoS rfl rfl (hown3.alloc _) rfl (by omega) (Rd.one _ _ _) (by simp [Value.oneCell']) (by omega) (by omega) ?_; intro A5 c5 w5 hown5)
          exact ⟨⟨j + 1, A5, _, c5, by omega, by go_num, rfl, by rw [HOK.out, svs_snoc]; exact hown5⟩, by simp [intOf]; omega⟩
        · have HOK := Lib.hid (show (words.take (j + 1)).filter (okW n row) = (words.take j).filter (okW n row) by
            rw [HFS.out]; unfold okW ok1; rw [← hx]; simp [h0])
          have g3 : ((x : Int) == 0) = false := by simp [h0]
          have g4 : (x == 0) = false := by simp [h0]
          clear hx h0
          go_wp2
          exact ⟨⟨j + 1, A2, _, c2, by omega, by go_num, rfl, by rw [HOK.out]; exact hown3⟩, by simp [intOf]; omega⟩
      · have g1 : ((s.length : Int) == (n : Int)) = false := by simp; omega
        have g2 : (s.length == n) = false := by simpa using hsn
        have HOK := Lib.hid (show (words.take (j + 1)).filter (okW n row) = (words.take j).filter (okW n row) by
          rw [HFS.out]; unfold okW; rw [decide_eq_false hsn]; simp)
        clear hsn
        go_wp2
        exact ⟨⟨j + 1, A2, _, c2, by omega, by go_num, rfl, by rw [HOK.out]; exact HO2.out⟩, by simp [intOf]; omega⟩
    · have HJ := Lib.hid (show (words.take j).filter (okW n row) = rowsN row n by rw [List.take_of_length_le (by rw [← HML.out]; omega)]; exact HALL.out)
      go_wp2
      go_ret
      exact ⟨_, _, _, rfl, by rw [← HJ.out]; exact Mem.own (pre := []) HO2.out⟩
end Go.Proofs.Ytccpgcjmdjegeaa
