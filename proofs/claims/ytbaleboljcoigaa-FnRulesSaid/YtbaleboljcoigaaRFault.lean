/-
  Contracts of pairsOf, countOutside, FaultsOf, Obeys (program and reference). No conditions beyond small lengths.
-/
import Derived.Test.YtbaleboljcoigaaRPair
import Derived.Test.YtbaleboljcoigaaSortP
import Derived.Test.YtbaleboljcoigaaBFlip
import Derived.Test.YtbaleboljcoigaaBForced
namespace Go.Proofs.Ytbaleboljcoigaa
open Go.RowKit

theorem flatm_snoc {α β : Type} (l : List α) (f : α → List β) {k : Nat} (h : k < l.length) : (l.take (k + 1)).flatMap f = (l.take k).flatMap f ++ f l[k] := by
  rw [take_snoc l k h, List.flatMap_append]; simp
def prs (r : List UInt8) (j : Nat) : Pch := (List.range j).map fun i => (r.take (i + 1 + 1)).drop i
def pairsL (p : Pch) : Pch := p.flatMap fun r => prs r (r.length - 1)
theorem prs_snoc (r : List UInt8) (j : Nat) : prs r (j + 1) = prs r j ++ [(r.take (j + 1 + 1)).drop j] := by unfold prs; rw [List.range_succ, List.map_append]; rfl
theorem prs_len (r : List UInt8) (j : Nat) : (prs r j).length = j := by simp [prs]
theorem pairsL_len {p : Pch} (h : ∀ x ∈ p, x.length ≤ 64) : (pairsL p).length ≤ 64 * p.length := by
  induction p with
  | nil => simp [pairsL]
  | cons r p ih =>
    have h1 := ih (fun x hx => h x (by simp [hx]))
    have h2 := h r (by simp)
    have h3 : pairsL (r :: p) = prs r (r.length - 1) ++ pairsL p := by simp [pairsL]
    rw [h3, List.length_append, prs_len, List.length_cons]
    omega
theorem pairsL_take {g : Pch} {k : Nat} (h : ∀ x ∈ g, x.length ≤ 64) : (pairsL (g.take k)).length ≤ 64 * k := by
  have h1 := pairsL_len (p := g.take k) (fun x hx => h x (List.mem_of_mem_take hx))
  have h2 : (g.take k).length ≤ k := List.length_take_le _ _
  have h3 := Nat.mul_le_mul_left 64 h2
  omega
/-- how many of the words are not on the list -/
def outside (ws row : Pch) : Nat := (ws.filter fun x => decide (x ∉ row)).length
theorem outside_le (ws row : Pch) : outside ws row ≤ ws.length := List.length_filter_le _ _
theorem outside_app (a b row : Pch) : outside (a ++ b) row = outside a row + outside b row := by unfold outside; rw [List.filter_append, List.length_append]
theorem outside_one (x : List UInt8) (row : Pch) : outside [x] row = if x ∈ row then 0 else 1 := by
  unfold outside; by_cases h : x ∈ row <;> simp [h]
theorem outside_snoc (ws row : Pch) {k : Nat} (h : k < ws.length) : outside (ws.take (k + 1)) row = outside (ws.take k) row + if ws[k] ∈ row then 0 else 1 := by
  rw [take_snoc ws k h, outside_app, outside_one]
def faultsOf (p r q : Pch) : Int := if pOk p && rulesOk r q then ((outside (pairsL p) r : Nat) : Int) + (outside (pairsL (flipP p)) q : Nat) else -1

set_option maxHeartbeats 3200000 in
theorem l23Pairs_any (A0 : Option Addr) (n c0 : Nat) (p : Pch) (w : World) (hp : SIn w A0 n c0 p) (hn : n ≤ 64) (hr : ∀ r ∈ p, r.length ≤ 64) :
    Calls Try.prog 66 #[.slice A0 n c0] w (RetS 9 w (insF (pairsL p))) := by
  have HP := Lib.hid hp
  have HPN := Lib.hid hp.1.lenS
  have HR := Lib.hid hr
  clear hp hr
  go_enter Try.func66, Try.ntmps66
  go_wp2
  go_loopw [10, 3] (fun i out wr => ∃ (k : Nat) (A : Option Addr) (m c : Nat), k ≤ n ∧ i = .int .i64 k ∧ out = .slice A m c ∧ Own w wr 9 A m c (svs (insF (pairsL (p.take k))))) (fun i _ _ => n - (intOf i).toNat)
  case atStart => exact ⟨0, _, _, _, Nat.zero_le _, rfl, rfl, Own.made0 (Below.refl _ _) _⟩
  case round =>
    obtain ⟨k, A, m, c, hk, rfl, rfl, hown⟩ := hrel
    have hbd := pairsL_take (g := p) (k := k) (fun x hx => HR.out x hx)
    have hml : m ≤ 64 * k := by have h1 := hown.len; have h5 := insF_len (pairsL (p.take k)); simp only [svs, List.length_map] at h1; omega
    have HO := Lib.hid hown
    clear hown
    by_cases hlt : k < n
    · have hkg : k < p.length := by rw [HPN.out]; exact hlt
      obtain ⟨a, rfl, hab, hcell⟩ := (HP.out.1.below HO.out.2).str (k := k) hkg
      obtain ⟨r, hr⟩ : ∃ r, r = p[k] := ⟨_, rfl⟩
      rw [← hr] at hcell
      have hr64 : r.length ≤ 64 := by rw [hr]; exact HR.out _ (List.getElem_mem hkg)
      have HRK := Lib.hid (show pairsL (p.take (k + 1)) = pairsL (p.take k) ++ prs r (r.length - 1) by rw [hr]; exact flatm_snoc p _ hkg)
      have hd : decide ((k : Int) < (n : Int)) = true := by simp; omega
      clear hr
      go_wp2
      go_loopw [6, 3] (fun i out wr => ∃ (j : Nat) (A : Option Addr) (m c : Nat), j ≤ r.length - 1 ∧ i = .int .i64 ((j : Int) + 1) ∧ out = .slice A m c ∧ Own w wr 9 A m c (svs (insF (pairsL (p.take k) ++ prs r j)))) (fun i _ _ => r.length + 2 - (intOf i).toNat)
      case atStart => exact ⟨0, _, _, _, Nat.zero_le _, rfl, rfl, by rw [show prs r 0 = [] from rfl, List.append_nil]; exact HO.out⟩
      case round =>
        clear HO
        obtain ⟨j, A, m, c, hj, rfl, rfl, hown⟩ := hrel
        have hml2 : m ≤ 64 * k + 64 := by have h1 := hown.len; have h5 := insF_len (pairsL (p.take k) ++ prs r j); have h6 := prs_len r j; simp only [svs, List.length_map, List.length_append] at *; omega
        have HO := Lib.hid hown
        have HPS := Lib.hid (prs_snoc r j)
        clear hown
        by_cases hlt2 : j + 1 < r.length
        · have hj2 : j < r.length - 1 := by omega
          go_wp2_with fail
          refine (l05Insert_any w _ _ _ _ ((r.take (j + 1 + 1)).drop j) _ HO.out (by omega) HO.out.capMax (insF_srt _)).mono ?_
          rintro e w3 ⟨A4, n4, c4, rfl, ho4⟩
          have HO4 := Lib.hid ho4
          clear ho4
          go_wp2
          exact ⟨⟨j + 1, A4, n4, c4, by omega, by congr 1 <;> omega, rfl, by rw [HPS.out, ← List.append_assoc, insF_snoc]; exact HO4.out⟩, by simp [intOf]; omega⟩
        · obtain rfl : j = r.length - 1 := by omega
          go_wp2
          exact ⟨⟨k + 1, A, m, c, by omega, by go_num, rfl, by rw [HRK.out]; exact HO.out⟩, by simp [intOf]; omega⟩
    · obtain rfl : k = n := by omega
      have HK := Lib.hid (show p.take k = p from List.take_of_length_le (by rw [HPN.out]; omega))
      go_wp2
      go_ret
      exact ⟨_, _, _, rfl, by have h := HO.out; rwa [HK.out] at h⟩

set_option maxHeartbeats 3200000 in
theorem pairsOf_any (A0 : Option Addr) (n c0 : Nat) (p : Pch) (w : World) (hp : SIn w A0 n c0 p) (hn : n ≤ 64) (hr : ∀ r ∈ p, r.length ≤ 64) :
    Calls Try.prog 22 #[.slice A0 n c0] w (RetS 9 w (pairsL p)) := by
  have HP := Lib.hid hp
  have HPN := Lib.hid hp.1.lenS
  have HR := Lib.hid hr
  clear hp hr
  go_enter Try.func22, Try.ntmps22
  go_wp2
  go_loopw [10, 3] (fun i out wr => ∃ (k : Nat) (A : Option Addr) (m c : Nat), k ≤ n ∧ i = .int .i64 k ∧ out = .slice A m c ∧ Own w wr 9 A m c (svs (pairsL (p.take k)))) (fun i _ _ => n - (intOf i).toNat)
  case atStart => exact ⟨0, _, _, _, Nat.zero_le _, rfl, rfl, Own.made0 (Below.refl _ _) _⟩
  case round =>
    obtain ⟨k, A, m, c, hk, rfl, rfl, hown⟩ := hrel
    have hbd := pairsL_take (g := p) (k := k) (fun x hx => HR.out x hx)
    have hml : m ≤ 64 * k := by have h1 := hown.len; simp only [svs, List.length_map] at h1; omega
    have HO := Lib.hid hown
    clear hown
    by_cases hlt : k < n
    · have hkg : k < p.length := by rw [HPN.out]; exact hlt
      obtain ⟨a, rfl, hab, hcell⟩ := (HP.out.1.below HO.out.2).str (k := k) hkg
      obtain ⟨r, hr⟩ : ∃ r, r = p[k] := ⟨_, rfl⟩
      rw [← hr] at hcell
      have hr64 : r.length ≤ 64 := by rw [hr]; exact HR.out _ (List.getElem_mem hkg)
      have HRK := Lib.hid (show pairsL (p.take (k + 1)) = pairsL (p.take k) ++ prs r (r.length - 1) by rw [hr]; exact flatm_snoc p _ hkg)
      have hd : decide ((k : Int) < (n : Int)) = true := by simp; omega
      clear hr
      go_wp2
      go_loopw [6, 3] (fun i out wr => ∃ (j : Nat) (A : Option Addr) (m c : Nat), j ≤ r.length - 1 ∧ i = .int .i64 ((j : Int) + 1) ∧ out = .slice A m c ∧ Own w wr 9 A m c (svs (pairsL (p.take k) ++ prs r j))) (fun i _ _ => r.length + 2 - (intOf i).toNat)
      case atStart => exact ⟨0, _, _, _, Nat.zero_le _, rfl, rfl, by rw [show prs r 0 = [] from rfl, List.append_nil]; exact HO.out⟩
      case round =>
        clear HO
        obtain ⟨j, A, m, c, hj, rfl, rfl, hown⟩ := hrel
        have hml2 : m ≤ 64 * k + 64 := by have h1 := hown.len; have h6 := prs_len r j; simp only [svs, List.length_map, List.length_append] at *; omega
        have HO := Lib.hid hown
        have HPS := Lib.hid (prs_snoc r j)
        clear hown
        by_cases hlt2 : j + 1 < r.length
        · have hj2 : j < r.length - 1 := by omega
          have hown := HO.out
          go_wp2_with (at_builtin; refine app_one (.tmp 20) (.tmp 27) _ _ _ 16 rfl rfl Try.underlying23 infoS rfl rfl hown rfl rfl (by omega) (by omega) ?_; intro A4 c4 w3 ho4)
          exact ⟨⟨j + 1, A4, _, c4, by omega, by congr 1 <;> omega, rfl, by rw [HPS.out, ← List.append_assoc, svs_snoc]; exact ho4⟩, by simp [intOf]; omega⟩
        · obtain rfl : j = r.length - 1 := by omega
          go_wp2
          exact ⟨⟨k + 1, A, m, c, by omega, by go_num, rfl, by rw [HRK.out]; exact HO.out⟩, by simp [intOf]; omega⟩
    · obtain rfl : k = n := by omega
      have HK := Lib.hid (show p.take k = p from List.take_of_length_le (by rw [HPN.out]; omega))
      go_wp2
      go_ret
      exact ⟨_, _, _, rfl, by have h := HO.out; rwa [HK.out] at h⟩

set_option maxHeartbeats 800000 in
theorem countOutside_any (A : Option Addr) (n c B1 : Nat) (A2 : Option Addr) (m d B2 : Nat) (ws row : Pch) (w : World) (hr : Rd w B1 A n (svs ws)) (hs : Rd w B2 A2 m (svs row)) (hn : n ≤ 1048576) (hm : m ≤ 1048576) :
    Calls Try.prog 25 #[.slice A n c, .slice A2 m d] w fun e w' => e = .returned (.int .i64 (outside ws row : Nat)) ∧ w = w' := by
  have hlen := Lib.hid hr.lenS
  have HR := Lib.hid hr
  have HS := Lib.hid hs
  clear hr hs
  go_enter Try.func25, Try.ntmps25
  go_wp2
  go_loop [10, 5] (fun i t => ∃ k : Nat, k ≤ n ∧ i = .int .i64 k ∧ t = .int .i64 (outside (ws.take k) row : Nat)) (fun i _ => n - (intOf i).toNat)
  case atStart => exact ⟨0, Nat.zero_le _, rfl, rfl⟩
  case round =>
    obtain ⟨k, hk, rfl, rfl⟩ := hrel
    by_cases hlt : k < n
    · have hkl : k < ws.length := by rw [hlen.out]; exact hlt
      obtain ⟨a, rfl, hab, hcell⟩ := HR.out.str (k := k) hkl
      have hsn := outside_snoc ws row hkl
      have hle := outside_le (ws.take k) row
      have hle2 : outside (ws.take k) row ≤ 1048576 := Nat.le_trans hle (by rw [List.length_take]; omega)
      obtain ⟨x, hx⟩ : ∃ x, x = ws[k] := ⟨_, rfl⟩
      rw [← hx] at hcell hsn
      by_cases hm : x ∈ row
      · rw [if_pos hm] at hsn
        have HN := Lib.hid hsn
        have hdm := decide_eq_true hm
        have HC := Lib.hid (show Calls Try.prog 39 #[.slice A2 m d, .string ⟨x.toArray⟩] w fun e w' => e = .returned (.bool true) ∧ w = w' by rw [← hdm]; exact contains_any _ _ _ _ _ _ _ HS.out (by omega))
        clear hx hm hsn hle hdm
        go_wp2_with (go_at_call 39; refine HC.out.mono ?_; rintro e w' ⟨rfl, rfl⟩)
        go_round
        case rel => exact ⟨k + 1, by omega, by go_num, by rw [HN.out]; rfl⟩
        case measure => simp [intOf]; omega
      · rw [if_neg hm] at hsn
        have HN := Lib.hid hsn
        have hdm := decide_eq_false hm
        have HC := Lib.hid (show Calls Try.prog 39 #[.slice A2 m d, .string ⟨x.toArray⟩] w fun e w' => e = .returned (.bool false) ∧ w = w' by rw [← hdm]; exact contains_any _ _ _ _ _ _ _ HS.out (by omega))
        clear hx hm hsn hle hdm
        go_wp2_with (go_at_call 39; refine HC.out.mono ?_; rintro e w' ⟨rfl, rfl⟩)
        go_round
        case rel => exact ⟨k + 1, by omega, by go_num, by rw [HN.out]; go_num⟩
        case measure => simp [intOf]; omega
    · have HE := Lib.hid (show ws.take k = ws from List.take_of_length_le (by rw [hlen.out]; omega))
      go_wp2
      go_ret
      exact ⟨ret_int (by rw [HE.out]), rfl⟩

def AtIs (t : Bool) (w : World) (e : Ending) (w' : World) : Prop := ∃ r : Int, e = .returned (.int .i64 r) ∧ (if t then 0 ≤ r else r < 0) ∧ w = w'



set_option maxHeartbeats 3200000 in
theorem cFaultsOfI (A0 : Option Addr) (n0 c0 : Nat) (p : Pch) (A1 : Option Addr) (n1 c1 : Nat) (r : Pch) (A2 : Option Addr) (n2 c2 : Nat) (q : Pch) (W : World) (hp : SIn W A0 n0 c0 p) (hr : SIn W A1 n1 c1 r) (hq : SIn W A2 n2 c2 q) :
    Calls Try.prog 8 #[.slice A0 n0 c0, .slice A1 n1 c1, .slice A2 n2 c2] W fun e w' => e = .returned (.int .i64 (faultsOf p r q)) ∧ Below W.heap.size W w' := by
  have hcp := iPatchOk_any A0 n0 c0 _ p W hp.1 hp.2.1 hp.longs
  have hcr := iRulesOk_any A1 n1 c1 r A2 n2 c2 q W hr hq
  have hlen := Lib.hid hp.1.lenS
  cases hpo : pOk p
  case false =>
    have HE := Lib.hid (show -1 = faultsOf p r q by unfold faultsOf; rw [hpo]; rfl)
    rw [hpo] at hcp
    have HC := Lib.hid hcp
    clear hcp hcr hpo
    go_enter Try.func8, Try.ntmps8
    go_wp2_with (go_at_call 20; refine HC.out.mono ?_; rintro e w' ⟨rfl, rfl⟩)
    go_ret
    exact ⟨ret_int HE.out, Below.same⟩
  rw [hpo] at hcp
  have HCP := Lib.hid hcp
  clear hcp
  cases hro : rulesOk r q
  case false =>
    have HE := Lib.hid (show -1 = faultsOf p r q by unfold faultsOf; rw [hro, Bool.and_false]; rfl)
    rw [hro] at hcr
    have HC := Lib.hid hcr
    clear hcr hpo hro
    go_enter Try.func8, Try.ntmps8
    go_wp2_with (first | (go_at_call 20; refine HCP.out.mono ?_; rintro e w' ⟨rfl, rfl⟩) | (go_at_call 6; refine HC.out.mono ?_; rintro e w' ⟨rfl, rfl⟩))
    go_ret
    exact ⟨ret_int HE.out, Below.same⟩
  rw [hro] at hcr
  have HCR := Lib.hid hcr
  have HPO := Lib.hid hpo
  have HE := Lib.hid (show ((outside (pairsL p) r : Nat) : Int) + (outside (pairsL (flipP p)) q : Nat) = faultsOf p r q by unfold faultsOf; rw [hpo, hro]; rfl)
  have HP := Lib.hid hp
  have HR := Lib.hid hr
  have HQ := Lib.hid hq
  have hpl := pOk_len hpo
  have hn64 : n0 ≤ 64 := by have := hlen.out; omega
  have HRL := Lib.hid (show ∀ x ∈ p, x.length ≤ 64 from fun x hx => by have := pOk_row hpo hx; omega)
  have HFL := Lib.hid (show ∀ x ∈ flipP p, x.length ≤ 64 from fun x hx => by
    obtain ⟨i, _, rfl⟩ := List.mem_map.1 hx
    rw [colOf_len]; omega)
  have HFN := Lib.hid (show (flipP p).length ≤ 64 by rw [flipP_len]; have := pOk_wd hpo; omega)
  have hb1 := outside_le (pairsL p) r
  have hb2 := outside_le (pairsL (flipP p)) q
  have hb3 := pairsL_len (p := p) HRL.out
  have hb4 := pairsL_len (p := flipP p) HFL.out
  have hb5 : outside (pairsL p) r ≤ 65536 := by have := hlen.out; omega
  have hb6 : outside (pairsL (flipP p)) q ≤ 65536 := by have := HFN.out; omega
  clear hcr hpo hro hp hr hq hpl hb1 hb2 hb3 hb4
  go_enter Try.func8, Try.ntmps8
  go_wp2_with (first | (go_at_call 20; refine HCP.out.mono ?_; rintro e w' ⟨rfl, rfl⟩) | (go_at_call 6; refine HCR.out.mono ?_; rintro e w' ⟨rfl, rfl⟩))
  clear HCP HCR
  refine (pairsOf_any _ _ _ p _ HP.out hn64 HRL.out).mono ?_
  rintro e w1 ⟨G1, m1, d1, rfl, o1⟩
  have P1 := Lib.hid o1
  have L1 := pairsL_len (p := p) HRL.out
  have M1 : m1 ≤ 65536 := by have h1 := o1.len; have := hlen.out; simp only [svs, List.length_map] at h1; omega
  clear o1 L1
  go_wp2_with fail
  refine (countOutside_any _ _ _ _ _ _ _ _ (pairsL p) r _ P1.out.rd (HR.out.later P1.out.2).1 (by omega) HR.out.2.1).mono ?_
  rintro e w2 ⟨rfl, rfl⟩
  go_wp2_with fail
  refine (flipped_any _ _ _ p _ (HP.out.later P1.out.2) HPO.out).mono ?_
  rintro e w3 ⟨G3, m3, d3, rfl, o3⟩
  have P3 := Lib.hid o3
  have B3 := Lib.hid (P1.out.2.trans (o3.2.mono P1.out.2.size))
  have M3 : m3 ≤ 64 := by have h1 := o3.len; have := HFN.out; simp only [svs, List.length_map] at h1; omega
  clear o3
  go_wp2_with fail
  refine (pairsOf_any _ _ _ (flipP p) _ (SIn.of P3.out.rd (by omega) (fun s hs => by have := HFL.out s hs; omega) P3.out.cap) M3 HFL.out).mono ?_
  rintro e w4 ⟨G4, m4, d4, rfl, o4⟩
  have P4 := Lib.hid o4
  have B4 := Lib.hid (B3.out.trans (o4.2.mono B3.out.size))
  have L4 := pairsL_len (p := flipP p) HFL.out
  have M4 : m4 ≤ 65536 := by have h1 := o4.len; have := HFN.out; simp only [svs, List.length_map] at h1; omega
  clear o4 L4
  go_wp2_with fail
  refine (countOutside_any _ _ _ _ _ _ _ _ (pairsL (flipP p)) q _ P4.out.rd (HQ.out.later B4.out).1 (by omega) HQ.out.2.1).mono ?_
  rintro e w5 ⟨rfl, rfl⟩
  go_wp2
  go_ret
  exact ⟨ret_int HE.out, B4.out⟩


theorem cObeysI (A0 : Option Addr) (n0 c0 : Nat) (p : Pch) (A1 : Option Addr) (n1 c1 : Nat) (r : Pch) (A2 : Option Addr) (n2 c2 : Nat) (q : Pch) (W : World) (hp : SIn W A0 n0 c0 p) (hr : SIn W A1 n1 c1 r) (hq : SIn W A2 n2 c2 q) :
    Calls Try.prog 7 #[.slice A0 n0 c0, .slice A1 n1 c1, .slice A2 n2 c2] W fun e w' => e = .returned (.bool (faultsOf p r q == 0)) ∧ Below W.heap.size W w' := by
  have HC := Lib.hid (cFaultsOfI A0 n0 c0 p A1 n1 c1 r A2 n2 c2 q W hp hr hq)
  clear hp hr hq
  go_enter Try.func7, Try.ntmps7
  go_wp2_with (go_at_call 8; refine HC.out.mono ?_; rintro e w' ⟨rfl, hb1⟩)
  go_ret
  exact ⟨rfl, hb1⟩
end Go.Proofs.Ytbaleboljcoigaa
