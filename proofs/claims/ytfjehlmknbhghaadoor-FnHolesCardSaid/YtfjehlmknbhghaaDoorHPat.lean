/-
  Patterns with holes in plain words; contracts of PatternOk, holesAhead, filled and their twins. Condition: internal/bytealg's variable MaxLen holds some number.
-/
import Derived.Test.YtfjehlmknbhghaaDoorHRep
import Derived.Test.YtfjehlmknbhghaaDoorWd
import Derived.Test.YtfjehlmknbhghaaDoorBytes
import Derived.Test.YtfjehlmknbhghaaDoorShelf
import Derived.IntWalk
namespace Go.Proofs.YtfjehlmknbhghaaDoor
open Go.RowKit

/-! ## plain words -/
def hlt (c : UInt8) : Bool := c == 63 || isLet c
def patOk (p : List UInt8) : Bool := wi p.length 2 16 && (!(p.getD 0 0 == 63) && p.all hlt)
def cnt (p : List UInt8) : Nat := Lib.countByte p 63
def hol (p : List UInt8) (n : Nat) : Nat := n / p.length * cnt p + cnt (p.take (n % p.length))
def sg (p : List UInt8) (n : Nat) : UInt8 := p.getD (n % p.length) 0
def filF (p : List UInt8) : Nat → Nat → UInt8 × Nat
  | 0, n => (sg p n, 0)
  | f + 1, n => if sg p n == 63 then ((filF p f (hol p n)).1, (filF p f (hol p n)).2 + 1) else (sg p n, 0)
def fil (p : List UInt8) (n : Nat) : UInt8 × Nat := filF p n n

theorem patOk_len {p : List UInt8} (h : patOk p = true) : 2 ≤ p.length ∧ p.length ≤ 16 := by
  simp only [patOk, Bool.and_eq_true] at h
  have := wi_yes h.1; omega
theorem patOk_first {p : List UInt8} (h : patOk p = true) : sg p 0 ≠ 63 := by
  simp only [patOk, Bool.and_eq_true, Bool.not_eq_true', beq_eq_false_iff_ne] at h
  have e : 0 % p.length = 0 := Nat.zero_mod _
  unfold sg
  rw [e]; exact h.2.1
theorem sg_at {p : List UInt8} {n : Nat} (h : 0 < p.length) : sg p n = p[n % p.length]'(Nat.mod_lt _ h) := by
  unfold sg
  simp [List.getD, List.getElem?_eq_getElem (Nat.mod_lt n h)]
theorem sg_let {p : List UInt8} (h : patOk p = true) {n : Nat} (hn : sg p n ≠ 63) : isLet (sg p n) = true := by
  have hl := patOk_len h
  simp only [patOk, Bool.and_eq_true] at h
  have h1 := List.all_eq_true.1 h.2.2 _ (List.getElem_mem (Nat.mod_lt n (show 0 < p.length by omega)))
  rw [← sg_at (by omega)] at h1
  simp only [hlt, Bool.or_eq_true, beq_iff_eq] at h1
  exact h1.resolve_left hn
theorem cnt_le (p : List UInt8) : cnt p ≤ p.length := List.count_le_length
theorem cnt_snoc (p : List UInt8) {k : Nat} (h : k < p.length) : cnt (p.take (k + 1)) = cnt (p.take k) + if p[k] == 63 then 1 else 0 := by
  unfold cnt Lib.countByte
  rw [take_snoc p k h, List.count_append, List.count_singleton]
theorem hol_zero (p : List UInt8) : hol p 0 = 0 := by
  unfold hol
  rw [Nat.zero_div, Nat.zero_mod]
  simp [cnt, Lib.countByte]
theorem hol_succ {p : List UInt8} (h0 : 0 < p.length) (n : Nat) : hol p (n + 1) = hol p n + if sg p n == 63 then 1 else 0 := by
  obtain ⟨L, hL⟩ : ∃ L, L = p.length := ⟨_, rfl⟩
  have hm : n % p.length < p.length := Nat.mod_lt _ h0
  rw [sg_at h0]
  unfold hol
  by_cases h : n % p.length + 1 < p.length
  · have e1 : (n + 1) / p.length = n / p.length := by
      rw [Nat.succ_div]
      rw [if_neg]
      · rfl
      · intro hd
        have h2 := Nat.mod_eq_zero_of_dvd hd
        rw [Nat.add_mod, Nat.mod_eq_of_lt (show 1 < p.length by omega), Nat.mod_eq_of_lt h] at h2
        omega
    have e2 : (n + 1) % p.length = n % p.length + 1 := by
      rw [Nat.add_mod, Nat.mod_eq_of_lt (show 1 < p.length by omega), Nat.mod_eq_of_lt h]
    rw [e1, e2, cnt_snoc p hm, Nat.add_assoc]
  · have e : n % p.length + 1 = p.length := by omega
    have hdiv := Nat.div_add_mod n p.length
    have e0 : n + 1 = p.length * (n / p.length + 1) := by rw [Nat.mul_add]; omega
    have e1 : (n + 1) / p.length = n / p.length + 1 := by rw [e0, Nat.mul_div_cancel_left _ h0]
    have e2 : (n + 1) % p.length = 0 := by rw [e0, Nat.mul_mod_right]
    have hs := cnt_snoc p hm
    rw [e, List.take_length] at hs
    rw [e1, e2, List.take_zero, Nat.add_mul, Nat.one_mul, hs]
    simp [cnt, Lib.countByte]
    omega
theorem hol_le {p : List UInt8} (h0 : 0 < p.length) : ∀ n, hol p n ≤ n
  | 0 => by rw [hol_zero]; exact Nat.le_refl _
  | n + 1 => by
    have := hol_le h0 n
    rw [hol_succ h0]
    split <;> omega
theorem hol_lt {p : List UInt8} (h : patOk p = true) : ∀ n, 0 < n → hol p n < n
  | 0, h1 => by omega
  | 1, _ => by
    have hl := patOk_len h
    rw [hol_succ (by omega), hol_zero]
    have := patOk_first h
    simp [this]
  | n + 2, _ => by
    have hl := patOk_len h
    have := hol_lt h (n + 1) (by omega)
    rw [hol_succ (by omega)]
    split <;> omega
theorem hol_down {p : List UInt8} (h : patOk p = true) {n : Nat} (hn : sg p n = 63) : hol p n < n := by
  rcases Nat.eq_zero_or_pos n with rfl | h0
  · exact absurd hn (patOk_first h)
  · exact hol_lt h n h0
theorem hol_mono {p : List UInt8} (h0 : 0 < p.length) {i : Nat} : ∀ {n : Nat}, i < n → sg p i = 63 → hol p i < hol p n
  | 0, h, _ => by omega
  | n + 1, h, hs => by
    by_cases e : i = n
    · subst e
      rw [hol_succ h0, hs]; simp
    · have := hol_mono h0 (show i < n by omega) hs
      rw [hol_succ h0]; omega
theorem filF_more {p : List UInt8} (h : patOk p = true) : ∀ (f g n : Nat), n ≤ f → n ≤ g → filF p f n = filF p g n
  | 0, g, n, hf, _ => by
    obtain rfl : n = 0 := by omega
    have h0 := patOk_first h
    cases g with
    | zero => rfl
    | succ g => simp [filF, h0]
  | f + 1, 0, n, _, hg => by
    obtain rfl : n = 0 := by omega
    have h0 := patOk_first h
    simp [filF, h0]
  | f + 1, g + 1, n, hf, hg => by
    unfold filF
    by_cases hs : sg p n = 63
    · have := hol_down h hs
      rw [filF_more h f g (hol p n) (by omega) (by omega)]
    · simp [hs]
theorem fil_hole {p : List UInt8} (h : patOk p = true) {n : Nat} (hs : sg p n = 63) : fil p n = ((fil p (hol p n)).1, (fil p (hol p n)).2 + 1) := by
  have hd := hol_down h hs
  obtain ⟨m, rfl⟩ : ∃ m, n = m + 1 := ⟨n - 1, by omega⟩
  unfold fil
  conv => lhs; unfold filF
  rw [if_pos (by simp [hs]), filF_more h m (hol p (m + 1)) (hol p (m + 1)) (by omega) (Nat.le_refl _)]
theorem fil_letter {p : List UInt8} {n : Nat} (hs : sg p n ≠ 63) : fil p n = (sg p n, 0) := by
  unfold fil
  cases n with
  | zero => rfl
  | succ n => unfold filF; rw [if_neg (by simpa using hs)]
theorem fil_let {p : List UInt8} (h : patOk p = true) : ∀ (n : Nat), isLet (fil p n).1 = true ∧ (fil p n).2 ≤ n := by
  intro n
  induction n using Nat.strongRecOn with
  | _ n ih =>
    by_cases hs : sg p n = 63
    · have hd := hol_down h hs
      have := ih _ hd
      rw [fil_hole h hs]
      exact ⟨this.1, by show _ + 1 ≤ n; omega⟩
    · rw [fil_letter hs]
      exact ⟨sg_let h hs, Nat.zero_le _⟩

/-! ## PatternOk -/
theorem patOk_two (p : List UInt8) : patOk p = (wi p.length 2 16 && (isW (p.take 1) && isW (p.filter (· != 63)))) := by
  cases h : wi p.length 2 16
  · simp [patOk, h]
  · have hl := wi_yes h
    obtain ⟨a, l, rfl⟩ : ∃ a l, p = a :: l := by
      cases p with
      | nil => simp at hl
      | cons a l => exact ⟨a, l, rfl⟩
    have hlen : ((a :: l).filter (· != 63)).length ≤ 400 := by
      have := List.length_filter_le (fun c : UInt8 => c != 63) (a :: l)
      omega
    unfold patOk
    rw [h]
    simp only [Bool.true_and, List.getD_cons_zero, List.take_succ_cons, List.take_zero]
    unfold isW
    rw [decide_eq_true hlen, Bool.and_true, show decide ([a].length ≤ 400) = true from rfl, Bool.and_true, Bool.eq_iff_iff]
    simp only [Bool.and_eq_true, List.all_eq_true, List.mem_filter, bne_iff_ne, Bool.not_eq_true', beq_eq_false_iff_ne, List.mem_cons, hlt, Bool.or_eq_true, beq_iff_eq, List.mem_singleton, List.not_mem_nil, or_false, forall_eq]
    constructor
    · rintro ⟨h1, h2⟩
      exact ⟨(h2 a (Or.inl rfl)).resolve_left h1, fun x ⟨hx, hn⟩ => (h2 x hx).resolve_left hn⟩
    · rintro ⟨h1, h2⟩
      refine ⟨fun e => by subst e; exact absurd h1 (by decide), fun x hx => ?_⟩
      by_cases e : x = 63
      · exact Or.inl e
      · exact Or.inr (h2 x ⟨hx, e⟩)
/-- the variable of internal/bytealg -/
def MaxAt (w : World) : Prop := ∃ m, w.cell? ⟨0, 0, none⟩ = some (.int .i64 m)
theorem MaxAt.later {w w' : World} (h : MaxAt w) (hb : Below w.heap.size w w') : MaxAt w' := by
  obtain ⟨m, hm⟩ := h
  exact ⟨m, (hb.cell (World.block_lt_of_cell? w _ hm)).trans hm⟩
theorem cntC_any (l : List UInt8) (w : World) : Calls Tryd.prog 34 #[.string ⟨l.toArray⟩, .string ⟨#[63]⟩] w fun e w' => e = .returned (.int .i64 (cnt l : Nat)) ∧ w = w' :=
  (Tryd.strings_Count_one ⟨l.toArray⟩ 63 w).mono fun _ _ ⟨h1, h2⟩ => ⟨h1, h2.symm⟩
theorem repl_any (l : List UInt8) (hl : l.length ≤ 1048576) (w : World) (hm : MaxAt w) : Calls Tryd.prog 32 #[.string ⟨l.toArray⟩, .string ⟨#[63]⟩, .string ⟨#[]⟩] w fun e w' => e = .returned (.string ⟨(l.filter (· != 63)).toArray⟩) ∧ Below w.heap.size w w' := by
  obtain ⟨m, hm⟩ := hm
  have hs : (⟨l.toArray⟩ : ByteArray).size = l.length := rfl
  have h := Tryd.strings_ReplaceAll ⟨l.toArray⟩ ⟨#[63]⟩ ⟨#[]⟩ m w (by rw [hs]; omega) hm (by decide) (by rw [hs, show (⟨#[]⟩ : ByteArray).size = 0 from rfl, Nat.mul_zero]; omega)
  refine h.mono fun e w' ⟨he, hb⟩ => ⟨?_, hb⟩
  rw [he]
  congr 3
  exact congrArg List.toArray (replaceAll_one l)
theorem isLetterH_any (l : List UInt8) (hl : l.length ≤ 9223372036854775807) (w : World) : Calls Tryd.prog 30 #[.string ⟨l.toArray⟩] w fun e w' => e = .returned (.bool (decide (l.length = 1) && isW l)) ∧ w = w' := by
  have hc := isWord_any l hl w
  by_cases h1 : l.length = 1
  · have HE := Lib.hid (show isW l = (decide (l.length = 1) && isW l) by simp [h1])
    have HC := Lib.hid hc
    clear hc
    go_enter Tryd.func30, Tryd.ntmps30
    go_wp2_with (go_at_call 31; refine HC.out.mono ?_; rintro e w' ⟨rfl, rfl⟩)
    go_ret
    exact ⟨ret_bool HE.out, rfl⟩
  · have HE := Lib.hid (show false = (decide (l.length = 1) && isW l) by simp [h1])
    clear hc
    go_enter Tryd.func30, Tryd.ntmps30
    go_wp2
    go_ret
    exact ⟨ret_bool HE.out, rfl⟩
set_option maxHeartbeats 800000 in
theorem iPatternOk_any (p : List UInt8) (hp : p.length ≤ 1048576) (w : World) (hm : MaxAt w) : Calls Tryd.prog 12 #[.string ⟨p.toArray⟩] w fun e w' => e = .returned (.bool (patOk p)) ∧ Below w.heap.size w w' := by
  cases h1 : wi p.length 2 16
  · have HE := Lib.hid (show false = patOk p by rw [patOk_two, h1]; rfl)
    have hcw := within_any (p.length : Int) 2 16 w
    rw [h1] at hcw
    have HC := Lib.hid hcw
    clear hcw h1
    go_enter Tryd.func12, Tryd.ntmps12
    go_wp2_with (go_at_call 29; refine HC.out.mono ?_; rintro e w' ⟨rfl, rfl⟩)
    go_ret
    exact ⟨ret_bool HE.out, Below.refl _ _⟩
  · have hl := wi_yes h1
    have hcw := within_any (p.length : Int) 2 16 w
    rw [h1] at hcw
    have HC := Lib.hid hcw
    have ht1 : (p.take 1).length = 1 := by rw [List.length_take]; omega
    have hcl := isLetterH_any (p.take 1) (by omega) w
    rw [decide_eq_true ht1, Bool.true_and] at hcl
    have h12 : 1 ≤ p.length := by omega
    cases h2 : isW (p.take 1)
    · have HE := Lib.hid (show false = patOk p by rw [patOk_two, h1, h2]; rfl)
      rw [h2] at hcl
      have HC2 := Lib.hid hcl
      clear hcw h1 h2 hcl ht1 hl
      go_enter Tryd.func12, Tryd.ntmps12
      go_wp2_with (first | (go_at_call 29; refine HC.out.mono ?_; rintro e w' ⟨rfl, rfl⟩) | (go_at_call 30; refine HC2.out.mono ?_; rintro e w' ⟨rfl, rfl⟩))
      go_ret
      exact ⟨ret_bool HE.out, Below.refl _ _⟩
    · have HE := Lib.hid (show isW (p.filter (· != 63)) = patOk p by rw [patOk_two, h1, h2]; rfl)
      rw [h2] at hcl
      have HC2 := Lib.hid hcl
      have HC3 := Lib.hid (repl_any p hp w hm)
      have hfl : (p.filter (· != 63)).length ≤ 9223372036854775807 := by
        have := List.length_filter_le (fun c : UInt8 => c != 63) p
        omega
      have HC4 := Lib.hid (fun w => isWord_any (p.filter (· != 63)) hfl w)
      clear hcw h1 h2 hcl ht1 hl hfl
      go_enter Tryd.func12, Tryd.ntmps12
      go_wp2_with (first | (go_at_call 29; refine HC.out.mono ?_; rintro e w' ⟨rfl, rfl⟩) | (go_at_call 30; refine HC2.out.mono ?_; rintro e w' ⟨rfl, rfl⟩) | (go_at_call 32; refine HC3.out.mono ?_; rintro e w1 ⟨rfl, hb⟩) | (go_at_call 31; refine (HC4.out _).mono ?_; rintro e w' ⟨rfl, rfl⟩))
      go_ret
      exact ⟨ret_bool HE.out, hb⟩
theorem range_hlt_bad {p : List UInt8} {k : Nat} (h : k < p.length) (hb : hlt p[k] = false) : patOk p = false := by
  unfold patOk
  rw [List.all_eq_false.2 ⟨p[k], List.getElem_mem h, by simp [hb]⟩]
  simp
set_option maxHeartbeats 800000 in
theorem sPatternOk_any (p : List UInt8) (hp : p.length ≤ 1048576) (w : World) : Calls Tryd.prog 11 #[.string ⟨p.toArray⟩] w fun e w' => e = .returned (.bool (patOk p)) ∧ w = w' := by
  cases h1 : wi p.length 2 16
  · have HE := Lib.hid (show false = patOk p by unfold patOk; rw [h1]; rfl)
    have hcw := l01In_any (p.length : Int) 2 16 w
    rw [h1] at hcw
    have HC := Lib.hid hcw
    clear hcw h1
    go_enter Tryd.func11, Tryd.ntmps11
    go_wp2_with (go_at_call 28; refine HC.out.mono ?_; rintro e w' ⟨rfl, rfl⟩)
    go_ret
    exact ⟨ret_bool HE.out, rfl⟩
  · have hl := wi_yes h1
    have hcw := l01In_any (p.length : Int) 2 16 w
    rw [h1] at hcw
    have HC := Lib.hid hcw
    have h0 : 0 < p.length := by omega
    have h00 : (0 : Int) < (p.length : Int) := by omega
    have hg : p.getD 0 0 = p[0] := by simp [List.getD, List.getElem?_eq_getElem h0]
    have hl16 : p.length ≤ 16 := by omega
    cases h63 : ((p[0].toNat : Int) == 63)
    case true =>
      have e63 : p[0] = 63 := UInt8.toNat_inj.1 (by simp at h63; show _ = 63; omega)
      have HE := Lib.hid (show false = patOk p by unfold patOk; rw [hg, e63]; simp)
      clear hcw h1 hl hg e63
      go_enter Tryd.func11, Tryd.ntmps11
      go_wp2_with (go_at_call 28; refine HC.out.mono ?_; rintro e w' ⟨rfl, rfl⟩)
      go_ret
      exact ⟨ret_bool HE.out, rfl⟩
    case false =>
      have n63 : p[0] ≠ 63 := fun e => by rw [e] at h63; simp at h63
      have HE := Lib.hid (show p.all hlt = true → true = patOk p from fun ha => by unfold patOk; rw [h1, hg, ha]; simp [n63])
      clear hcw h1 hl hg n63
      go_enter Tryd.func11, Tryd.ntmps11
      go_wp2_with (go_at_call 28; refine HC.out.mono ?_; rintro e w' ⟨rfl, rfl⟩)
      go_loop [3] (fun i => ∃ k : Nat, k ≤ p.length ∧ i = .int .i64 k ∧ (p.take k).all hlt = true) (fun i => p.length - (intOf i).toNat)
      case atStart => exact ⟨0, Nat.zero_le _, rfl, rfl⟩
      case round =>
        obtain ⟨k, hk, rfl, ha⟩ := hrel
        have HA := Lib.hid ha
        clear ha
        by_cases hlt2 : k < p.length
        · obtain ⟨x, hx⟩ : ∃ x, x = p[k] := ⟨_, rfl⟩
          by_cases e63 : x = 63
          · have HN := Lib.hid (all_snoc hlt2 HA.out (show hlt p[k] = true by rw [← hx, e63]; rfl))
            have g1 : ((p[k].toNat : Int) != 63) = false := by rw [← hx, e63]; rfl
            clear hx e63
            go_wp2
            go_round
            case rel => exact ⟨k + 1, by omega, by go_num, HN.out⟩
            case measure => simp [intOf]; omega
          · have g1 : ((p[k].toNat : Int) != 63) = true := by
              rw [← hx]; simp; intro e; exact e63 (UInt8.toNat_inj.1 (by show _ = 63; omega))
            by_cases hb1 : (x.toNat : Int) < 97
            · have HB := Lib.hid (range_hlt_bad hlt2 (show hlt p[k] = false by rw [← hx]; unfold hlt; rw [isLet_no (Or.inl hb1)]; simp [e63]))
              rw [hx] at hb1
              clear hx e63
              go_wp2
              go_ret
              exact ⟨ret_bool HB.out.symm, rfl⟩
            · by_cases hb2 : 100 < (x.toNat : Int)
              · have HB := Lib.hid (range_hlt_bad hlt2 (show hlt p[k] = false by rw [← hx]; unfold hlt; rw [isLet_no (Or.inr hb2)]; simp [e63]))
                rw [hx] at hb1 hb2
                clear hx e63
                go_wp2
                go_ret
                exact ⟨ret_bool HB.out.symm, rfl⟩
              · have HN := Lib.hid (all_snoc hlt2 HA.out (show hlt p[k] = true by rw [← hx]; unfold hlt; rw [isLet_yes (by omega) (by omega)]; simp))
                rw [hx] at hb1 hb2
                clear hx e63
                go_wp2
                go_round
                case rel => exact ⟨k + 1, by omega, by go_num, HN.out⟩
                case measure => simp [intOf]; omega
        · have HN := Lib.hid (HE.out (all_done hlt2 HA.out))
          go_wp2
          go_ret
          exact ⟨ret_bool HN.out, rfl⟩
end Go.Proofs.YtfjehlmknbhghaaDoor
