/-
  Contracts of PeriodicPart (program and reference), and the walk of the law on them. No conditions.
-/
import Derived.Test.YtfjehlmknbhghaaDoorWd
import Derived.Test.YtfjehlmknbhghaaDoorRowW
import Derived.Test.YtfjehlmknbhghaaDoorBytes
import Derived.Laws.IdiomStrings
namespace Go.Proofs.YtfjehlmknbhghaaDoor
open Go.RowKit

/-! ## a row of the call's own, whatever its mark behind its end -/
def RowAt (w : World) (g : Nat) (xs : List Value) : Prop := g < w.heap.size ∧ ∀ j u, xs[j]? = some u → w.cell? ⟨g, j, none⟩ = some u ∧ w.frozen? ⟨g, j, none⟩ = false
theorem RowAt.keep {w w' : World} {g : Nat} {xs : List Value} (h : RowAt w g xs) (hb : Below w.heap.size w w') : RowAt w' g xs :=
  ⟨Nat.lt_of_lt_of_le h.1 hb.size, fun j u hu => ⟨(hb.cell (p := ⟨g, j, none⟩) h.1).trans (h.2 j u hu).1, (hb.frozen (p := ⟨g, j, none⟩) h.1).trans (h.2 j u hu).2⟩⟩
theorem RowAt.store {w : World} {g : Nat} {xs : List Value} (h : RowAt w g xs) (j : Nat) (u : Value) : RowAt (w.setCell ⟨g, j, none⟩ u) g (xs.set j u) := by
  refine ⟨by simpa [World.setCell] using h.1, fun i v hv => ?_⟩
  rw [List.getElem?_set] at hv
  have hfr : ∀ a, (w.setCell ⟨g, j, none⟩ u).frozen? a = w.frozen? a := fun a => World.frozen?_setCell w ⟨g, j, none⟩ a u
  by_cases hij : j = i
  · subst hij
    rw [if_pos rfl] at hv
    split at hv
    · rename_i hj
      injection hv with hv
      subst hv
      obtain ⟨h1, h2⟩ := h.2 j _ (List.getElem?_eq_getElem hj)
      exact ⟨World.cell?_setCell_same w ⟨g, j, none⟩ u h1, by rw [hfr]; exact h2⟩
    · cases hv
  · rw [if_neg hij] at hv
    obtain ⟨h1, h2⟩ := h.2 i _ hv
    exact ⟨by rw [World.cell?_setCell_other w ⟨g, j, none⟩ ⟨g, i, none⟩ u (by simp [hij])]; exact h1, by rw [hfr]; exact h2⟩
theorem RowAt.rd {w : World} {g n : Nat} {xs : List Value} (h : RowAt w g xs) (hn : xs.length = n) : Rd w w.heap.size (some ⟨g, 0, none⟩) n xs :=
  ⟨hn, fun j u hu => ⟨_, rfl, h.1, by
    rw [show (⟨g, 0, none⟩ : Addr).add j = ⟨g, j, none⟩ from by unfold Addr.add; split <;> simp_all]
    exact (h.2 j u hu).1⟩⟩

/-! ## the letters of a period -/
def perB (l : List UInt8) (p r k : Nat) : Bool := (List.range k).any fun i => decide (i < l.length) && (i % p == r) && !(l[i]? == l[r]?)
def perC (l : List UInt8) (p k r : Nat) : UInt8 := if perB l p r k then 63 else l.getD r 0
def perL (l : List UInt8) (p k : Nat) : List UInt8 := (List.range p).map (perC l p k)
def perPart (l : List UInt8) (p : Int) : List UInt8 :=
  if isW l && wi p 2 16 && decide (p ≤ l.length) then (if (perL l p.toNat l.length)[0]? == some 63 then [] else perL l p.toNat l.length) else []

theorem perB_iff {l : List UInt8} {p r k : Nat} : perB l p r k = true ↔ ∃ i, i < k ∧ i < l.length ∧ i % p = r ∧ l[i]? ≠ l[r]? := by
  simp [perB, and_assoc]
theorem perL_len (l : List UInt8) (p k : Nat) : (perL l p k).length = p := by simp [perL]
theorem perL_get {l : List UInt8} {p k r : Nat} (h : r < p) : (perL l p k)[r]? = some (perC l p k r) := by simp [perL, h]

theorem perB_congr {l : List UInt8} {p r k k' : Nat} (h : ∀ i, i < l.length → i % p = r → l[i]? ≠ l[r]? → (i < k ↔ i < k')) : perB l p r k = perB l p r k' := by
  rw [Bool.eq_iff_iff, perB_iff, perB_iff]
  constructor
  · rintro ⟨i, h1, h2, h3, h4⟩; exact ⟨i, (h i h2 h3 h4).1 h1, h2, h3, h4⟩
  · rintro ⟨i, h1, h2, h3, h4⟩; exact ⟨i, (h i h2 h3 h4).2 h1, h2, h3, h4⟩
theorem perC_congr {l : List UInt8} {p r k k' : Nat} (h : perB l p r k = perB l p r k') : perC l p k r = perC l p k' r := by simp [perC, h]

/-- a letter that differs -/
theorem perL_bad {l : List UInt8} {p k : Nat} (hp : 0 < p) (hk : k < l.length) (h : l[k]? ≠ l[k % p]?) : perL l p (k + 1) = (perL l p k).set (k % p) 63 := by
  apply List.ext_getElem?
  intro r
  have hm : k % p < p := Nat.mod_lt _ hp
  by_cases hr : r < p
  · rw [perL_get hr, List.getElem?_set]
    by_cases e : k % p = r
    · subst e
      rw [if_pos rfl, if_pos (by rw [perL_len]; exact hm)]
      have : perB l p (k % p) (k + 1) = true := perB_iff.2 ⟨k, by omega, hk, rfl, h⟩
      simp [perC, this]
    · rw [if_neg e, perL_get hr]
      congr 1
      exact perC_congr (perB_congr fun i _ h2 _ => by
        constructor
        · intro h3
          rcases Nat.lt_or_ge i k with h4 | h4
          · exact h4
          · exact absurd (by rw [show i = k from by omega] at h2; exact h2) e
        · omega)
  · rw [List.getElem?_eq_none (by rw [perL_len]; omega), List.getElem?_eq_none (by rw [List.length_set, perL_len]; omega)]
theorem perL_good {l : List UInt8} {p k : Nat} (h : l[k]? = l[k % p]?) : perL l p (k + 1) = perL l p k := by
  unfold perL
  apply List.map_congr_left
  intro r _
  exact perC_congr (perB_congr fun i _ h2 h3 => by
    constructor
    · intro h4
      rcases Nat.lt_or_ge i k with h5 | h5
      · exact h5
      · exact absurd (by rw [show i = k from by omega] at h2 ⊢; rw [← h2]; exact h) h3
    · omega)
theorem perL_zero (l : List UInt8) (p : Nat) (h : p ≤ l.length) : perL l p 0 = l.take p := by
  apply List.ext_getElem?
  intro r
  by_cases hr : r < p
  · rw [perL_get hr, List.getElem?_take, if_pos hr, List.getElem?_eq_getElem (by omega)]
    have : perB l p r 0 = false := by simp [perB]
    simp [perC, this, List.getD, List.getElem?_eq_getElem (show r < l.length by omega)]
  · rw [List.getElem?_eq_none (by rw [perL_len]; omega), List.getElem?_take, if_neg hr]

/-- the inner loop of the reference: one place further -/
theorem perB_next {l : List UInt8} {p r i : Nat} (hp : 0 < p) (hi : i % p = r) (hl : i < l.length) : perB l p r (i + p) = (perB l p r i || !(l[i]? == l[r]?)) := by
  rw [Bool.eq_iff_iff, Bool.or_eq_true, perB_iff, perB_iff]
  constructor
  · rintro ⟨j, h1, h2, h3, h4⟩
    rcases Nat.lt_or_ge j i with h5 | h5
    · exact Or.inl ⟨j, h5, h2, h3, h4⟩
    · have hji : j = i := by
        have e1 : (j - i) % p = 0 := by
          have : j % p = i % p := by rw [h3, hi]
          have h6 := Nat.sub_mod_eq_zero_of_mod_eq this
          exact h6
        have : j - i < p := by omega
        rw [Nat.mod_eq_of_lt this] at e1
        omega
      subst hji
      exact Or.inr (by simpa using h4)
  · rintro (⟨j, h1, h2, h3, h4⟩ | h)
    · exact ⟨j, by omega, h2, h3, h4⟩
    · exact ⟨i, by omega, hl, hi, by simpa using h⟩
theorem perB_end {l : List UInt8} {p r i : Nat} (h : l.length ≤ i) : perB l p r i = perB l p r l.length := perB_congr fun j hj _ _ => by omega
theorem perB_start {l : List UInt8} {p r : Nat} (hp : 0 < p) (hr : r < p) : perB l p r r = false := by
  rw [Bool.eq_false_iff]
  intro h
  obtain ⟨i, h1, _, h3, _⟩ := perB_iff.1 h
  rw [Nat.mod_eq_of_lt (by omega)] at h3
  omega

/-- '[]byte(s)': a row of the call's own -/
theorem bytes_of {P : Program} (w : World) (src dst e : TypeId) (l : List UInt8) (n : Nat) (hn : l.length = n) (hs : P.underlying src = some .string) (hd : P.underlying dst = some (.slice e)) (he : P.underlying e = some (.int .u8)) :
    ∃ c w1, (convert src dst (.string ⟨l.toArray⟩)).run P w = .ok (.slice (some ⟨w.heap.size, 0, none⟩) n c) w1 ∧ RowAt w1 w.heap.size (bvs l) ∧ Below w.heap.size w w1 ∧ n ≤ c := by
  refine ⟨_, _, by rw [run_bytes_of_string w src dst e ⟨l.toArray⟩ hs hd he]; simp only [ByteArray.size, List.size_toArray, hn]; rfl, ⟨by simp, fun j u hu => ?_⟩, ((Below.refl _ _).drew).alloc (Nat.le_refl _) _, ?_⟩
  · have hj : j < l.length := by have := (List.getElem?_eq_some_iff.1 hu).1; simpa [bvs] using this
    have hsz : w.drew.heap.size = w.heap.size := rfl
    have hcell := cell_of_row (w.drew.alloc (.cells (bytesRow ⟨l.toArray⟩ (grownCap w n 0 e)) e ((bytesRow ⟨l.toArray⟩ (grownCap w n 0 e)).size, (bytesRow ⟨l.toArray⟩ (grownCap w n 0 e)).size + 1))) w.heap.size j _ e _ (heap_alloc_new w.drew _)
    have hbig : j < (bytesRow ⟨l.toArray⟩ (grownCap w n 0 e)).size := by simp [bytesRow]; omega
    constructor
    · refine hcell.trans ?_
      have hu2 : u = .int .u8 (l[j].toNat : Nat) := by
        simp [bvs, hj] at hu
        exact hu.symm
      rw [hu2]
      simp only [bytesRow]
      rw [Array.getElem?_append_left (by simpa using hj)]
      simp [hj]
    · simp only [World.frozen?, heap_alloc_new w.drew, ← hsz]
      simp; omega
  · exact grownCap_ge w n 0 e

theorem head63 {l : List UInt8} {k : Nat} (h : k < l.length) : (l[k]? == some 63) = ((l[k].toNat : Int) == 63) := by
  rw [List.getElem?_eq_getElem h, Bool.eq_iff_iff]
  simp only [beq_iff_eq, Option.some.injEq]
  constructor
  · intro h1; rw [h1]; rfl
  · intro h1; exact UInt8.toNat_inj.1 (by rw [show (63 : UInt8).toNat = 63 from rfl]; omega)
theorem get_ne {l : List UInt8} {i j : Nat} (hi : i < l.length) (hj : j < l.length) (h : ((l[i].toNat : Int) != (l[j].toNat : Int)) = true) : l[i]? ≠ l[j]? := by
  rw [List.getElem?_eq_getElem hi, List.getElem?_eq_getElem hj]
  intro e
  injection e with e
  rw [e] at h; simp at h
theorem get_eq {l : List UInt8} {i j : Nat} (hi : i < l.length) (hj : j < l.length) (h : ((l[i].toNat : Int) != (l[j].toNat : Int)) = false) : l[i]? = l[j]? := by
  rw [List.getElem?_eq_getElem hi, List.getElem?_eq_getElem hj]
  congr 1
  apply UInt8.toNat_inj.1
  simp at h; omega

set_option maxHeartbeats 1000000 in
theorem iPer_any (l : List UInt8) (hl : l.length ≤ 9223372036854775807) (p : Int) (w : World) : Calls Tryd.prog 27 #[.string ⟨l.toArray⟩, .int .i64 p] w fun e w' => e = .returned (.string ⟨(perPart l p).toArray⟩) ∧ Below w.heap.size w w' := by
  cases h1 : isW l
  case false =>
    have HE := Lib.hid (show [] = perPart l p by simp [perPart, h1])
    go_enter Tryd.func27, Tryd.ntmps27
    go_wp2_with (first | (go_at_call 31; refine (isWord_any l hl _).mono ?_; rintro e w' ⟨rfl, rfl⟩) | (go_at_call 29; refine (within_any _ _ _ _).mono ?_; rintro e w' ⟨rfl, rfl⟩))
    go_ret
    exact ⟨ret_str HE.out, Below.refl _ _⟩
  case true =>
  cases h2 : wi p 2 16
  case false =>
    have HE := Lib.hid (show [] = perPart l p by simp [perPart, h2])
    go_enter Tryd.func27, Tryd.ntmps27
    go_wp2_with (first | (go_at_call 31; refine (isWord_any l hl _).mono ?_; rintro e w' ⟨rfl, rfl⟩) | (go_at_call 29; refine (within_any _ _ _ _).mono ?_; rintro e w' ⟨rfl, rfl⟩))
    go_ret
    exact ⟨ret_str HE.out, Below.refl _ _⟩
  case true =>
  have hb := wi_yes h2
  obtain ⟨p, rfl⟩ := Int.eq_ofNat_of_zero_le (show 0 ≤ p by omega)
  by_cases h3 : p ≤ l.length
  case neg =>
    have HE := Lib.hid (show [] = perPart l p by simp [perPart]; omega)
    go_enter Tryd.func27, Tryd.ntmps27
    go_wp2_with (first | (go_at_call 31; refine (isWord_any l hl _).mono ?_; rintro e w' ⟨rfl, rfl⟩) | (go_at_call 29; refine (within_any _ _ _ _).mono ?_; rintro e w' ⟨rfl, rfl⟩))
    go_ret
    exact ⟨ret_str HE.out, Below.refl _ _⟩
  case pos =>
  have HE := Lib.hid (show (if (perL l p l.length)[0]? == some 63 then [] else perL l p l.length) = perPart l p by simp [perPart, h1, h2, h3])
  have h4 := isW_len h1
  have HZ := Lib.hid (perL_zero l p h3)
  obtain ⟨c, w1, hconv, hrow, hbel, hcap⟩ := bytes_of (P := Tryd.prog) w 9 32 5 (l.take p) p (by rw [List.length_take]; omega) Tryd.underlying9 Tryd.underlying32 Tryd.underlying5
  rw [← HZ.out] at hrow
  have HROW := Lib.hid hrow
  clear hrow
  go_enter Tryd.func27, Tryd.ntmps27
  go_wp2_with (first | (go_at_call 31; refine (isWord_any l hl _).mono ?_; rintro e w' ⟨rfl, rfl⟩) | (go_at_call 29; refine (within_any _ _ _ _).mono ?_; rintro e w' ⟨rfl, rfl⟩))
  clear hconv
  go_loopw [27] (fun i wr => ∃ k : Nat, k ≤ l.length ∧ i = .int .i64 k ∧ RowAt wr w.heap.size (bvs (perL l p k)) ∧ Below w.heap.size w wr) (fun i _ => l.length - (intOf i).toNat)
  case atStart => exact ⟨0, Nat.zero_le _, rfl, HROW.out, hbel⟩
  case round =>
    obtain ⟨k, hk, rfl, hrow, hbr⟩ := hrel
    have HR := Lib.hid hrow
    clear hrow
    by_cases hlt : k < l.length
    · have hm : k % p < p := Nat.mod_lt _ (by omega)
      have hm2 : k % p < l.length := by omega
      have e3 : (0 : Int) ≤ (k : Int) % (p : Int) := Int.emod_nonneg _ (by omega)
      have e4 : ((k : Int) % (p : Int)).toNat = k % p := by rw [← Int.natCast_emod]; rfl
      have e6 : (k : Int) % (p : Int) < (l.length : Int) := by rw [← Int.natCast_emod]; omega
      have e1 : (k : Int).tmod (p : Int) = (k : Int) % (p : Int) := Int.tmod_eq_emod_of_nonneg (by omega)
      have e2 : IntKind.i64.wrap ((k : Int) % (p : Int)) = (k : Int) % (p : Int) := IntWalk.i64_in _ (by omega)
      have HPL := Lib.hid (perL_len l p k)
      obtain ⟨hcell, hfrz⟩ := HR.out.2 (k % p) _ (bvs_get? (l := perL l p k) (k := k % p) (by rw [HPL.out]; exact hm))
      obtain ⟨v0, hcell⟩ : ∃ v0, wr.cell? ⟨w.heap.size, k % p, none⟩ = some v0 := ⟨_, hcell⟩
      cases hne : ((l[k].toNat : Int) != (l[k % p].toNat : Int))
      · have HN := Lib.hid (perL_good (get_eq hlt hm2 hne))
        go_wp2
        go_quiet (fail)
        clear e1 e2
        go_wp2
        exact ⟨⟨k + 1, by omega, by go_num, by rw [HN.out]; exact HR.out.keep (below_drewN (Below.refl _ _) nq), below_drewN hbr nq⟩, by simp [intOf]; omega⟩
      · have HN := Lib.hid (perL_bad (show 0 < p by omega) hlt (get_ne hlt hm2 hne))
        go_wp2
        go_quiet (fail)
        clear e1 e2
        go_wp2
        refine ⟨⟨k + 1, by omega, by go_num, ?_, (below_drewN hbr nq).setCell (Nat.le_refl _) _⟩, by simp [intOf]; omega⟩
        rw [HN.out, ← bvs_set]
        exact (HR.out.keep (below_drewN (Below.refl _ _) nq)).store (k % p) (.int .u8 63)
    · have HK := Lib.hid (show k = l.length by omega)
      have HP := Lib.hid (perL_len l p k)
      have h0 : 0 < (perL l p k).length := by have := HP.out; omega
      obtain ⟨hcell, hfrz⟩ := HR.out.2 0 _ (bvs_get? h0)
      have hconv := conv_bytes (P := Tryd.prog) (c := c) 32 9 5 Tryd.underlying32 Tryd.underlying5 Tryd.underlying9 (HR.out.rd (n := p) (by rw [bvs_len, HP.out]))
      cases h63 : (((perL l p k)[0].toNat : Int) == 63)
      · have HF := Lib.hid (show perL l p k = perPart l p by rw [← HE.out, ← HK.out, head63 h0, h63]; rfl)
        go_wp2
        go_ret
        exact ⟨ret_str HF.out, hbr⟩
      · have HF := Lib.hid (show [] = perPart l p by rw [← HE.out, ← HK.out, head63 h0, h63]; rfl)
        go_wp2
        go_ret
        exact ⟨ret_str HF.out, hbr⟩

theorem perC_start {l : List UInt8} {p r : Nat} (hp : 0 < p) (hr : r < p) (hl : r < l.length) : perC l p r r = l[r] := by
  simp [perC, perB_start hp hr, List.getD, List.getElem?_eq_getElem hl]
theorem perC_ne {l : List UInt8} {p r i : Nat} (hp : 0 < p) (hi : i % p = r) (hl : i < l.length) (h : l[i]? ≠ l[r]?) : perC l p (i + p) r = 63 := by
  have : perB l p r (i + p) = true := by rw [perB_next hp hi hl]; simp [h]
  simp [perC, this]
theorem perC_eq {l : List UInt8} {p r i : Nat} (hp : 0 < p) (hi : i % p = r) (hl : i < l.length) (h : l[i]? = l[r]?) : perC l p (i + p) r = perC l p i r := by
  apply perC_congr
  rw [perB_next hp hi hl]; simp [h]
theorem perL_snoc (l : List UInt8) (p n : Nat) {k : Nat} (h : k < p) : (perL l p n).take (k + 1) = (perL l p n).take k ++ [perC l p n k] := by
  have hk : k < (perL l p n).length := by rw [perL_len]; exact h
  rw [take_snoc _ k hk]
  congr 2
  have := perL_get (l := l) (k := n) h
  rw [List.getElem?_eq_getElem hk] at this
  injection this


end Go.Proofs.YtfjehlmknbhghaaDoor
