/-
  Contracts of the laws' own helpers on slices of strings: sizes, copy, equality of equals, marks. No conditions beyond small lengths.
-/
import Derived.Test.YtdebdnglchkdaaaRowW
import Derived.Test.YtdebdnglchkdaaaBytes
import Derived.Deep.RegionHeld3
namespace Go.Proofs.Ytdebdnglchkdaaa
open Go.RowKit

theorem infoS : (Try.prog.info? 9).map (fun i => (i.zero, i.size, i.bytes)) = some (some (.string ⟨#[]⟩), 1, 16) := by kernel_rfl

/-- what a size test leaves: less than nothing, or all is small -/
def Sized (ss : List (List UInt8)) (left r : Int) : Prop := r < 0 ∨ (0 ≤ r ∧ r + (ss.length : Int) ≤ left ∧ (ss.length : Int) ≤ left ∧ ∀ s ∈ ss, (s.length : Int) ≤ left)

set_option maxHeartbeats 400000 in
theorem szStringS_any (A : Option Addr) (n c B : Nat) (ss : List (List UInt8)) (left : Int) (w : World) (hr : Rd w B A n (svs ss)) (hn : n ≤ 9223372036854775807) (hs : ∀ s ∈ ss, s.length ≤ 9223372036854775807) (h0 : 0 ≤ left) (h1 : left ≤ 1048576) :
    Calls Try.prog 33 #[.slice A n c, .int .i64 left] w fun e w' => ∃ r, e = .returned (.int .i64 r) ∧ Sized ss left r ∧ w = w' := by
  have hlen := Lib.hid hr.lenS
  have HR := Lib.hid hr
  have HS := Lib.hid hs
  clear hr hs
  by_cases hb : left - (n : Int) < 0
  · go_enter Try.func33, Try.ntmps33
    go_wp2
    go_ret
    exact ⟨_, rfl, Or.inl (by omega), rfl⟩
  · go_enter Try.func33, Try.ntmps33
    go_wp2
    go_loop [5, 1] (fun i m => ∃ (k : Nat) (r : Int), k ≤ n ∧ i = .int .i64 k ∧ m = .int .i64 r ∧ 0 ≤ r ∧ r + (n : Int) ≤ left ∧ ∀ s ∈ ss.take k, (s.length : Int) ≤ left) (fun i _ => n - (intOf i).toNat)
    case atStart => exact ⟨0, _, Nat.zero_le _, rfl, rfl, by omega, by omega, by simp⟩
    case round =>
      obtain ⟨k, r, hk, rfl, rfl, hr0, hr1, hall⟩ := hrel
      have HA := Lib.hid hall
      clear hall
      by_cases hlt : k < n
      · have hkl : k < ss.length := by rw [hlen.out]; exact hlt
        obtain ⟨a, rfl, hab, hcell⟩ := HR.out.str (k := k) hkl
        have hsl := HS.out _ (List.getElem_mem hkl)
        by_cases hneg : r - ((ss[k]).length : Int) < 0
        · go_wp2
          go_ret
          exact ⟨_, rfl, Or.inl (by omega), rfl⟩
        · go_wp2
          go_round
          case rel =>
            refine ⟨k + 1, r - ((ss[k]).length : Int), by omega, by go_num, rfl, by omega, by omega, ?_⟩
            intro s hs
            rw [take_snoc ss k hkl, List.mem_append] at hs
            rcases hs with hs | hs
            · exact HA.out s hs
            · simp at hs; subst hs; omega
          case measure => simp [intOf]; omega
      · go_wp2
        go_ret
        refine ⟨_, rfl, Or.inr ⟨hr0, by rw [hlen.out]; exact hr1, by rw [hlen.out]; omega, fun s hs => HA.out s ?_⟩, rfl⟩
        rwa [List.take_of_length_le (by rw [hlen.out]; omega)]

set_option maxHeartbeats 400000 in
theorem toStringS_any (A : Option Addr) (n c : Nat) (ss : List (List UInt8)) (w : World) (hr : Rd w w.heap.size A n (svs ss)) (hn : n ≤ 1048576) :
    Calls Try.prog 36 #[.slice A n c] w fun e w' => ∃ A', e = .returned (.slice A' n n) ∧ Own w w' 9 A' n n (svs ss) := by
  obtain ⟨i0, hi, hz0, hz1, hz2⟩ := info_parts infoS
  have hlen := Lib.hid hr.lenS
  have HR := Lib.hid hr
  clear hr
  go_enter Try.func36, Try.ntmps36
  go_wp2_with (at_make; refine wpList_make_full _ rfl _ _ 31 rfl w.heap.size 9 i0 (.string ⟨#[]⟩) 1 Try.underlying31 hi hz0 hz1 .i64 .i64 _ _ n rfl rfl rfl rfl (by rw [hz2]; omega) (by unfold maxLen; omega) (Nat.le_refl _) ?_; intro w1 hown1 hg1)
  have HO : Own w w1 9 (some ⟨w.heap.size, 0, none⟩) n n ((svs ss).take 0 ++ List.replicate (n - 0) (.string ⟨#[]⟩)) := by
    rw [Nat.mul_one, show (Value.string ⟨#[]⟩).cells = #[.string ⟨#[]⟩] from rfl, toList_madeCells_one] at hown1
    exact ⟨by simpa using hown1, (Below.refl _ _).grown hg1 (Nat.le_refl _) (fun k hk => by cases hk)⟩
  clear hown1 hg1 hi hz0 hz1 hz2
  go_loopw [4] (fun i wr => ∃ k : Nat, k ≤ n ∧ i = .int .i64 k ∧ Own w wr 9 (some ⟨w.heap.size, 0, none⟩) n n ((svs ss).take k ++ List.replicate (n - k) (.string ⟨#[]⟩))) (fun i _ => n - (intOf i).toNat)
  case atStart => exact ⟨0, Nat.zero_le _, rfl, HO⟩
  case round =>
    obtain ⟨k, hk, rfl, hown⟩ := hrel
    clear HO
    by_cases hlt : k < n
    · obtain ⟨a, rfl, hab, hcell⟩ := (HR.out.below hown.2).str (k := k) (by rw [hlen.out]; exact hlt)
      have hk2 : k < ((svs ss).take k ++ List.replicate (n - k) (Value.string ⟨#[]⟩)).length := by have := hown.len; omega
      have hst := hown.cellAt hk2
      have hfr := hown.frozenAt k
      have HN := Lib.hid (hown.store k (.string ⟨(ss[k]'(by rw [hlen.out]; exact hlt)).toArray⟩))
      obtain ⟨v0, hst⟩ : ∃ v0, wr.cell? ⟨w.heap.size, k, none⟩ = some v0 := ⟨_, hst⟩
      clear hown
      go_wp2
      refine ⟨⟨k + 1, by omega, by go_num, ?_⟩, by simp [intOf]; omega⟩
      have hs := set_fill (xs := svs ss) (n := n) (k := k) (.string ⟨#[]⟩) (by simpa [svs] using hlen.out) hlt
      rw [svs_get (by rw [hlen.out]; exact hlt)] at hs
      rw [← hs]; exact HN.out
    · obtain rfl : k = n := by omega
      go_wp2
      go_ret
      refine ⟨_, rfl, ?_⟩
      have h2 : (svs ss).length = k := by simpa [svs] using hlen.out
      simpa [List.take_of_length_le (Nat.le_of_eq h2)] using hown

/-- two slices that read alike are told equal -/
theorem eqStringS_same (A B : Option Addr) (n c d bA bB : Nat) (ss : List (List UInt8)) (w : World) (ha : Rd w bA A n (svs ss)) (hb : Rd w bB B n (svs ss)) (hA : bA ≤ w.heap.size) (hB : bB ≤ w.heap.size) (hn : n ≤ 1048576) :
    Calls Try.prog 39 #[.slice A n c, .slice B n d] w fun e w' => e = .returned (.bool true) ∧ Below w.heap.size w w' := by
  have hlen := Lib.hid ha.lenS
  have HA := Lib.hid (ha.more hA)
  have HB := Lib.hid (hb.more hB)
  clear ha hb
  go_enter Try.func39, Try.ntmps39
  go_wp2
  go_loopw [5] (fun i wr => ∃ k : Nat, k ≤ n ∧ i = .int .i64 k ∧ Below w.heap.size w wr) (fun i _ => n - (intOf i).toNat)
  case atStart => exact ⟨0, Nat.zero_le _, rfl, Below.refl _ _⟩
  case round =>
    obtain ⟨k, hk, rfl, hbel⟩ := hrel
    by_cases hlt : k < n
    · obtain ⟨a, rfl, hab, hca⟩ := (HA.out.below hbel).str (k := k) (by rw [hlen.out]; exact hlt)
      obtain ⟨b, rfl, hbb, hcb⟩ := (HB.out.below hbel).str (k := k) (by rw [hlen.out]; exact hlt)
      go_wp2
      go_quiet (fail)
      go_wp2
      exact ⟨⟨k + 1, by omega, by go_num, below_drewN hbel nq⟩, by simp [intOf]; omega⟩
    · go_wp2
      go_ret
      exact ⟨rfl, hbel⟩

/-! ## marks -/
/-- the digits of a number -/
def dgF : Nat → Nat → List UInt8
  | 0, _ => []
  | f + 1, k => if k = 0 then [] else dgF f (k / 10) ++ [UInt8.ofNat (48 + k % 10)]
def dg (k : Nat) : List UInt8 := dgF k k
def mt (k : Int) : List UInt8 := 109 :: dg k.toNat
theorem dgF_more : ∀ (f g k : Nat), k ≤ f → k ≤ g → dgF f k = dgF g k
  | 0, 0, _, _, _ => rfl
  | 0, g + 1, k, h, _ => by obtain rfl : k = 0 := by omega
                            simp [dgF]
  | f + 1, 0, k, _, h => by obtain rfl : k = 0 := by omega
                            simp [dgF]
  | f + 1, g + 1, k, h1, h2 => by
    simp only [dgF]
    split
    · rfl
    · rw [dgF_more f g (k / 10) (by omega) (by omega)]
theorem dg_step {k : Nat} (h : 0 < k) : dg k = dg (k / 10) ++ [UInt8.ofNat (48 + k % 10)] := by
  unfold dg
  obtain ⟨f, rfl⟩ : ∃ f, k = f + 1 := ⟨k - 1, by omega⟩
  simp only [dgF]
  rw [if_neg (by omega), dgF_more f ((f + 1) / 10) ((f + 1) / 10) (by omega) (by omega)]
theorem dg_len : ∀ k : Nat, (dg k).length ≤ k := by
  have h : ∀ f k, (dgF f k).length ≤ f := by
    intro f
    induction f with
    | zero => intro k; simp [dgF]
    | succ f ih =>
      intro k
      simp only [dgF]
      split
      · simp
      · have := ih (k / 10); simp; omega
  intro k; exact h k k
theorem dg_round {k j : Nat} {out : List UInt8} (hj : 0 < j) (h : dg k = dg j ++ out) : dg k = dg (j / 10) ++ (UInt8.ofNat (48 + j % 10) :: out) := by
  rw [h, dg_step hj, List.append_assoc]; rfl
theorem dg_nat (j : Nat) : ((UInt8.ofNat (48 + j % 10)).toNat : Int) = 48 + (j : Int) % 10 := by simp; omega

set_option maxHeartbeats 800000 in
theorem markText_any (k : Int) (h0 : 0 < k) (h1 : k ≤ 1073741824) (w : World) : Calls Try.prog 57 #[.int .i64 k] w fun e w' => e = .returned (.string ⟨(mt k).toArray⟩) ∧ Below w.heap.size w w' := by
  obtain ⟨k, rfl⟩ := Int.eq_ofNat_of_zero_le (show 0 ≤ k by omega)
  have hz : decide ((k : Int) ≤ 0) = false := by simp; omega
  have hz2 : decide (k ≤ 0) = false := by simp; omega
  go_enter Try.func57, Try.ntmps57
  go_wp2
  go_loopw [0, 3] (fun i out wr => ∃ (j : Nat) (o : List UInt8), j ≤ k ∧ i = .int .i64 j ∧ out = .string ⟨o.toArray⟩ ∧ dg k = dg j ++ o ∧ Below w.heap.size w wr) (fun i _ _ => (intOf i).toNat)
  case atStart => exact ⟨k, [], Nat.le_refl _, rfl, rfl, by simp, Below.refl _ _⟩
  case round =>
    obtain ⟨j, o, hj, rfl, rfl, hd, hb⟩ := hrel
    have HD := Lib.hid hd
    have ho : o.length ≤ k := by
      have h1 := dg_len k
      rw [hd] at h1
      simp at h1; omega
    clear hd
    by_cases hlt : 0 < j
    · obtain ⟨L, hL, hN⟩ : ∃ L : UInt8, (L.toNat : Int) = 48 + (j : Int) % 10 ∧ dg k = dg (j / 10) ++ (L :: o) := ⟨_, dg_nat j, dg_round hlt HD.out⟩
      have HN := Lib.hid hN
      have hcv := fun W => conv_u8 _ _ hL W
      have hconv := conv_bytes (P := Try.prog) (c := 1) (l := [L]) 52 9 5 Try.underlying52 Try.underlying5 Try.underlying9 (Rd.one wr (.int .u8 (L.toNat : Nat)) 5)
      clear hL hN
      go_wp2
      exact ⟨⟨j / 10, L :: o, by omega, by go_num, rfl, HN.out, hb.alloc hb.size _⟩, by simp [intOf]; omega⟩
    · have HE := Lib.hid (show 109 :: o = mt k by
        have := HD.out
        obtain rfl : j = 0 := by omega
        simp [mt, this]; rfl)
      go_wp2
      go_ret
      exact ⟨ret_str HE.out, hb⟩

def mtS (k : Int) (n : Nat) : List (List UInt8) := (List.range n).map fun i : Nat => mt (k + (i : Int))
theorem mtS_len (k : Int) (n : Nat) : (mtS k n).length = n := by simp [mtS]
theorem mtS_get (k : Int) {n i : Nat} (h : i < n) : (mtS k n)[i]'(by rw [mtS_len]; exact h) = mt (k + (i : Int)) := by simp [mtS]

set_option maxHeartbeats 800000 in
theorem markStringS_any (A : Option Addr) (n c : Nat) (xs : List Value) (k0 : Int) (w : World) (base : Nat) (e : TypeId) (hown : w.ownsRow base e 1 (.slice A n c) n xs) (hn : n ≤ 1048576) (hk0 : 0 < k0) (hk1 : k0 ≤ 536870912) :
    Calls Try.prog 40 #[.slice A n c, .int .i64 k0] w fun e' w' => e' = .returned (.int .i64 (k0 + n)) ∧ w'.ownsRow base e 1 (.slice A n c) n (svs (mtS k0 n)) ∧ w.grownBy w' (Value.slice A n c).ownBlock := by
  have HX := Lib.hid (show xs.length = n by simpa using hown.1)
  have HY := Lib.hid (show (svs (mtS k0 n)).length = n by simp [svs, mtS_len])
  have HO := Lib.hid hown
  clear hown
  go_enter Try.func40, Try.ntmps40
  go_wp2
  go_loopw [5, 1] (fun i m wr => ∃ k : Nat, k ≤ n ∧ i = .int .i64 k ∧ m = .int .i64 (k0 + k) ∧ wr.ownsRow base e 1 (.slice A n c) n ((svs (mtS k0 n)).take k ++ xs.drop k) ∧ w.grownBy wr (Value.slice A n c).ownBlock) (fun i _ _ => n - (intOf i).toNat)
  case atStart => exact ⟨0, Nat.zero_le _, rfl, by simp, by simpa using HO.out, World.grownBy.refl _ _⟩
  case round =>
    obtain ⟨k, hk, rfl, rfl, hown, hg⟩ := hrel
    by_cases hlt : k < n
    · obtain ⟨g, rfl⟩ := own_form hown (by omega)
      have HW := Lib.hid hown
      clear hown
      go_wp2_with fail
      refine (markText_any _ (by omega) (by omega) _).mono ?_
      rintro e w1 ⟨rfl, hb1⟩
      have hown := keep_row HW.out hb1
      have hlen := hown.1
      have hc0 := hown.cellAt k (by omega)
      rw [List.getElem?_eq_getElem (by omega)] at hc0
      obtain ⟨v0, hst⟩ : ∃ v0, w1.cell? ⟨g, k, none⟩ = some v0 := ⟨_, hc0⟩
      have hfr := hown.frozenAt k
      have HN := Lib.hid (hown.stored k (.string ⟨(mt (k0 + k)).toArray⟩))
      have HG := Lib.hid (World.grownBy.trans (World.grownBy.trans hg (grown_of_below hb1 (some g))) HN.out.2)
      clear hown hc0 hlen
      go_wp2
      refine ⟨⟨k + 1, by omega, by go_num, by go_num, ?_, HG.out⟩, by simp [intOf]; omega⟩
      have hs := set_over (xs := xs) (ys := svs (mtS k0 n)) HX.out HY.out hlt
      rw [svs_get (by rw [mtS_len]; exact hlt), mtS_get k0 hlt] at hs
      rw [← hs]; exact HN.out.1
    · obtain rfl : k = n := by omega
      go_wp2
      go_ret
      refine ⟨rfl, ?_, hg⟩
      rwa [List.take_of_length_le (by rw [HY.out]; omega), List.drop_of_length_le (by rw [HX.out]; omega), List.append_nil] at hown

end Go.Proofs.Ytdebdnglchkdaaa
