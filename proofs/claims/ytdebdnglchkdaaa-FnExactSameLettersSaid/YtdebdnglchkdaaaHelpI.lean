/-
  Contracts of the laws' own helpers on slices of ints: copy, equality of equals, marks. No conditions beyond small lengths.
-/
import Derived.Test.YtdebdnglchkdaaaRowW
namespace Go.Proofs.Ytdebdnglchkdaaa
open Go.RowKit

theorem infoI : (Try.prog.info? 3).map (fun i => (i.zero, i.size, i.bytes)) = some (some (.int .i64 0), 1, 8) := by kernel_rfl

set_option maxHeartbeats 400000 in
theorem toIntS_any (A : Option Addr) (n c : Nat) (zs : List Int) (w : World) (hr : Rd w w.heap.size A n (ivs zs)) (hn : n ≤ 1048576) :
    Calls Try.prog 51 #[.slice A n c] w fun e w' => ∃ A', e = .returned (.slice A' n n) ∧ Own w w' 3 A' n n (ivs zs) := by
  obtain ⟨i0, hi, hz0, hz1, hz2⟩ := info_parts infoI
  have hlen := Lib.hid hr.lenI
  have HR := Lib.hid hr
  clear hr
  go_enter Try.func51, Try.ntmps51
  go_wp2_with (at_make; refine wpList_make_full _ rfl _ _ 58 rfl w.heap.size 3 i0 (.int .i64 0) 1 Try.underlying58 hi hz0 hz1 .i64 .i64 _ _ n rfl rfl rfl rfl (by rw [hz2]; omega) (by unfold maxLen; omega) (Nat.le_refl _) ?_; intro w1 hown1 hg1)
  have HO : Own w w1 3 (some ⟨w.heap.size, 0, none⟩) n n ((ivs zs).take 0 ++ List.replicate (n - 0) (.int .i64 0)) := by
    rw [Nat.mul_one, show (Value.int .i64 0).cells = #[.int .i64 0] from rfl, toList_madeCells_one] at hown1
    exact ⟨by simpa using hown1, (Below.refl _ _).grown hg1 (Nat.le_refl _) (fun k hk => by cases hk)⟩
  clear hown1 hg1 hi hz0 hz1 hz2
  go_loopw [4] (fun i wr => ∃ k : Nat, k ≤ n ∧ i = .int .i64 k ∧ Own w wr 3 (some ⟨w.heap.size, 0, none⟩) n n ((ivs zs).take k ++ List.replicate (n - k) (.int .i64 0))) (fun i _ => n - (intOf i).toNat)
  case atStart => exact ⟨0, Nat.zero_le _, rfl, HO⟩
  case round =>
    obtain ⟨k, hk, rfl, hown⟩ := hrel
    clear HO
    by_cases hlt : k < n
    · obtain ⟨a, rfl, hab, hcell⟩ := (HR.out.below hown.2).int (k := k) (by rw [hlen.out]; exact hlt)
      have hk2 : k < ((ivs zs).take k ++ List.replicate (n - k) (Value.int .i64 0)).length := by have := hown.len; omega
      have hst := hown.cellAt hk2
      have hfr := hown.frozenAt k
      have HN := Lib.hid (hown.store k (.int .i64 (zs[k]'(by rw [hlen.out]; exact hlt))))
      obtain ⟨v0, hst⟩ : ∃ v0, wr.cell? ⟨w.heap.size, k, none⟩ = some v0 := ⟨_, hst⟩
      clear hown
      go_wp2
      refine ⟨⟨k + 1, by omega, by go_num, ?_⟩, by simp [intOf]; omega⟩
      have hs := set_fill (xs := ivs zs) (n := n) (k := k) (.int .i64 0) (by simpa [ivs] using hlen.out) hlt
      rw [ivs_get (by rw [hlen.out]; exact hlt)] at hs
      rw [← hs]; exact HN.out
    · obtain rfl : k = n := by omega
      go_wp2
      go_ret
      refine ⟨_, rfl, ?_⟩
      have h2 : (ivs zs).length = k := by simpa [ivs] using hlen.out
      simpa [List.take_of_length_le (Nat.le_of_eq h2)] using hown

/-- two slices that read alike are told equal -/
theorem eqIntS_same (A B : Option Addr) (n c d bA bB : Nat) (zs : List Int) (w : World) (ha : Rd w bA A n (ivs zs)) (hb : Rd w bB B n (ivs zs)) (hA : bA ≤ w.heap.size) (hB : bB ≤ w.heap.size) (hn : n ≤ 1048576) :
    Calls Try.prog 54 #[.slice A n c, .slice B n d] w fun e w' => e = .returned (.bool true) ∧ Below w.heap.size w w' := by
  have hlen := Lib.hid ha.lenI
  have HA := Lib.hid (ha.more hA)
  have HB := Lib.hid (hb.more hB)
  clear ha hb
  go_enter Try.func54, Try.ntmps54
  go_wp2
  go_loopw [5] (fun i wr => ∃ k : Nat, k ≤ n ∧ i = .int .i64 k ∧ Below w.heap.size w wr) (fun i _ => n - (intOf i).toNat)
  case atStart => exact ⟨0, Nat.zero_le _, rfl, Below.refl _ _⟩
  case round =>
    obtain ⟨k, hk, rfl, hbel⟩ := hrel
    by_cases hlt : k < n
    · obtain ⟨a, rfl, hab, hca⟩ := (HA.out.below hbel).int (k := k) (by rw [hlen.out]; exact hlt)
      obtain ⟨b, rfl, hbb, hcb⟩ := (HB.out.below hbel).int (k := k) (by rw [hlen.out]; exact hlt)
      go_wp2
      go_quiet (fail)
      go_wp2
      exact ⟨⟨k + 1, by omega, by go_num, below_drewN hbel nq⟩, by simp [intOf]; omega⟩
    · go_wp2
      go_ret
      exact ⟨rfl, hbel⟩

/-- the marks: k, k + 1, .. -/
def mks (k : Int) (n : Nat) : List Int := (List.range n).map fun i : Nat => k + (i : Int)
theorem mks_len (k : Int) (n : Nat) : (mks k n).length = n := by simp [mks]
theorem mks_get (k : Int) {n i : Nat} (h : i < n) : (mks k n)[i]'(by rw [mks_len]; exact h) = k + (i : Int) := by simp [mks]

set_option maxHeartbeats 400000 in
theorem markIntS_any (A : Option Addr) (n c : Nat) (xs : List Value) (k0 : Int) (w : World) (base : Nat) (e : TypeId) (hown : w.ownsRow base e 1 (.slice A n c) n xs) (hn : n ≤ 1048576) (hk0 : 0 ≤ k0) (hk1 : k0 ≤ 1073741824) :
    Calls Try.prog 58 #[.slice A n c, .int .i64 k0] w fun e' w' => e' = .returned (.int .i64 (k0 + n)) ∧ w'.ownsRow base e 1 (.slice A n c) n (ivs (mks k0 n)) ∧ w.grownBy w' (Value.slice A n c).ownBlock := by
  have HX := Lib.hid (show xs.length = n by simpa using hown.1)
  have HY := Lib.hid (show (ivs (mks k0 n)).length = n by simp [ivs, mks_len])
  have HO := Lib.hid hown
  clear hown
  go_enter Try.func58, Try.ntmps58
  go_wp2
  go_loopw [5, 1] (fun i m wr => ∃ k : Nat, k ≤ n ∧ i = .int .i64 k ∧ m = .int .i64 (k0 + k) ∧ wr.ownsRow base e 1 (.slice A n c) n ((ivs (mks k0 n)).take k ++ xs.drop k) ∧ w.grownBy wr (Value.slice A n c).ownBlock) (fun i _ _ => n - (intOf i).toNat)
  case atStart => exact ⟨0, Nat.zero_le _, rfl, by simp, by simpa using HO.out, World.grownBy.refl _ _⟩
  case round =>
    obtain ⟨k, hk, rfl, rfl, hown, hg⟩ := hrel
    by_cases hlt : k < n
    · obtain ⟨g, rfl⟩ := own_form hown (by omega)
      have hlen := hown.1
      have hc0 := hown.cellAt k (by omega)
      rw [List.getElem?_eq_getElem (by omega)] at hc0
      obtain ⟨v0, hst⟩ : ∃ v0, wr.cell? ⟨g, k, none⟩ = some v0 := ⟨_, hc0⟩
      have hfr := hown.frozenAt k
      have HN := Lib.hid (hown.stored k (.int .i64 (k0 + k)))
      clear hown hc0 hlen
      go_wp2
      refine ⟨⟨k + 1, by omega, by go_num, by go_num, ?_, ?_⟩, by simp [intOf]; omega⟩
      · have hs := set_over (xs := xs) (ys := ivs (mks k0 n)) HX.out HY.out hlt
        rw [ivs_get (by rw [mks_len]; exact hlt), mks_get k0 hlt] at hs
        rw [← hs]; exact HN.out.1
      · exact World.grownBy.trans hg HN.out.2
    · obtain rfl : k = n := by omega
      go_wp2
      go_ret
      refine ⟨rfl, ?_, hg⟩
      rwa [List.take_of_length_le (by rw [HY.out]; omega), List.drop_of_length_le (by rw [HX.out]; omega), List.append_nil] at hown

set_option maxHeartbeats 400000 in
theorem heldIntS_any (A : Option Addr) (n c B : Nat) (k0 : Int) (w : World) (hr : Rd w B A n (ivs (mks k0 n))) (hn : n ≤ 1048576) (hk0 : 0 ≤ k0) (hk1 : k0 ≤ 1073741824) :
    Calls Try.prog 59 #[.slice A n c, .int .i64 k0] w fun e w' => e = .returned (.int .i64 (k0 + n)) ∧ w = w' := by
  have HR := Lib.hid hr
  clear hr
  go_enter Try.func59, Try.ntmps59
  go_wp2
  go_loop [5, 1] (fun i m => ∃ k : Nat, k ≤ n ∧ i = .int .i64 k ∧ m = .int .i64 (k0 + k)) (fun i _ => n - (intOf i).toNat)
  case atStart => exact ⟨0, Nat.zero_le _, rfl, by simp⟩
  case round =>
    obtain ⟨k, hk, rfl, rfl⟩ := hrel
    by_cases hlt : k < n
    · obtain ⟨a, rfl, hab, hcell⟩ := HR.out.int (k := k) (by rw [mks_len]; exact hlt)
      rw [mks_get k0 hlt] at hcell
      go_wp2
      go_round
      case rel => exact ⟨k + 1, by omega, by go_num, by go_num⟩
      case measure => simp [intOf]; omega
    · obtain rfl : k = n := by omega
      go_wp2
      go_ret
      exact ⟨rfl, rfl⟩
end Go.Proofs.Ytdebdnglchkdaaa
