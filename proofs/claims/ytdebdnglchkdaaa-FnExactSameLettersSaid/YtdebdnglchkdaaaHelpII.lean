/-
  Contracts of the laws' own helpers on slices of slices of numbers: equality of equals, marks. No conditions beyond small lengths.
-/
import Derived.Test.YtdebdnglchkdaaaMemG
import Derived.Test.YtdebdnglchkdaaaHelpI
import Derived.Deep.RegionHeld3
namespace Go.Proofs.Ytdebdnglchkdaaa
open Go.RowKit

theorem below_drew1 (w : World) : Below w.heap.size w w.drew := (Below.refl _ _).drew

set_option maxHeartbeats 800000 in
theorem eqIntSS_same (A B : Option Addr) (n c d : Nat) (rs ts : List Row) (zss : List (List Int)) (w : World) (ha : RdG w A n rs) (hb : RdG w B n ts) (hr : rs.map Row.xs = zss.map ivs) (ht : ts.map Row.xs = zss.map ivs) (hn : n ≤ 1048576) (hz : ∀ z ∈ zss, z.length ≤ 1048576) :
    Calls Try.prog 32 #[.slice A n c, .slice B n d] w fun e w' => e = .returned (.bool true) ∧ Below w.heap.size w w' := by
  have hla := Lib.hid ha.len
  have hlb := Lib.hid hb.len
  have HA := Lib.hid ha
  have HB := Lib.hid hb
  have HR := Lib.hid hr
  have HT := Lib.hid ht
  have HZ := Lib.hid hz
  clear ha hb hr ht hz
  go_enter Try.func32, Try.ntmps32
  go_wp2
  go_loopw [5] (fun i wr => ∃ k : Nat, k ≤ n ∧ i = .int .i64 k ∧ Below w.heap.size w wr) (fun i _ => n - (intOf i).toNat)
  case atStart => exact ⟨0, Nat.zero_le _, rfl, Below.refl _ _⟩
  case round =>
    obtain ⟨k, hk, rfl, hbel⟩ := hrel
    by_cases hlt : k < n
    · have hka : k < rs.length := by rw [hla.out]; exact hlt
      have hkb : k < ts.length := by rw [hlb.out]; exact hlt
      have hra := HA.out.later hbel
      have hrb := HB.out.later hbel
      have ea := xs_at HR.out hka
      have eb := xs_at HT.out hkb
      have hi1 := hra.2 _ (List.getElem_mem hka)
      have hi2 := hrb.2 _ (List.getElem_mem hkb)
      rw [ea] at hi1
      rw [eb] at hi2
      have hzk : k < zss.length := by rw [← xs_len HR.out]; exact hka
      have hn2 : ts[k].n = rs[k].n := by have h1 := hi1.lenI; have h2 := hi2.lenI; omega
      have hzl : rs[k].n ≤ 1048576 := by have h1 := hi1.lenI; have h2 := HZ.out _ (List.getElem_mem hzk); omega
      obtain ⟨a, rfl, hab, hca⟩ := hra.cell hka
      obtain ⟨b, rfl, hbb, hcb⟩ := hrb.cell hkb
      obtain ⟨⟨e1, A1, m1, c1, x1⟩, hq1⟩ : ∃ r, r = rs[k] := ⟨_, rfl⟩
      obtain ⟨⟨e2, A2, m2, c2, x2⟩, hq2⟩ : ∃ r, r = ts[k] := ⟨_, rfl⟩
      rw [← hq1] at hca hi1 hn2 hzl
      rw [← hq2] at hcb hi2 hn2
      simp only at hca hcb hi1 hi2 hn2 hzl
      subst hn2
      have HI1 := Lib.hid hi1
      have HI2 := Lib.hid hi2
      have hab3 : a.block < wr.heap.size := hab
      have hbb3 : b.block < wr.heap.size := hbb
      have i1 : (0 : Int) ≤ (k : Int) := by omega
      have i2 : (k : Int) < (n : Int) := by omega
      clear hq1 hq2 hi1 hi2 ea eb hra hrb
      go_wp2_with fail
      go_region_held3 (fun w' => w'.cell? (a.add k) = some (.slice A1 m2 c1) ∧ w'.cell? (b.add k) = some (.slice A2 m2 c2)) (first | go_keep | exact ⟨(hb1.cell (by rw [add_block]; simpa using hab3)).trans (by simpa using hca), (hb1.cell (by rw [add_block]; simpa using hbb3)).trans (by simpa using hcb)⟩)
        (first | (go_at_call 54; refine (eqIntS_same _ _ _ _ _ _ _ _ _ (HI1.out.later (below_drew1 _)) (HI2.out.later (below_drew1 _)) (Nat.le_refl _) (Nat.le_refl _) hzl).mono ?_; rintro e w1 ⟨rfl, hb1⟩))
      go_wp2
      exact ⟨⟨k + 1, by omega, by go_num, hbel.drew.trans (hb1.mono hbel.size)⟩, by simp [intOf]; omega⟩
    · go_wp2
      go_ret
      exact ⟨rfl, hbel⟩

/-- the rows behind the marks: k, k + 1, .. through all of them -/
def markRs : Int → List Row → List Row
  | _, [] => []
  | k, r :: rs => { r with xs := ivs (mks k r.n) } :: markRs (k + r.n) rs
def totN (rs : List Row) : Nat := (rs.map Row.n).sum
theorem totN_take {rs : List Row} {k : Nat} (hk : k < rs.length) : totN (rs.take (k + 1)) = totN (rs.take k) + rs[k].n := by
  unfold totN; rw [take_snoc rs k hk, List.map_append, List.sum_append]; simp only [List.map_cons, List.map_nil, List.sum_cons, List.sum_nil, Nat.add_zero]
theorem totN_le (rs : List Row) (k : Nat) : totN (rs.take k) ≤ totN rs := by
  have h : totN rs = totN (rs.take k) + totN (rs.drop k) := by unfold totN; rw [← List.sum_append, ← List.map_append, List.take_append_drop]
  omega
theorem totN_cons (z : Int) (r : Row) (rs : List Row) (k : Nat) : z + (r.n : Int) + (totN (rs.take k) : Int) = z + (totN ((r :: rs).take (k + 1)) : Int) := by
  simp only [totN, List.take_succ_cons, List.map_cons, List.sum_cons]; omega
theorem markRs_vals : ∀ (k : Int) (rs : List Row), (markRs k rs).map SVal = rs.map SVal
  | _, [] => rfl
  | k, r :: rs => by simp only [markRs, List.map_cons, markRs_vals (k + r.n) rs]; rfl
theorem markRs_len : ∀ (k : Int) (rs : List Row), (markRs k rs).length = rs.length
  | _, [] => rfl
  | k, r :: rs => by simp [markRs, markRs_len (k + r.n) rs]
theorem markRs_n : ∀ (k : Int) (rs : List Row), (markRs k rs).map Row.n = rs.map Row.n
  | _, [] => rfl
  | k, r :: rs => by simp only [markRs, List.map_cons, markRs_n (k + r.n) rs]
theorem totN_mark (k : Int) (rs : List Row) : totN (markRs k rs) = totN rs := by unfold totN; rw [markRs_n]
theorem markRs_snoc : ∀ (z : Int) (rs : List Row) (k : Nat) (hk : k < rs.length), markRs z (rs.take (k + 1)) = markRs z (rs.take k) ++ [{ rs[k] with xs := ivs (mks (z + totN (rs.take k)) rs[k].n) }]
  | z, [], k, hk => by simp at hk
  | z, r :: rs, 0, _ => by simp [markRs, totN]
  | z, r :: rs, k + 1, hk => by
    have ih := markRs_snoc (z + r.n) rs k (by simpa using hk)
    rw [totN_cons] at ih
    rw [List.take_succ_cons, List.take_succ_cons, markRs, ih]
    rfl
theorem markRs_at : ∀ (z : Int) (rs : List Row) (k : Nat) (hk : k < rs.length), (markRs z rs)[k]'(by rw [markRs_len]; exact hk) = { rs[k] with xs := ivs (mks (z + totN (rs.take k)) rs[k].n) }
  | z, [], k, hk => by simp at hk
  | z, r :: rs, 0, _ => by simp [markRs, totN]
  | z, r :: rs, k + 1, hk => by
    have ih := markRs_at (z + r.n) rs k (by simpa using hk)
    rw [totN_cons] at ih
    simp only [markRs, List.getElem_cons_succ]
    exact ih

set_option maxHeartbeats 1600000 in
theorem markIntSS_any (w0 w : World) (st : TypeId) (A : Option Addr) (n c : Nat) (rs post : List Row) (k0 : Int) (hm : Mem w0 w (⟨st, A, n, c, rs.map SVal⟩ :: (rs ++ post))) (hn : n ≤ 1048576) (hk0 : 0 ≤ k0) (hk1 : k0 + totN rs ≤ 1048576) :
    Calls Try.prog 41 #[.slice A n c, .int .i64 k0] w fun e w' => e = .returned (.int .i64 (k0 + totN rs)) ∧ Mem w0 w' (⟨st, A, n, c, rs.map SVal⟩ :: (markRs k0 rs ++ post)) := by
  have HL := Lib.hid (show rs.length = n by have := hm.rd0.1; simpa using this)
  have HM := Lib.hid hm
  clear hm
  go_enter Try.func41, Try.ntmps41
  go_wp2
  go_loopw [5, 1] (fun i m wr => ∃ k : Nat, k ≤ n ∧ i = .int .i64 k ∧ m = .int .i64 (k0 + totN (rs.take k)) ∧ Mem w0 wr (⟨st, A, n, c, rs.map SVal⟩ :: (markRs k0 (rs.take k) ++ (rs.drop k ++ post)))) (fun i _ _ => n - (intOf i).toNat)
  case atStart => exact ⟨0, Nat.zero_le _, rfl, by simp [totN], by simpa [markRs] using HM.out⟩
  case round =>
    obtain ⟨k, hk, rfl, rfl, hmem⟩ := hrel
    by_cases hlt : k < n
    · have hka : k < rs.length := by rw [HL.out]; exact hlt
      have hto := totN_take hka
      have hle := totN_le rs (k + 1)
      have hg : RdG wr A n rs → True := fun _ => trivial
      obtain ⟨a, rfl, hab, hca⟩ := hmem.rd0.cell (k := k) (by simpa using hka)
      simp only [List.getElem_map, SVal] at hca
      rw [List.drop_eq_getElem_cons hka] at hmem
      have hrow := hmem.2.1 rs[k] (List.mem_cons_of_mem _ (List.mem_append_right _ (List.mem_append_left _ List.mem_cons_self)))
      have HMM := Lib.hid hmem
      have HS := Lib.hid (markRs_snoc k0 rs k hka)
      obtain ⟨r, hr⟩ : ∃ r, r = rs[k] := ⟨_, rfl⟩
      rw [← hr] at hca hrow hto HMM HS
      obtain ⟨e1, A1, m1, c1, x1⟩ := r
      simp only at hca hrow hto HS
      have HT := Lib.hid hto
      have HRow := Lib.hid hrow
      have b1 : (0 : Int) ≤ k0 + (totN (rs.take k) : Int) := by omega
      have b2 : k0 + (totN (rs.take k) : Int) + (m1 : Int) ≤ 1048576 := by omega
      clear hr hmem hrow hto hle hg
      go_wp2_with fail
      refine (markIntS_any _ _ _ _ _ _ _ _ HRow.out (by omega) (by omega) (by omega)).mono ?_
      rintro e w1 ⟨rfl, o1, g1⟩
      have HN := Lib.hid (Mem.mark (pre := ⟨st, some a, n, c, rs.map SVal⟩ :: markRs k0 (rs.take k)) (post := rs.drop (k + 1) ++ post) (by simpa using HMM.out) o1 (Nat.le_refl _) g1)
      clear o1 g1
      go_wp2
      exact ⟨⟨k + 1, by omega, by go_num, by rw [HT.out]; congr 1; omega, by rw [HS.out]; simpa using HN.out⟩, by simp [intOf]; omega⟩
    · obtain rfl : k = n := by omega
      have HK := Lib.hid (show rs.take k = rs from List.take_of_length_le (by rw [HL.out]; omega))
      have HD := Lib.hid (show rs.drop k = [] from List.drop_of_length_le (by rw [HL.out]; omega))
      go_wp2
      go_ret
      exact ⟨ret_int (by rw [HK.out]), by have h := hmem; rw [HK.out, HD.out] at h; simpa using h⟩

set_option maxHeartbeats 800000 in
theorem heldIntSS_any (A : Option Addr) (n c : Nat) (rs : List Row) (k0 : Int) (w : World) (hr : RdG w A n (markRs k0 rs)) (hn : n ≤ 1048576) (hk0 : 0 ≤ k0) (hk1 : k0 + totN rs ≤ 1048576) :
    Calls Try.prog 42 #[.slice A n c, .int .i64 k0] w fun e w' => e = .returned (.int .i64 (k0 + totN rs)) ∧ w = w' := by
  have HL := Lib.hid (show rs.length = n by have := hr.len; rwa [markRs_len] at this)
  have HR := Lib.hid hr
  clear hr
  go_enter Try.func42, Try.ntmps42
  go_wp2
  go_loop [5, 1] (fun i m => ∃ k : Nat, k ≤ n ∧ i = .int .i64 k ∧ m = .int .i64 (k0 + totN (rs.take k))) (fun i _ => n - (intOf i).toNat)
  case atStart => exact ⟨0, Nat.zero_le _, rfl, by simp [totN]⟩
  case round =>
    obtain ⟨k, hk, rfl, rfl⟩ := hrel
    by_cases hlt : k < n
    · have hka : k < rs.length := by rw [HL.out]; exact hlt
      have hka2 : k < (markRs k0 rs).length := by rw [markRs_len]; exact hka
      have hto := totN_take hka
      have hle := totN_le rs (k + 1)
      obtain ⟨a, rfl, hab, hca⟩ := HR.out.cell hka2
      have hin := HR.out.2 _ (List.getElem_mem hka2)
      rw [markRs_at k0 rs k hka] at hca hin
      obtain ⟨r, hr⟩ : ∃ r, r = rs[k] := ⟨_, rfl⟩
      rw [← hr] at hca hin hto
      obtain ⟨e1, A1, m1, c1, x1⟩ := r
      simp only at hca hin hto
      have HT := Lib.hid hto
      have HIn := Lib.hid hin
      have b1 : (0 : Int) ≤ k0 + (totN (rs.take k) : Int) := by omega
      have b2 : k0 + (totN (rs.take k) : Int) + (m1 : Int) ≤ 1048576 := by omega
      have b3 : ¬ k0 + (totN (rs.take k) : Int) + (m1 : Int) < 0 := by omega
      clear hr hin hto hle
      go_wp2_with (go_at_call 59; refine (heldIntS_any _ _ _ _ _ _ HIn.out (by omega) (by omega) (by omega)).mono ?_; rintro e w1 ⟨rfl, rfl⟩)
      go_round
      case rel => exact ⟨k + 1, by omega, by go_num, by rw [HT.out]; congr 1; omega⟩
      case measure => simp [intOf]; omega
    · obtain rfl : k = n := by omega
      have HK := Lib.hid (show rs.take k = rs from List.take_of_length_le (by rw [HL.out]; omega))
      go_wp2
      go_ret
      exact ⟨ret_int (by rw [HK.out]), rfl⟩
end Go.Proofs.Ytdebdnglchkdaaa
