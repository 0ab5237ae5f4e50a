/-
  Contracts of runLetters, RunWord, InnerRunWord (program and reference), and the walks of their laws. No conditions.
-/
import Derived.Test.YtdnfkhfhhffaeaaSRuns
import Derived.Test.YtdnfkhfhhffaeaaBytes
namespace Go.Proofs.Ytdnfkhfhhffaeaa
open Go.RowKit

/-- a letter for a run -/
def runLet (z : Int) : UInt8 := UInt8.ofNat (96 + z).toNat
def runOk (z : Int) : Bool := decide (z ≤ 2)
def runW (zs : List Int) : List UInt8 × Bool := if zs.all runOk then (zs.map runLet, true) else ([], false)
def Small (zs : List Int) : Prop := ∀ z ∈ zs, 1 ≤ z ∧ z ≤ 400
theorem runLet_nat {z : Int} (h1 : 1 ≤ z) (h2 : z ≤ 2) : ((runLet z).toNat : Int) = 97 + z - 1 := by
  unfold runLet; simp; omega
theorem map_snoc (zs : List Int) {k : Nat} (h : k < zs.length) : (zs.map runLet).take (k + 1) = (zs.map runLet).take k ++ [runLet zs[k]] := by
  rw [take_snoc _ k (by simpa using h)]; simp

set_option maxHeartbeats 1000000 in
theorem irunLetters_any (A : Option Addr) (n c B : Nat) (zs : List Int) (w : World) (hr : Rd w B A n (ivs zs)) (hB : B ≤ w.heap.size) (hn : n ≤ 400) (hs : Small zs) :
    Calls Try.prog 31 #[.slice A n c] w fun e w' => e = .returned (.tuple #[.string ⟨(runW zs).1.toArray⟩, .bool (runW zs).2]) ∧ Below w.heap.size w w' := by
  have hlen := Lib.hid hr.lenI
  have HR := Lib.hid (hr.more hB)
  have HS := Lib.hid hs
  clear hr hs
  go_enter Try.func31, Try.ntmps31
  go_wp2
  go_loopw [10, 4] (fun i out wr => ∃ (k : Nat) (A' : Option Addr) (c' : Nat), k ≤ n ∧ i = .int .i64 k ∧ out = .slice A' k c' ∧ Own w wr 5 A' k c' (bvs ((zs.map runLet).take k)) ∧ (zs.take k).all runOk = true) (fun i _ _ => n - (intOf i).toNat)
  case atStart => exact ⟨0, _, _, Nat.zero_le _, rfl, rfl, Own.made0 (Below.refl _ _) _, rfl⟩
  case round =>
    obtain ⟨k, A', c', hk, rfl, rfl, hown, ha⟩ := hrel
    have HA := Lib.hid ha
    clear ha
    by_cases hlt : k < n
    · have hkl : k < zs.length := by rw [hlen.out]; exact hlt
      obtain ⟨a, rfl, hab, hcell⟩ := (HR.out.below hown.2).int (k := k) hkl
      have hb := HS.out _ (List.getElem_mem hkl)
      by_cases h2 : zs[k] ≤ 2
      · have HN := Lib.hid (all_snoc (p := runOk) hkl HA.out (by simpa [runOk] using h2))
        have HM := Lib.hid (map_snoc zs hkl)
        have hcv := fun W => conv_u8 _ _ (runLet_nat hb.1 h2) W
        go_wp2_with (at_builtin; refine app_one (.tmp 16) (.tmp 21) _ _ _ 1 rfl rfl Try.underlying35 infoB rfl rfl hown rfl rfl (by omega) (by omega) ?_; intro A2 c2 w1 hown1)
        exact ⟨⟨k + 1, A2, c2, by omega, by go_num, rfl, by rw [HM.out, bvs_snoc]; exact hown1, HN.out⟩, by simp [intOf]; omega⟩
      · have HE := Lib.hid (show ([], false) = runW zs by simp [runW, all_bad (p := runOk) hkl (by simpa [runOk] using h2)])
        go_wp2
        go_ret2
        exact ⟨ret_sb HE.out, hown.2⟩
    · have HE := Lib.hid (show ((zs.map runLet).take k, true) = runW zs by
        have hk2 : ¬ k < zs.length := by rw [hlen.out]; exact hlt
        have hall := all_done hk2 HA.out
        have e2 : (zs.map runLet).take k = zs.map runLet := List.take_of_length_le (by rw [List.length_map]; omega)
        rw [e2]; simp [runW, hall])
      have hconv := conv_bytes (P := Try.prog) 35 9 5 Try.underlying35 Try.underlying5 Try.underlying9 hown.rd (c := c')
      go_wp2
      go_ret2
      exact ⟨ret_sb HE.out, hown.2⟩
set_option maxHeartbeats 1000000 in
theorem sl24Word_any (A : Option Addr) (n c B : Nat) (zs : List Int) (w : World) (hr : Rd w B A n (ivs zs)) (hB : B ≤ w.heap.size) (hn : n ≤ 400) (hs : Small zs) :
    Calls Try.prog 28 #[.slice A n c] w fun e w' => e = .returned (.tuple #[.string ⟨(runW zs).1.toArray⟩, .bool (runW zs).2]) ∧ Below w.heap.size w w' := by
  have hlen := Lib.hid hr.lenI
  have HR := Lib.hid (hr.more hB)
  have HS := Lib.hid hs
  clear hr hs
  go_enter Try.func28, Try.ntmps28
  go_wp2
  go_loopw [10, 4] (fun i out wr => ∃ (k : Nat) (A' : Option Addr) (c' : Nat), k ≤ n ∧ i = .int .i64 k ∧ out = .slice A' k c' ∧ Own w wr 5 A' k c' (bvs ((zs.map runLet).take k)) ∧ (zs.take k).all runOk = true) (fun i _ _ => n - (intOf i).toNat)
  case atStart => exact ⟨0, _, _, Nat.zero_le _, rfl, rfl, Own.made0 (Below.refl _ _) _, rfl⟩
  case round =>
    obtain ⟨k, A', c', hk, rfl, rfl, hown, ha⟩ := hrel
    have HA := Lib.hid ha
    clear ha
    by_cases hlt : k < n
    · have hkl : k < zs.length := by rw [hlen.out]; exact hlt
      obtain ⟨a, rfl, hab, hcell⟩ := (HR.out.below hown.2).int (k := k) hkl
      have hb := HS.out _ (List.getElem_mem hkl)
      by_cases h2 : zs[k] ≤ 2
      · have HN := Lib.hid (all_snoc (p := runOk) hkl HA.out (by simpa [runOk] using h2))
        have HM := Lib.hid (map_snoc zs hkl)
        have hcv := fun W => conv_u8 _ _ (runLet_nat hb.1 h2) W
        go_wp2_with (at_builtin; refine app_one (.tmp 16) (.tmp 21) _ _ _ 1 rfl rfl Try.underlying35 infoB rfl rfl hown rfl rfl (by omega) (by omega) ?_; intro A2 c2 w1 hown1)
        exact ⟨⟨k + 1, A2, c2, by omega, by go_num, rfl, by rw [HM.out, bvs_snoc]; exact hown1, HN.out⟩, by simp [intOf]; omega⟩
      · have HE := Lib.hid (show ([], false) = runW zs by simp [runW, all_bad (p := runOk) hkl (by simpa [runOk] using h2)])
        go_wp2
        go_ret2
        exact ⟨ret_sb HE.out, hown.2⟩
    · have HE := Lib.hid (show ((zs.map runLet).take k, true) = runW zs by
        have hk2 : ¬ k < zs.length := by rw [hlen.out]; exact hlt
        have hall := all_done hk2 HA.out
        have e2 : (zs.map runLet).take k = zs.map runLet := List.take_of_length_le (by rw [List.length_map]; omega)
        rw [e2]; simp [runW, hall])
      have hconv := conv_bytes (P := Try.prog) 35 9 5 Try.underlying35 Try.underlying5 Try.underlying9 hown.rd (c := c')
      go_wp2
      go_ret2
      exact ⟨ret_sb HE.out, hown.2⟩
end Go.Proofs.Ytdnfkhfhhffaeaa
