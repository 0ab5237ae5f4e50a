/-
  Contracts of ClassWord (program and reference), and the walk of the law on them. No conditions.
-/
import Derived.Test.YtkgokjekifmlfaaCCls
import Derived.Test.YtkgokjekifmlfaaBytes
namespace Go.Proofs.Ytkgokjekifmlfaa
open Go.RowKit

def clsLetter (b i : Nat) : UInt8 := UInt8.ofNat (97 + cls b i)
def classW (b n : Nat) : List UInt8 := (List.range n).map (clsLetter b)
theorem clsLetter_nat {b i : Nat} (hb : 2 ≤ b) (hb2 : b ≤ 4) : ((clsLetter b i).toNat : Int) = 97 + (cls b i : Nat) := by
  have := cls_lt hb i
  simp [clsLetter]; omega
theorem classW_snoc (b n : Nat) : classW b (n + 1) = classW b n ++ [clsLetter b n] := by simp [classW, List.range_succ]
def classWord (b n : Int) : List UInt8 × Bool := if wi b 2 4 && wi n 0 400 then (classW b.toNat n.toNat, true) else ([], false)

set_option maxHeartbeats 400000 in
theorem iClassWord_any (b n : Int) (w : World) : Calls Try.prog 11 #[.int .i64 b, .int .i64 n] w fun e w' => e = .returned (.tuple #[.string ⟨(classWord b n).1.toArray⟩, .bool (classWord b n).2]) ∧ Below w.heap.size w w' := by
  cases h1 : wi b 2 4 <;> cases h2 : wi n 0 400
  case true.true =>
    have hb := wi_yes h1
    have hb' := wi_yes h2
    obtain ⟨b, rfl⟩ := Int.eq_ofNat_of_zero_le (show 0 ≤ b by omega)
    obtain ⟨n, rfl⟩ := Int.eq_ofNat_of_zero_le (show 0 ≤ n by omega)
    have HR := Lib.hid (show (classW b n, true) = classWord b n by simp [classWord, h1, h2])
    go_enter Try.func11, Try.ntmps11
    go_wp2_with (first | (go_at_call 18; refine (within_any _ _ _ _).mono ?_; rintro e w' ⟨rfl, rfl⟩) | (go_at_call 17; refine (isBase_any _ _).mono ?_; rintro e w' ⟨rfl, rfl⟩))
    go_loopw [6, 18] (fun out i wr => ∃ (k : Nat) (A : Option Addr) (c : Nat), k ≤ n ∧ i = .int .i64 k ∧ out = .slice A k c ∧ Own w wr 5 A k c (bvs (classW b k))) (fun _ i _ => n - (intOf i).toNat)
    case atStart => exact ⟨0, _, _, Nat.zero_le _, rfl, rfl, Own.made0 (Below.refl _ _) _⟩
    case round =>
      obtain ⟨k, A, c, hk, rfl, rfl, hown⟩ := hrel
      by_cases hlt : k < n
      · have hc4 := cls_lt (b := b) (by omega) k
        have hidx := fun W => idx_abcd (cls b k) (by omega) (clsLetter b k) rfl W
        have hsn := Lib.hid (classW_snoc b k)
        go_wp2_with (first | (go_at_call 20; refine (iclass_nat _ _ (by omega) (by omega) (by omega) _).mono ?_; rintro e w' ⟨rfl, rfl⟩) | (at_builtin; refine app_one (.tmp 21) (.tmp 26) _ _ _ 1 rfl rfl Try.underlying22 infoB rfl rfl hown rfl rfl (by omega) (by omega) ?_; intro A' c' w1 hown1))
        exact ⟨⟨k + 1, A', c', by omega, by go_num, rfl, by rw [hsn.out, bvs_snoc]; exact hown1⟩, by simp [intOf]; omega⟩
      · obtain rfl : k = n := by omega
        have hconv := conv_bytes (P := Try.prog) 22 9 5 Try.underlying22 Try.underlying5 Try.underlying9 hown.rd (c := c)
        go_wp2
        go_ret2
        exact ⟨ret_sb HR.out, hown.2⟩
  all_goals
    have HR := Lib.hid (show ([], false) = classWord b n by simp [classWord, h1, h2])
    go_enter Try.func11, Try.ntmps11
    go_wp2_with (first | (go_at_call 18; refine (within_any _ _ _ _).mono ?_; rintro e w' ⟨rfl, rfl⟩) | (go_at_call 17; refine (isBase_any _ _).mono ?_; rintro e w' ⟨rfl, rfl⟩))
    go_ret2
    exact ⟨ret_sb HR.out, Below.refl _ _⟩



end Go.Proofs.Ytkgokjekifmlfaa
