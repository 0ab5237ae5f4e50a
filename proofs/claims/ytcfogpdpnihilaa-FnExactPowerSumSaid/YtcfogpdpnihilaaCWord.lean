/-
  Contracts of ClassWord (program and reference), and the walk of the law on them. No conditions.
-/
import Derived.Test.YtcfogpdpnihilaaCCls
import Derived.Test.YtcfogpdpnihilaaOwn
namespace Go.Proofs.Ytcfogpdpnihilaa
open Go.RowKit

theorem infoB : (Try.prog.info? 5).map (fun i => (i.zero, i.size, i.bytes)) = some (some (.int .u8 0), 1, 1) := by kernel_rfl

def clsLetter (b i : Nat) : UInt8 := UInt8.ofNat (97 + cls b i)
def classW (b n : Nat) : List UInt8 := (List.range n).map (clsLetter b)
theorem idx_a (W : World) : (Instr.index 9 (.string ⟨#[97, 98, 99, 100]⟩) (.int .i64 0)).run Try.prog W = .ok (.int .u8 97) W := by kernel_rfl
theorem idx_b (W : World) : (Instr.index 9 (.string ⟨#[97, 98, 99, 100]⟩) (.int .i64 1)).run Try.prog W = .ok (.int .u8 98) W := by kernel_rfl
theorem idx_c (W : World) : (Instr.index 9 (.string ⟨#[97, 98, 99, 100]⟩) (.int .i64 2)).run Try.prog W = .ok (.int .u8 99) W := by kernel_rfl
theorem idx_d (W : World) : (Instr.index 9 (.string ⟨#[97, 98, 99, 100]⟩) (.int .i64 3)).run Try.prog W = .ok (.int .u8 100) W := by kernel_rfl
/-- the letter at an index of the four names of letters -/
theorem idx_abcd (c : Nat) (hc : c < 4) (L : UInt8) (hL : L = UInt8.ofNat (97 + c)) (W : World) : (Instr.index 9 (.string ⟨#[97, 98, 99, 100]⟩) (.int .i64 (c : Int))).run Try.prog W = .ok (.int .u8 (L.toNat : Nat)) W := by
  have h : c = 0 ∨ c = 1 ∨ c = 2 ∨ c = 3 := by omega
  subst hL
  rcases h with rfl | rfl | rfl | rfl
  · exact idx_a W
  · exact idx_b W
  · exact idx_c W
  · exact idx_d W
/-- byte(z) where z is in range -/
theorem conv_u8 (z : Int) (L : UInt8) (hL : (L.toNat : Int) = z) (W : World) : (convert 3 5 (.int .i64 z)).run Try.prog W = .ok (.int .u8 (L.toNat : Nat)) W := by
  have hb : z % 256 = z := by have := L.toNat_lt; omega
  simp [convert, run_underlying Try.underlying3, run_underlying Try.underlying5, go_sem, IntKind.wrap_u8, hb, hL]
theorem clsLetter_nat {b i : Nat} (hb : 2 ≤ b) (hb2 : b ≤ 4) : ((clsLetter b i).toNat : Int) = 97 + (cls b i : Nat) := by
  have := cls_lt hb i
  simp [clsLetter]; omega
theorem classW_snoc (b n : Nat) : classW b (n + 1) = classW b n ++ [clsLetter b n] := by simp [classW, List.range_succ]
def classWord (b n : Int) : List UInt8 × Bool := if wi b 2 4 && wi n 0 400 then (classW b.toNat n.toNat, true) else ([], false)

set_option maxHeartbeats 400000 in
theorem iClassWord_any (b n : Int) (w : World) : Calls Try.prog 16 #[.int .i64 b, .int .i64 n] w fun e w' => e = .returned (.tuple #[.string ⟨(classWord b n).1.toArray⟩, .bool (classWord b n).2]) ∧ Below w.heap.size w w' := by
  cases h1 : wi b 2 4 <;> cases h2 : wi n 0 400
  case true.true =>
    have hb := wi_yes h1
    have hb' := wi_yes h2
    obtain ⟨b, rfl⟩ := Int.eq_ofNat_of_zero_le (show 0 ≤ b by omega)
    obtain ⟨n, rfl⟩ := Int.eq_ofNat_of_zero_le (show 0 ≤ n by omega)
    have HR := Lib.hid (show (classW b n, true) = classWord b n by simp [classWord, h1, h2])
    go_enter Try.func16, Try.ntmps16
    go_wp2_with (first | (go_at_call 34; refine (within_any _ _ _ _).mono ?_; rintro e w' ⟨rfl, rfl⟩) | (go_at_call 35; refine (isBase_any _ _).mono ?_; rintro e w' ⟨rfl, rfl⟩))
    go_loopw [6, 18] (fun out i wr => ∃ (k : Nat) (A : Option Addr) (c : Nat), k ≤ n ∧ i = .int .i64 k ∧ out = .slice A k c ∧ Own w wr 5 A k c (bvs (classW b k))) (fun _ i _ => n - (intOf i).toNat)
    case atStart => exact ⟨0, _, _, Nat.zero_le _, rfl, rfl, Own.made0 (Below.refl _ _) _⟩
    case round =>
      obtain ⟨k, A, c, hk, rfl, rfl, hown⟩ := hrel
      by_cases hlt : k < n
      · have hc4 := cls_lt (b := b) (by omega) k
        have hidx := fun W => idx_abcd (cls b k) (by omega) (clsLetter b k) rfl W
        have hsn := Lib.hid (classW_snoc b k)
        go_wp2_with (first | (go_at_call 37; refine (iclass_nat _ _ (by omega) (by omega) (by omega) _).mono ?_; rintro e w' ⟨rfl, rfl⟩) | (at_builtin; refine app_one (.tmp 21) (.tmp 26) _ _ _ 1 rfl rfl Try.underlying33 infoB rfl rfl hown rfl rfl (by omega) (by omega) ?_; intro A' c' w1 hown1))
        exact ⟨⟨k + 1, A', c', by omega, by go_num, rfl, by rw [hsn.out, bvs_snoc]; exact hown1⟩, by simp [intOf]; omega⟩
      · obtain rfl : k = n := by omega
        have hconv := conv_bytes (P := Try.prog) 33 9 5 Try.underlying33 Try.underlying5 Try.underlying9 hown.rd (c := c)
        go_wp2
        go_ret2
        exact ⟨ret_sb HR.out, hown.2⟩
  all_goals
    have HR := Lib.hid (show ([], false) = classWord b n by simp [classWord, h1, h2])
    go_enter Try.func16, Try.ntmps16
    go_wp2_with (first | (go_at_call 34; refine (within_any _ _ _ _).mono ?_; rintro e w' ⟨rfl, rfl⟩) | (go_at_call 35; refine (isBase_any _ _).mono ?_; rintro e w' ⟨rfl, rfl⟩))
    go_ret2
    exact ⟨ret_sb HR.out, Below.refl _ _⟩

set_option maxHeartbeats 400000 in
theorem sClassWord_any (b n : Int) (w : World) : Calls Try.prog 15 #[.int .i64 b, .int .i64 n] w fun e w' => e = .returned (.tuple #[.string ⟨(classWord b n).1.toArray⟩, .bool (classWord b n).2]) ∧ Below w.heap.size w w' := by
  cases h1 : wi b 2 4 <;> cases h2 : wi n 0 400
  case true.true =>
    have hb := wi_yes h1
    have hb' := wi_yes h2
    obtain ⟨b, rfl⟩ := Int.eq_ofNat_of_zero_le (show 0 ≤ b by omega)
    obtain ⟨n, rfl⟩ := Int.eq_ofNat_of_zero_le (show 0 ≤ n by omega)
    have HR := Lib.hid (show (classW b n, true) = classWord b n by simp [classWord, h1, h2])
    go_enter Try.func15, Try.ntmps15
    go_wp2_with (first | (go_at_call 33; refine (l01In_any _ _ _ _).mono ?_; rintro e w' ⟨rfl, rfl⟩))
    go_loopw [6, 7] (fun out i wr => ∃ (k : Nat) (A : Option Addr) (c : Nat), k ≤ n ∧ i = .int .i64 k ∧ out = .slice A k c ∧ Own w wr 5 A k c (bvs (classW b k))) (fun _ i _ => n - (intOf i).toNat)
    case atStart => exact ⟨0, _, _, Nat.zero_le _, rfl, rfl, Own.made0 (Below.refl _ _) _⟩
    case round =>
      obtain ⟨k, A, c, hk, rfl, rfl, hown⟩ := hrel
      by_cases hlt : k < n
      · have hc4 := cls_lt (b := b) (by omega) k
        have hcv := fun W => conv_u8 _ _ (clsLetter_nat (i := k) (show 2 ≤ b by omega) (by omega)) W
        have hsn := Lib.hid (classW_snoc b k)
        go_wp2_with (first | (go_at_call 36; refine (sclass_nat _ _ (by omega) (by omega) (by omega) _).mono ?_; rintro e w' ⟨rfl, rfl⟩) | (at_builtin; refine app_one (.tmp 22) (.tmp 28) _ _ _ 1 rfl rfl Try.underlying33 infoB rfl rfl hown rfl rfl (by omega) (by omega) ?_; intro A' c' w1 hown1))
        exact ⟨⟨k + 1, A', c', by omega, by go_num, rfl, by rw [hsn.out, bvs_snoc]; exact hown1⟩, by simp [intOf]; omega⟩
      · obtain rfl : k = n := by omega
        have hconv := conv_bytes (P := Try.prog) 33 9 5 Try.underlying33 Try.underlying5 Try.underlying9 hown.rd (c := c)
        go_wp2
        go_ret2
        exact ⟨ret_sb HR.out, hown.2⟩
  all_goals
    have HR := Lib.hid (show ([], false) = classWord b n by simp [classWord, h1, h2])
    go_enter Try.func15, Try.ntmps15
    go_wp2_with (first | (go_at_call 33; refine (l01In_any _ _ _ _).mono ?_; rintro e w' ⟨rfl, rfl⟩))
    go_ret2
    exact ⟨ret_sb HR.out, Below.refl _ _⟩


end Go.Proofs.Ytcfogpdpnihilaa
