/-
  Bytes: the letter at an index of the names of letters, byte(z). No conditions.
-/
import Derived.Test.YtcicoplmpinnmaaDoorOwn
namespace Go.Proofs.YtcicoplmpinnmaaDoor
open Go.RowKit

theorem infoB : (Tryd.prog.info? 5).map (fun i => (i.zero, i.size, i.bytes)) = some (some (.int .u8 0), 1, 1) := by kernel_rfl
/-- byte(z) where z is in range -/
theorem conv_u8 (z : Int) (L : UInt8) (hL : (L.toNat : Int) = z) (W : World) : (convert 3 5 (.int .i64 z)).run Tryd.prog W = .ok (.int .u8 (L.toNat : Nat)) W := by
  have hb : z % 256 = z := by have := L.toNat_lt; omega
  simp [convert, run_underlying Tryd.underlying3, run_underlying Tryd.underlying5, go_sem, IntKind.wrap_u8, hb, hL]
theorem idx_a (W : World) : (Instr.index 9 (.string ⟨#[97, 98, 99, 100]⟩) (.int .i64 0)).run Tryd.prog W = .ok (.int .u8 97) W := by kernel_rfl
theorem idx_b (W : World) : (Instr.index 9 (.string ⟨#[97, 98, 99, 100]⟩) (.int .i64 1)).run Tryd.prog W = .ok (.int .u8 98) W := by kernel_rfl
theorem idx_c (W : World) : (Instr.index 9 (.string ⟨#[97, 98, 99, 100]⟩) (.int .i64 2)).run Tryd.prog W = .ok (.int .u8 99) W := by kernel_rfl
theorem idx_d (W : World) : (Instr.index 9 (.string ⟨#[97, 98, 99, 100]⟩) (.int .i64 3)).run Tryd.prog W = .ok (.int .u8 100) W := by kernel_rfl
/-- the letter at an index of the four names of letters -/
theorem idx_abcd (c : Nat) (hc : c < 4) (L : UInt8) (hL : L = UInt8.ofNat (97 + c)) (W : World) : (Instr.index 9 (.string ⟨#[97, 98, 99, 100]⟩) (.int .i64 (c : Int))).run Tryd.prog W = .ok (.int .u8 (L.toNat : Nat)) W := by
  have h : c = 0 ∨ c = 1 ∨ c = 2 ∨ c = 3 := by omega
  subst hL
  rcases h with rfl | rfl | rfl | rfl
  · exact idx_a W
  · exact idx_b W
  · exact idx_c W
  · exact idx_d W
end Go.Proofs.YtcicoplmpinnmaaDoor
