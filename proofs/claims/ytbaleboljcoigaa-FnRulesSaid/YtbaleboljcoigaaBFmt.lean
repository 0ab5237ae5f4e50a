/-
  Contracts of FormatPatch (program and reference). No conditions.
-/
import Derived.Test.YtbaleboljcoigaaBLaws1
import Derived.Test.YtbaleboljcoigaaJoin
namespace Go.Proofs.Ytbaleboljcoigaa
open Go.RowKit

def fmtP (p : List (List UInt8)) : List UInt8 := if pOk p then Lib.join p [47] else []
theorem pOk_join_len {p : List (List UInt8)} (h : pOk p = true) : (Lib.join p [47]).length ≤ 2048 := by
  have h1 := join_bound (ss := p) [47] (m := 32) (fun s hs => by have := pOk_row h hs; omega)
  have h2 := pOk_len h
  refine Nat.le_trans h1 (Nat.le_trans (Nat.mul_le_mul (show [47].length + 32 ≤ 33 by simp) h2.2) (by decide))

theorem cFormatPatchI (A : Option Addr) (n c : Nat) (p : List (List UInt8)) (W : World) (hp : SOwn W A n c p) : Calls Try.prog 13 #[.slice A n c] W fun e w' => e = .returned (.string ⟨(fmtP p).toArray⟩) ∧ Below W.heap.size W w' := by
  have hcon := iPatchOk_any A n c _ p W hp.1.1 hp.1.2.1 hp.1.longs
  cases hok : pOk p
  · have HE := Lib.hid (show [] = fmtP p by simp [fmtP, hok])
    rw [hok] at hcon
    have HC := Lib.hid hcon
    clear hcon hp
    go_enter Try.func13, Try.ntmps13
    go_wp2_with (go_at_call 20; refine HC.out.mono ?_; rintro e w' ⟨rfl, rfl⟩)
    go_ret
    exact ⟨ret_str HE.out, Below.same⟩
  · have HE := Lib.hid (show Lib.join p [47] = fmtP p by simp [fmtP, hok])
    rw [hok] at hcon
    have HC := Lib.hid hcon
    have HJ := Lib.hid (iJoin_any A n c p [47] W hp (by simp) (Nat.le_trans (pOk_join_len hok) (by decide)))
    clear hcon hp
    go_enter Try.func13, Try.ntmps13
    go_wp2_with (first | (go_at_call 20; refine HC.out.mono ?_; rintro e w' ⟨rfl, rfl⟩) | (go_at_call 33; refine HJ.out.mono ?_; rintro e w' ⟨rfl, hb⟩))
    go_ret
    exact ⟨ret_str HE.out, hb⟩

end Go.Proofs.Ytbaleboljcoigaa
