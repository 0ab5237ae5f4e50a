/-
  Contract of the reference's l23Counts. Conditions: at most 64 words of one length, 1 to 20 levels.
-/
import Derived.Test.YtbaleboljcoigaaRBel
namespace Go.Proofs.Ytbaleboljcoigaa
open Go.RowKit

theorem lev_snoc0 (rows : Pch) (col : Pch) : levs col rows 1 = [lev col rows 0] := by simp [levs, List.range_succ]
theorem repl_snoc (k : Nat) : ivs (List.replicate (k + 1) 1) = ivs (List.replicate k 1) ++ [.int .i64 1] := by rw [List.replicate_succ', ivs_snoc]
theorem okH_one {col rows : Pch} (h : rows.length ≤ 64) : okH col rows 1 = true := by
  have h2 : (lev col rows 0).sum ≤ most := by
    have := sum_take_le (l := lev col rows 0) (b := 1) (fun z hz => by have := List.eq_of_mem_replicate hz; omega) (by omega) rows.length
    rw [sum_take_all (by rw [lev_len]; exact Nat.le_refl _)] at this
    unfold most; omega
  simp [okH, List.range_succ, okLev, h2]
theorem take_sum_snoc {l : List Int} {k : Nat} (hk : k < l.length) : l.take (k + 1) = l.take k ++ [l.getD k 0] := by rw [take_snoc l k hk, getD_at hk]
/-- the walk's rows: the newest row stands last -/
def LastR (e : TypeId) (rs : List Row) (A : Option Addr) (m c : Nat) (zs : List Int) : List Row := rs ++ [⟨e, A, m, c, ivs zs⟩]

end Go.Proofs.Ytbaleboljcoigaa
