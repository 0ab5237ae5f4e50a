/-
  Contracts of the closures of the program's CanRepeat and of slices.ContainsFunc. Conditions: what they captured.
-/
import Derived.Test.YtccpgcjmdjegeaaRCas
import Derived.Test.YtccpgcjmdjegeaaRFi
namespace Go.Proofs.Ytccpgcjmdjegeaa
open Go.RowKit

set_option maxHeartbeats 800000 in
theorem containsFunc_any (g : Nat) (lb : Array Value) (eg : ∀ args w, (callFunc g args).run Try.prog w = .ok (.enter g args) w) (A : Option Addr) (n c B : Nat) (ss : Pch) (p : List UInt8 → Bool) (W : World) (hr : Rd W B A n (svs ss)) (hB : B ≤ W.heap.size) (hn : n ≤ 1048576)
    (hp : ∀ w, Below W.heap.size W w → ∀ x ∈ ss, Calls Try.prog g (#[.string ⟨x.toArray⟩] ++ lb) w fun e w' => e = .returned (.bool (p x)) ∧ Below w.heap.size w w') :
    Calls Try.prog 39 #[.slice A n c, .func (.func g) #[] lb] W fun e w' => e = .returned (.bool (ss.any p)) ∧ Below W.heap.size W w' := by
  have HC := Lib.hid (indexFunc_any g lb eg A n c B ss p W hr hB hn hp)
  have HE := Lib.hid (idxP_any p ss)
  obtain ⟨z, hz⟩ : ∃ z, z = idxP p ss := ⟨_, rfl⟩
  rw [← hz] at HC HE
  obtain ⟨res, hres⟩ : ∃ res, res = ss.any p := ⟨_, rfl⟩
  rw [← hres] at HE ⊢
  clear hz hres hp hr eg
  go_enter Try.func39, Try.ntmps39
  go_wp2_with (go_at_call 47; refine HC.out.mono ?_; rintro e w2 ⟨rfl, hb2⟩)
  go_ret
  exact ⟨by (rw [← HE.out]; try rfl), hb2⟩
set_option maxHeartbeats 800000 in
theorem canRep2_any (W w : World) (LR : List Row) (b1 b2 : Nat) (u t : List UInt8) (A1 : Option Addr) (n1 c1 : Nat) (q : Pch)
    (hm : Mem W w LR) (h1 : CellR 9 b1 (.string ⟨t.toArray⟩) ∈ LR) (h2 : CellR 22 b2 (.slice A1 n1 c1) ∈ LR) (hcol : SIn w A1 n1 c1 q) (hu : u.length ≤ 64) (ht : t.length = u.length) :
    Calls Try.prog 40 #[.string ⟨u.toArray⟩, .pointer (some ⟨b1, 0, none⟩), .pointer (some ⟨b2, 0, none⟩)] w fun e w' => e = .returned (.bool (stand q u t)) ∧ Below w.heap.size w w' := by
  have c1' := hm.cellR h1
  have c2' := hm.cellR h2
  have HC := Lib.hid (stands_any u t A1 n1 c1 q w hcol hu ht)
  clear hm h1 h2 hcol hu ht
  go_enter Try.func40, Try.ntmps40
  go_wp2_with (go_at_call 41; refine HC.out.mono ?_; rintro e w2 ⟨rfl, hb2⟩)
  go_ret
  exact ⟨rfl, hb2⟩
set_option maxRecDepth 4096 in
set_option maxHeartbeats 800000 in
theorem canRep1_any (W w : World) (LR : List Row) (b1 b2 : Nat) (s : List UInt8) (A0 : Option Addr) (n0 c0 : Nat) (r : Pch) (n : Nat)
    (hm : Mem W w LR) (h1 : CellR 22 b1 (.slice A0 n0 c0) ∈ LR) (h2 : CellR 3 b2 (.int .i64 (n : Int)) ∈ LR) (hrow : SIn w A0 n0 c0 r) (hsn : s.length = n) (hn1 : 1 ≤ n) (hn : n ≤ 3) :
    Calls Try.prog 37 #[.string ⟨s.toArray⟩, .pointer (some ⟨b1, 0, none⟩), .pointer (some ⟨b2, 0, none⟩)] w fun e w' => e = .returned (.bool (!decide (wrapP n s ∈ r))) ∧ Below w.heap.size w w' := by
  have c1' := hm.cellR h1
  have c2' := hm.cellR h2
  obtain ⟨hd1, hd2⟩ := wrap_cuts hsn hn1
  obtain ⟨x, hx⟩ : ∃ x, x = s.getD (n - 1) 0 := ⟨_, rfl⟩
  obtain ⟨y, hy⟩ : ∃ y, y = s.getD 0 0 := ⟨_, rfl⟩
  have HW := Lib.hid (show wrapP n s = [x, y] by rw [hx, hy]; rfl)
  rw [HW.out]
  rw [← hx] at hd1
  rw [← hy] at hd2
  have e1 : IntKind.i64.wrap ((n : Int) - 1) = (n : Int) - 1 := IntWalk.i64_in _ (by omega)
  have e2 : ((n : Int) - 1).toNat = n - 1 := by omega
  have e3 : (0 : Int) ≤ (n : Int) - 1 := by omega
  have e4 : (n : Int) - 1 ≤ (s.length : Int) := by omega
  have e5 : (1 : Int) ≤ (s.length : Int) := by omega
  have e6 : n - 1 ≤ s.length := by omega
  have e7 : 1 ≤ s.length := by omega
  have e8 : (1 : Int) ≤ (n : Int) := by omega
  have hcat : ¬ 9223372036854775807 < [x].length + [y].length := by simp
  have HQ := Lib.hid (hrow.later (bdR w)).1
  have hn0 := hrow.2.1
  clear hx hy hsn hm h1 h2 hrow
  cases hin : decide ([x, y] ∈ r)
  all_goals
    have HIN := Lib.hid hin
    clear hin
    go_enter Try.func37, Try.ntmps37
    go_wp2
    go_region_held3 (fun w' => w'.cell? ⟨b1, 0, none⟩ = some (.slice A0 n0 c0) ∧ w'.cell? ⟨b2, 0, none⟩ = some (.int .i64 (n : Int))) (first | go_keep | exact ⟨by simpa using c1', by simpa using c2'⟩) (first | (go_at_call 38; (with_reducible refine (contains_is HIN.out _ HQ.out hn0).mono ?_); rintro e w' ⟨rfl, rfl⟩))
    clear e1
    go_wp2
    go_ret
    exact ⟨rfl, bdR _⟩
end Go.Proofs.Ytccpgcjmdjegeaa
