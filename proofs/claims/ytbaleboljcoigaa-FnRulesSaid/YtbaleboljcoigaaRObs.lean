/-
  Contracts of obeying, l23Ok and CountObeying (program and reference). No conditions.
-/
import Derived.Test.YtbaleboljcoigaaRCou
import Derived.Test.YtbaleboljcoigaaRWords
namespace Go.Proofs.Ytbaleboljcoigaa
open Go.RowKit

def obOk (w h : Int) (r q : Pch) : Bool := wi w 1 3 && (wi h 1 20 && rulesOk r q)
def rowsC (w h : Int) (r q : Pch) : Pch := if obOk w h r q = true then rowsN r w.toNat else []
def okC (w h : Int) (r q : Pch) : Bool := obOk w h r q && okH q (rowsN r w.toNat) h.toNat
def gridC (w h : Int) (r q : Pch) : List (List Int) := if okC w h r q = true then levs q (rowsN r w.toNat) h.toNat else []
def countOb (w h : Int) (r q : Pch) : Int := if okC w h r q = true then (lev q (rowsN r w.toNat) (h.toNat - 1)).sum else -1
/-- what obeying hands back -/
def RetOb (st et gt : TypeId) (w0 : World) (rows : Pch) (zss : List (List Int)) (b : Bool) (e : Ending) (w' : World) : Prop :=
  ∃ A n c A2 n2 c2 rs, e = .returned (.tuple #[.slice A n c, .slice A2 n2 c2, .bool b]) ∧ Mem w0 w' (⟨gt, A2, n2, c2, rs.map SVal⟩ :: (rs ++ [⟨st, A, n, c, svs rows⟩])) ∧ rs.map Row.xs = zss.map ivs ∧ ∀ r ∈ rs, r.e = et
theorem okC_parts {w h : Int} {r q : Pch} (hk : obOk w h r q = true) : (1 ≤ w ∧ w ≤ 3) ∧ (1 ≤ h ∧ h ≤ 20) ∧ rulesOk r q = true := by
  unfold obOk at hk
  simp only [Bool.and_eq_true] at hk
  exact ⟨wi_yes hk.1, wi_yes hk.2.1, hk.2.2⟩
theorem rowsN_sin {w : World} {W : World} {st : TypeId} {A : Option Addr} {n c : Nat} {r : Pch} {k : Nat} (hk : k ≤ 3) (h : Own W w st A n c (svs (rowsN r k))) : SIn w A n c (rowsN r k) ∧ n ≤ 64 := by
  have h1 := h.len
  simp only [svs, List.length_map] at h1
  have h2 := rowsN_len r hk
  refine ⟨SIn.of h.rd (by omega) (fun s hs => by have := (rowsN_row hs).1; omega) h.cap, by omega⟩

theorem within_lit {n lo hi : Int} {b : Bool} (h : wi n lo hi = b) (w : World) : Calls Try.prog 35 #[.int .i64 n, .int .i64 lo, .int .i64 hi] w fun e w' => e = .returned (.bool b) ∧ w = w' := by
  have := within_any n lo hi w
  rwa [h] at this
theorem l01In_lit {n lo hi : Int} {b : Bool} (h : wi n lo hi = b) (w : World) : Calls Try.prog 61 #[.int .i64 n, .int .i64 lo, .int .i64 hi] w fun e w' => e = .returned (.bool b) ∧ w = w' := by
  have := l01In_any n lo hi w
  rwa [h] at this
set_option maxHeartbeats 1600000 in
theorem obeying_any (a h : Int) (A0 : Option Addr) (n0 c0 : Nat) (r : Pch) (A1 : Option Addr) (n1 c1 : Nat) (q : Pch) (W : World) (h0 : SIn W A0 n0 c0 r) (h1 : SIn W A1 n1 c1 q) :
    Calls Try.prog 28 #[.int .i64 a, .int .i64 h, .slice A0 n0 c0, .slice A1 n1 c1] W (RetOb 9 3 51 W (rowsC a h r q) (gridC a h r q) (okC a h r q)) := by
  have hcr := iRulesOk_any A0 n0 c0 r A1 n1 c1 q W h0 h1
  obtain ⟨rows, hrows⟩ : ∃ rows, rows = rowsC a h r q := ⟨_, rfl⟩
  obtain ⟨zss, hzss⟩ : ∃ zss, zss = gridC a h r q := ⟨_, rfl⟩
  obtain ⟨b, hb⟩ : ∃ b, b = okC a h r q := ⟨_, rfl⟩
  rw [← hrows, ← hzss, ← hb]
  have HRows := Lib.hid hrows
  have HZ := Lib.hid hzss
  have HB := Lib.hid hb
  have HS0 := Lib.hid h0
  have HS1 := Lib.hid h1
  clear h0 h1 hrows hzss hb
  cases g1 : wi a 1 3 <;> cases g2 : wi h 1 20 <;> cases g3 : rulesOk r q
  all_goals
    rw [g3] at hcr
    have HE := Lib.hid (show obOk a h r q = (wi a 1 3 && (wi h 1 20 && rulesOk r q)) from rfl)
    rw [g1, g2, g3] at HE
    have H1 := Lib.hid (within_lit g1 W)
    have H2 := Lib.hid (within_lit g2 W)
    have H3 := Lib.hid hcr
    clear g1 g2 g3 hcr
  case true.true.true =>
    have hp := okC_parts HE.out
    obtain ⟨n, rfl⟩ : ∃ n : Nat, a = n := ⟨a.toNat, by omega⟩
    obtain ⟨m, rfl⟩ : ∃ m : Nat, h = m := ⟨h.toNat, by omega⟩
    have hn : n ≤ 3 := by omega
    have hm : m ≤ 20 := by omega
    have HR2 := Lib.hid (show rows = rowsN r n by rw [HRows.out]; unfold rowsC; rw [if_pos (show obOk (n : Int) (m : Int) r q = true from HE.out)]; rfl)
    have HB2 := Lib.hid (show b = okH q (rowsN r n) m by rw [HB.out]; unfold okC; rw [HE.out]; rfl)
    have HZ2 := Lib.hid (show zss = if okH q (rowsN r n) m = true then levs q (rowsN r n) m else [] by rw [HZ.out]; unfold gridC okC; rw [HE.out]; rfl)
    clear hp HE HRows HB HZ
    go_enter Try.func28, Try.ntmps28
    go_wp2_with (first | (go_at_call 35; (with_reducible refine H1.out.mono ?_); rintro e w' ⟨rfl, rfl⟩) | (go_at_call 35; (with_reducible refine H2.out.mono ?_); rintro e w' ⟨rfl, rfl⟩) | (go_at_call 6; (with_reducible refine H3.out.mono ?_); rintro e w' ⟨rfl, rfl⟩))
    refine (rowsOf_any n hn _ _ _ r _ HS0.out).mono ?_
    rintro e w1 ⟨A2, n2, c2, rfl, o1⟩
    have hs := rowsN_sin hn o1
    have HS := Lib.hid hs.1
    have hn2 := hs.2
    have HM1 := Lib.hid ((Mem.start W).add o1)
    clear hs o1
    go_wp2_with fail
    refine (below_any _ _ _ (rowsN r n) m _ _ _ q n _ HS.out (HS1.out.later HM1.out.bel) hn2 (by omega) (fun x hx => (rowsN_row hx).1) hm).mono ?_
    rintro e w2 ⟨A3, n3, c3, rs, rfl, hm2, hx2, he2⟩
    have HM2 := Lib.hid (HM1.out.addAll hm2)
    have HX := Lib.hid hx2
    have HE2 := Lib.hid he2
    clear hm2 hx2 he2
    rw [← HB2.out]
    go_wp2
    go_ret3
    exact ⟨_, _, _, _, _, _, rs, rfl, by rw [HR2.out]; exact HM2.out, by rw [HZ2.out]; exact HX.out, HE2.out⟩
  all_goals
    have HR2 := Lib.hid (show rows = [] by rw [HRows.out]; unfold rowsC; rw [HE.out]; rfl)
    have HB2 := Lib.hid (show b = false by rw [HB.out]; unfold okC; rw [HE.out]; rfl)
    have HZ2 := Lib.hid (show zss = [] by rw [HZ.out]; unfold gridC okC; rw [HE.out]; rfl)
    clear HE HRows HB HZ
    go_enter Try.func28, Try.ntmps28
    go_wp2_with (first | (go_at_call 35; (with_reducible refine H1.out.mono ?_); rintro e w' ⟨rfl, rfl⟩) | (go_at_call 35; (with_reducible refine H2.out.mono ?_); rintro e w' ⟨rfl, rfl⟩) | (go_at_call 6; (with_reducible refine H3.out.mono ?_); rintro e w' ⟨rfl, rfl⟩))
    go_ret3
    exact ⟨none, 0, 0, none, 0, 0, [], by (rw [HB2.out]; try rfl), by rw [HR2.out]; exact ((Mem.start W).add (Own.nil (Below.refl _ _) _)).add (Own.nil (Below.refl _ _) _), by rw [HZ2.out]; rfl, by simp⟩
end Go.Proofs.Ytbaleboljcoigaa
