/-
  Contracts for the walk of the law FnRules: the lists at hand, and what each call hands back. No conditions.
-/
import Derived.Test.YtbaleboljcoigaaRMk
import Derived.Test.YtbaleboljcoigaaRCaI
import Derived.Test.YtbaleboljcoigaaRFi
import Derived.Test.YtbaleboljcoigaaRCob
import Derived.Test.YtbaleboljcoigaaFrame
namespace Go.Proofs.Ytbaleboljcoigaa
open Go.RowKit

/-! ## the lists at hand -/
abbrev PtR := Option Addr × Nat × Nat × Pch
def RowR (w : World) (q : PtR) : Prop := SOwn w q.1 q.2.1 q.2.2.1 q.2.2.2 ∧ (q.1 = none → q.2.2.1 = 0)
def Pz (w0 w : World) (ps : List PtR) : Prop := Below w0.heap.size w0 w ∧ ∀ q ∈ ps, RowR w q
theorem RowR.later {w w' : World} {q : PtR} (h : RowR w q) (hb : Below w.heap.size w w') : RowR w' q := ⟨⟨h.1.1.later hb, h.1.2⟩, h.2⟩
theorem RowR.of {w0 w : World} {e : TypeId} {A : Option Addr} {n c : Nat} {p : Pch} (ho : Own w0 w e A n c (svs p)) (hl : p.length ≤ 1048576 ∧ Lens p) : RowR w (A, n, c, p) := by
  have hn : n ≤ 1048576 := by have := ho.len; simp only [svs, List.length_map] at this; omega
  exact ⟨SOwn.of ho.1 hn hl.2 ho.cap, ho.noneCap⟩
theorem Pz.start (w : World) : Pz w w [] := ⟨Below.refl _ _, fun q hq => by cases hq⟩
theorem Pz.later {w0 w w' : World} {ps : List PtR} (h : Pz w0 w ps) (hb : Below w.heap.size w w') : Pz w0 w' ps := ⟨h.1.trans (hb.mono h.1.size), fun q hq => (h.2 q hq).later hb⟩
theorem Pz.add {w0 w w' : World} {ps : List PtR} (h : Pz w0 w ps) {e : TypeId} {A : Option Addr} {n c : Nat} {p : Pch} (ho : Own w w' e A n c (svs p)) (hl : p.length ≤ 1048576 ∧ Lens p) : Pz w0 w' ((A, n, c, p) :: ps) := by
  refine ⟨(h.later ho.2).1, fun q hq => ?_⟩
  rcases List.mem_cons.1 hq with rfl | hq
  · exact RowR.of ho hl
  · exact (h.later ho.2).2 q hq
theorem Pz.add2 {w0 w w' : World} {ps : List PtR} (h : Pz w0 w ps) {e : TypeId} {A B : Option Addr} {n c m d : Nat} {x y : Pch} (ho : Mem w w' [⟨e, B, m, d, svs y⟩, ⟨e, A, n, c, svs x⟩]) (hx : x.length ≤ 1048576 ∧ Lens x) (hy : y.length ≤ 1048576 ∧ Lens y) :
    Pz w0 w' ((B, m, d, y) :: (A, n, c, x) :: ps) := by
  refine ⟨(h.later ho.1).1, fun q hq => ?_⟩
  rcases List.mem_cons.1 hq with rfl | hq
  · exact RowR.of (w0 := w) (e := e) ⟨ho.row0, ho.1⟩ hy
  · rcases List.mem_cons.1 hq with rfl | hq
    · exact RowR.of (w0 := w) (e := e) ⟨ho.row1, ho.1⟩ hx
    · exact (h.later ho.1).2 q hq
theorem Pz.own {w0 w : World} {ps : List PtR} (h : Pz w0 w ps) {A : Option Addr} {n c : Nat} {p : Pch} (hm : (A, n, c, p) ∈ ps) : SOwn w A n c p := (h.2 _ hm).1
theorem Pz.sin {w0 w : World} {ps : List PtR} (h : Pz w0 w ps) {A : Option Addr} {n c : Nat} {p : Pch} (hm : (A, n, c, p) ∈ ps) : SIn w A n c p := (h.2 _ hm).1.1
theorem Pz.snil {w0 w : World} {ps : List PtR} (h : Pz w0 w ps) {A : Option Addr} {n c : Nat} {p : Pch} (hm : (A, n, c, p) ∈ ps) : SNil w A n c p := ⟨(h.2 _ hm).1.1, (h.2 _ hm).2⟩
theorem Pz.sub {w0 w : World} {ps qs : List PtR} (h : Pz w0 w ps) (hs : ∀ q ∈ qs, q ∈ ps) : Pz w0 w qs := ⟨h.1, fun q hq => h.2 q (hs q hq)⟩
theorem Pz.len {w0 w : World} {ps : List PtR} (h : Pz w0 w ps) {A : Option Addr} {n c : Nat} {p : Pch} (hm : (A, n, c, p) ∈ ps) : p.length = n := (h.sin hm).1.lenS
theorem SOwn.cellR {W : World} {a : Addr} {n c : Nat} {p : Pch} {r : List UInt8} (h : SOwn W (some a) n c p) (hr : p[0]? = some r) : W.cell? a = some (.string ⟨r.toArray⟩) := by
  obtain ⟨h0, h1⟩ := List.getElem?_eq_some_iff.1 hr
  obtain ⟨a', ha', _, hc⟩ := h.1.1.str (k := 0) h0
  injection ha' with ha'
  subst ha'
  rw [h1] at hc
  exact hc
theorem rules_lens {c d : Pch} (h : rulesOk c d = true) : Lens c ∧ Lens d := by
  unfold rulesOk at h
  rw [Bool.and_eq_true] at h
  exact ⟨fun s hs => by have := (pairsOk_row h.1 s hs).2; omega, fun s hs => by have := (pairsOk_row h.2 s hs).2; omega⟩
theorem rulesOf_lens (p : Pch) : ((rulesOf p).1.length ≤ 1048576 ∧ Lens (rulesOf p).1) ∧ ((rulesOf p).2.length ≤ 1048576 ∧ Lens (rulesOf p).2) := by
  have h1 := rulesOf_len p
  have h2 := rules_lens (rulesOf_ok p)
  exact ⟨⟨by omega, h2.1⟩, ⟨by omega, h2.2⟩⟩
theorem SIn.nilR (W : World) : SIn W none 0 0 [] := SIn.of (Own.nil (Below.refl W.heap.size W) 9).rd (by omega) (fun s hs => by cases hs) (Nat.le_refl _)
theorem mul25 {x y : Int} (hx : 0 ≤ x) (hx5 : x ≤ 5) (hy : 0 ≤ y) (hy5 : y ≤ 5) : 0 ≤ x * y ∧ x * y ≤ 25 :=
  ⟨Int.mul_nonneg hx hy, Int.mul_le_mul hx5 hy5 hy (by omega)⟩
theorem first_pack {c d : Pch} {w h : Nat} (hr : rulesOk c d = true) (hw : 1 ≤ w) (hw3 : w ≤ 3) (hh : 1 ≤ h) (hh3 : h ≤ 3) :
    ∃ q ok, firstOb w h c d = (q, ok) ∧ decide (0 < countOb w h c d) = ok ∧ (q.length ≤ 1048576 ∧ Lens q) ∧ (ok = true → (∃ r, q[0]? = some r ∧ r.length = w) ∧ q.length = h ∧ faultsOf q c d = 0) := by
  rcases first_facts hr hw hw3 hh hh3 with ⟨h1, h2⟩ | ⟨h1, q, h2, h3, h4, h5, h6, _⟩
  · exact ⟨[], false, h2, by simp; omega, ⟨by simp, fun s hs => by cases hs⟩, by simp⟩
  · refine ⟨q, true, h2, by simp; omega, pOk_lensR h3, fun _ => ⟨?_, h5, h6⟩⟩
    have hl : 0 < q.length := by omega
    exact ⟨q[0], List.getElem?_eq_getElem hl, by rw [← h4]; exact (pOk_row h3 (List.getElem_mem _)).2.1⟩
/-- the rows that the law looks up one after the other -/
def four4 : Pch := [[97, 97], [98, 98], [99, 99], [100, 100]]
def accX (c d : Pch) (k : Nat) : Bool := (four4.take k).any (sameX c d)
theorem acc_snoc {c d : Pch} {k : Nat} (h : k < four4.length) : accX c d (k + 1) = (accX c d k || sameX c d four4[k]) := by
  unfold accX; rw [take_snoc _ _ h, List.any_append]; simp
theorem acc_all (c d : Pch) : accX c d 4 = same4 c d := by simp [accX, four4, same4]

section
variable {A1 : Option Addr} {n1 c1 : Nat} {x : Pch} {A2 : Option Addr} {n2 c2 : Nat} {y : Pch} {A3 : Option Addr} {n3 c3 : Nat} {p : Pch} {W : World}
theorem zRulesOk (h1 : SIn W A1 n1 c1 x) (h2 : SIn W A2 n2 c2 y) (hk : rulesOk x y = true) : Calls Try.prog 6 #[.slice A1 n1 c1, .slice A2 n2 c2] W fun e w' => e = .returned (.bool true) ∧ W = w' := by
  have h := iRulesOk_any A1 n1 c1 x A2 n2 c2 y W h1 h2
  rw [hk] at h
  exact h
theorem zObeys {b : Bool} (h3 : SIn W A3 n3 c3 p) (h1 : SIn W A1 n1 c1 x) (h2 : SIn W A2 n2 c2 y) (hk : (faultsOf p x y == 0) = b) : Calls Try.prog 7 #[.slice A3 n3 c3, .slice A1 n1 c1, .slice A2 n2 c2] W fun e w' => e = .returned (.bool b) ∧ Below W.heap.size W w' := by
  have h := cObeysI A3 n3 c3 p A1 n1 c1 x A2 n2 c2 y W h3 h1 h2
  rw [hk] at h
  exact h
theorem zFaults {z : Int} (h3 : SIn W A3 n3 c3 p) (h1 : SIn W A1 n1 c1 x) (h2 : SIn W A2 n2 c2 y) (hk : faultsOf p x y = z) : Calls Try.prog 8 #[.slice A3 n3 c3, .slice A1 n1 c1, .slice A2 n2 c2] W fun e w' => e = .returned (.int .i64 z) ∧ Below W.heap.size W w' := by
  have h := cFaultsOfI A3 n3 c3 p A1 n1 c1 x A2 n2 c2 y W h3 h1 h2
  rw [hk] at h
  exact h
theorem zCount {a b z : Int} (h1 : SIn W A1 n1 c1 x) (h2 : SIn W A2 n2 c2 y) (hk : countOb a b x y = z) : Calls Try.prog 11 #[.int .i64 a, .int .i64 b, .slice A1 n1 c1, .slice A2 n2 c2] W fun e w' => e = .returned (.int .i64 z) ∧ Below W.heap.size W w' := by
  have h := cCountObeyingI a b A1 n1 c1 x A2 n2 c2 y W h1 h2
  rw [hk] at h
  exact h
theorem zFirst {a b : Int} {q : Pch} {t : Bool} (h1 : SIn W A1 n1 c1 x) (h2 : SIn W A2 n2 c2 y) (hk : firstOb a b x y = (q, t)) : Calls Try.prog 12 #[.int .i64 a, .int .i64 b, .slice A1 n1 c1, .slice A2 n2 c2] W (RetSB 9 W q t) := by
  have h := cFirstObeyingI a b A1 n1 c1 x A2 n2 c2 y W h1 h2
  rw [hk] at h
  exact h
theorem zRepeat {a : Int} {b : Bool} (h1 : SIn W A1 n1 c1 x) (h2 : SIn W A2 n2 c2 y) (hk : canRep x y a = b) : Calls Try.prog 17 #[.slice A1 n1 c1, .slice A2 n2 c2, .int .i64 a] W fun e w' => e = .returned (.bool b) ∧ Below W.heap.size W w' := by
  have h := cCanRepeatI A1 n1 c1 x A2 n2 c2 y a W h1 h2
  rw [hk] at h
  exact h
theorem zJoin {j : Pch} (h1 : SNil W A1 n1 c1 x) (h2 : SNil W A2 n2 c2 y) (hn : n1 + n2 ≤ 1048576) (hk : joinRules x y = (j, true)) : Calls Try.prog 14 #[.slice A1 n1 c1, .slice A2 n2 c2] W (RetSB 9 W j true) := by
  have h := cJoinRulesI A1 n1 c1 x A2 n2 c2 y W h1 h2 hn
  rw [hk] at h
  exact h
theorem zFormat {z : List UInt8} (h1 : SOwn W A3 n3 c3 p) (hk : fmtP p = z) : Calls Try.prog 13 #[.slice A3 n3 c3] W fun e w' => e = .returned (.string ⟨z.toArray⟩) ∧ Below W.heap.size W w' := by
  have h := cFormatPatchI A3 n3 c3 p W h1
  rw [hk] at h
  exact h
end
end Go.Proofs.Ytbaleboljcoigaa
