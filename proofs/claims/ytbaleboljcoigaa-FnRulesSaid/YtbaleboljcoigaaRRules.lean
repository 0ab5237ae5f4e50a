/-
  Contracts of RulesOf (program and reference). No conditions.
-/
import Derived.Test.YtbaleboljcoigaaRJoin
namespace Go.Proofs.Ytbaleboljcoigaa
open Go.RowKit

/-- what a call that hands back two slices of strings leaves -/
def RetS2 (st : TypeId) (w0 : World) (p : Pch × Pch) (e : Ending) (w' : World) : Prop :=
  ∃ A n c B m d, e = .returned (.tuple #[.slice A n c, .slice B m d]) ∧ Mem w0 w' [⟨st, B, m, d, svs p.2⟩, ⟨st, A, n, c, svs p.1⟩]
theorem Mem.add2 {w0 w w' : World} {L : List Row} {a b : Row} (h : Mem w0 w L) (hg : Mem w w' [a, b]) : Mem w0 w' (a :: b :: L) := by
  have hb : Below w.heap.size w w' := hg.1
  have hL := h.later hb
  have hx : ∀ r ∈ [a, b], ∀ s ∈ L, r.blk = none ∨ r.blk ≠ s.blk := fun r hr s hs => by
    cases hbk : r.blk with
    | none => exact Or.inl rfl
    | some g =>
      refine Or.inr fun hc => ?_
      have h1 := (own_blk_lt (hg.2.1 r hr) g hbk).1
      have h2 := (own_blk_lt (h.2.1 s hs) g hc.symm).2
      omega
  refine ⟨hL.1, fun r hr => ?_, ?_⟩
  · rcases List.mem_cons.1 hr with rfl | hr
    · exact less_row (hg.2.1 r (by simp)) h.1.size
    · rcases List.mem_cons.1 hr with rfl | hr
      · exact less_row (hg.2.1 r (by simp)) h.1.size
      · exact hL.2.1 r hr
  · have h2 := List.pairwise_cons.1 hg.2.2
    refine List.Pairwise.cons (fun s hs => ?_) (List.Pairwise.cons (fun s hs => hx b (by simp) s hs) h.2.2)
    rcases List.mem_cons.1 hs with rfl | hs
    · exact h2.1 s (by simp)
    · exact hx a (by simp) s hs
def rulesOf (p : Pch) : Pch × Pch := if pOk p then (insF (pairsL p), insF (pairsL (flipP p))) else ([], [])
theorem rulesOf_len (p : Pch) : (rulesOf p).1.length ≤ 4096 ∧ (rulesOf p).2.length ≤ 4096 := by
  unfold rulesOf
  split
  · rename_i h
    have h1 := pOk_len h
    have h2 := pOk_wd h
    have h3 := pairsL_len (p := p) (fun x hx => by have := pOk_row h hx; omega)
    have h4 := pairsL_len (p := flipP p) (fun x hx => by obtain ⟨i, _, rfl⟩ := List.mem_map.1 hx; rw [colOf_len]; omega)
    rw [flipP_len] at h4
    have h5 := insF_len (pairsL p)
    have h6 := insF_len (pairsL (flipP p))
    constructor
    · show (insF (pairsL p)).length ≤ 4096; omega
    · show (insF (pairsL (flipP p))).length ≤ 4096; omega
  · simp

set_option maxHeartbeats 1600000 in
theorem cRulesOfI (A0 : Option Addr) (n0 c0 : Nat) (p : Pch) (W : World) (hp : SIn W A0 n0 c0 p) :
    Calls Try.prog 5 #[.slice A0 n0 c0] W (RetS2 9 W (rulesOf p)) := by
  have hcp := iPatchOk_any A0 n0 c0 _ p W hp.1 hp.2.1 hp.longs
  have hlen := Lib.hid hp.1.lenS
  cases hpo : pOk p
  case false =>
    have HE := Lib.hid (show rulesOf p = ([], []) by unfold rulesOf; rw [hpo]; rfl)
    rw [hpo] at hcp
    have HC := Lib.hid hcp
    clear hcp hpo
    go_enter Try.func5, Try.ntmps5
    go_wp2_with (go_at_call 20; refine HC.out.mono ?_; rintro e w' ⟨rfl, rfl⟩)
    go_ret2
    rw [HE.out]
    exact ⟨_, _, _, _, _, _, rfl, ((Mem.start _).add (Own.nil (Below.refl _ _) _)).add (Own.nil (Below.refl _ _) _)⟩
  rw [hpo] at hcp
  have HCP := Lib.hid hcp
  have HPO := Lib.hid hpo
  have HP := Lib.hid hp
  have hpl := pOk_len hpo
  have hwd := pOk_wd hpo
  have hn64 : n0 ≤ 64 := by have := hlen.out; omega
  have HRL := Lib.hid (show ∀ x ∈ p, x.length ≤ 64 from fun x hx => by have := pOk_row hpo hx; omega)
  have HFL := Lib.hid (show ∀ x ∈ flipP p, x.length ≤ 64 from fun x hx => by
    obtain ⟨i, _, rfl⟩ := List.mem_map.1 hx
    rw [colOf_len]; omega)
  have HFN := Lib.hid (show (flipP p).length ≤ 64 by rw [flipP_len]; omega)
  have HE := Lib.hid (show rulesOf p = (insF (pairsL p), insF (pairsL (flipP p))) by unfold rulesOf; rw [hpo]; rfl)
  clear hcp hpo hp hpl hwd
  go_enter Try.func5, Try.ntmps5
  go_wp2_with (go_at_call 20; refine HCP.out.mono ?_; rintro e w' ⟨rfl, rfl⟩)
  clear HCP
  refine (pairsOf_any _ _ _ p _ HP.out hn64 HRL.out).mono ?_
  rintro e w1 ⟨G1, m1, d1, rfl, o1⟩
  have P1 := Lib.hid o1
  have L1 := pairsL_len (p := p) HRL.out
  have M1 : m1 ≤ 65536 := by have h1 := o1.len; have := hlen.out; simp only [svs, List.length_map] at h1; omega
  clear o1 L1
  go_wp2_with fail
  refine (ordered_any W _ _ _ (pairsL p) _ P1.out (by omega)).mono ?_
  rintro e w2 ⟨m2, rfl, o2⟩
  have M2 := Lib.hid ((Mem.start W).add o2)
  have B2 := Lib.hid o2.2
  clear o2 P1
  go_wp2_with fail
  refine (flipped_any _ _ _ p _ (HP.out.later B2.out) HPO.out).mono ?_
  rintro e w3 ⟨G3, m3, d3, rfl, o3⟩
  have P3 := Lib.hid o3
  have M3 := Lib.hid (M2.out.later o3.2)
  have N3 : m3 ≤ 64 := by have h1 := o3.len; have := HFN.out; simp only [svs, List.length_map] at h1; omega
  clear o3
  go_wp2_with fail
  refine (pairsOf_any _ _ _ (flipP p) _ (SIn.of P3.out.rd (by omega) (fun s hs => by have := HFL.out s hs; omega) P3.out.cap) N3 HFL.out).mono ?_
  rintro e w4 ⟨G4, m4, d4, rfl, o4⟩
  have P4 := Lib.hid o4
  have L4 := pairsL_len (p := flipP p) HFL.out
  have N4 : m4 ≤ 65536 := by have h1 := o4.len; have := HFN.out; simp only [svs, List.length_map] at h1; omega
  clear o4 L4
  go_wp2_with fail
  refine (ordered_any w3 _ _ _ (pairsL (flipP p)) _ P4.out (by omega)).mono ?_
  rintro e w5 ⟨m5, rfl, o5⟩
  have M5 := Lib.hid (M3.out.add o5)
  clear o5
  go_wp2
  go_ret2
  rw [HE.out]
  exact ⟨_, _, _, _, _, _, rfl, M5.out⟩

set_option maxHeartbeats 1600000 in
theorem cRulesOfS (A0 : Option Addr) (n0 c0 : Nat) (p : Pch) (W : World) (hp : SIn W A0 n0 c0 p) :
    Calls Try.prog 51 #[.slice A0 n0 c0] W (RetS2 9 W (rulesOf p)) := by
  have hcp := sPatchOk_any A0 n0 c0 _ p W hp.1 hp.2.1 hp.longs
  have hlen := Lib.hid hp.1.lenS
  cases hpo : pOk p
  case false =>
    have HE := Lib.hid (show rulesOf p = ([], []) by unfold rulesOf; rw [hpo]; rfl)
    rw [hpo] at hcp
    have HC := Lib.hid hcp
    clear hcp hpo
    go_enter Try.func51, Try.ntmps51
    go_wp2_with (go_at_call 65; refine HC.out.mono ?_; rintro e w' ⟨rfl, rfl⟩)
    go_ret2
    rw [HE.out]
    exact ⟨_, _, _, _, _, _, rfl, ((Mem.start _).add (Own.nil (Below.refl _ _) _)).add (Own.nil (Below.refl _ _) _)⟩
  rw [hpo] at hcp
  have HCP := Lib.hid hcp
  have HP := Lib.hid hp
  have hpl := pOk_len hpo
  have hwd := pOk_wd hpo
  have hn64 : n0 ≤ 64 := by have := hlen.out; omega
  have HRL := Lib.hid (show ∀ x ∈ p, x.length ≤ 64 from fun x hx => by have := pOk_row hpo hx; omega)
  have HFL := Lib.hid (show ∀ x ∈ flipP p, x.length ≤ 64 from fun x hx => by
    obtain ⟨i, _, rfl⟩ := List.mem_map.1 hx
    rw [colOf_len]; omega)
  have HFN := Lib.hid (show (flipP p).length ≤ 64 by rw [flipP_len]; omega)
  have HE := Lib.hid (show rulesOf p = (insF (pairsL p), insF (pairsL (flipP p))) by unfold rulesOf; rw [hpo]; rfl)
  have HFP := Lib.hid (show flipPatch p = flipP p by unfold flipPatch; rw [hpo]; rfl)
  clear hcp hpo hp hpl hwd
  go_enter Try.func51, Try.ntmps51
  go_wp2_with (go_at_call 65; refine HCP.out.mono ?_; rintro e w' ⟨rfl, rfl⟩)
  clear HCP
  refine (l23Pairs_any _ _ _ p _ HP.out hn64 HRL.out).mono ?_
  rintro e w1 ⟨G1, m1, d1, rfl, o1⟩
  have M1 := Lib.hid ((Mem.start W).add o1)
  have B1 := Lib.hid o1.2
  clear o1
  go_wp2_with fail
  refine (cFlipPatchS _ _ _ p _ (HP.out.later B1.out)).mono ?_
  rw [HFP.out]
  rintro e w3 ⟨G3, m3, d3, rfl, o3⟩
  have P3 := Lib.hid o3
  have M3 := Lib.hid (M1.out.later o3.2)
  have N3 : m3 ≤ 64 := by have h1 := o3.len; have := HFN.out; simp only [svs, List.length_map] at h1; omega
  clear o3
  go_wp2_with fail
  refine (l23Pairs_any _ _ _ (flipP p) _ (SIn.of P3.out.rd (by omega) (fun s hs => by have := HFL.out s hs; omega) P3.out.cap) N3 HFL.out).mono ?_
  rintro e w4 ⟨G4, m4, d4, rfl, o4⟩
  have M4 := Lib.hid (M3.out.add o4)
  clear o4
  go_wp2
  go_ret2
  rw [HE.out]
  exact ⟨_, _, _, _, _, _, rfl, M4.out⟩
end Go.Proofs.Ytbaleboljcoigaa
