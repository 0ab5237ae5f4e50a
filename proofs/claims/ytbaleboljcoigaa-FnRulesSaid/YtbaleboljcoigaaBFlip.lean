/-
  Contracts of flipped and FlipPatch (program), and parts of the reference's. No conditions.
-/
import Derived.Test.YtbaleboljcoigaaBLaws1
import Derived.Lib.OthersKept
namespace Go.Proofs.Ytbaleboljcoigaa
open Go.RowKit

def colOf (p : List (List UInt8)) (x : Nat) : List UInt8 := p.map fun r => r.getD x 0
def flipP (p : List (List UInt8)) : List (List UInt8) := (List.range (wd p)).map (colOf p)
theorem colOf_snoc (p : List (List UInt8)) (x : Nat) {k : Nat} (h : k < p.length) (hx : x < (p[k]).length) : (colOf p x).take (k + 1) = (colOf p x).take k ++ [(p[k])[x]] := by
  unfold colOf
  rw [take_snoc _ k (by simpa using h)]
  simp [List.getD, List.getElem?_eq_getElem hx]
theorem colOf_len (p : List (List UInt8)) (x : Nat) : (colOf p x).length = p.length := by simp [colOf]
theorem flipP_len (p : List (List UInt8)) : (flipP p).length = wd p := by simp [flipP]
theorem flipP_snoc (p : List (List UInt8)) {x : Nat} (h : x < wd p) : (flipP p).take (x + 1) = (flipP p).take x ++ [colOf p x] := by
  rw [take_snoc _ x (by rw [flipP_len]; exact h)]; simp [flipP]

set_option maxHeartbeats 1600000 in
theorem flipped_any (A : Option Addr) (n c : Nat) (p : List (List UInt8)) (W : World) (hp : SIn W A n c p) (hok : pOk p = true) : Calls Try.prog 23 #[.slice A n c] W (RetS 9 W (flipP p)) := by
  have hlen := Lib.hid hp.1.lenS
  have hpl := pOk_len hok
  have hwd := pOk_wd hok
  have hn32 : n ≤ 32 := by have := hlen.out; omega
  have hn0 : 0 < n := by have := hlen.out; omega
  have HP := Lib.hid hp
  obtain ⟨a, rfl, hab, hc0⟩ := hp.1.str (k := 0) (by omega)
  have hc00 : W.cell? a = some (.string ⟨(p[0]).toArray⟩) := hc0
  have HW0 := Lib.hid (wd_zero (p := p) (by omega))
  rw [HW0.out] at hwd
  have HOK := Lib.hid hok
  clear hok hp hc0
  go_enter Try.func23, Try.ntmps23
  go_wp2
  go_loopw [13, 3] (fun i out wr => ∃ (x : Nat) (A' : Option Addr) (c' : Nat), x ≤ (p[0]).length ∧ i = .int .i64 x ∧ out = .slice A' x c' ∧ Own W wr 9 A' x c' (svs ((flipP p).take x))) (fun i _ _ => (p[0]).length - (intOf i).toNat)
  case atStart => exact ⟨0, _, _, Nat.zero_le _, rfl, rfl, (Own.made0 (Below.refl _ _) _)⟩
  case round =>
    obtain ⟨x, A', c', hx, rfl, rfl, hown⟩ := hrel
    have HO := Lib.hid hown
    clear hown
    by_cases hlt : x < (p[0]).length
    · have HF := Lib.hid (flipP_snoc p (x := x) (by rw [HW0.out]; exact hlt))
      go_wp2
      obtain ⟨wo, hwo⟩ : ∃ wo : World, wo = wr := ⟨_, rfl⟩
      go_loopw [19, 5] (fun i row wr2 => ∃ (k : Nat) (R : Option Addr) (d : Nat), k ≤ n ∧ i = .int .i64 k ∧ row = .slice R k d ∧ Own wr wr2 5 R k d (bvs ((colOf p x).take k))) (fun i _ _ => n - (intOf i).toNat)
      case atStart => exact ⟨0, _, _, Nat.zero_le _, rfl, rfl, Own.made0 (Below.refl _ _) _⟩
      case round =>
        obtain ⟨k, R, d, hk, rfl, rfl, hrow⟩ := hrel
        by_cases hkl : k < n
        · have hkp : k < p.length := by rw [hlen.out]; exact hkl
          have hxr : x < (p[k]).length := by rw [(pOk_row HOK.out (List.getElem_mem hkp)).2.1, HW0.out]; exact hlt
          have hr32 : (p[k]).length ≤ 32 := by have := (pOk_row HOK.out (List.getElem_mem hkp)).2; omega
          obtain ⟨a2, ha2, _, hcell⟩ := (HP.out.1.below (HO.out.2.trans (hrow.2.mono HO.out.2.size))).str (k := k) hkp
          injection ha2 with ha2
          subst ha2
          have HC := Lib.hid (colOf_snoc p x hkp hxr)
          go_wp2_with (at_builtin; refine app_one (.tmp 23) (.tmp 27) _ _ _ 1 rfl rfl Try.underlying22 infoB rfl rfl hrow rfl rfl (by omega) (by omega) ?_; intro R' d' w1 hrow1)
          exact ⟨⟨k + 1, R', d', by omega, by go_num, rfl, by rw [HC.out, bvs_snoc]; exact hrow1⟩, by simp [intOf]; omega⟩
        · have HK := Lib.hid (show (colOf p x).take k = colOf p x from List.take_of_length_le (by rw [colOf_len, hlen.out]; omega))
          have hrow2 := hrow
          rw [HK.out] at hrow2
          have hconv := conv_bytes (P := Try.prog) (c := d) 22 9 5 Try.underlying22 Try.underlying5 Try.underlying9 hrow2.rd
          have hown2 := HO.out.later hrow.2
          clear hrow2
          go_wp2_with (at_builtin; refine app_one (.tmp 30) (.tmp 33) _ _ _ 16 rfl rfl Try.underlying23 infoS rfl rfl hown2 rfl rfl (by omega) (by omega) ?_; intro A2 c2 w1 hown1)
          exact ⟨⟨x + 1, A2, c2, by omega, by go_num, rfl, by rw [HF.out, svs_snoc]; exact hown1⟩, by simp [intOf]; omega⟩
    · have HK := Lib.hid (show (flipP p).take x = flipP p from List.take_of_length_le (by rw [flipP_len, HW0.out]; omega))
      have hown2 := HO.out
      rw [HK.out] at hown2
      go_wp2
      go_ret
      exact ⟨_, _, _, rfl, hown2⟩

def flipPatch (p : List (List UInt8)) : List (List UInt8) := if pOk p then flipP p else []
theorem flipPatch_len (p : List (List UInt8)) : (flipPatch p).length ≤ 4096 := by
  unfold flipPatch
  split
  · rename_i h; have := pOk_wd h; rw [flipP_len]; omega
  · simp

/-- an iterator moved on: what is owned stays -/
theorem Own.iterAt {w0 w : World} {e : TypeId} {A : Option Addr} {n c : Nat} {xs : List Value} (h : Own w0 w e A n c xs) {k : Nat} {s : ByteArray} {q : Nat} (hk : w.heap[k]? = some (.stringIter s q)) (hw : w0.heap.size ≤ k) (s' : ByteArray) (q' : Nat) : Own w0 (w.iterAt k s' q') e A n c xs := by
  refine ⟨⟨h.1.1, ?_⟩, Lib.below_iterAt h.2 hw _ _⟩
  rcases h.1.2 with h2 | ⟨g, cap, cur, hv, hg, hh, r⟩
  · exact Or.inl h2
  · refine Or.inr ⟨g, cap, cur, hv, hg, ?_, r⟩
    have hne : g ≠ k := by rintro rfl; rw [hk] at hh; cases hh
    rw [Lib.iterAt_other _ _ _ _ _ hne]
    exact hh
theorem Own.notIter {w0 w : World} {e : TypeId} {A : Option Addr} {n c : Nat} {xs : List Value} (h : Own w0 w e A n c xs) {k : Nat} {s : ByteArray} {q : Nat} (hk : w.heap[k]? = some (.stringIter s q)) : some k ≠ (Value.slice A n c).ownBlock := by
  intro he
  rcases h.1.2 with ⟨hv, _⟩ | ⟨g, cap, cur, hv, hg, hh, r⟩
  · rw [hv] at he; simp [Value.ownBlock] at he
  · rw [hv] at he
    simp [Value.ownBlock] at he
    subst he
    rw [hk] at hh; cases hh
/-- an iterator stands where an append goes on behind a new block -/
theorem iter_kept {w0 w w' : World} {e e2 : TypeId} {A : Option Addr} {n c : Nat} {xs : List Value} {u : Array Value} (h : Own w0 w e A n c xs) {k : Nat} {s : ByteArray} {q : Nat} (hk : w.heap[k]? = some (.stringIter s q)) (hg : (w.alloc (.cells u e2)).grownBy w' (Value.slice A n c).ownBlock) : w'.heap[k]? = some (.stringIter s q) := by
  have hlt : k < w.heap.size := (Array.getElem?_eq_some_iff.1 hk).1
  have h1 : (w.alloc (.cells u e2)).heap[k]? = some (.stringIter s q) := (Below.heap_alloc w _ k hlt).trans hk
  exact (hg.block k (by simp; omega) (h.notIter hk)).trans h1
def lenOf : Value → Nat | .slice _ n _ => n | _ => 0

set_option maxHeartbeats 1600000 in
theorem cFlipPatchS (A : Option Addr) (n c : Nat) (p : List (List UInt8)) (W : World) (hp : SIn W A n c p) : Calls Try.prog 67 #[.slice A n c] W (RetS 9 W (flipPatch p)) := by
  have hcon := sPatchOk_any A n c _ p W hp.1 hp.2.1 hp.longs
  have hlen := Lib.hid hp.1.lenS
  cases hok : pOk p
  case false =>
    have HE := Lib.hid (show [] = flipPatch p by simp [flipPatch, hok])
    rw [hok] at hcon
    have HC := Lib.hid hcon
    clear hcon
    go_enter Try.func67, Try.ntmps67
    go_wp2_with (go_at_call 65; refine HC.out.mono ?_; rintro e w' ⟨rfl, rfl⟩)
    go_ret
    rw [← HE.out]
    exact ⟨_, _, _, rfl, Own.nil (Below.refl _ _) _⟩
  case true =>
  have HE := Lib.hid (show flipP p = flipPatch p by simp [flipPatch, hok])
  have hpl := pOk_len hok
  have hwd := pOk_wd hok
  have hn32 : n ≤ 32 := by have := hlen.out; omega
  have hn0 : 0 < n := by have := hlen.out; omega
  have HP := Lib.hid hp
  rw [hok] at hcon
  have HC := Lib.hid hcon
  obtain ⟨a, rfl, hab, hc0⟩ := hp.1.str (k := 0) (by omega)
  have hc00 : W.cell? a = some (.string ⟨(p[0]).toArray⟩) := hc0
  have HW0 := Lib.hid (wd_zero (p := p) (by omega))
  rw [HW0.out] at hwd
  have HOK := Lib.hid hok
  have HLET := Lib.hid (isW_all (pOk_row hok (List.getElem_mem (show 0 < p.length by omega))).1)
  clear hok hp hc0 hcon
  go_enter Try.func67, Try.ntmps67
  go_wp2_with (go_at_call 65; refine HC.out.mono ?_; rintro e w' ⟨rfl, rfl⟩)
  have HIT := Lib.hid (show ((W.alloc (.cells #[] 9)).iter ⟨(p[0]).toArray⟩ 0).heap[W.heap.size + 1]? = some (.stringIter ⟨(p[0]).toArray⟩ 0) by simpa using World.iter_heap (W.alloc (.cells #[] 9)) ⟨(p[0]).toArray⟩ 0)
  have HOW := Lib.hid (show Own W ((W.alloc (.cells #[] 9)).iter ⟨(p[0]).toArray⟩ 0) 9 (some ⟨W.heap.size, 0, none⟩) 0 0 (svs ((flipP p).take 0)) from (Own.made0 (Below.refl _ _) _).alloc _)
  go_loopw [3] (fun out wr => ∃ (x : Nat) (A' : Option Addr) (c' : Nat), x ≤ (p[0]).length ∧ out = .slice A' x c' ∧ Own W wr 9 A' x c' (svs ((flipP p).take x)) ∧ wr.heap[W.heap.size + 1]? = some (.stringIter ⟨(p[0]).toArray⟩ x)) (fun out _ => (p[0]).length - lenOf out)
  case atStart => exact ⟨0, _, _, Nat.zero_le _, rfl, HOW.out, HIT.out⟩
  case round =>
    obtain ⟨x, A', c', hx, rfl, hown, hit⟩ := hrel
    have HO := Lib.hid hown
    have HI := Lib.hid hit
    clear hown hit
    by_cases hlt : x < (p[0]).length
    · have HF := Lib.hid (flipP_snoc p (x := x) (by rw [HW0.out]; exact hlt))
      have hlx := let_at HLET.out hlt
      have hnx : ∀ ty, (Instr.next (.pointer (some ⟨W.heap.size + 1, 0, none⟩)) true ty).run Try.prog wr = _ := fun ty => Lib.run_next_ascii_at wr (W.heap.size + 1) ⟨(p[0]).toArray⟩ x ty HI.out hlt (show (p[0])[x].toNat < 128 by omega)
      have HO1 := Lib.hid (HO.out.iterAt HI.out (Nat.le_succ _) ⟨(p[0]).toArray⟩ (x + 1))
      have HI1 := Lib.hid (Lib.iterAt_heap wr (W.heap.size + 1) ⟨(p[0]).toArray⟩ x (x + 1) HI.out)
      obtain ⟨w1, hw1⟩ : ∃ w1, w1 = wr.iterAt (W.heap.size + 1) ⟨(p[0]).toArray⟩ (x + 1) := ⟨_, rfl⟩
      rw [← hw1] at hnx HO1 HI1
      clear hw1
      go_wp2
      obtain ⟨wo, hwo⟩ : ∃ wo : World, wo = wr := ⟨_, rfl⟩
      go_loopw [22, 5] (fun i row wr2 => ∃ (k : Nat) (R : Option Addr) (d : Nat), k ≤ n ∧ i = .int .i64 k ∧ row = .slice R k d ∧ Own w1 wr2 5 R k d (bvs ((colOf p x).take k))) (fun i _ _ => n - (intOf i).toNat)
      case atStart => exact ⟨0, _, _, Nat.zero_le _, rfl, rfl, Own.made0 (Below.refl _ _) _⟩
      case round =>
        obtain ⟨k, R, d, hk, rfl, rfl, hrow⟩ := hrel
        by_cases hkl : k < n
        · have hkp : k < p.length := by rw [hlen.out]; exact hkl
          have hxr : x < (p[k]).length := by rw [(pOk_row HOK.out (List.getElem_mem hkp)).2.1, HW0.out]; exact hlt
          have hr32 : (p[k]).length ≤ 32 := by have := (pOk_row HOK.out (List.getElem_mem hkp)).2; omega
          obtain ⟨a2, ha2, _, hcell⟩ := (HP.out.1.below (HO1.out.2.trans (hrow.2.mono HO1.out.2.size))).str (k := k) hkp
          injection ha2 with ha2
          subst ha2
          have HC := Lib.hid (colOf_snoc p x hkp hxr)
          go_wp2_with (at_builtin; refine app_one (.tmp 26) (.tmp 30) _ _ _ 1 rfl rfl Try.underlying22 infoB rfl rfl hrow rfl rfl (by omega) (by omega) ?_; intro R' d' w2 hrow1)
          exact ⟨⟨k + 1, R', d', by omega, by go_num, rfl, by rw [HC.out, bvs_snoc]; exact hrow1⟩, by simp [intOf]; omega⟩
        · have HK := Lib.hid (show (colOf p x).take k = colOf p x from List.take_of_length_le (by rw [colOf_len, hlen.out]; omega))
          have hrow2 := hrow
          rw [HK.out] at hrow2
          have hconv := conv_bytes (P := Try.prog) (c := d) 22 9 5 Try.underlying22 Try.underlying5 Try.underlying9 hrow2.rd
          have hown2 := HO1.out.later hrow.2
          have HI2 := Lib.hid ((hrow.2.block (W.heap.size + 1) (Array.getElem?_eq_some_iff.1 HI1.out).1).trans HI1.out)
          clear hrow2
          go_wp2_with (at_builtin; refine app_own (.tmp 33) (.tmp 36) _ _ _ 16 rfl rfl Try.underlying23 infoS rfl rfl (hown2.alloc _) rfl (fun h => by cases h) (Rd.one _ _ _) (by simp [Value.oneCell']) (by omega) (by omega) ?_; intro A2 c2 w3 hown1 hg3)
          exact ⟨⟨x + 1, A2, c2, by omega, rfl, by rw [HF.out, svs_snoc]; exact hown1, iter_kept hown2 HI2.out hg3⟩, by simp [lenOf]; omega⟩
    · have HK := Lib.hid (show (flipP p).take x = flipP p from List.take_of_length_le (by rw [flipP_len, HW0.out]; omega))
      have hown2 := HO.out
      rw [HK.out] at hown2
      have hnx : ∀ ty, (Instr.next (.pointer (some ⟨W.heap.size + 1, 0, none⟩)) true ty).run Try.prog wr = _ := fun ty => Lib.run_next_end_at wr (W.heap.size + 1) ⟨(p[0]).toArray⟩ x ty HI.out hlt
      go_wp2
      go_ret
      rw [← HE.out]
      exact ⟨_, _, _, rfl, hown2⟩
end Go.Proofs.Ytbaleboljcoigaa
