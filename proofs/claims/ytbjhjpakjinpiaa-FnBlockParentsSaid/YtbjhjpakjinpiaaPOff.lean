/-
  Contracts of OffsetsOf (program and reference). No conditions.
-/
import Derived.Test.YtbjhjpakjinpiaaPFit
import Derived.Test.YtbjhjpakjinpiaaMemG
namespace Go.Proofs.Ytbjhjpakjinpiaa
open Go.RowKit

theorem infoSI : (Try.prog.info? 34).map (fun i => (i.zero, i.size, i.bytes)) = some (some (.slice none 0 0), 1, 24) := by kernel_rfl

def offAt (b p : Pch) (i : Nat) : Bool := fitsAt b p ((i / 2 : Nat) : Int) ((i % 2 : Nat) : Int)
def offsN (b p : Pch) (m : Nat) : List (List Int) := ((List.range m).filter (offAt b p)).map fun i : Nat => [((i / 2 : Nat) : Int), ((i % 2 : Nat) : Int)]
def offs (b p : Pch) : List (List Int) := offsN b p 4
theorem offsN_yes {b p : Pch} {k j : Nat} (hj : j < 2) (h : fitsAt b p (k : Int) (j : Int) = true) : offsN b p (2 * k + (j + 1)) = offsN b p (2 * k + j) ++ [[(k : Int), (j : Int)]] := by
  have h1 : (2 * k + j) / 2 = k := by omega
  have h2 : (2 * k + j) % 2 = j := by omega
  unfold offsN
  rw [← Nat.add_assoc, List.range_succ, List.filter_append, List.map_append]
  congr 1
  rw [List.filter_cons, if_pos (show offAt b p (2 * k + j) = true by unfold offAt; rw [h1, h2]; exact h)]
  simp only [List.filter_nil, List.map_cons, List.map_nil, h1, h2]
theorem offsN_no {b p : Pch} {k j : Nat} (hj : j < 2) (h : fitsAt b p (k : Int) (j : Int) = false) : offsN b p (2 * k + (j + 1)) = offsN b p (2 * k + j) := by
  have h1 : (2 * k + j) / 2 = k := by omega
  have h2 : (2 * k + j) % 2 = j := by omega
  unfold offsN
  rw [← Nat.add_assoc, List.range_succ, List.filter_append]
  simp [offAt, h1, h2, h]
theorem offs_none {b p : Pch} (h : okP b p 0 0 = false) : offs b p = [] := by
  have h2 : (rOk b && pOk p) = false := by
    have h3 : okP b p 0 0 = (rOk b && pOk p) := by unfold okP; rw [show offOk 0 0 = true from rfl, Bool.and_true]
    rw [← h3]; exact h
  have h3 : ∀ x y, fitsAt b p x y = false := fun x y => fitsAt_no (by
    rw [parentOf_no]
    unfold okP
    rw [← Bool.and_assoc, h2]; rfl)
  unfold offs offsN
  rw [List.filter_eq_nil_iff.2 (fun i _ => by simp [offAt, h3])]
  rfl
theorem offsN_len (b p : Pch) (m : Nat) : (offsN b p m).length ≤ m := by
  unfold offsN
  rw [List.length_map]
  exact Nat.le_trans (List.length_filter_le _ _) (by simp)
theorem offsN_row {b p : Pch} {m : Nat} {z : List Int} (h : z ∈ offsN b p m) : z.length = 2 := by
  obtain ⟨i, _, rfl⟩ := List.mem_map.1 h
  rfl

/-- the rows after one more pair -/
def NewR (e : TypeId) (h : Nat) (k j : Int) : Row := ⟨e, some ⟨h, 0, none⟩, 2, 2, ivs [k, j]⟩
theorem perm_new (a b : Row) (l : List Row) : (a :: b :: l).Perm (b :: (l ++ [a])) :=
  (List.Perm.swap b a l).trans ((List.perm_append_comm (l₁ := [a]) (l₂ := l)).cons b)
theorem pair_made {w0 w : World} {L : List Row} (h : Mem w0 w L) (e : TypeId) (k j : Int) : Mem w0 (w.alloc (.cells #[.int .i64 k, .int .i64 j] e)) (NewR e w.heap.size k j :: L) :=
  h.add (Own.made (w0 := w) (w := w) (Below.refl _ _) e (ivs [k, j]) (by simp [ivs]))

theorem pair_rd (w : World) (e1 e2 : TypeId) (k j : Int) : Rd ((w.alloc (.cells #[.int .i64 k, .int .i64 j] e1)).alloc (.cells #[.slice (some ⟨w.heap.size, 0, none⟩) 2 2] e2)) (w.heap.size + 1 + 1) (some ⟨w.heap.size + 1, 0, none⟩) 1 [.slice (some ⟨w.heap.size, 0, none⟩) 2 2] := by
  have h := Rd.one (w.alloc (.cells #[.int .i64 k, .int .i64 j] e1)) (.slice (some ⟨w.heap.size, 0, none⟩) 2 2) e2
  have hs : (w.alloc (.cells #[.int .i64 k, .int .i64 j] e1)).heap.size = w.heap.size + 1 := by simp
  rw [hs] at h
  exact h


set_option maxHeartbeats 3200000 in
theorem cOffsetsOfI (A0 : Option Addr) (n0 c0 : Nat) (b : Pch) (A1 : Option Addr) (n1 c1 : Nat) (p : Pch) (W : World) (hb : SIn W A0 n0 c0 b) (hp : SIn W A1 n1 c1 p) :
    Calls Try.prog 11 #[.slice A0 n0 c0, .slice A1 n1 c1] W (RetG 3 34 W (offs b p)) := by
  have HP := Lib.hid hp
  have HB := Lib.hid hb
  clear hb hp
  go_enter Try.func11, Try.ntmps11
  go_wp2
  go_loopw [9, 5] (fun i out wr => ∃ (k : Nat) (A : Option Addr) (n c : Nat) (rs : List Row), k ≤ 2 ∧ i = .int .i64 k ∧ out = .slice A n c ∧ n ≤ 4 ∧ Mem W wr (⟨34, A, n, c, rs.map SVal⟩ :: rs) ∧ rs.map Row.xs = (offsN b p (2 * k)).map ivs ∧ ∀ r ∈ rs, r.e = 3) (fun i _ _ => 2 - (intOf i).toNat)
  case atStart => exact ⟨0, _, _, _, [], Nat.zero_le _, rfl, rfl, by omega, (Mem.start W).add (Own.made0 (Below.refl _ _) _), rfl, by simp⟩
  case round =>
    obtain ⟨k, A, n, c, rs, hk, rfl, rfl, hn, hmem, hxs, hes⟩ := hrel
    have HM := Lib.hid hmem
    have HX := Lib.hid hxs
    have HE := Lib.hid hes
    clear hmem hxs hes
    by_cases hlt : k < 2
    · have hd : decide ((k : Int) < 2) = true := by simp; omega
      go_wp2
      go_loopw [12, 5] (fun i out wr => ∃ (j : Nat) (A : Option Addr) (n c : Nat) (rs : List Row), j ≤ 2 ∧ i = .int .i64 j ∧ out = .slice A n c ∧ n ≤ 4 ∧ Mem W wr (⟨34, A, n, c, rs.map SVal⟩ :: rs) ∧ rs.map Row.xs = (offsN b p (2 * k + j)).map ivs ∧ ∀ r ∈ rs, r.e = 3) (fun i _ _ => 2 - (intOf i).toNat)
      case atStart => exact ⟨0, _, _, _, rs, Nat.zero_le _, rfl, rfl, hn, HM.out, HX.out, HE.out⟩
      case round =>
        clear HM HX HE hn
        obtain ⟨j, A, n, c, rs, hj, rfl, rfl, hn, hmem, hxs, hes⟩ := hrel
        have HM := Lib.hid hmem
        have HX := Lib.hid hxs
        have HE := Lib.hid hes
        have hn3 : j < 2 → n ≤ 2 * k + j := fun _ => by
          have h1 := xs_len hxs
          have h2 := hmem.rd0.1
          have h3 := offsN_len b p (2 * k + j)
          simp at h2; omega
        clear hmem hxs hes
        by_cases hlt2 : j < 2
        · have hn4 : n ≤ 3 := by have := hn3 hlt2; omega
          clear hn3
          go_wp2_with fail
          refine (cFitsAtI _ _ _ b _ _ _ p _ _ _ (HB.out.later HM.out.bel) (HP.out.later HM.out.bel)).mono ?_
          rintro e w1 ⟨he, hb1⟩
          have HM1 := Lib.hid (HM.out.later hb1)
          clear hb1
          cases hf : fitsAt b p (k : Int) (j : Int)
          · rw [hf] at he
            subst he
            have HO := Lib.hid (offsN_no hlt2 hf)
            clear hf
            go_wp2
            exact ⟨⟨j + 1, A, n, c, rs, by omega, by go_num, rfl, hn, HM1.out, by rw [HO.out]; exact HX.out, HE.out⟩, by simp [intOf]; omega⟩
          · rw [hf] at he
            subst he
            have HO := Lib.hid (offsN_yes hlt2 hf)
            clear hf
            go_wp2_with (at_builtin; refine app_mem [NewR 3 w1.heap.size k j] rs (.tmp 20) (.tmp 24) 32 34 (.slice none 0 0) 24 rfl rfl Try.underlying32 infoSI rfl rfl ((pair_made HM1.out 3 k j).alloc _) rfl (by omega) (pair_rd w1 _ _ k j) (fun u hu => by simp at hu; subst hu; rfl) (by omega) (by omega) ?_; intro A2 c2 w2 hm2)
            refine ⟨⟨j + 1, A2, n + 1, c2, rs ++ [NewR 3 w1.heap.size k j], by omega, by go_num, rfl, by omega, ?_, ?_, ?_⟩, by simp [intOf]; omega⟩
            · have h := Mem.perm hm2 (perm_new _ _ _)
              simpa [SVal, NewR] using h
            · rw [List.map_append, HX.out, HO.out, List.map_append]; rfl
            · intro r hr
              rcases List.mem_append.1 hr with hr | hr
              · exact HE.out r hr
              · simp at hr; subst hr; rfl
        · obtain rfl : j = 2 := by omega
          have HO := Lib.hid (show offsN b p (2 * k + 2) = offsN b p (2 * (k + 1)) from rfl)
          clear hn3
          go_wp2
          exact ⟨⟨k + 1, A, n, c, rs, by omega, by go_num, rfl, hn, HM.out, by rw [← HO.out]; exact HX.out, HE.out⟩, by simp [intOf]; omega⟩
    · obtain rfl : k = 2 := by omega
      go_wp2
      go_ret
      exact ⟨A, n, c, rs, rfl, HM.out, HX.out, HE.out⟩
end Go.Proofs.Ytbjhjpakjinpiaa
