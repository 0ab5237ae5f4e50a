/-
  Contracts of the reference's l21Apply and ApplyBlocks. No conditions.
-/
import Derived.Test.YtbaleboljcoigaaBApply
namespace Go.Proofs.Ytbaleboljcoigaa
open Go.RowKit

theorem hasB_take {n : Nat} {l : List UInt8} (h : hasB n l = true) (j : Nat) : hasB n (l.take j) = true := by
  unfold hasB at h ⊢
  rw [List.all_eq_true] at h ⊢
  exact fun x hx => h x (List.mem_of_mem_take hx)

set_option maxHeartbeats 3200000 in
theorem l21Apply_any (A : Option Addr) (n c : Nat) (b : List (List UInt8)) (A2 : Option Addr) (n2 c2 : Nat) (p : List (List UInt8)) (W : World) (hb : SIn W A n c b) (hp : SIn W A2 n2 c2 p)
    (hok : rOk b = true) (hfit : ∀ r ∈ p, Fit b r) (hlr : ∀ r ∈ p, r.length ≤ 64) (hn2 : n2 ≤ 64) : Calls Try.prog 62 #[.slice A n c, .slice A2 n2 c2] W (RetS 9 W (applyB b p)) := by
  have hlenb := Lib.hid hb.1.lenS
  have hlenp := Lib.hid hp.1.lenS
  have hbl := rOk_len hok
  have hn4 : n ≤ 4 := by have := hlenb.out; omega
  have HOK := Lib.hid hok
  have HF := Lib.hid hfit
  have HR := Lib.hid hlr
  have HB := Lib.hid hb
  have HP := Lib.hid hp
  clear hok hfit hlr hb hp
  go_enter Try.func62, Try.ntmps62
  go_wp2
  go_loopw [15, 5] (fun i out wr => ∃ (k : Nat) (A' : Option Addr) (c' : Nat), k ≤ n2 ∧ i = .int .i64 k ∧ out = .slice A' (2 * k) c' ∧ Own W wr 9 A' (2 * k) c' (svs (applyB b (p.take k)))) (fun i _ _ => n2 - (intOf i).toNat)
  case atStart => exact ⟨0, _, _, Nat.zero_le _, rfl, rfl, Own.made0 (Below.refl _ _) _⟩
  case round =>
    obtain ⟨k, A', c', hk, rfl, rfl, hown⟩ := hrel
    by_cases hlt : k < n2
    · have hkl : k < p.length := by rw [hlenp.out]; exact hlt
      obtain ⟨a, rfl, _, hcell⟩ := (HP.out.1.below hown.2).str (k := k) hkl
      have hr := HF.out _ (List.getElem_mem hkl)
      have hrl := HR.out _ (List.getElem_mem hkl)
      have HS := Lib.hid (ap_snoc b p hkl)
      obtain ⟨r, hre⟩ : ∃ r, r = p[k] := ⟨_, rfl⟩
      rw [← hre] at hcell hr hrl HS
      clear hre
      have HW := Lib.hid hr.1
      have HH := Lib.hid hr.2
      clear hr
      have M0 := (((Mem.start W).add hown).add (Own.made0 (w0 := wr) (Below.refl _ _) 5)).add (Own.made0 (w0 := wr.alloc (.cells #[] 5)) (Below.refl _ _) 5)
      have hsz : (wr.alloc (.cells #[] 5)).heap.size = wr.heap.size + 1 := by simp
      rw [hsz] at M0
      clear hsz
      go_wp2
      go_loopw [10, 8, 9] (fun i up low w2 => ∃ (j : Nat) (U : Option Addr) (cu : Nat) (L : Option Addr) (cl : Nat), j ≤ r.length ∧ i = .int .i64 j ∧ up = .slice U (2 * j) cu ∧ low = .slice L (2 * j) cl ∧
        Mem W w2 [⟨5, L, 2 * j, cl, bvs (lowW b (r.take j))⟩, ⟨5, U, 2 * j, cu, bvs (upW b (r.take j))⟩, ⟨9, A', 2 * k, c', svs (applyB b (p.take k))⟩]) (fun i _ _ _ => r.length - (intOf i).toNat)
      case atStart => exact ⟨0, _, _, _, _, Nat.zero_le _, rfl, rfl, rfl, M0⟩
      case round =>
        clear hcell M0
        obtain ⟨j, U, cu, L, cl, hj, rfl, rfl, rfl, hmem⟩ := hrel
        by_cases hjl : j < r.length
        · have hbd := let_at HW.out hjl
          have hjb := hasB_at HH.out hjl
          obtain ⟨a2, rfl, _, hcell2⟩ := (HB.out.1.below hmem.1).str (k := r[j].toNat - 97) hjb
          have hq4 := (rOk_row HOK.out (List.getElem_mem hjb)).2.1
          obtain ⟨q, hq⟩ : ∃ q, q = b[r[j].toNat - 97] := ⟨_, rfl⟩
          rw [← hq] at hcell2 hq4
          obtain ⟨x, y, z, u, rfl⟩ := four hq4
          have HU := Lib.hid (up_snoc b r hjl hjb hq)
          have HL := Lib.hid (low_snoc b r hjl hjb hq)
          have hlb := hlenb.out
          clear hq hq4
          go_wp2
          go_region_held3 (fun _ => True) (trivial)
            ((refine step_app_mem [_] [_] (.tmp 34) (.tmp 39) _ _ _ 1 (by rfl) (by rfl) Try.underlying22 infoB (by rfl) (by rfl) ((hmem.alloc _).drew) (by rfl) (by omega) (Rd.two _ _ _ _) (by simp [Value.oneCell']) (by omega) (by omega) ?_; intro U2 cu2 w1 hmem1))
          all_goals
            go_wp2
            go_region_held3 (fun _ => True) (trivial)
              ((refine step_app_mem [] [_, _] (.tmp 41) (.tmp 46) _ _ _ 1 (by rfl) (by rfl) Try.underlying22 infoB (by rfl) (by rfl) ((hmem1.alloc _).drew) (by rfl) (by omega) (Rd.two _ _ _ _) (by simp [Value.oneCell']) (by omega) (by omega) ?_; intro L2 cl2 w3 hmem2))
            all_goals
              go_wp2
              exact ⟨⟨j + 1, U2, cu2, L2, cl2, by omega, by go_num, rfl, rfl, by rw [HU.out, HL.out, bvs_two, bvs_two]; exact hmem2⟩, by simp [intOf]; omega⟩
        · have HK := Lib.hid (show r.take j = r from List.take_of_length_le (by omega))
          have hmem2 := hmem
          rw [HK.out] at hmem2
          have hconv1 := conv_bytes (P := Try.prog) (c := cl) 22 9 5 Try.underlying22 Try.underlying5 Try.underlying9 hmem2.rd0
          have hconv2 := conv_bytes (P := Try.prog) (c := cu) 22 9 5 Try.underlying22 Try.underlying5 Try.underlying9 hmem2.rd1
          have hown1 := Mem.own (pre := [_, _]) hmem2
          clear hmem hmem2
          go_wp2_with (at_builtin; refine app_own (.tmp 48) (.tmp 53) _ _ _ 16 rfl rfl Try.underlying23 infoS rfl rfl (hown1.alloc _) rfl (fun h => by cases h) (Rd.two _ _ _ _) (by simp [Value.oneCell']) (by omega) (by omega) ?_; intro A3 c3 w1 hown2 _)
          exact ⟨⟨k + 1, A3, c3, by omega, by go_num, rfl, by rw [HS.out, svs_two]; exact hown2⟩, by simp [intOf]; omega⟩
    · have HK := Lib.hid (show p.take k = p from List.take_of_length_le (by rw [hlenp.out]; omega))
      have hown2 := hown
      rw [HK.out] at hown2
      go_wp2
      go_ret
      exact ⟨_, _, _, rfl, hown2⟩

end Go.Proofs.Ytbaleboljcoigaa
