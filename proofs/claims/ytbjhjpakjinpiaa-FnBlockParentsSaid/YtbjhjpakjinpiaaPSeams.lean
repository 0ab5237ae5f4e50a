/-
  Contracts of SeamsOf (program and reference). No conditions.
-/
import Derived.Test.YtbjhjpakjinpiaaSortC
import Derived.Test.YtbjhjpakjinpiaaPGrown
namespace Go.Proofs.Ytbjhjpakjinpiaa
open Go.RowKit

def pieces (r : List UInt8) (j : Nat) : Pch := (List.range j).map fun i => (r.take (2 * i + 1 + 2)).drop (2 * i + 1)
def seamsL (p : Pch) : Pch := p.flatMap fun r => pieces r ((r.length - 1) / 2)
def seams (b : Pch) (l : List UInt8) (z : Int) : Pch := if (growBlock b l z).2 && decide (2 ≤ z) then insF (seamsL (growBlock b l z).1) else []
theorem pieces_snoc (r : List UInt8) (j : Nat) : pieces r (j + 1) = pieces r j ++ [(r.take (2 * j + 1 + 2)).drop (2 * j + 1)] := by unfold pieces; rw [List.range_succ, List.map_append]; rfl
theorem pieces_len (r : List UInt8) (j : Nat) : (pieces r j).length = j := by simp [pieces]
theorem seamsL_len {p : Pch} (h : ∀ x ∈ p, x.length ≤ 32) : (seamsL p).length ≤ 16 * p.length := by
  induction p with
  | nil => simp [seamsL]
  | cons r p ih =>
    have h1 := ih (fun x hx => h x (by simp [hx]))
    have h2 := h r (by simp)
    have h3 : seamsL (r :: p) = pieces r ((r.length - 1) / 2) ++ seamsL p := by simp [seamsL]
    rw [h3, List.length_append, pieces_len, List.length_cons]
    omega
theorem seamsL_take {g : Pch} {k : Nat} (h : ∀ x ∈ g, x.length ≤ 32) : (seamsL (g.take k)).length ≤ 16 * k := by
  have h1 := seamsL_len (p := g.take k) (fun x hx => h x (List.mem_of_mem_take hx))
  have h2 : (g.take k).length ≤ k := List.length_take_le _ _
  have h3 := Nat.mul_le_mul_left 16 h2
  omega
theorem seams_len (b : Pch) (l : List UInt8) (z : Int) : (seams b l z).length ≤ 4096 := by
  unfold seams
  split
  · rename_i h
    simp only [Bool.and_eq_true] at h
    obtain ⟨_, h2, h3⟩ := growBlock_rows h.1
    have h4 := seamsL_len (fun x hx => (h3 x hx).2)
    have h5 := insF_len (seamsL (growBlock b l z).1)
    omega
  · simp


set_option maxHeartbeats 3200000 in
theorem cSeamsOfI (A0 : Option Addr) (n0 c0 : Nat) (b : Pch) (l : List UInt8) (z : Int) (W : World) (hb : SIn W A0 n0 c0 b) (hl : l.length ≤ 1048576) :
    Calls Try.prog 18 #[.slice A0 n0 c0, .string ⟨l.toArray⟩, .int .i64 z] W (RetS 9 W (seams b l z)) := by
  have hcg := cGrowBlockI A0 n0 c0 b l z W hb hl
  cases hgo : (growBlock b l z).2
  case false =>
    have HE := Lib.hid (show seams b l z = [] by unfold seams; rw [hgo]; rfl)
    rw [hgo] at hcg
    have HCG := Lib.hid hcg
    clear hcg hgo
    go_enter Try.func18, Try.ntmps18
    go_wp2_with (go_at_call 15; refine HCG.out.mono ?_; rintro e w2 ⟨A3, n3, c3, rfl, ho3⟩)
    go_ret
    rw [HE.out]
    exact ⟨_, _, _, rfl, Own.nil ho3.2 _⟩
  by_cases hz2 : z < 2
  case pos =>
    have HE := Lib.hid (show seams b l z = [] by unfold seams; rw [decide_eq_false (p := 2 ≤ z) (by omega)]; simp)
    rw [hgo] at hcg
    have HCG := Lib.hid hcg
    clear hcg hgo
    go_enter Try.func18, Try.ntmps18
    go_wp2_with (go_at_call 15; refine HCG.out.mono ?_; rintro e w2 ⟨A3, n3, c3, rfl, ho3⟩)
    go_ret
    rw [HE.out]
    exact ⟨_, _, _, rfl, Own.nil ho3.2 _⟩
  have hrows := growBlock_rows hgo
  have hse : seams b l z = insF (seamsL (growBlock b l z).1) := by unfold seams; rw [hgo, decide_eq_true (p := 2 ≤ z) (by omega)]; rfl
  rw [hgo] at hcg
  obtain ⟨g, hg⟩ : ∃ g, g = (growBlock b l z).1 := ⟨_, rfl⟩
  rw [← hg] at hcg hrows hse
  obtain ⟨_, hg32, hgr⟩ := hrows
  have HCG := Lib.hid hcg
  have HSE := Lib.hid hse
  have HGR := Lib.hid hgr
  clear hcg hse hgr hg hgo
  go_enter Try.func18, Try.ntmps18
  go_wp2_with (go_at_call 15; refine HCG.out.mono ?_; rintro e w2 ⟨A3, n3, c3, rfl, ho3⟩)
  have hgn : g.length = n3 := by have := ho3.len; simpa [svs] using this
  have HG3 := Lib.hid ho3
  have HGN := Lib.hid hgn
  have hn3 : n3 ≤ 32 := by omega
  clear HCG ho3 hgn hg32
  go_loopw [29, 9] (fun i out wr => ∃ (k : Nat) (A : Option Addr) (m c : Nat), k ≤ n3 ∧ i = .int .i64 k ∧ out = .slice A m c ∧ Own w2 wr 9 A m c (svs (seamsL (g.take k)))) (fun i _ _ => n3 - (intOf i).toNat)
  case atStart => exact ⟨0, _, _, _, Nat.zero_le _, rfl, rfl, Own.made0 (Below.refl _ _) _⟩
  case round =>
    obtain ⟨k, A, m, c, hk, rfl, rfl, hown⟩ := hrel
    have hbel := hown.2
    have hbd := seamsL_take (g := g) (k := k) (fun x hx => (HGR.out x hx).2)
    have hml : m ≤ 16 * k := by have h1 := hown.len; simp only [svs, List.length_map] at h1; omega
    have HO := Lib.hid hown
    have HBel := Lib.hid hbel
    clear hown hbel
    by_cases hlt : k < n3
    · have hkg : k < g.length := by rw [HGN.out]; exact hlt
      obtain ⟨a, rfl, hab, hcell⟩ := (HG3.out.rd.below HBel.out).str (k := k) hkg
      obtain ⟨r, hr⟩ : ∃ r, r = g[k] := ⟨_, rfl⟩
      rw [← hr] at hcell
      have hr32 : r.length ≤ 32 := by rw [hr]; exact (HGR.out _ (List.getElem_mem hkg)).2
      have HRK := Lib.hid (show seamsL (g.take (k + 1)) = seamsL (g.take k) ++ pieces r ((r.length - 1) / 2) by rw [hr]; exact flat_snoc g _ hkg)
      have hd : decide ((k : Int) < (n3 : Int)) = true := by simp; omega
      clear hr
      go_wp2
      go_loopw [12, 9] (fun i out wr => ∃ (j : Nat) (A : Option Addr) (m c : Nat), j ≤ (r.length - 1) / 2 ∧ i = .int .i64 (2 * (j : Int) + 1) ∧ out = .slice A m c ∧ Own w2 wr 9 A m c (svs (seamsL (g.take k) ++ pieces r j))) (fun i _ _ => r.length + 2 - (intOf i).toNat)
      case atStart => exact ⟨0, _, _, _, Nat.zero_le _, rfl, rfl, by rw [show pieces r 0 = [] from rfl, List.append_nil]; exact HO.out⟩
      case round =>
        clear HO HBel
        obtain ⟨j, A, m, c, hj, rfl, rfl, hown⟩ := hrel
        have hbel := hown.2
        have hml2 : m ≤ 16 * k + 16 := by have h1 := hown.len; have h6 := pieces_len r j; simp only [svs, List.length_map, List.length_append] at *; omega
        have HO := Lib.hid hown
        have HBel := Lib.hid hbel
        have HPS := Lib.hid (pieces_snoc r j)
        clear hown hbel
        by_cases hlt2 : 2 * j + 3 ≤ r.length
        · have hj2 : j < (r.length - 1) / 2 := by omega
          have hown := HO.out
          go_wp2_with (at_builtin; refine app_one (.tmp 40) (.tmp 46) _ _ _ 16 rfl rfl Try.underlying23 infoS rfl rfl hown rfl rfl (by omega) (by omega) ?_; intro A4 c4 w3 ho4)
          exact ⟨⟨j + 1, A4, _, c4, by omega, by congr 1 <;> omega, rfl, by rw [HPS.out, ← List.append_assoc, svs_snoc]; exact ho4⟩, by simp [intOf]; omega⟩
        · obtain rfl : j = (r.length - 1) / 2 := by omega
          go_wp2
          exact ⟨⟨k + 1, A, m, c, by omega, by go_num, rfl, by rw [HRK.out]; exact HO.out⟩, by simp [intOf]; omega⟩
    · obtain rfl : k = n3 := by omega
      have HK := Lib.hid (show g.take k = g from List.take_of_length_le (by rw [HGN.out]; omega))
      have HR := Lib.hid (show Lib.compact (sortS (seamsL (g.take k))) = seams b l z by rw [HSE.out, HK.out, compact_sort])
      have hq : m ≤ 1048576 := by omega
      go_wp2_with fail
      refine (sortS_any _ _ _ _ _ _ HO.out.1 hq).mono ?_
      rintro e w4 ⟨rfl, o4, g4⟩
      have HO4 := Lib.hid o4
      have HB4 := Lib.hid (HO.out.2.grown g4 HO.out.2.size (fun q hq => (own_blk_lt HO.out.1 q hq).1))
      clear o4 g4
      go_wp2_with fail
      refine (compactS_any _ _ _ _ _ _ HO4.out hq).mono ?_
      rintro e w5 ⟨rfl, o5, g5⟩
      have HO5 := Lib.hid o5
      have HB5 := Lib.hid (HB4.out.grown g5 HB4.out.size (fun q hq => (own_blk_lt HO4.out q hq).1))
      clear o5 g5
      go_wp2
      go_ret
      exact ⟨_, _, _, rfl, by rw [← HR.out]; exact Own.up ⟨HO5.out, HB5.out⟩ HG3.out.2⟩
end Go.Proofs.Ytbjhjpakjinpiaa
