/-
  Contracts of the reference's l22Letter, l22Block, l22Ok. No conditions.
-/
import Derived.Test.YtbkfbobeabddaaaPLaw
import Derived.Test.YtbkfbobeabddaaaBLaws1
import Derived.Test.YtbkfbobeabddaaaBytes
namespace Go.Proofs.Ytbkfbobeabddaaa
open Go.RowKit

def FourW (b : Pch) : Prop := ∀ r ∈ b, r.length = 4
theorem rOk_four {b : Pch} (h : rOk b = true) : FourW b := fun r hr => (rOk_row h hr).2.1
theorem all_false_snoc {b : Pch} {bl : List UInt8} {k : Nat} (hk : k < b.length) (h : ∀ w ∈ b.take k, agr bl w = false) (h2 : agr bl b[k] = false) : ∀ w ∈ b.take (k + 1), agr bl w = false := by
  intro w hw
  rw [take_snoc b k hk, List.mem_append] at hw
  rcases hw with hw | hw
  · exact h w hw
  · simp at hw; subst hw; exact h2

set_option maxHeartbeats 1600000 in
theorem l22Letter_any (A : Option Addr) (n c : Nat) (b : Pch) (bl : List UInt8) (w : World) (hb : SIn w A n c b) (h4 : FourW b) (hl : bl.length = 4) :
    Calls Try.prog 41 #[.slice A n c, .string ⟨bl.toArray⟩] w fun e w' => e = .returned (.int .i64 (letB b bl)) ∧ Below w.heap.size w w' := by
  have hlen := Lib.hid hb.1.lenS
  have HB := Lib.hid hb
  have H4 := Lib.hid h4
  have hn20 := hb.2.1
  have hl4 : 4 ≤ bl.length := by omega
  clear hb h4 hl
  go_enter Try.func41, Try.ntmps41
  go_wp2
  go_loopw [11] (fun i wr => ∃ k : Nat, k ≤ n ∧ i = .int .i64 k ∧ (∀ x ∈ b.take k, agr bl x = false) ∧ Below w.heap.size w wr) (fun i _ => n - (intOf i).toNat)
  case atStart => exact ⟨0, Nat.zero_le _, rfl, by simp, Below.refl _ _⟩
  case round =>
    obtain ⟨k, hk, rfl, ha, hbel⟩ := hrel
    have HA := Lib.hid ha
    have HBel := Lib.hid hbel
    clear ha hbel
    by_cases hlt : k < n
    · have hkl : k < b.length := by rw [hlen.out]; exact hlt
      obtain ⟨a, rfl, hab, hcell⟩ := (HB.out.1.below HBel.out).str (k := k) hkl
      obtain ⟨x, hx⟩ : ∃ x, x = b[k] := ⟨_, rfl⟩
      rw [← hx] at hcell
      have hx4 : 4 ≤ x.length := by have := H4.out _ (List.getElem_mem hkl); rw [hx]; omega
      have HX := Lib.hid hx
      clear hx
      go_wp2
      go_loopw [8, 7] (fun i s wr2 => ∃ j : Nat, j ≤ 4 ∧ i = .int .i64 j ∧ s = .bool ((List.range j).all (ag1 bl x)) ∧ Below w.heap.size w wr2) (fun i _ _ => 4 - (intOf i).toNat)
      case atStart => exact ⟨0, Nat.zero_le _, rfl, rfl, HBel.out⟩
      case round =>
        clear HBel
        obtain ⟨j, hj, rfl, rfl, hbel⟩ := hrel
        have HBel := Lib.hid hbel
        clear hbel
        by_cases hjl : j < 4
        · have i0 : (0 : Int) ≤ (j : Int) := by omega
          have i1 : (j : Int) < (bl.length : Int) := by omega
          have i2 : (j : Int) < (x.length : Int) := by omega
          have i3 : j < bl.length := by omega
          have i4 : j < x.length := by omega
          have HS := Lib.hid (range_all_snoc (ag1 bl x) j)
          cases hs : (List.range j).all (ag1 bl x)
          · have HF := Lib.hid (show false = (List.range (j + 1)).all (ag1 bl x) by rw [HS.out, hs]; rfl)
            go_wp2
            go_quiet (fail)
            go_wp2
            exact ⟨⟨j + 1, by omega, by go_num, by rw [HF.out], below_drewN HBel.out nq⟩, by simp [intOf]; omega⟩
          · cases g1 : (((bl[j]).toNat : Int) == 32)
            · have hne : bl[j] ≠ 32 := fun h => by rw [h] at g1; exact absurd g1 (by decide)
              by_cases he : bl[j] = x[j]
              · have HF := Lib.hid (show true = (List.range (j + 1)).all (ag1 bl x) by
                  rw [HS.out, hs]
                  simp [ag1, List.getD, List.getElem?_eq_getElem i3, List.getElem?_eq_getElem i4, he])
                have g2 : (((bl[j]).toNat : Int) == ((x[j]).toNat : Int)) = true := by rw [he]; simp
                have g3 : ((bl[j]).toNat == (x[j]).toNat) = true := by rw [he]; simp
                clear hne he
                go_wp2
                go_quiet (fail)
                go_wp2
                exact ⟨⟨j + 1, by omega, by go_num, by rw [HF.out], below_drewN HBel.out nq⟩, by simp [intOf]; omega⟩
              · have HF := Lib.hid (show false = (List.range (j + 1)).all (ag1 bl x) by
                  rw [HS.out, hs]
                  simp [ag1, List.getD, List.getElem?_eq_getElem i3, List.getElem?_eq_getElem i4, he, hne])
                have hnn : (bl[j]).toNat ≠ (x[j]).toNat := fun h => he (UInt8.toNat_inj.1 h)
                have g2 : (((bl[j]).toNat : Int) == ((x[j]).toNat : Int)) = false := by simp; omega
                have g3 : ((bl[j]).toNat == (x[j]).toNat) = false := by simpa using hnn
                clear hne he hnn
                go_wp2
                go_quiet (fail)
                go_wp2
                exact ⟨⟨j + 1, by omega, by go_num, by rw [HF.out], below_drewN HBel.out nq⟩, by simp [intOf]; omega⟩
            · have HF := Lib.hid (show true = (List.range (j + 1)).all (ag1 bl x) by
                rw [HS.out, hs]
                have : bl[j] = 32 := by have := eq_of_beq g1; apply UInt8.toNat_inj.1; simp; omega
                simp [ag1, List.getD, List.getElem?_eq_getElem i3, this])
              go_wp2
              go_quiet (fail)
              go_wp2
              exact ⟨⟨j + 1, by omega, by go_num, by rw [HF.out], below_drewN HBel.out nq⟩, by simp [intOf]; omega⟩
        · obtain rfl : j = 4 := by omega
          cases hs : (List.range 4).all (ag1 bl x)
          · have H := Lib.hid (all_false_snoc hkl HA.out (by rw [← HX.out]; exact hs))
            go_wp2
            exact ⟨⟨k + 1, by omega, by go_num, H.out, HBel.out⟩, by simp [intOf]; omega⟩
          · have HE := Lib.hid (letB_yes hkl (by rw [← HX.out]; exact hs) HA.out)
            go_wp2
            go_ret
            exact ⟨ret_int HE.out.symm, HBel.out⟩
    · have HE := Lib.hid (show -1 = letB b bl from (letB_no (fun x hx => HA.out x (by rwa [List.take_of_length_le (by rw [hlen.out]; omega)]))).symm)
      go_wp2
      go_ret
      exact ⟨ret_int HE.out, HBel.out⟩

theorem blk_snoc (p : Pch) (u v : Int) (k : Nat) (h : k < 4) : (blkP p u v).take (k + 1) = (blkP p u v).take k ++ [atP p (u + (k : Int) % 2) (v + (k : Int) / 2)] := by
  rw [take_snoc _ k (by rw [blkP_len]; exact h)]
  have := blkP_getD p u v h
  rw [List.getD, List.getElem?_eq_getElem (by rw [blkP_len]; exact h)] at this
  simp at this
  rw [this]

set_option maxHeartbeats 1600000 in
theorem l22Block_any (A : Option Addr) (n c : Nat) (p : Pch) (u v : Int) (w : World) (hp : SIn w A n c p) (hok : pOk p = true) (hu : -4 ≤ u ∧ u ≤ 64) (hv : -4 ≤ v ∧ v ≤ 64) :
    Calls Try.prog 42 #[.slice A n c, .int .i64 u, .int .i64 v] w fun e w' => e = .returned (.string ⟨(blkP p u v).toArray⟩) ∧ Below w.heap.size w w' := by
  have hlen := Lib.hid hp.1.lenS
  have hpl := pOk_len hok
  have hwd := pOk_wd hok
  have hn32 : n ≤ 32 := by have := hlen.out; omega
  have hn0 : 0 < n := by have := hlen.out; omega
  obtain ⟨a, rfl, hab, hc0⟩ := hp.1.str (k := 0) (by omega)
  obtain ⟨m, hm⟩ : ∃ m, m = wd p := ⟨_, rfl⟩
  obtain ⟨r0, hr0⟩ : ∃ r0, r0 = p[0] := ⟨_, rfl⟩
  have hm0 : r0.length = m := by rw [hm, hr0]; exact (wd_zero (p := p) (by omega)).symm
  rw [← hr0] at hc0
  have hc00 : w.cell? a = some (.string ⟨r0.toArray⟩) := hc0
  rw [← hm] at hwd
  have HM := Lib.hid hm
  have HM0 := Lib.hid hm0
  have HP := Lib.hid hp
  have HOK := Lib.hid hok
  have hm32 : r0.length ≤ 32 := by omega
  have hm1 : 1 ≤ r0.length := by omega
  clear hm hm0 hr0 hp hok hc0 hpl
  go_enter Try.func42, Try.ntmps42
  go_wp2
  go_loopw [8, 7] (fun i out wr => ∃ (k : Nat) (A' : Option Addr) (c' : Nat), k ≤ 4 ∧ i = .int .i64 k ∧ out = .slice A' k c' ∧ Own w wr 5 A' k c' (bvs ((blkP p u v).take k))) (fun i _ _ => 4 - (intOf i).toNat)
  case atStart => exact ⟨0, _, _, Nat.zero_le _, rfl, rfl, Own.made0 (Below.refl _ _) _⟩
  case round =>
    obtain ⟨k, A', c', hk, rfl, rfl, hown⟩ := hrel
    by_cases hlt : k < 4
    · have hcw : wr.cell? a = some (.string ⟨r0.toArray⟩) := (hown.2.cell (p := a) hab).trans hc00
      have HS := Lib.hid (blk_snoc p u v k hlt)
      by_cases hin : (0 ≤ v + (k : Int) / 2 ∧ v + (k : Int) / 2 < n) ∧ (0 ≤ u + (k : Int) % 2 ∧ u + (k : Int) % 2 < r0.length)
      · obtain ⟨⟨h1, h2⟩, h3, h4⟩ := hin
        obtain ⟨V, hV⟩ := Int.eq_ofNat_of_zero_le h1
        obtain ⟨U, hU⟩ := Int.eq_ofNat_of_zero_le h3
        have hVn : V < n := by omega
        have hUn : U < r0.length := by omega
        have hVp : V < p.length := by rw [hlen.out]; exact hVn
        obtain ⟨a2, ha2, hab2, hcell⟩ := (HP.out.1.below hown.2).str (k := V) hVp
        injection ha2 with ha2
        subst ha2
        have hrow := (pOk_row HOK.out (List.getElem_mem hVp)).2.1
        have hat := atP_in (p := p) (u := U) (v := V) hVp hrow.symm (by rw [hrow, ← HM.out, ← HM0.out]; exact hUn)
        have hUr : U < (p[V]).length := by rw [hrow, ← HM.out, ← HM0.out]; exact hUn
        have hres : atP p (u + (k : Int) % 2) (v + (k : Int) / 2) = (p[V])[U] := by rw [hU, hV]; exact hat
        obtain ⟨r, hr⟩ : ∃ r, r = p[V] := ⟨_, rfl⟩
        obtain ⟨L, hL⟩ : ∃ L, L = (p[V])[U] := ⟨_, rfl⟩
        rw [← hL] at hres
        have hUr2 : U < r.length := by rw [hr]; exact hUr
        have hget : r[U] = L := by subst hr; exact hL.symm
        rw [← hr] at hcell
        have HS2 := Lib.hid (hres ▸ HS.out)
        have g1 : wi (V : Int) 0 ((n : Int) - 1) = true := wi_mk (by omega) (by omega)
        have g2 : wi (U : Int) 0 ((r0.length : Int) - 1) = true := wi_mk (by omega) (by omega)
        clear hrow hat hUr hres hr hL h1 h2 h3 h4 HS
        go_wp2_with (first | (go_at_call 70; refine (l01In_any _ _ _ _).mono ?_; rintro e w' ⟨rfl, rfl⟩) | (at_builtin; refine app_one (.tmp 38) (.tmp 45) _ _ _ 1 rfl rfl Try.underlying39 infoB rfl rfl hown rfl rfl (by omega) (by omega) ?_; intro A2 c2 w1 hown1))
        exact ⟨⟨k + 1, A2, c2, by omega, by go_num, rfl, by rw [HS2.out, bvs_snoc]; exact hown1⟩, by simp [intOf]; omega⟩
      · have hres : atP p (u + (k : Int) % 2) (v + (k : Int) / 2) = 32 := by
          apply atP_out
          rw [hlen.out, ← HM.out, ← HM0.out]
          by_cases h1 : 0 ≤ v + (k : Int) / 2 ∧ v + (k : Int) / 2 < n
          · rw [wi_not (n := u + (k : Int) % 2) (by omega), Bool.and_false]
          · rw [wi_not (n := v + (k : Int) / 2) (by omega), Bool.false_and]
        have HS2 := Lib.hid (hres ▸ HS.out)
        clear hres HS
        cases g1 : wi (v + (k : Int) / 2) 0 ((n : Int) - 1)
        · go_wp2_with (first | (go_at_call 70; refine (l01In_any _ _ _ _).mono ?_; rintro e w' ⟨rfl, rfl⟩) | (at_builtin; refine app_one (.tmp 47) (.tmp 48) _ _ _ 1 rfl rfl Try.underlying39 infoB rfl rfl hown rfl rfl (by omega) (by omega) ?_; intro A2 c2 w1 hown1))
          exact ⟨⟨k + 1, A2, c2, by omega, by go_num, rfl, by rw [HS2.out, bvs_snoc]; exact hown1⟩, by simp [intOf]; omega⟩
        · have h1 := wi_yes g1
          have g2 : wi (u + (k : Int) % 2) 0 ((r0.length : Int) - 1) = false := wi_not (by omega)
          clear hin h1
          go_wp2_with (first | (go_at_call 70; refine (l01In_any _ _ _ _).mono ?_; rintro e w' ⟨rfl, rfl⟩) | (at_builtin; refine app_one (.tmp 47) (.tmp 48) _ _ _ 1 rfl rfl Try.underlying39 infoB rfl rfl hown rfl rfl (by omega) (by omega) ?_; intro A2 c2 w1 hown1))
          exact ⟨⟨k + 1, A2, c2, by omega, by go_num, rfl, by rw [HS2.out, bvs_snoc]; exact hown1⟩, by simp [intOf]; omega⟩
    · obtain rfl : k = 4 := by omega
      have hfull : (blkP p u v).take 4 = blkP p u v := List.take_of_length_le (by rw [blkP_len]; omega)
      rw [hfull] at hown
      clear hfull
      have hconv := conv_bytes (P := Try.prog) 39 9 5 Try.underlying39 Try.underlying5 Try.underlying9 hown.rd (c := c')
      go_wp2
      go_ret
      exact ⟨rfl, hown.2⟩

set_option maxHeartbeats 800000 in
theorem l22Ok_any (A0 : Option Addr) (n0 c0 : Nat) (b : Pch) (A1 : Option Addr) (n1 c1 : Nat) (p : Pch) (x y : Int) (w : World) (hb : SIn w A0 n0 c0 b) (hp : SIn w A1 n1 c1 p) :
    Calls Try.prog 40 #[.slice A0 n0 c0, .slice A1 n1 c1, .int .i64 x, .int .i64 y] w fun e w' => e = .returned (.bool (okP b p x y)) ∧ w = w' := by
  have hcb := sRuleOk_any A0 n0 c0 _ b w hb.1 hb.2.1 hb.longs
  have hcp := sPatchOk_any A1 n1 c1 _ p w hp.1 hp.2.1 hp.longs
  cases h1 : rOk b <;> cases h2 : pOk p <;> cases h3 : wi x 0 1 <;> cases h4 : wi y 0 1
  all_goals
    rw [h1] at hcb
    rw [h2] at hcp
    have HB := Lib.hid hcb
    have HP := Lib.hid hcp
    have H1 := Lib.hid h1
    have H2 := Lib.hid h2
    have H3 := Lib.hid h3
    have H4 := Lib.hid h4
    clear hcb hcp h1 h2
    go_enter Try.func40, Try.ntmps40
    go_wp2_with (first | (go_at_call 68; refine HB.out.mono ?_; rintro e w' ⟨rfl, rfl⟩) | (go_at_call 69; refine HP.out.mono ?_; rintro e w' ⟨rfl, rfl⟩) | (go_at_call 70; refine (l01In_any _ _ _ _).mono ?_; rintro e w' ⟨rfl, rfl⟩))
    go_ret
    exact ⟨ret_bool (by rw [okP, offOk, H1.out, H2.out, H3.out, H4.out]; rfl), rfl⟩
end Go.Proofs.Ytbkfbobeabddaaa
