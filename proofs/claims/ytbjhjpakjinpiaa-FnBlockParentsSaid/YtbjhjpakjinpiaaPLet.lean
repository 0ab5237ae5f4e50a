/-
  Contract of the program's letterOf (and of the function value that it hands to slices.IndexFunc). No conditions.
-/
import Derived.Test.YtbjhjpakjinpiaaPCon
namespace Go.Proofs.Ytbjhjpakjinpiaa
open Go.RowKit

theorem qsame {P : Program} {f : FuncId} {args : Array Value} {w : World} {n : Nat} {v : Value}
    (h : Calls P f args (w.drewN n) fun e w' => e = .returned v ∧ w.drewN n = w') : Calls P f args (w.drewN n) fun e w'' => e = .returned v ∧ ∃ m, w'' = w.drewN m :=
  h.mono fun _ _ ⟨he, hm⟩ => ⟨he, n, hm.symm⟩
theorem qadd {P : Program} {f : FuncId} {args : Array Value} {w : World} {a n : Nat} {v : Value}
    (h : Calls P f args (w.drewN (a + n)) fun e w' => e = .returned v ∧ w.drewN (a + n) = w') :
    Calls P f args (w.drewN (a + n)) fun e w'' => e = .returned v ∧ ∃ m, w'' = w.drewN (a + m) :=
  h.mono fun _ _ ⟨he, hm⟩ => ⟨he, n, hm.symm⟩
theorem within_is {n lo hi : Int} {t : Bool} (h : wi n lo hi = t) (w : World) : Calls Try.prog 29 #[.int .i64 n, .int .i64 lo, .int .i64 hi] w fun e w' => e = .returned (.bool t) ∧ w = w' := by rw [← h]; exact within_any n lo hi w

set_option maxHeartbeats 1600000 in
theorem letClos_any (ax ay ap : Addr) (A : Option Addr) (n c : Nat) (p : Pch) (x y : Int) (bl : List UInt8) (w : World) (hp : SIn w A n c p) (hok : pOk p = true) (hx : -4 ≤ x ∧ x ≤ 64) (hy : -4 ≤ y ∧ y ≤ 64) (hl : bl.length = 4)
    (hcx : w.cell? ax = some (.int .i64 x)) (hcy : w.cell? ay = some (.int .i64 y)) (hcp : w.cell? ap = some (.slice A n c)) (bx : ax.block < w.heap.size) (b_y : ay.block < w.heap.size) (bp : ap.block < w.heap.size) :
    Calls Try.prog 44 #[.string ⟨bl.toArray⟩, .pointer (some ax), .pointer (some ay), .pointer (some ap)] w fun e w' => e = .returned (.bool (agr (blkP p x y) bl)) ∧ Below w.heap.size w w' := by
  have hlen := Lib.hid hp.1.lenS
  have hpl := pOk_len hok
  have hwd := pOk_wd hok
  have hn32 : n ≤ 32 := by have := hlen.out; omega
  have hn0 : 0 < n := by have := hlen.out; omega
  obtain ⟨a, rfl, hab, hc0⟩ := hp.1.str (k := 0) (by omega)
  obtain ⟨m, hm⟩ : ∃ m, m = wd p := ⟨_, rfl⟩
  obtain ⟨r0, hr0⟩ : ∃ r0, r0 = p[0] := ⟨_, rfl⟩
  have hm0 : r0.length = m := by rw [hm, hr0]; exact (wd_zero (p := p) (by omega)).symm
  rw [← hr0] at hc0
  have hc00 : w.cell? a = some (.string ⟨r0.toArray⟩) := hc0
  rw [← hm] at hwd
  have HM := Lib.hid hm
  have HM0 := Lib.hid hm0
  have HP := Lib.hid hp
  have HOK := Lib.hid hok
  have hm32 : r0.length ≤ 32 := by omega
  have hm1 : 1 ≤ r0.length := by omega
  clear hm hm0 hr0 hp hok hc0 hpl
  go_enter Try.func44, Try.ntmps44
  go_wp2
  go_loopw [9] (fun i wr => ∃ k : Nat, k ≤ 4 ∧ i = .int .i64 k ∧ (List.range k).all (ag1 (blkP p x y) bl) = true ∧ Below w.heap.size w wr) (fun i _ => 4 - (intOf i).toNat)
  case atStart => exact ⟨0, Nat.zero_le _, rfl, rfl, Below.refl _ _⟩
  case round =>
    obtain ⟨k, hk, rfl, ha, hbel⟩ := hrel
    by_cases hlt : k < 4
    · have ccx := (hbel.cell (p := ax) bx).trans hcx
      have ccy := (hbel.cell (p := ay) b_y).trans hcy
      have ccp := (hbel.cell (p := ap) bp).trans hcp
      have cc0 := (hbel.cell (p := a) hab).trans hc00
      have i0 : (0 : Int) ≤ (k : Int) := by omega
      have i1 : (k : Int) < (bl.length : Int) := by omega
      have i2 : k < bl.length := by omega
      have HS := Lib.hid (range_all_snoc (ag1 (blkP p x y) bl) k)
      have HG := Lib.hid (blkP_getD p x y hlt)
      have HA := Lib.hid ha
      have HBel := Lib.hid hbel
      clear ha
      by_cases hin : (0 ≤ y + (k : Int) / 2 ∧ y + (k : Int) / 2 < n) ∧ (0 ≤ x + (k : Int) % 2 ∧ x + (k : Int) % 2 < r0.length)
      · obtain ⟨⟨h1, h2⟩, h3, h4⟩ := hin
        obtain ⟨V, hV⟩ := Int.eq_ofNat_of_zero_le h1
        obtain ⟨U, hU⟩ := Int.eq_ofNat_of_zero_le h3
        have hVn : V < n := by omega
        have hUn : U < r0.length := by omega
        have hVp : V < p.length := by rw [hlen.out]; exact hVn
        obtain ⟨a2, ha2, hab2, hcell⟩ := (HP.out.1.below hbel).str (k := V) hVp
        injection ha2 with ha2
        subst ha2
        have hrow := (pOk_row HOK.out (List.getElem_mem hVp)).2.1
        have hUr : U < (p[V]).length := by rw [hrow, ← HM.out, ← HM0.out]; exact hUn
        have hat := atP_in (p := p) (u := U) (v := V) hVp hrow.symm hUr
        have hlet := isW_get (pOk_row HOK.out (List.getElem_mem hVp)).1 hUr
        have hres : (blkP p x y).getD k 0 = (p[V])[U] := by rw [HG.out, hU, hV]; exact hat
        obtain ⟨r, hr⟩ : ∃ r, r = p[V] := ⟨_, rfl⟩
        obtain ⟨L, hL⟩ : ∃ L, L = (p[V])[U] := ⟨_, rfl⟩
        rw [← hL] at hres hlet
        have hUr2 : U < r.length := by rw [hr]; exact hUr
        have hget : r[U] = L := by subst hr; exact hL.symm
        rw [← hr] at hcell
        have g1 : wi (V : Int) 0 ((n : Int) - 1) = true := wi_mk (by omega) (by omega)
        have g2 : wi (U : Int) 0 ((r0.length : Int) - 1) = true := wi_mk (by omega) (by omega)
        have i5 : (0 : Int) ≤ (V : Int) := by omega
        have i6 : (V : Int) < (n : Int) := by omega
        have i7 : (0 : Int) ≤ (U : Int) := by omega
        have i8 : (U : Int) < (r.length : Int) := by omega
        have hL32 : (L == 32) = false := by
          rw [beq_eq_false_iff_ne]; intro h; rw [h] at hlet; simp at hlet
        by_cases he : L = bl[k]
        · have HF := Lib.hid (show (List.range (k + 1)).all (ag1 (blkP p x y) bl) = true by
            rw [HS.out, HA.out, ag1, hres]
            simp [List.getD, List.getElem?_eq_getElem i2, he])
          have g3 : ((L.toNat : Int) != ((bl[k]).toNat : Int)) = false := by rw [he]; simp
          have g4 : (L.toNat != (bl[k]).toNat) = false := by rw [he]; simp
          clear hrow hat hUr hres hr hL h1 h2 h3 h4 HS HG he hL32 hlet hbel
          go_wp2
          go_quiet (fail)
          go_wp2
          go_quiet ((go_at_call 29; first | with_reducible exact qadd (within_is g2 _) | with_reducible exact qadd (within_is g1 _)))
          go_wp2
          exact ⟨⟨k + 1, by omega, by go_num, HF.out, by first | exact below_drewN HBel.out _ | exact below_drewN (below_drewN HBel.out _) _⟩, by simp [intOf]; omega⟩
        · have HF := Lib.hid (show false = agr (blkP p x y) bl by
            refine (range_all_bad hlt ?_).symm
            rw [ag1, hres, hL32]
            simp [List.getD, List.getElem?_eq_getElem i2, he])
          have hne : L.toNat ≠ (bl[k]).toNat := fun h => he (UInt8.toNat_inj.1 h)
          have g3 : ((L.toNat : Int) != ((bl[k]).toNat : Int)) = true := by simp; omega
          have g4 : (L.toNat != (bl[k]).toNat) = true := by simpa using hne
          clear hrow hat hUr hres hr hL h1 h2 h3 h4 HS HG he hL32 hlet hbel hne
          go_wp2
          go_quiet (fail)
          go_wp2
          go_quiet ((go_at_call 29; first | with_reducible exact qadd (within_is g2 _) | with_reducible exact qadd (within_is g1 _)))
          go_wp2
          go_ret
          exact ⟨ret_bool HF.out, by first | exact below_drewN HBel.out _ | exact below_drewN (below_drewN HBel.out _) _⟩
      · have hres : (blkP p x y).getD k 0 = 32 := by
          rw [HG.out]
          apply atP_out
          rw [hlen.out, ← HM.out, ← HM0.out]
          by_cases h1 : 0 ≤ y + (k : Int) / 2 ∧ y + (k : Int) / 2 < n
          · rw [wi_not (n := x + (k : Int) % 2) (by omega), Bool.and_false]
          · rw [wi_not (n := y + (k : Int) / 2) (by omega), Bool.false_and]
        have HF := Lib.hid (show (List.range (k + 1)).all (ag1 (blkP p x y) bl) = true by
          rw [HS.out, HA.out, ag1, hres]; rfl)
        clear hres HS HG
        cases g2 : wi (x + (k : Int) % 2) 0 ((r0.length : Int) - 1)
        · clear hin hbel
          go_wp2
          go_quiet (fail)
          go_wp2
          go_quiet ((go_at_call 29; first | with_reducible exact qadd (within_is g2 _) | with_reducible exact qadd (within_is g1 _)))
          go_wp2
          exact ⟨⟨k + 1, by omega, by go_num, HF.out, by first | exact below_drewN HBel.out _ | exact below_drewN (below_drewN HBel.out _) _⟩, by simp [intOf]; omega⟩
        · have h1 := wi_yes g2
          have g1 : wi (y + (k : Int) / 2) 0 ((n : Int) - 1) = false := wi_not (by omega)
          clear hin hbel h1
          go_wp2
          go_quiet (fail)
          go_wp2
          go_quiet ((go_at_call 29; first | with_reducible exact qadd (within_is g2 _) | with_reducible exact qadd (within_is g1 _)))
          go_wp2
          exact ⟨⟨k + 1, by omega, by go_num, HF.out, by first | exact below_drewN HBel.out _ | exact below_drewN (below_drewN HBel.out _) _⟩, by simp [intOf]; omega⟩
    · obtain rfl : k = 4 := by omega
      have HE := Lib.hid (show true = agr (blkP p x y) bl from ha.symm)
      clear ha
      go_wp2
      go_ret
      exact ⟨ret_bool HE.out, hbel⟩

set_option maxHeartbeats 800000 in
theorem idxLet_any (ax ay ap : Addr) (A0 : Option Addr) (n0 c0 : Nat) (b : Pch) (A : Option Addr) (n c : Nat) (p : Pch) (x y : Int) (w : World) (hb : SIn w A0 n0 c0 b) (h4 : FourW b) (hp : SIn w A n c p) (hok : pOk p = true) (hx : -4 ≤ x ∧ x ≤ 64) (hy : -4 ≤ y ∧ y ≤ 64)
    (hcx : w.cell? ax = some (.int .i64 x)) (hcy : w.cell? ay = some (.int .i64 y)) (hcp : w.cell? ap = some (.slice A n c)) (bx : ax.block < w.heap.size) (b_y : ay.block < w.heap.size) (bp : ap.block < w.heap.size) :
    Calls Try.prog 43 #[.slice A0 n0 c0, .func (.func 44) #[] #[.pointer (some ax), .pointer (some ay), .pointer (some ap)]] w fun e w' => e = .returned (.int .i64 (letP b p x y)) ∧ Below w.heap.size w w' := by
  have hlen := Lib.hid hb.1.lenS
  have HB := Lib.hid hb
  have HP := Lib.hid hp
  have HX := Lib.hid hcx
  have HY := Lib.hid hcy
  have HC := Lib.hid hcp
  have hn0 := hb.2.1
  clear hb hp hcx hcy hcp
  go_enter Try.func43, Try.ntmps43
  go_wp2
  go_loopw [8] (fun i wr => ∃ k : Nat, k ≤ n0 ∧ i = .int .i64 k ∧ (∀ r ∈ b.take k, agr (blkP p x y) r = false) ∧ Below w.heap.size w wr) (fun i _ => n0 - (intOf i).toNat)
  case atStart => exact ⟨0, Nat.zero_le _, rfl, by simp, Below.refl _ _⟩
  case round =>
    obtain ⟨k, hk, rfl, ha, hbel⟩ := hrel
    have HA := Lib.hid ha
    clear ha
    by_cases hlt : k < n0
    · have hkl : k < b.length := by rw [hlen.out]; exact hlt
      obtain ⟨a, rfl, hab, hcell⟩ := (HB.out.1.below hbel).str (k := k) hkl
      obtain ⟨r, hr⟩ : ∃ r, r = b[k] := ⟨_, rfl⟩
      rw [← hr] at hcell
      have HR := Lib.hid hr
      have hs := hbel.size
      have HBel := Lib.hid hbel
      clear hr hbel
      go_wp2_with fail
      refine (letClos_any ax ay ap A n c p x y r _ (HP.out.later HBel.out) hok hx hy (by rw [HR.out]; exact h4 _ (List.getElem_mem hkl)) ((HBel.out.cell (p := ax) bx).trans HX.out) ((HBel.out.cell (p := ay) b_y).trans HY.out) ((HBel.out.cell (p := ap) bp).trans HC.out) (by omega) (by omega) (by omega)).mono ?_
      rintro e w1 ⟨he, hb1⟩
      have HB1 := Lib.hid (HBel.out.trans (hb1.mono hs))
      clear hb1
      cases hag : agr (blkP p x y) r
      · rw [hag] at he
        subst he
        have H := Lib.hid (all_false_snoc hkl HA.out (by rw [← HR.out]; exact hag))
        clear hag
        go_wp2
        exact ⟨⟨k + 1, by omega, by go_num, H.out, HB1.out⟩, by simp [intOf]; omega⟩
      · rw [hag] at he
        subst he
        have HE := Lib.hid (letB_yes hkl (by rw [← HR.out]; exact hag) HA.out)
        clear hag
        go_wp2
        go_ret
        exact ⟨ret_int HE.out.symm, HB1.out⟩
    · have HE := Lib.hid (show -1 = letP b p x y from (letB_no (fun r hr => HA.out r (by rwa [List.take_of_length_le (by rw [hlen.out]; omega)]))).symm)
      go_wp2
      go_ret
      exact ⟨ret_int HE.out, hbel⟩

theorem letterOf_any (A0 : Option Addr) (n0 c0 : Nat) (b : Pch) (A1 : Option Addr) (n1 c1 : Nat) (p : Pch) (x y : Int) (w : World) (hb : SIn w A0 n0 c0 b) (hp : SIn w A1 n1 c1 p) (h4 : FourW b) (hok : pOk p = true) (hx : -4 ≤ x ∧ x ≤ 64) (hy : -4 ≤ y ∧ y ≤ 64) :
    Calls Try.prog 26 #[.slice A0 n0 c0, .slice A1 n1 c1, .int .i64 x, .int .i64 y] w fun e w' => e = .returned (.int .i64 (letP b p x y)) ∧ Below w.heap.size w w' := by
  have HB := Lib.hid hb
  have HP := Lib.hid hp
  have h3 := fun (o1 o2 o3 : Obj) => ((((Below.refl w.heap.size w).alloc (Nat.le_refl _) o1).alloc (by simp) o2).alloc (by simp; omega) o3)
  have H3 := Lib.hid h3
  clear hb hp h3
  go_enter Try.func26, Try.ntmps26
  go_wp2_with fail
  refine (idxLet_any _ _ _ _ _ _ b _ _ _ p x y _ (HB.out.later (H3.out _ _ _)) h4 (HP.out.later (H3.out _ _ _)) hok hx hy ?_ ?_ ?_ (by simp) (by simp) (by simp; omega)).mono ?_
  · go_simp
  · go_simp
  · go_simp
  rintro e w1 ⟨rfl, hb1⟩
  have HB1 := Lib.hid ((H3.out (.cells #[.slice A1 n1 c1] 23) (.cells #[.int .i64 x] 3) (.cells #[.int .i64 y] 3)).trans (hb1.mono (by simp; omega)))
  clear hb1
  go_wp2
  go_ret
  exact ⟨rfl, HB1.out⟩
end Go.Proofs.Ytbjhjpakjinpiaa
