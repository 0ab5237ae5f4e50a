/-
  Contracts of holesAhead, filled and their twins. Conditions: a pattern that is one, an index of at most 100000.
-/
import Derived.Test.YtfjehlmknbhghaaDoorHPat
namespace Go.Proofs.YtfjehlmknbhghaaDoor
open Go.RowKit

theorem qsameH {P : Program} {f : FuncId} {args : Array Value} {w : World} {n : Nat} {v : Value}
    (h : Calls P f args (w.drewN n) fun e w' => e = .returned v ∧ w.drewN n = w') : Calls P f args (w.drewN n) fun e w'' => e = .returned v ∧ ∃ m, w'' = w.drewN m :=
  h.mono fun _ _ ⟨he, hm⟩ => ⟨he, n, hm.symm⟩
/-- the numbers that an index of a pattern gives -/
structure HolN (L n D M : Nat) : Prop where
  d : (n : Int).tdiv (L : Int) = (D : Int)
  m : (n : Int).tmod (L : Int) = (M : Int)
  lt : M < L
  le : D ≤ n
theorem holN {L n : Nat} (h : 0 < L) : HolN L n (n / L) (n % L) :=
  ⟨by rw [Int.tdiv_eq_ediv_of_nonneg (by omega)]; simp, by rw [Int.tmod_eq_emod_of_nonneg (by omega)]; simp, Nat.mod_lt _ h, Nat.div_le_self _ _⟩
theorem mul_castH {x y z : Nat} (h : z = x * y) : (x : Int) * (y : Int) = (z : Int) := by rw [h, Int.natCast_mul]

set_option maxHeartbeats 800000 in
theorem holesAhead_any (p : List UInt8) (n : Nat) (h2 : 2 ≤ p.length) (h16 : p.length ≤ 16) (hn : n ≤ 100000) (w : World) :
    Calls Tryd.prog 38 #[.string ⟨p.toArray⟩, .int .i64 (n : Int)] w fun e w' => e = .returned (.int .i64 (hol p n : Nat)) ∧ Below w.heap.size w w' := by
  have hN := holN (L := p.length) (n := n) (by omega)
  obtain ⟨D, hD⟩ : ∃ D, D = n / p.length := ⟨_, rfl⟩
  obtain ⟨M, hM⟩ : ∃ M, M = n % p.length := ⟨_, rfl⟩
  rw [← hD, ← hM] at hN
  obtain ⟨c1, hc1⟩ : ∃ c, c = cnt p := ⟨_, rfl⟩
  obtain ⟨c2, hc2⟩ : ∃ c, c = cnt (p.take M) := ⟨_, rfl⟩
  obtain ⟨Q, hQ⟩ : ∃ Q, Q = D * c1 := ⟨_, rfl⟩
  have hc1m : c1 ≤ 16 := by rw [hc1]; exact Nat.le_trans (cnt_le p) h16
  have hc2m : c2 ≤ 16 := by rw [hc2]; exact Nat.le_trans (cnt_le _) (by rw [List.length_take]; omega)
  have hD1 : D ≤ 100000 := by have := hN.le; omega
  have hQm : Q ≤ 1600000 := by rw [hQ]; exact Nat.mul_le_mul hD1 hc1m
  have HE := Lib.hid (show Q + c2 = hol p n by unfold hol; rw [← hD, ← hM, ← hc1, ← hc2, hQ])
  have k1 := cntC_any p
  have k2 := cntC_any (p.take M)
  rw [← hc1] at k1
  rw [← hc2] at k2
  have K1 := Lib.hid k1
  have K2 := Lib.hid k2
  have HQ := Lib.hid (show (Q : Int) + (c2 : Int) = ((hol p n : Nat) : Int) by rw [← HE.out, Int.natCast_add])
  have e9 : (M : Int) ≤ (p.length : Int) := by have := hN.lt; omega
  have e10 : M ≤ p.length := by have := hN.lt; omega
  have e8 : ((p.length : Int) == 0) = false := beq_eq_false_iff_ne.2 (by omega)
  have hMl := hN.lt
  have e1 := hN.d
  have e2 := hN.m
  have e3 : IntKind.i64.wrap (D : Int) = (D : Int) := IntWalk.i64_in _ (by omega)
  have e4 : IntKind.i64.wrap (M : Int) = (M : Int) := IntWalk.i64_in _ (by omega)
  have e5 : (D : Int) * (c1 : Int) = (Q : Int) := mul_castH hQ
  have e6 : IntKind.i64.wrap (Q : Int) = (Q : Int) := IntWalk.i64_in _ (by omega)
  have e7 : IntKind.i64.wrap ((Q : Int) + (c2 : Int)) = (Q : Int) + (c2 : Int) := IntWalk.i64_in _ (by omega)
  clear hN hD hM hc1 hc2 hQ k1 k2
  go_enter Tryd.func38, Tryd.ntmps38
  go_wp2_with fail
  go_quiet ((go_at_call 34; first | with_reducible exact qsameH (K1.out _) | with_reducible exact qsameH (K2.out _)))
  go_wp2
  go_ret
  exact ⟨ret_int HQ.out, below_drewN (Below.refl _ _) _⟩
set_option maxHeartbeats 800000 in
theorem l20Holes_any (p : List UInt8) (n : Nat) (h2 : 2 ≤ p.length) (h16 : p.length ≤ 16) (hn : n ≤ 100000) (w : World) :
    Calls Tryd.prog 33 #[.string ⟨p.toArray⟩, .int .i64 (n : Int)] w fun e w' => e = .returned (.int .i64 (hol p n : Nat)) ∧ w = w' := by
  have hN := holN (L := p.length) (n := n) (by omega)
  obtain ⟨D, hD⟩ : ∃ D, D = n / p.length := ⟨_, rfl⟩
  obtain ⟨M, hM⟩ : ∃ M, M = n % p.length := ⟨_, rfl⟩
  rw [← hD, ← hM] at hN
  have hMl := hN.lt
  have hD1 : D ≤ 100000 := by have := hN.le; omega
  have e1 : (n : Int) / (p.length : Int) = (D : Int) := by rw [hD]; simp
  have e2 : (n : Int) % (p.length : Int) = (M : Int) := by rw [hM]; simp
  have HE := Lib.hid (show D * cnt p + cnt (p.take M) = hol p n by unfold hol; rw [← hD, ← hM])
  have h0 : (0 : Int) < (p.length : Int) := by omega
  clear hN hD hM
  go_enter Tryd.func33, Tryd.ntmps33
  go_wp2_with fail
  go_loop [7, 5, 6] (fun i a b => ∃ (k x y : Nat), k ≤ p.length ∧ i = .int .i64 k ∧ a = .int .i64 x ∧ b = .int .i64 y ∧ x = cnt (p.take k) ∧ y = cnt (p.take (min k M))) (fun i _ _ => p.length - (intOf i).toNat)
  case atStart => exact ⟨0, 0, 0, Nat.zero_le _, rfl, rfl, rfl, by simp [cnt, Lib.countByte], by simp [cnt, Lib.countByte]⟩
  case round =>
    obtain ⟨k, x, y, hk, rfl, rfl, rfl, hx, hy⟩ := hrel
    have hx16 : x ≤ 16 := by rw [hx]; exact Nat.le_trans (cnt_le _) (by rw [List.length_take]; omega)
    have hy16 : y ≤ 16 := by rw [hy]; exact Nat.le_trans (cnt_le _) (by rw [List.length_take]; omega)
    have HX := Lib.hid hx
    have HY := Lib.hid hy
    clear hx hy
    by_cases hlt : k < p.length
    · have hs := cnt_snoc p hlt
      by_cases h63 : p[k] = 63
      · have g1 : ((p[k].toNat : Int) == 63) = true := by rw [h63]; rfl
        have HX2 := Lib.hid (show x + 1 = cnt (p.take (k + 1)) by rw [hs, h63, HX.out]; rfl)
        by_cases hkm : k < M
        · have HY2 := Lib.hid (show y + 1 = cnt (p.take (min (k + 1) M)) by
            rw [Nat.min_eq_left (by omega), hs, h63, HY.out, Nat.min_eq_left (by omega)]; rfl)
          have hkm2 : (k : Int) < (M : Int) := by omega
          clear hs h63
          go_wp2_with fail
          go_round
          case rel => exact ⟨k + 1, x + 1, y + 1, by omega, by go_num, by go_num, by go_num, HX2.out, HY2.out⟩
          case measure => simp [intOf]; omega
        · have HY2 := Lib.hid (show y = cnt (p.take (min (k + 1) M)) by
            rw [Nat.min_eq_right (by omega), HY.out, Nat.min_eq_right (by omega)])
          have hkm2 : ¬ (k : Int) < (M : Int) := by omega
          clear hs h63
          go_wp2_with fail
          go_round
          case rel => exact ⟨k + 1, x + 1, y, by omega, by go_num, by go_num, by go_num, HX2.out, HY2.out⟩
          case measure => simp [intOf]; omega
      · have g1 : ((p[k].toNat : Int) == 63) = false := by
          simp; intro e; exact h63 (UInt8.toNat_inj.1 (by show _ = 63; omega))
        have HX2 := Lib.hid (show x = cnt (p.take (k + 1)) by rw [hs, HX.out]; simp [h63])
        have HY2 := Lib.hid (show y = cnt (p.take (min (k + 1) M)) by
          by_cases hkm : k < M
          · rw [Nat.min_eq_left (by omega), hs, HY.out, Nat.min_eq_left (by omega)]; simp [h63]
          · rw [Nat.min_eq_right (by omega), HY.out, Nat.min_eq_right (by omega)])
        clear hs h63
        go_wp2_with fail
        go_round
        case rel => exact ⟨k + 1, x, y, by omega, by go_num, by go_num, by go_num, HX2.out, HY2.out⟩
        case measure => simp [intOf]; omega
    · obtain ⟨Q, hQ⟩ : ∃ Q, Q = D * x := ⟨_, rfl⟩
      have hQm : Q ≤ 1600000 := by rw [hQ]; exact Nat.mul_le_mul hD1 hx16
      have e5 : (D : Int) * (x : Int) = (Q : Int) := mul_castH hQ
      have HQ := Lib.hid (show (Q : Int) + (y : Int) = ((hol p n : Nat) : Int) by
        rw [← HE.out, hQ, HX.out, HY.out, Nat.min_eq_right (by omega), List.take_of_length_le (by omega)]; simp)
      clear hQ
      go_wp2_with fail
      go_ret
      exact ⟨ret_int HQ.out, rfl⟩

/-- a letter and a depth -/
theorem ret_fil {p q : UInt8 × Nat} (h : p = q) : Ending.returned (.tuple #[.int .u8 (p.1.toNat : Nat), .int .i64 (p.2 : Nat)]) = .returned (.tuple #[.int .u8 (q.1.toNat : Nat), .int .i64 (q.2 : Nat)]) := by rw [h]
set_option maxHeartbeats 800000 in
theorem filled_any (p : List UInt8) (n : Nat) (hp : patOk p = true) (hn : n ≤ 100000) (w : World) :
    Calls Tryd.prog 36 #[.string ⟨p.toArray⟩, .int .i64 (n : Int)] w fun e w' => e = .returned (.tuple #[.int .u8 ((fil p n).1.toNat : Nat), .int .i64 ((fil p n).2 : Nat)]) ∧ Below w.heap.size w w' := by
  have hl := patOk_len hp
  have HP := Lib.hid hp
  obtain ⟨hl2, hl16⟩ := hl
  clear hp
  go_enter Tryd.func36, Tryd.ntmps36
  go_wp2_with fail
  go_loopw [1, 6] (fun i a wr => ∃ m d : Nat, m + d ≤ n ∧ i = .int .i64 m ∧ a = .int .i64 d ∧ fil p n = ((fil p m).1, (fil p m).2 + d) ∧ Below w.heap.size w wr) (fun i _ _ => (intOf i).toNat)
  case atStart => exact ⟨n, 0, by omega, rfl, rfl, rfl, Below.refl _ _⟩
  case round =>
    obtain ⟨m, d, hmd, rfl, rfl, hf, hbel⟩ := hrel
    have HF := Lib.hid hf
    clear hf
    obtain ⟨M, hM⟩ : ∃ M, M = m % p.length := ⟨_, rfl⟩
    have hMl : M < p.length := by rw [hM]; exact Nat.mod_lt _ (by omega)
    have e2 : (m : Int) % (p.length : Int) = (M : Int) := by rw [hM]; simp
    have hsg : sg p m = p[M] := by rw [sg_at (by omega)]; simp only [hM]
    clear hM
    by_cases h63 : sg p m = 63
    · have g1 : ((p[M].toNat : Int) == 63) = true := by rw [← hsg, h63]; rfl
      have hd := hol_down HP.out h63
      have HN := Lib.hid (show fil p n = ((fil p (hol p m)).1, (fil p (hol p m)).2 + (d + 1)) by rw [HF.out, fil_hole HP.out h63]; simp; omega)
      obtain ⟨H, hH⟩ : ∃ H, H = hol p m := ⟨_, rfl⟩
      have hc := holesAhead_any p m hl2 hl16 (by omega) wr
      rw [← hH] at hc hd HN
      have HC := Lib.hid hc
      clear hsg h63 hH hc
      go_wp2_with (go_at_call 38; refine HC.out.mono ?_; rintro e w1 ⟨rfl, hb1⟩)
      exact ⟨⟨H, d + 1, by omega, by go_num, by go_num, HN.out, hbel.trans (hb1.mono hbel.size)⟩, by simp [intOf]; omega⟩
    · have g1 : ((p[M].toNat : Int) == 63) = false := by
        rw [← hsg]; simp; intro e; exact h63 (UInt8.toNat_inj.1 (by show _ = 63; omega))
      have HN := Lib.hid (show (p[M], d) = fil p n by rw [HF.out, fil_letter h63, hsg]; simp)
      clear hsg h63
      go_wp2_with fail
      go_ret2
      exact ⟨ret_fil HN.out, hbel⟩
set_option maxHeartbeats 800000 in
theorem l20Letter_any (p : List UInt8) (n : Nat) (hp : patOk p = true) (hn : n ≤ 100000) (w : World) :
    Calls Tryd.prog 35 #[.string ⟨p.toArray⟩, .int .i64 (n : Int)] w fun e w' => e = .returned (.tuple #[.int .u8 ((fil p n).1.toNat : Nat), .int .i64 ((fil p n).2 : Nat)]) ∧ Below w.heap.size w w' := by
  have hl := patOk_len hp
  have HP := Lib.hid hp
  obtain ⟨hl2, hl16⟩ := hl
  clear hp
  go_enter Tryd.func35, Tryd.ntmps35
  go_wp2_with fail
  go_loopw [1, 6] (fun i a wr => ∃ m d : Nat, m + d ≤ n ∧ i = .int .i64 m ∧ a = .int .i64 d ∧ fil p n = ((fil p m).1, (fil p m).2 + d) ∧ Below w.heap.size w wr) (fun i _ _ => (intOf i).toNat)
  case atStart => exact ⟨n, 0, by omega, rfl, rfl, rfl, Below.refl _ _⟩
  case round =>
    obtain ⟨m, d, hmd, rfl, rfl, hf, hbel⟩ := hrel
    have HF := Lib.hid hf
    clear hf
    obtain ⟨M, hM⟩ : ∃ M, M = m % p.length := ⟨_, rfl⟩
    have hMl : M < p.length := by rw [hM]; exact Nat.mod_lt _ (by omega)
    have e2 : (m : Int) % (p.length : Int) = (M : Int) := by rw [hM]; simp
    have hsg : sg p m = p[M] := by rw [sg_at (by omega)]; simp only [hM]
    clear hM
    by_cases h63 : sg p m = 63
    · have g1 : ((p[M].toNat : Int) == 63) = true := by rw [← hsg, h63]; rfl
      have hd := hol_down HP.out h63
      have HN := Lib.hid (show fil p n = ((fil p (hol p m)).1, (fil p (hol p m)).2 + (d + 1)) by rw [HF.out, fil_hole HP.out h63]; simp; omega)
      obtain ⟨H, hH⟩ : ∃ H, H = hol p m := ⟨_, rfl⟩
      have hc := l20Holes_any p m hl2 hl16 (by omega) wr
      rw [← hH] at hc hd HN
      have HC := Lib.hid hc
      clear hsg h63 hH hc
      go_wp2_with (go_at_call 33; refine HC.out.mono ?_; rintro e w1 ⟨rfl, rfl⟩)
      exact ⟨⟨H, d + 1, by omega, by go_num, by go_num, HN.out, hbel⟩, by simp [intOf]; omega⟩
    · have g1 : ((p[M].toNat : Int) == 63) = false := by
        rw [← hsg]; simp; intro e; exact h63 (UInt8.toNat_inj.1 (by show _ = 63; omega))
      have HN := Lib.hid (show (p[M], d) = fil p n by rw [HF.out, fil_letter h63, hsg]; simp)
      clear hsg h63
      go_wp2_with fail
      go_ret2
      exact ⟨ret_fil HN.out, hbel⟩
end Go.Proofs.YtfjehlmknbhghaaDoor
