/-
  The walk of the law FnClasses. No conditions.
-/
import Derived.Test.YtkgokjekifmlfaaCOv
import Derived.Test.YtkgokjekifmlfaaMkC
import Derived.Test.YtkgokjekifmlfaaFrame
namespace Go.Proofs.Ytkgokjekifmlfaa
open Go.RowKit

theorem qsameC {P : Program} {f : FuncId} {args : Array Value} {w : World} {n : Nat} {v : Value}
    (h : Calls P f args (w.drewN n) fun e w' => e = .returned v ∧ w.drewN n = w') : Calls P f args (w.drewN n) fun e w'' => e = .returned v ∧ ∃ m, w'' = w.drewN m :=
  h.mono fun _ _ ⟨he, hm⟩ => ⟨he, n, hm.symm⟩
theorem qaddC {P : Program} {f : FuncId} {args : Array Value} {w : World} {a n : Nat} {v : Value}
    (h : Calls P f args (w.drewN (a + n)) fun e w' => e = .returned v ∧ w.drewN (a + n) = w') :
    Calls P f args (w.drewN (a + n)) fun e w'' => e = .returned v ∧ ∃ m, w'' = w.drewN (a + m) :=
  h.mono fun _ _ ⟨he, hm⟩ => ⟨he, n, hm.symm⟩
section
variable {b : Nat}
theorem tCls (hb : 2 ≤ b) (hb2 : b ≤ 4) {z : Int} {m x : Nat} (hz : z = (m : Int)) (hm : m ≤ 1000000) (hx : cls b m = x) (w : World) :
    Calls Try.prog 7 #[.int .i64 z, .int .i64 (b : Int)] w fun e w' => e = .returned (.int .i64 (x : Int)) ∧ w = w' := by
  subst hz
  have h := iClassOf_nat m b (wi_mk (by omega) (by omega)) (wi_mk (by omega) (by omega)) w
  rw [hx] at h
  exact h
theorem tRank (hb : 2 ≤ b) (hb2 : b ≤ 4) {m x : Nat} (hm : m ≤ 100000) (hx : m / b = x) (w : World) :
    Calls Try.prog 8 #[.int .i64 (m : Int), .int .i64 (b : Int)] w fun e w' => e = .returned (.int .i64 (x : Int)) ∧ w = w' := by
  have h := iRank_any (m : Int) (b : Int) w
  rw [show rank (m : Int) (b : Int) = (x : Int) by unfold rank; rw [wi_mk (by omega) (by omega), wi_mk (by omega) (by omega), ← hx]; simp] at h
  exact h
theorem tNext (hb : 2 ≤ b) (hb2 : b ≤ 4) {m x : Nat} (hm : m ≤ 100000) (hx : nx b m = x) (w : World) :
    Calls Try.prog 9 #[.int .i64 (m : Int), .int .i64 (b : Int)] w fun e w' => e = .returned (.int .i64 (x : Int)) ∧ w = w' := by
  have h := iNext_any (m : Int) (b : Int) w
  rw [show nextOf (m : Int) (b : Int) = (x : Int) by unfold nextOf; rw [wi_mk (by omega) (by omega), wi_mk (by omega) (by omega)]; simp [hx]] at h
  exact h
end
theorem tWord {b : Nat} (hb : 2 ≤ b) (hb2 : b ≤ 4) {t : List UInt8} (ht : t = classW b 64) (w : World) : Calls Try.prog 11 #[.int .i64 (b : Int), .int .i64 64] w fun e w' => e = .returned (.tuple #[.string ⟨t.toArray⟩, .bool true]) ∧ Below w.heap.size w w' := by
  have h := iClassWord_any (b : Int) 64 w
  rw [show classWord (b : Int) 64 = (t, true) by unfold classWord; rw [wi_mk (by omega) (by omega), wi_mk (by omega) (by omega), ht]; rfl] at h
  exact h
theorem tOv {t : List UInt8} {x : Bool} (ht : t.length ≤ 1000) (hx : ovFree t = x) (w : World) : Calls Try.prog 13 #[.string ⟨t.toArray⟩] w fun e w' => e = .returned (.bool x) ∧ Below w.heap.size w w' := by
  have h := ovFree_any t (by omega) w
  rw [hx] at h
  exact h
/-- what the law knows of the members -/
def ClsFacts (b k s q : Nat) : Prop := ∀ c, c < b →
  membersOf b k c = mbs b c s ∧ (mbs b c s).length = q ∧ (∀ e, e < k → e ≤ 3 → powerSum (mbs b c s) e = (nSum e (nm b 0 s) : Nat)) ∧
      ∀ (i : Nat) (h : i < (mbs b c s).length), ∃ n : Nat, (mbs b c s)[i] = (n : Int) ∧ n < 256 ∧ cls b n = c ∧ n / b = i ∧ (0 < i → ∃ m : Nat, (mbs b c s).getD (i - 1) 0 = (m : Int) ∧ m < 256 ∧ nx b m = n)
theorem even_pred (s : Nat) : s * (s - 1) % 2 = 0 := by
  cases s with
  | zero => rfl
  | succ n =>
    rw [Nat.add_sub_cancel]
    have h : n % 2 = 0 ∨ n % 2 = 1 := by omega
    rcases h with h | h
    · rw [Nat.mul_mod, h]; simp
    · rw [Nat.mul_mod, show (n + 1) % 2 = 0 by omega]; simp
theorem Rd.intC {w : World} {B n : Nat} {A : Option Addr} {k : Nat} {zs : List Int} {z : Int} (h : Rd w B A n (ivs zs)) (hk : k < zs.length) (hz : zs.getD k 0 = z) : ∃ a, A = some a ∧ w.cell? (a.add k) = some (.int .i64 z) := by
  obtain ⟨a, h1, _, h2⟩ := h.int hk
  have : zs[k] = z := by rw [← hz]; simp [List.getD, List.getElem?_eq_getElem hk]
  rw [this] at h2
  exact ⟨a, h1, h2⟩

set_option maxRecDepth 100000 in
set_option maxHeartbeats 4000000 in
theorem walk_FnClasses (A : Option Addr) (n c : Nat) (l : List UInt8) (w : World) (h : BytesArg w A n c l) : Calls Try.prog 3 #[.slice A n c] w fun e w' => e = .returned (.bool true) ∧ Below w.heap.size w w' := by
  obtain ⟨hrd, hnc, hcm⟩ := h
  by_cases hbig : n ≤ 1048576
  case neg =>
    go_enter Try.func3, Try.ntmps3
    go_wp2_with fail
    go_ret
    exact ⟨rfl, Below.refl _ _⟩
  have HR := Lib.hid hrd
  clear hrd
  go_enter Try.func3, Try.ntmps3
  go_wp2_with fail
  refine (MakeSize_any A n c l 0 2 4 _ HR.out hbig (by omega) (by omega) (by omega)).mono ?_
  rintro e w1 ⟨b, rfl, hb, hb2, hb1⟩
  have B1 := Lib.hid hb1
  clear hb1
  go_wp2_with fail
  refine (MakeSize_any A n c l 1 1 4 _ (HR.out.later B1.out) hbig (by omega) (by omega) (by omega)).mono ?_
  rintro e w2 ⟨k, rfl, hk, hk2, hb2'⟩
  have B2 := Lib.hid (B1.out.trans (hb2'.mono B1.out.size))
  clear hb2' B1
  go_wp2_with fail
  have HBD := Lib.hid (pw_bd (b := b) (c := 4) (n := k) (M := 256) (by omega) hb2 (pw44 (Nat.le_refl 4) hk2))
  go_loop [6, 5] (fun i out => ∃ j : Nat, j ≤ k ∧ i = .int .i64 j ∧ out = .int .i64 (pw b j : Nat)) (fun i _ => k - (intOf i).toNat)
  case atStart => exact ⟨0, Nat.zero_le _, rfl, rfl⟩
  case round =>
    obtain ⟨j, hj, rfl, rfl⟩ := hrel
    by_cases hlt : j < k
    · obtain ⟨h1, h2⟩ := int_mul_bd (HBD.out j hlt)
      have HP := Lib.hid (int_mul_eq (pw_succ b j))
      go_wp2_with fail
      go_round
      case rel => exact ⟨j + 1, by omega, by go_num, by rw [HP.out]⟩
      case measure => simp [intOf]; omega
    · obtain rfl : j = k := by omega
      obtain ⟨s, hs⟩ : ∃ s, s = pw b j := ⟨_, rfl⟩
      obtain ⟨q, hq⟩ : ∃ q, q = s / b := ⟨_, rfl⟩
      have hs256 : s ≤ 256 := by rw [hs]; exact pw44 hb2 hk2
      have hqs : b * q = s := by
        rw [hq, hs]
        exact Nat.mul_div_cancel' ⟨pw b (j - 1), by rw [Nat.mul_comm, ← pw_succ]; congr 1; omega⟩
      have hq256 : q ≤ 256 := by rw [hq]; exact Nat.le_trans (Nat.div_le_self _ _) hs256
      have HF := Lib.hid (show ClsFacts b j s q from fun c hc => by rw [hq, hs]; exact class_facts hb hb2 hk hk2 hc)
      have hsf := shift_fact hb hb2 hk hk2
      rw [← hs] at hsf ⊢
      have HSF := Lib.hid hsf
      have HS := Lib.hid hs
      have HQS := Lib.hid hqs
      have hdq : (s : Int) / (b : Int) = (q : Int) := by rw [hq]; simp
      have hs1 : 1 ≤ s := by rw [hs]; exact Nat.one_le_pow _ _ (by omega)
      clear hs hq hqs hsf
      go_wp2_with fail
      go_loopw [8, 7] (fun i all wr => ∃ c a : Nat, c ≤ b ∧ i = .int .i64 c ∧ all = .int .i64 a ∧ a = c * q ∧ Below w.heap.size w wr) (fun i _ _ => b - (intOf i).toNat)
      case atStart => exact ⟨0, 0, Nat.zero_le _, rfl, rfl, by simp, B2.out⟩
      case round =>
        obtain ⟨c1, a, hc, rfl, rfl, ha, hbel⟩ := hrel
        have ha4 : a ≤ 1024 := by
          rw [ha]; exact Nat.le_trans (Nat.mul_le_mul (show c1 ≤ 4 by omega) hq256) (by omega)
        have HA := Lib.hid ha
        clear ha
        by_cases hcl : c1 < b
        · obtain ⟨hm, hlen, hps, hel⟩ := HF.out c1 hcl
          obtain ⟨hm0, hlen0, hps0, _⟩ := HF.out 0 (by omega)
          have HPS := Lib.hid hps
          have HPS0 := Lib.hid hps0
          have HEL := Lib.hid hel
          have HLEN := Lib.hid hlen
          have HLEN0 := Lib.hid hlen0
          have HM := Lib.hid hm
          have HM0 := Lib.hid hm0
          clear hps hps0 hel hlen hlen0 hm hm0
          have dc : decide ((c1 : Int) < (b : Int)) = true := by simp; omega
          go_wp2_with fail
          refine (iMembers_any (b : Int) (j : Int) (c1 : Int) _).mono ?_
          rintro e w3 ⟨A3, n3, c3, rfl, o3⟩
          rw [HM.out] at o3
          obtain rfl : n3 = q := by have h1 := o3.len; have h2 := HLEN.out; simp only [ivs, List.length_map] at h1; omega
          have O3 := Lib.hid o3
          clear o3
          go_wp2_with fail
          refine (iMembers_any (b : Int) (j : Int) 0 _).mono ?_
          rintro e w4 ⟨A4, n4, c4, rfl, o4⟩
          have hm00 : membersOf (b : Int) (j : Int) 0 = mbs b 0 s := HM0.out
          rw [hm00] at o4
          clear hm00
          obtain rfl : n4 = n3 := by have h1 := o4.len; have h2 := HLEN0.out; simp only [ivs, List.length_map] at h1; omega
          have R3 := Lib.hid (O3.out.rd.later o4.2)
          have R4 := Lib.hid o4.rd
          have B4 := Lib.hid (hbel.trans ((O3.out.2.mono hbel.size).trans (o4.2.mono (Nat.le_trans hbel.size O3.out.2.size))))
          clear o4 O3 hbel
          have hqq : ((n4 : Int) != (n4 : Int)) = false := by simp
          go_wp2_with fail
          go_loop [11] (fun i => ∃ e : Nat, e ≤ j ∧ i = .int .i64 e) (fun i => j - (intOf i).toNat)
          case atStart => exact ⟨0, Nat.zero_le _, rfl⟩
          case round =>
            obtain ⟨e, he, rfl⟩ := hrel
            by_cases hej : e < j
            · have hps1 := HPS.out e hej (by omega)
              have hps2 := HPS0.out e hej (by omega)
              obtain ⟨S, hS⟩ : ∃ S : Nat, S = nSum e (nm b 0 s) := ⟨_, rfl⟩
              rw [← hS] at hps1 hps2
              have hc1 := fun w B (h : Rd w B A3 n4 (ivs (mbs b c1 s))) => iPowerSum_any A3 n4 c3 B (mbs b c1 s) (e : Int) w h (by omega)
              have hc2 := fun w B (h : Rd w B A4 n4 (ivs (mbs b 0 s))) => iPowerSum_any A4 n4 c4 B (mbs b 0 s) (e : Int) w h (by omega)
              rw [hps1] at hc1
              rw [hps2] at hc2
              have HC1 := Lib.hid (hc1 _ _ R3.out)
              have HC2 := Lib.hid (hc2 _ _ R4.out)
              clear hps1 hps2 hS hc1 hc2
              have de : decide ((e : Int) < (j : Int)) = true := by simp; omega
              have de2 : decide (e < j) = true := by simp; omega
              have he3 : e ≤ 3 := by omega
              go_wp2_with fail
              refine HC1.out.mono ?_
              rintro e' w' ⟨rfl, rfl⟩
              go_wp2_with fail
              refine HC2.out.mono ?_
              rintro e' w' ⟨rfl, rfl⟩
              go_wp2_with fail
              refine HC1.out.mono ?_
              rintro e' w' ⟨rfl, rfl⟩
              go_wp2_with fail
              go_round
              case rel => exact ⟨e + 1, by omega, by go_num⟩
              case measure => simp [intOf]; omega
            · have de : decide ((e : Int) < (j : Int)) = false := by simp; omega
              have de2 : decide (e < j) = false := by simp; omega
              go_wp2_with fail
              clear he hej de de2
              go_loop [79] (fun i => ∃ i1 : Nat, i1 ≤ n4 ∧ i = .int .i64 i1) (fun i => n4 - (intOf i).toNat)
              case atStart => exact ⟨0, Nat.zero_le _, rfl⟩
              case round =>
                obtain ⟨i1, hi, rfl⟩ := hrel
                by_cases hin : i1 < n4
                · have hil : i1 < (mbs b c1 s).length := by rw [HLEN.out]; exact hin
                  obtain ⟨x, hx, hx256, hxc, hxd, hxn⟩ := HEL.out i1 hil
                  obtain ⟨a3, rfl, hcell⟩ := R3.out.intC (z := (x : Int)) hil (by rw [← hx]; simp [List.getD, List.getElem?_eq_getElem hil])
                  have HXC := Lib.hid hxc
                  have HXD := Lib.hid hxd
                  have HXN := Lib.hid hxn
                  clear hx hxc hxd hxn
                  by_cases hi0 : 0 < i1
                  · obtain ⟨m, hm, hm256, hmn⟩ := HXN.out hi0
                    obtain ⟨a3', ha3', hcell2⟩ := R3.out.intC (z := (m : Int)) (k := i1 - 1) (by omega) hm
                    injection ha3' with ha3'
                    subst ha3'
                    have HMN := Lib.hid hmn
                    have g1 : 1 ≤ i1 := hi0
                    clear hm hmn
                    go_wp2_with fail
                    refine (tCls hb hb2 rfl (by omega) HXC.out _).mono ?_
                    rintro e' w' ⟨rfl, rfl⟩
                    go_wp2_with fail
                    refine (tRank hb hb2 (by omega) HXD.out _).mono ?_
                    rintro e' w' ⟨rfl, rfl⟩
                    go_wp2_with fail
                    refine (tNext hb hb2 (by omega) HMN.out _).mono ?_
                    rintro e' w' ⟨rfl, rfl⟩
                    go_wp2_with fail
                    go_round
                    case rel => exact ⟨i1 + 1, by omega, by go_num⟩
                    case measure => simp [intOf]; omega
                  · have g1 : decide ((0 : Int) < (i1 : Int)) = false := by simp; omega
                    have g2 : decide (0 < i1) = false := by simp; omega
                    go_wp2_with fail
                    refine (tCls hb hb2 rfl (by omega) HXC.out _).mono ?_
                    rintro e' w' ⟨rfl, rfl⟩
                    go_wp2_with fail
                    refine (tRank hb hb2 (by omega) HXD.out _).mono ?_
                    rintro e' w' ⟨rfl, rfl⟩
                    go_wp2_with fail
                    go_round
                    case rel => exact ⟨i1 + 1, by omega, by go_num⟩
                    case measure => simp [intOf]; omega
                · have HA2 := Lib.hid (show a + n4 = (c1 + 1) * n4 by rw [Nat.add_mul, HA.out]; omega)
                  go_wp2_with fail
                  exact ⟨⟨c1 + 1, a + n4, by omega, by go_num, by go_num, HA2.out, B4.out⟩, by simp [intOf]; omega⟩
        · obtain rfl : c1 = b := by omega
          obtain rfl : a = s := by rw [HA.out, HQS.out]
          clear HA ha4 hdq
          go_wp2_with fail
          refine (MakeNum_any A n c l 2 _ (HR.out.later hbel) hbig (by omega)).mono ?_
          rintro e w5 ⟨N, rfl, hN, hb5⟩
          have B5 := Lib.hid (hbel.trans (hb5.mono hbel.size))
          clear hb5 hbel
          obtain ⟨X, hX⟩ : ∃ X, X = cls c1 N := ⟨_, rfl⟩
          obtain ⟨Q, hQ⟩ : ∃ Q, Q = N * c1 := ⟨_, rfl⟩
          obtain ⟨Y, hY⟩ : ∃ Y, Y = (X + 1) % c1 := ⟨_, rfl⟩
          obtain ⟨D, hD⟩ : ∃ D, D = N / c1 := ⟨_, rfl⟩
          have hX3 : X < c1 := by rw [hX]; exact cls_lt hb N
          have hY3 : Y < c1 := by rw [hY]; exact Nat.mod_lt _ (by omega)
          have hQm : Q ≤ 262140 := by rw [hQ]; exact Nat.mul_le_mul hN hb2
          have hDm : D ≤ 65535 := by rw [hD]; exact Nat.le_trans (Nat.div_le_self _ _) hN
          have hcq : cls c1 Q = X := by
            have h1 := cls_mul (b := c1) (q := N) (r := 0) hb (by omega)
            rw [Nat.add_zero, Nat.zero_add, Nat.mod_eq_of_lt (cls_lt hb N)] at h1
            rw [hQ, h1, hX]
          have hcq1 : cls c1 (Q + 1) = Y := by
            have h1 := cls_mul (b := c1) (q := N) (r := 1) hb (by omega)
            rw [hQ, h1, hY, hX, Nat.add_comm]
          have C1 := Lib.hid (fun w => tCls hb hb2 (z := (Q : Int)) rfl (by omega) hcq w)
          have C2 := Lib.hid (fun w => tCls hb hb2 (z := (N : Int)) rfl (by omega) hX.symm w)
          have C3 := Lib.hid (fun w => tCls hb hb2 (z := (Q : Int) + 1) (m := Q + 1) (by omega) (by omega) hcq1 w)
          have C4 := Lib.hid (fun w => tRank hb hb2 (m := N) (by omega) hD.symm w)
          have e1 : (N : Int) * (c1 : Int) = (Q : Int) := int_mul_eq hQ
          have e2 : IntKind.i64.wrap (Q : Int) = (Q : Int) := IntWalk.i64_in _ (by omega)
          have e3 : IntKind.i64.wrap ((Q : Int) + 1) = (Q : Int) + 1 := IntWalk.i64_in _ (by omega)
          have e4 : IntKind.i64.wrap ((X : Int) + 1) = (X : Int) + 1 := IntWalk.i64_in _ (by omega)
          have e5 : ((X : Int) + 1).tmod (c1 : Int) = (Y : Int) := by
            rw [Int.tmod_eq_emod_of_nonneg (by omega), hY]
            simp
          have e6 : IntKind.i64.wrap (Y : Int) = (Y : Int) := IntWalk.i64_in _ (by omega)
          have e7 : (N : Int).tdiv (c1 : Int) = (D : Int) := by
            rw [Int.tdiv_eq_ediv_of_nonneg (by omega), hD]
            simp
          have e8 : IntKind.i64.wrap (D : Int) = (D : Int) := IntWalk.i64_in _ (by omega)
          have e9 : ((a : Int) != (a : Int)) = false := by simp
          have e10 : ((c1 : Int) == 0) = false := by simp; omega
          clear hX hQ hY hD hcq hcq1
          go_wp2_with fail
          go_quiet ((first | (go_at_call 7; first | with_reducible exact qsameC (C1.out _) | with_reducible exact qsameC (C2.out _) | with_reducible exact qsameC (C3.out _)) | (go_at_call 8; with_reducible exact qsameC (C4.out _))))
          clear e1 e2 e3 e4 e5 e6 e7 e8 e9 e10 C1 C2 C3 C4
          obtain ⟨t, ht⟩ : ∃ t, t = classW c1 64 := ⟨_, rfl⟩
          have HT := Lib.hid ht
          have htl : t.length = 64 := by rw [ht]; simp [classW]
          have hov := ov_class hb hb2
          rw [← ht] at hov
          have HOV := Lib.hid hov
          have HTL := Lib.hid htl
          have f1 : ((t.length : Int) != 64) = false := by simp; omega
          have f2 : (t.length != 64) = false := by simp; omega
          clear ht htl hov
          go_wp2_with fail
          refine (tWord hb hb2 HT.out _).mono ?_
          rintro e w6 ⟨rfl, hb6⟩
          have B6 := Lib.hid ((below_drewN B5.out nq).trans (hb6.mono (below_drewN B5.out nq).size))
          clear hb6 B5
          go_wp2_with fail
          go_loopw [17] (fun i wr => ∃ k : Nat, k ≤ 64 ∧ i = .int .i64 k ∧ Below w.heap.size w wr) (fun i _ => 64 - (intOf i).toNat)
          case atStart => exact ⟨0, Nat.zero_le _, rfl, B6.out⟩
          case round =>
            clear B6
            obtain ⟨k, hk64, rfl, hbel⟩ := hrel
            by_cases hkl : k < 64
            · have hkt : k < t.length := by rw [HTL.out]; exact hkl
              obtain ⟨Z, hZ⟩ : ∃ Z, Z = cls c1 k := ⟨_, rfl⟩
              have hZ3 : Z < c1 := by rw [hZ]; exact cls_lt hb k
              have hch : ((t[k]).toNat : Int) = 97 + (Z : Int) := by
                have h1 : t[k] = clsLetter c1 k := by
                  have h2 : t[k]? = (classW c1 64)[k]? := by rw [HT.out]
                  rw [List.getElem?_eq_getElem hkt] at h2
                  simp [classW, hkl] at h2
                  exact h2
                rw [h1, hZ]; exact clsLetter_nat hb hb2
              have C5 := Lib.hid (fun w => tCls hb hb2 (z := (k : Int)) rfl (by omega) hZ.symm w)
              have g1 : IntKind.u8.wrap (((t[k]).toNat : Int) - 97) = (Z : Int) := by rw [IntWalk.u8_in _ (by omega)]; omega
              have g2 : IntKind.i64.wrap (Z : Int) = (Z : Int) := IntWalk.i64_in _ (by omega)
              have g3 : (k : Int) < (t.length : Int) := by omega
              have g4 : (0 : Int) ≤ (k : Int) := by omega
              have dd : decide ((k : Int) < 64) = true := by simp; omega
              clear hZ hch
              go_wp2_with fail
              go_quiet ((go_at_call 7; with_reducible exact qsameC (C5.out _)))
              go_wp2_with fail
              exact ⟨⟨k + 1, by omega, by go_num, below_drewN hbel nq⟩, by simp [intOf]; omega⟩
            · clear f1 f2
              obtain ⟨P1, hP1⟩ : ∃ P1, P1 = a * (a - 1) := ⟨_, rfl⟩
              obtain ⟨P2, hP2⟩ : ∃ P2, P2 = a * c1 := ⟨_, rfl⟩
              obtain ⟨P3, hP3⟩ : ∃ P3, P3 = P2 * (c1 - 1) := ⟨_, rfl⟩
              obtain ⟨V, hV⟩ : ∃ V, V = shf c1 a := ⟨_, rfl⟩
              have hP1m : P1 ≤ 65536 := by rw [hP1]; exact Nat.le_trans (Nat.mul_le_mul hs256 (show a - 1 ≤ 256 by omega)) (by omega)
              have hP2m : P2 ≤ 1024 := by rw [hP2]; exact Nat.mul_le_mul hs256 hb2
              have hP3m : P3 ≤ 3072 := by rw [hP3]; exact Nat.mul_le_mul hP2m (show c1 - 1 ≤ 3 by omega)
              have hpar := even_pred a
              rw [← hP1] at hpar
              have hsf := HSF.out
              rw [← hP1, ← hP2, ← hP3, ← hV] at hsf
              have HCS := Lib.hid (show ∀ w, Calls Try.prog 12 #[.int .i64 (j : Int), .int .i64 (c1 : Int)] w fun e w' => e = .returned (.int .i64 (V : Int)) ∧ w = w' from fun w => by
                have h := iShift_any (j : Int) (c1 : Int) w
                rw [show shiftSum (j : Int) (c1 : Int) = (V : Int) by unfold shiftSum; rw [wi_mk (by omega) (by omega), wi_mk (by omega) (by omega), hV, HS.out]; rfl] at h
                exact h)
              have i1 : (a : Int) * ((a : Int) - 1) = (P1 : Int) := by
                have h1 := int_mul_eq hP1
                rw [← h1]; congr 1; omega
              have i2 : (a : Int) * (c1 : Int) = (P2 : Int) := int_mul_eq hP2
              have i3 : (P2 : Int) * ((c1 : Int) - 1) = (P3 : Int) := by
                have h1 := int_mul_eq hP3
                rw [← h1]; congr 1; omega
              have i4 : ((V : Int) == (P1 : Int) / 2 + (P3 : Int) / 2) = true := by simp; omega
              clear hP1 hP2 hP3 hV hpar hsf
              have HREV := Lib.hid (show t.reverse.length ≤ 1000 by rw [List.length_reverse, HTL.out]; omega)
              go_wp2_with fail
              refine (HCS.out _).mono ?_
              rintro e w' ⟨rfl, rfl⟩
              go_wp2_with fail
              refine (tOv (by have := HTL.out; omega) HOV.out.1 _).mono ?_
              rintro e w7 ⟨rfl, hb7⟩
              have B7 := Lib.hid (hbel.trans (hb7.mono hbel.size))
              clear hb7 i1 i2 i3 i4
              go_wp2_with fail
              refine (flip_any t (by have := HTL.out; omega) _).mono ?_
              rintro e w8 ⟨rfl, hb8⟩
              have B8 := Lib.hid (B7.out.trans (hb8.mono B7.out.size))
              clear hb8
              go_wp2_with fail
              refine (tOv HREV.out HOV.out.2 _).mono ?_
              rintro e w9 ⟨rfl, hb9⟩
              have B9 := Lib.hid (B8.out.trans (hb9.mono B8.out.size))
              clear hb9
              by_cases hb22 : c1 = 2
              · have j1 : ((c1 : Int) != 2) = false := by simp; omega
                have j2 : (c1 != 2) = false := by simp; omega
                clear hb22
                go_wp2_with fail
                refine (tOv (by have := HTL.out; omega) HOV.out.1 _).mono ?_
                rintro e w10 ⟨rfl, hb10⟩
                have B10 := Lib.hid (B9.out.trans (hb10.mono B9.out.size))
                clear hb10
                go_wp2_with fail
                go_ret
                exact ⟨rfl, B10.out⟩
              · have j1 : ((c1 : Int) != 2) = true := by simp; omega
                have j2 : (c1 != 2) = true := by simp; omega
                clear hb22
                go_wp2_with fail
                go_ret
                exact ⟨rfl, B9.out⟩
end Go.Proofs.Ytkgokjekifmlfaa
