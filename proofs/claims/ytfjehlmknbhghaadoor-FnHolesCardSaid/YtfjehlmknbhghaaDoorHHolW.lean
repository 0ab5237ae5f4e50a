/-
  The walk of the law FnHoles. Condition: internal/bytealg's variable MaxLen holds some number.
-/
import Derived.Test.YtfjehlmknbhghaaDoorHHol
import Derived.Deep.RegionHeld3
import Derived.Deep.DeepCutAuto
namespace Go.Proofs.YtfjehlmknbhghaaDoor
open Go.RowKit

theorem bdH (w : World) : Below w.heap.size w w.drew := (Below.refl _ _).drew
theorem sub1H {t : List UInt8} {i : Nat} {c : UInt8} (h : i < t.length) (hc : t[i] = c) : List.drop i (List.take (i + 1) t) = [c] := by
  rw [take_snoc t i h, List.drop_append_of_le_length (by rw [List.length_take]; omega), List.drop_of_length_le (by rw [List.length_take]; omega), hc]
  rfl
theorem u8ne {x y : UInt8} (h : x.toNat ≠ y.toNat) : ((x.toNat : Int) == (y.toNat : Int)) = false := by simp; omega
theorem u8eq {x y : UInt8} (h : x.toNat = y.toNat) : ((x.toNat : Int) != (y.toNat : Int)) = false := by simp [h]
theorem getD_atH {l : List UInt8} {x : Nat} (h : x < l.length) : l.getD x 0 = l[x] := by simp [List.getD, List.getElem?_eq_getElem h]

set_option maxRecDepth 100000 in
set_option maxHeartbeats 4000000 in
theorem walk_FnHoles (A : Option Addr) (n c : Nat) (l : List UInt8) (w : World) (h : BytesArg w A n c l) (hm : MaxAt w) : Calls Tryd.prog 10 #[.slice A n c] w fun e w' => e = .returned (.bool true) ∧ Below w.heap.size w w' := by
  obtain ⟨hrd, hnc, hcm⟩ := h
  by_cases hbig : n ≤ 1048576
  case neg =>
    go_enter Tryd.func10, Tryd.ntmps10
    go_wp2_with fail
    go_ret
    exact ⟨rfl, Below.refl _ _⟩
  have HR := Lib.hid hrd
  have HM := Lib.hid hm
  clear hrd hm
  go_enter Tryd.func10, Tryd.ntmps10
  go_wp2_with fail
  refine (MakePattern_any A n c l 0 w HR.out hbig (by omega)).mono ?_
  rintro e w1 ⟨p, rfl, hp, hb1⟩
  have HP := Lib.hid hp
  have B1 := Lib.hid hb1
  have hpl := patOk_len hp
  obtain ⟨hp2, hp16⟩ := hpl
  clear hp hb1
  go_wp2_with fail
  refine (MakeSize_any A n c l 20 0 60 _ (HR.out.later B1.out) hbig (by omega) (by omega) (by omega)).mono ?_
  rintro e w2 ⟨m, rfl, hm0, hm60, hb2⟩
  have B2 := Lib.hid (B1.out.trans (hb2.mono B1.out.size))
  clear hb2 B1
  obtain ⟨t, ht⟩ : ∃ t, t = fillL p m := ⟨_, rfl⟩
  have HT := Lib.hid ht
  have HTL := Lib.hid (show t.length = m by rw [ht, fillL_len])
  obtain ⟨hc0, hhc⟩ : ∃ hc0, cnt p = hc0 := ⟨_, rfl⟩
  have hlt := cnt_lt HP.out
  rw [hhc] at hlt
  have HHC := Lib.hid hhc
  clear ht hhc
  go_wp2_with fail
  refine (tFillP HP.out (by omega) HT.out _ (HM.out.later B2.out)).mono ?_
  rintro e w3 ⟨rfl, hb3⟩
  have B3 := Lib.hid (B2.out.trans (hb3.mono B2.out.size))
  clear hb3 B2
  go_wp2_with fail
  refine (tHoles HP.out HHC.out _ (HM.out.later B3.out)).mono ?_
  rintro e w4 ⟨rfl, hb4⟩
  have B4 := Lib.hid (B3.out.trans (hb4.mono B3.out.size))
  clear hb4 B3
  have f1 : ((t.length : Int) != (m : Int)) = false := by have := HTL.out; simp [this]
  have f2 : (t.length != m) = false := by have := HTL.out; simp [this]
  have f3 : ¬ (p.length : Int) ≤ (hc0 : Int) := by omega
  have f4 : ¬ p.length ≤ hc0 := by omega
  go_wp2_with fail
  refine (tPatOk HP.out _ (HM.out.later B4.out)).mono ?_
  rintro e w5 ⟨rfl, hb5⟩
  have B5 := Lib.hid (B4.out.trans (hb5.mono B4.out.size))
  clear hb5 B4
  go_wp2_with fail
  clear f1 f2 f3 f4 hlt HHC
  go_loopw [9, 8] (fun i k wr => ∃ x y : Nat, x ≤ m ∧ y ≤ x ∧ i = .int .i64 x ∧ k = .int .i64 y ∧ y = hol p x ∧ Below w.heap.size w wr) (fun i _ _ => m - (intOf i).toNat)
  case atStart => exact ⟨0, 0, Nat.zero_le _, Nat.le_refl _, rfl, rfl, (hol_zero p).symm, B5.out⟩
  case round =>
    clear B5
    obtain ⟨x, y, hx, hyx, rfl, rfl, hy, hbel⟩ := hrel
    have HY := Lib.hid hy
    clear hy
    by_cases hxm : x < m
    · have hxt : x < t.length := by rw [HTL.out]; exact hxm
      obtain ⟨ch, hch⟩ : ∃ ch, ch = (fil p x).1 := ⟨_, rfl⟩
      obtain ⟨d, hd⟩ : ∃ d, d = (fil p x).2 := ⟨_, rfl⟩
      have hd60 : d ≤ 60 := by rw [hd]; have := (fil_let HP.out x).2; omega
      have htx : t[x] = ch := by
        have h1 := fillL_get (p := p) (n := m) (i := x) hxm
        rw [← HT.out, List.getElem?_eq_getElem hxt] at h1
        injection h1 with h1
        rw [h1, hch]
      have hsl := sub1H hxt htx
      have HTX := Lib.hid htx
      have HCH := Lib.hid hch
      have HD := Lib.hid hd
      have hdx : decide ((x : Int) < (m : Int)) = true := by simp; omega
      clear hch hd htx
      go_wp2_with fail
      refine (tLetter HP.out (by omega) HCH.out _ (HM.out.later hbel)).mono ?_
      rintro e w6 ⟨rfl, hb6⟩
      have B6 := Lib.hid (hbel.trans (hb6.mono hbel.size))
      clear hb6 hbel
      go_wp2_with fail
      refine (tDepth HP.out (by omega) HD.out _ (HM.out.later B6.out)).mono ?_
      rintro e w7 ⟨rfl, hb7⟩
      have B7 := Lib.hid (B6.out.trans (hb7.mono B6.out.size))
      clear hb7 B6
      have hx1 : x + 1 ≤ t.length := by omega
      obtain ⟨M, hM⟩ : ∃ M, M = x % p.length := ⟨_, rfl⟩
      have hMl : M < p.length := by rw [hM]; exact Nat.mod_lt _ (by omega)
      have e2 : (x : Int) % (p.length : Int) = (M : Int) := by rw [hM]; simp
      have e3 : (x : Int).tmod (p.length : Int) = (M : Int) := by rw [Int.tmod_eq_emod_of_nonneg (by omega), e2]
      have hsg : sg p x = p[M] := by rw [sg_at (by omega)]; simp only [hM]
      have HSU := Lib.hid (hol_succ (p := p) (by omega) x)
      have HE3 := Lib.hid e3
      clear hM e3
      by_cases h63 : sg p x = 63
      · have g1 : ((p[M].toNat : Int) != 63) = false := by rw [← hsg, h63]; rfl
        have hdn := hol_down HP.out h63
        have hyx2 : y < x := by rw [HY.out]; exact hdn
        have hyt : y < t.length := by omega
        have HFH := Lib.hid (fil_hole HP.out h63)
        have hty : t[y] = (fil p y).1 := by
          have h1 := fillL_get (p := p) (n := m) (i := y) (by omega)
          rw [← HT.out, List.getElem?_eq_getElem hyt] at h1
          injection h1
        have g2 : ((t[x].toNat : Int) != (t[y].toNat : Int)) = false := by
          refine u8eq ?_
          rw [HTX.out, hty, HCH.out, HFH.out, HY.out]
        obtain ⟨dk, hdk⟩ : ∃ dk, dk = (fil p y).2 := ⟨_, rfl⟩
        have hdd : d = dk + 1 := by rw [HD.out, HFH.out, hdk, HY.out]
        have HDK := Lib.hid hdk
        have g3 : ((d : Int) != (dk : Int) + 1) = false := by simp; omega
        have HN := Lib.hid (show y + 1 = hol p (x + 1) by rw [HSU.out, h63, HY.out]; rfl)
        have HDX := Lib.hid (fun w' (h : MaxAt w') => tDepth HP.out (i := y) (by omega) HDK.out w' h)
        have hdk60 : dk ≤ 60 := by omega
        clear hdk hdd hty hsg h63 hdn
        go_wp2_with fail
        have e7 : IntKind.i64.wrap ((dk : Int) + 1) = (dk : Int) + 1 := IntWalk.i64_in _ (by omega)
        have e8 : (x : Int) < (t.length : Int) := by omega
        have e9 : (y : Int) < (t.length : Int) := by omega
        have HMX := Lib.hid (HM.out.later B7.out).drew
        go_region_held3 (fun _ => True) (trivial) ((go_at_call 16; (with_reducible refine (HDX.out _ HMX.out).mono ?_); rintro e w8 ⟨rfl, hb8⟩))
        all_goals
          have B8 := Lib.hid ((B7.out.trans ((bdH _).mono B7.out.size)).trans (hb8.mono B7.out.size))
          clear hb8 e7
          go_wp2_with fail
          exact ⟨⟨x + 1, y + 1, by omega, by omega, by go_num, by go_num, HN.out, B8.out⟩, by simp [intOf]; omega⟩
      · have g1 : ((p[M].toNat : Int) != 63) = true := by
          rw [← hsg]; simp; intro e; exact h63 (UInt8.toNat_inj.1 (by show _ = 63; omega))
        have HFL := Lib.hid (fil_letter h63)
        have g2 : ((t[x].toNat : Int) != (p[M].toNat : Int)) = false := u8eq (by rw [HTX.out, HCH.out, HFL.out, hsg])
        have hd0 : d = 0 := by rw [HD.out, HFL.out]
        have g3 : ((d : Int) != 0) = false := by simp [hd0]
        have g4 : (d != 0) = false := by simp [hd0]
        have HN := Lib.hid (show y = hol p (x + 1) by rw [HSU.out, HY.out]; simp [h63])
        clear hd0 hsg h63
        go_wp2_with fail
        have e3 := HE3.out
        have e4 : IntKind.i64.wrap (M : Int) = (M : Int) := IntWalk.i64_in _ (by omega)
        have e8 : (x : Int) < (t.length : Int) := by omega
        have e9 : (M : Int) < (p.length : Int) := by omega
        have e10 : ((p.length : Int) == 0) = false := beq_eq_false_iff_ne.2 (by omega)
        go_quiet (fail)
        clear e3 e4
        go_wp2_with fail
        exact ⟨⟨x + 1, y, by omega, by omega, by go_num, rfl, HN.out, below_drewN B7.out nq⟩, by simp [intOf]; omega⟩
    · have hxm2 : ¬ x < m := hxm
      have ht400 : t.length ≤ 400 := by rw [HTL.out]; omega
      go_wp2_with fail
      refine (tWith HP.out (by omega) HT.out _ (HM.out.later hbel)).mono ?_
      rintro e w6 ⟨rfl, hb6⟩
      have B6 := Lib.hid (hbel.trans (hb6.mono hbel.size))
      clear hb6 hbel
      obtain ⟨q, hq⟩ : ∃ q, q = perPart t (p.length : Int) := ⟨_, rfl⟩
      have hcp := iPer_any t (by omega) (p.length : Int)
      rw [← hq] at hcp
      have HCP := Lib.hid hcp
      have HQ := Lib.hid hq
      obtain ⟨f, hf1, hf2, hf3, hf4⟩ := fold_facts
      have HCF := Lib.hid (show ∀ w', MaxAt w' → Calls Tryd.prog 22 #[.int .i64 63] w' fun e w'' => e = .returned (.tuple #[.string ⟨f.toArray⟩, .bool true]) ∧ Below w'.heap.size w' w'' from fun w' h => by
        have h2 := iFold_any 63 w' h
        rw [hf1] at h2
        exact h2)
      have HF2 := Lib.hid hf2
      have HF3 := Lib.hid hf3
      have HF4 := Lib.hid hf4
      clear hcp hq hf1 hf2 hf3 hf4
      go_wp2_with fail
      refine (HCP.out _).mono ?_
      rintro e w7 ⟨rfl, hb7⟩
      have B7 := Lib.hid (B6.out.trans (hb7.mono B6.out.size))
      clear hb7 B6
      go_upto_if 146 with (fail)
      go_cut [] (fun wc => Below w.heap.size w wc)
      case first =>
        by_cases hL : p.length ≤ m
        · obtain ⟨hql, hqe⟩ := per_fill HP.out (n := m) (by omega) hL
          rw [← HT.out, ← HQ.out] at hql hqe
          have HQL := Lib.hid hql
          have HQE := Lib.hid hqe
          have f1 : ((q.length : Int) != (p.length : Int)) = false := by simp [hql]
          have f2 : (q.length != p.length) = false := by simp [hql]
          clear hql hqe
          go_wp2_with fail
          go_loopw [16] (fun i wr => ∃ x : Nat, x ≤ p.length ∧ i = .int .i64 x ∧ Below w.heap.size w wr) (fun i _ => p.length - (intOf i).toNat)
          case atStart => exact ⟨0, Nat.zero_le _, rfl, B7.out⟩
          case round =>
            clear B7
            obtain ⟨x, hx, rfl, hbel⟩ := hrel
            by_cases hxl : x < p.length
            · have hxq : x < q.length := by rw [HQL.out]; exact hxl
              have e5 : (x : Int) < (p.length : Int) := by omega
              have e6 : (x : Int) < (q.length : Int) := by omega
              by_cases h63 : p[x] = 63
              · have g1 : ((p[x].toNat : Int) != 63) = false := by rw [h63]; rfl
                clear h63
                go_wp2_with fail
                go_quiet (fail)
                go_wp2_with fail
                exact ⟨⟨x + 1, by omega, by go_num, below_drewN hbel nq⟩, by simp [intOf]; omega⟩
              · have g1 : ((p[x].toNat : Int) != 63) = true := by
                  simp; intro e; exact h63 (UInt8.toNat_inj.1 (by show _ = 63; omega))
                have g2 : ((q[x].toNat : Int) != (p[x].toNat : Int)) = false := u8eq (by
                  have h1 := HQE.out x hxl (by rw [getD_atH hxl]; exact h63)
                  rw [getD_atH hxl, getD_atH hxq] at h1
                  rw [h1])
                clear h63
                go_wp2_with fail
                go_quiet (fail)
                go_wp2_with fail
                exact ⟨⟨x + 1, by omega, by go_num, below_drewN hbel nq⟩, by simp [intOf]; omega⟩
            · go_wp2_with fail
              go_meet
              exact hbel
        · have hq0 := per_none (p := p) hL
          rw [← HT.out, ← HQ.out] at hq0
          subst hq0
          go_wp2_with fail
          go_meet
          exact B7.out
      case rest =>
        have B8 := Lib.hid hcut
        clear hcut B7 HQ HCP
        go_wp2_with fail
        refine (HCF.out _ (HM.out.later B8.out)).mono ?_
        rintro e w8 ⟨rfl, hb8⟩
        have B9 := Lib.hid (B8.out.trans (hb8.mono B8.out.size))
        clear hb8 B8
        have f1 : ((f.length : Int) != 63) = false := by have := HF2.out; simp [this]
        have f2 : (f.length != 63) = false := by have := HF2.out; simp [this]
        go_wp2_with fail
        go_loopw [19] (fun i wr => ∃ x : Nat, x ≤ 31 ∧ i = .int .i64 x ∧ Below w.heap.size w wr) (fun i _ => 31 - (intOf i).toNat)
        case atStart => exact ⟨0, Nat.zero_le _, rfl, B9.out⟩
        case round =>
          clear B9
          obtain ⟨x, hx, rfl, hbel⟩ := hrel
          have hfl : f.length = 63 := HF2.out
          by_cases hxl : x < 31
          · obtain ⟨h3, h4⟩ := HF3.out x hxl
            have i1 : x < f.length := by omega
            have i2 : 62 - x < f.length := by omega
            have i3 : 2 * x + 1 < f.length := by omega
            rw [getD_atH i1, getD_atH i2] at h3
            rw [getD_atH i3, getD_atH i1] at h4
            have g1 := u8ne h3
            have g2 := u8eq h4
            have i4 : (x : Int) < (f.length : Int) := by omega
            have i5 : (62 : Int) - (x : Int) < (f.length : Int) := by omega
            have i6 : (0 : Int) ≤ (62 : Int) - (x : Int) := by omega
            have i7 : ((62 : Int) - (x : Int)).toNat = 62 - x := by omega
            have i8 : 2 * (x : Int) + 1 < (f.length : Int) := by omega
            have i9 : (0 : Int) ≤ 2 * (x : Int) + 1 := by omega
            have i10 : (2 * (x : Int) + 1).toNat = 2 * x + 1 := by omega
            have i11 : (x : Int) ≤ 62 := by omega
            clear hfl h3 h4
            have j1 : IntKind.i64.wrap ((62 : Int) - (x : Int)) = (62 : Int) - (x : Int) := IntWalk.i64_in _ (by omega)
            have j2 : IntKind.i64.wrap (2 * (x : Int)) = 2 * (x : Int) := IntWalk.i64_in _ (by omega)
            have j3 : IntKind.i64.wrap (2 * (x : Int) + 1) = 2 * (x : Int) + 1 := IntWalk.i64_in _ (by omega)
            have dd : decide ((x : Int) < 31) = true := decide_eq_true (by omega)
            go_wp2_with fail
            go_quiet (fail)
            clear j1 j2 j3
            go_wp2_with fail
            exact ⟨⟨x + 1, by omega, by go_num, below_drewN hbel nq⟩, by simp [intOf]; omega⟩
          · have i1 : 31 < f.length := by omega
            have i2 : (31 : Int) < (f.length : Int) := by omega
            have g1 : ((f[31].toNat : Int) == 97) = true := by
              have h := HF4.out
              rw [getD_atH i1] at h
              simp [h]
            clear hfl
            go_wp2_with fail
            go_ret
            exact ⟨rfl, hbel⟩
end Go.Proofs.YtfjehlmknbhghaaDoor
