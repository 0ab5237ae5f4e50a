/-
  Contracts of FillWith (program and reference). Condition: internal/bytealg's variable MaxLen holds some number.
-/
import Derived.Test.YtfjehlmknbhghaaDoorHEx
namespace Go.Proofs.YtfjehlmknbhghaaDoor
open Go.RowKit

theorem fillWith_no {p w : List UInt8} {n : Int} (h : (patOk p && (isW w && (wi n 0 400 && decide (hol p n.toNat ≤ w.length)))) = false) : ([], false) = fillWith p w n := by unfold fillWith; rw [h]; rfl
theorem withC_hole {p w : List UInt8} {i : Nat} (h : sg p i = 63) (hl : hol p i < w.length) : withC p w i = w[hol p i] := by
  unfold withC
  rw [h]
  simp [List.getD, List.getElem?_eq_getElem hl]
theorem withC_letter {p w : List UInt8} {i : Nat} (h : sg p i ≠ 63) : withC p w i = sg p i := by unfold withC; simp [h]

set_option maxHeartbeats 1600000 in
theorem iFillWith_any (p w : List UInt8) (n : Int) (hp : p.length ≤ 1048576) (hwl : w.length ≤ 1048576) (W : World) (hm : MaxAt W) :
    Calls Tryd.prog 24 #[.string ⟨p.toArray⟩, .string ⟨w.toArray⟩, .int .i64 n] W fun e w' => e = .returned (.tuple #[.string ⟨(fillWith p w n).1.toArray⟩, .bool (fillWith p w n).2]) ∧ Below W.heap.size W w' := by
  have hc := iPatternOk_any p hp W hm
  have HW := Lib.hid (fun w' => isWord_any w (by omega) w')
  cases h : patOk p
  case false =>
    have HE := Lib.hid (fillWith_no (p := p) (w := w) (n := n) (by rw [h]; rfl))
    rw [h] at hc
    have HC := Lib.hid hc
    clear hc h
    go_enter Tryd.func24, Tryd.ntmps24
    go_wp2_with (go_at_call 12; refine HC.out.mono ?_; rintro e w1 ⟨rfl, hb⟩)
    go_ret2
    exact ⟨ret_sbH HE.out, hb⟩
  case true =>
  rw [h] at hc
  have HC := Lib.hid hc
  clear hc
  cases h1 : isW w
  case false =>
    have HE := Lib.hid (fillWith_no (p := p) (w := w) (n := n) (by rw [h, h1]; rfl))
    have hw := fun w' => HW.out w'
    rw [h1] at hw
    have HW2 := Lib.hid hw
    clear hw h
    go_enter Tryd.func24, Tryd.ntmps24
    go_wp2_with (first | (go_at_call 12; refine HC.out.mono ?_; rintro e w1 ⟨rfl, hb⟩) | (go_at_call 31; refine (HW2.out _).mono ?_; rintro e w' ⟨rfl, rfl⟩))
    go_ret2
    exact ⟨ret_sbH HE.out, hb⟩
  case true =>
  have hw := fun w' => HW.out w'
  rw [h1] at hw
  have HW2 := Lib.hid hw
  clear hw
  cases h2 : wi n 0 400
  case false =>
    have HE := Lib.hid (fillWith_no (p := p) (w := w) (n := n) (by rw [h, h1, h2]; rfl))
    clear h
    go_enter Tryd.func24, Tryd.ntmps24
    go_wp2_with (first | (go_at_call 12; refine HC.out.mono ?_; rintro e w1 ⟨rfl, hb⟩) | (go_at_call 31; refine (HW2.out _).mono ?_; rintro e w' ⟨rfl, rfl⟩) | (go_at_call 29; refine (within_any _ _ _ _).mono ?_; rintro e w' ⟨rfl, rfl⟩))
    go_ret2
    exact ⟨ret_sbH HE.out, hb⟩
  case true =>
  have hn := wi_yes h2
  obtain ⟨n, rfl⟩ := Int.eq_ofNat_of_zero_le (show 0 ≤ n by omega)
  have hl := patOk_len h
  obtain ⟨hl2, hl16⟩ := hl
  have HP := Lib.hid h
  obtain ⟨H, hH⟩ : ∃ H, H = hol p n := ⟨_, rfl⟩
  have hk := holesAhead_any p n hl2 hl16 (by omega)
  rw [← hH] at hk
  have HK := Lib.hid hk
  by_cases h3 : H ≤ w.length
  case neg =>
    have HE := Lib.hid (fillWith_no (p := p) (w := w) (n := (n : Int)) (by rw [h, h1, h2, show (n : Int).toNat = n from rfl, ← hH, decide_eq_false h3]; rfl))
    have h4 : w.length < H := by omega
    clear h hH hk h3
    go_enter Tryd.func24, Tryd.ntmps24
    go_wp2_with (first | (go_at_call 12; refine HC.out.mono ?_; rintro e w1 ⟨rfl, hb⟩) | (go_at_call 31; refine (HW2.out _).mono ?_; rintro e w' ⟨rfl, rfl⟩) | (go_at_call 29; refine (within_any _ _ _ _).mono ?_; rintro e w' ⟨rfl, rfl⟩) | (go_at_call 38; refine (HK.out _).mono ?_; rintro e w2 ⟨rfl, hb2⟩))
    go_ret2
    exact ⟨ret_sbH HE.out, hb.trans (hb2.mono hb.size)⟩
  case pos =>
  have HE := Lib.hid (show (withL p w n, true) = fillWith p w n by unfold fillWith; rw [h, h1, h2, show (n : Int).toNat = n from rfl, ← hH, decide_eq_true h3]; rfl)
  have HH := Lib.hid hH
  have hd1 : decide ((w.length : Int) < (H : Int)) = false := decide_eq_false (by omega)
  have hd2 : decide (w.length < H) = false := decide_eq_false (by omega)
  clear h hH hk
  go_enter Tryd.func24, Tryd.ntmps24
  go_wp2_with (first | (go_at_call 12; refine HC.out.mono ?_; rintro e w1 ⟨rfl, hb⟩) | (go_at_call 31; refine (HW2.out _).mono ?_; rintro e w' ⟨rfl, rfl⟩) | (go_at_call 29; refine (within_any _ _ _ _).mono ?_; rintro e w' ⟨rfl, rfl⟩) | (go_at_call 38; refine (HK.out _).mono ?_; rintro e w2 ⟨rfl, hb2⟩))
  go_loopw [34, 8] (fun i row wr => ∃ (k : Nat) (R : Option Addr) (d : Nat), k ≤ n ∧ i = .int .i64 k ∧ row = .slice R k d ∧ Own w2 wr 5 R k d (bvs (withL p w k))) (fun i _ _ => n - (intOf i).toNat)
  case atStart => exact ⟨0, _, _, Nat.zero_le _, rfl, rfl, Own.made0 (Below.refl _ _) _⟩
  case round =>
    obtain ⟨k, R, d, hk, rfl, rfl, hrow⟩ := hrel
    have HR := Lib.hid hrow
    clear hrow
    by_cases hlt2 : k < n
    · have HS := Lib.hid (withL_snoc p w k)
      obtain ⟨M, hM⟩ : ∃ M, M = k % p.length := ⟨_, rfl⟩
      have hMl : M < p.length := by rw [hM]; exact Nat.mod_lt _ (by omega)
      have e2 : (k : Int) % (p.length : Int) = (M : Int) := by rw [hM]; simp
      have hsg : sg p k = p[M] := by rw [sg_at (by omega)]; simp only [hM]
      clear hM
      by_cases h63 : sg p k = 63
      · have g1 : ((p[M].toNat : Int) == 63) = true := by rw [← hsg, h63]; rfl
        obtain ⟨G, hG⟩ : ∃ G, G = hol p k := ⟨_, rfl⟩
        have hGl : G < w.length := by have := hol_mono (p := p) (by omega) hlt2 h63; have := HH.out; omega
        have HS2 := Lib.hid (show withL p w (k + 1) = withL p w k ++ [w[G]] by rw [HS.out, withC_hole h63 (by omega)]; simp only [hG])
        have hkc := holesAhead_any p k hl2 hl16 (by omega)
        rw [← hG] at hkc
        have HKC := Lib.hid hkc
        clear hsg h63 hG hkc
        go_wp2_with fail
        refine (HKC.out _).mono ?_
        rintro e w3 ⟨rfl, hb3⟩
        have HR2 := Lib.hid (HR.out.later hb3)
        clear hb3
        go_wp2_with (at_builtin; refine app_one (.tmp 50) (.tmp 52) _ _ _ 1 rfl rfl Tryd.underlying32 infoB rfl rfl HR2.out rfl rfl (by omega) (by omega) ?_; intro R' d' w4 hrow1)
        exact ⟨⟨k + 1, R', d', by omega, by go_num, rfl, by rw [HS2.out, bvs_snoc]; exact hrow1⟩, by simp [intOf]; omega⟩
      · have g1 : ((p[M].toNat : Int) == 63) = false := by
          rw [← hsg]; simp; intro e; exact h63 (UInt8.toNat_inj.1 (by show _ = 63; omega))
        have HS2 := Lib.hid (show withL p w (k + 1) = withL p w k ++ [p[M]] by rw [HS.out, withC_letter h63, hsg])
        clear hsg h63
        go_wp2_with (at_builtin; refine app_one (.tmp 50) (.tmp 52) _ _ _ 1 rfl rfl Tryd.underlying32 infoB rfl rfl HR.out rfl rfl (by omega) (by omega) ?_; intro R' d' w4 hrow1)
        exact ⟨⟨k + 1, R', d', by omega, by go_num, rfl, by rw [HS2.out, bvs_snoc]; exact hrow1⟩, by simp [intOf]; omega⟩
    · obtain rfl : k = n := by omega
      have hconv := conv_bytes (P := Tryd.prog) (c := d) 32 9 5 Tryd.underlying32 Tryd.underlying5 Tryd.underlying9 HR.out.rd
      go_wp2
      go_ret2
      exact ⟨ret_sbH HE.out, (hb.trans (hb2.mono hb.size)).trans (HR.out.2.mono (Nat.le_trans hb.size hb2.size))⟩
set_option maxHeartbeats 1600000 in
theorem sFillWith_any (p w : List UInt8) (n : Int) (hp : p.length ≤ 1048576) (hwl : w.length ≤ 1048576) (W : World) :
    Calls Tryd.prog 23 #[.string ⟨p.toArray⟩, .string ⟨w.toArray⟩, .int .i64 n] W fun e w' => e = .returned (.tuple #[.string ⟨(fillWith p w n).1.toArray⟩, .bool (fillWith p w n).2]) ∧ Below W.heap.size W w' := by
  have hc := sPatternOk_any p hp W
  have HW := Lib.hid (fun w' => WordOk_any w (by omega) w')
  cases h : patOk p
  case false =>
    have HE := Lib.hid (fillWith_no (p := p) (w := w) (n := n) (by rw [h]; rfl))
    rw [h] at hc
    have HC := Lib.hid hc
    clear hc h
    go_enter Tryd.func23, Tryd.ntmps23
    go_wp2_with (go_at_call 11; refine HC.out.mono ?_; rintro e w' ⟨rfl, rfl⟩)
    go_ret2
    exact ⟨ret_sbH HE.out, Below.refl _ _⟩
  case true =>
  rw [h] at hc
  have HC := Lib.hid hc
  clear hc
  cases h1 : isW w
  case false =>
    have HE := Lib.hid (fillWith_no (p := p) (w := w) (n := n) (by rw [h, h1]; rfl))
    have hw := fun w' => HW.out w'
    rw [h1] at hw
    have HW2 := Lib.hid hw
    clear hw h
    go_enter Tryd.func23, Tryd.ntmps23
    go_wp2_with (first | (go_at_call 11; refine HC.out.mono ?_; rintro e w' ⟨rfl, rfl⟩) | (go_at_call 37; refine (HW2.out _).mono ?_; rintro e w' ⟨rfl, rfl⟩))
    go_ret2
    exact ⟨ret_sbH HE.out, Below.refl _ _⟩
  case true =>
  have hw := fun w' => HW.out w'
  rw [h1] at hw
  have HW2 := Lib.hid hw
  clear hw
  cases h2 : wi n 0 400
  case false =>
    have HE := Lib.hid (fillWith_no (p := p) (w := w) (n := n) (by rw [h, h1, h2]; rfl))
    clear h
    go_enter Tryd.func23, Tryd.ntmps23
    go_wp2_with (first | (go_at_call 11; refine HC.out.mono ?_; rintro e w' ⟨rfl, rfl⟩) | (go_at_call 37; refine (HW2.out _).mono ?_; rintro e w' ⟨rfl, rfl⟩) | (go_at_call 28; refine (l01In_any _ _ _ _).mono ?_; rintro e w' ⟨rfl, rfl⟩))
    go_ret2
    exact ⟨ret_sbH HE.out, Below.refl _ _⟩
  case true =>
  have hn := wi_yes h2
  obtain ⟨n, rfl⟩ := Int.eq_ofNat_of_zero_le (show 0 ≤ n by omega)
  have hl := patOk_len h
  obtain ⟨hl2, hl16⟩ := hl
  have HP := Lib.hid h
  obtain ⟨H, hH⟩ : ∃ H, H = hol p n := ⟨_, rfl⟩
  have hk := l20Holes_any p n hl2 hl16 (by omega)
  rw [← hH] at hk
  have HK := Lib.hid hk
  by_cases h3 : H ≤ w.length
  case neg =>
    have HE := Lib.hid (fillWith_no (p := p) (w := w) (n := (n : Int)) (by rw [h, h1, h2, show (n : Int).toNat = n from rfl, ← hH, decide_eq_false h3]; rfl))
    have h4 : w.length < H := by omega
    clear h hH hk h3
    go_enter Tryd.func23, Tryd.ntmps23
    go_wp2_with (first | (go_at_call 11; refine HC.out.mono ?_; rintro e w' ⟨rfl, rfl⟩) | (go_at_call 37; refine (HW2.out _).mono ?_; rintro e w' ⟨rfl, rfl⟩) | (go_at_call 28; refine (l01In_any _ _ _ _).mono ?_; rintro e w' ⟨rfl, rfl⟩) | (go_at_call 33; refine (HK.out _).mono ?_; rintro e w' ⟨rfl, rfl⟩))
    go_ret2
    exact ⟨ret_sbH HE.out, Below.refl _ _⟩
  case pos =>
  have HE := Lib.hid (show (withL p w n, true) = fillWith p w n by unfold fillWith; rw [h, h1, h2, show (n : Int).toNat = n from rfl, ← hH, decide_eq_true h3]; rfl)
  have HH := Lib.hid hH
  have hd1 : decide ((w.length : Int) < (H : Int)) = false := decide_eq_false (by omega)
  have hd2 : decide (w.length < H) = false := decide_eq_false (by omega)
  clear h hH hk
  go_enter Tryd.func23, Tryd.ntmps23
  go_wp2_with (first | (go_at_call 11; refine HC.out.mono ?_; rintro e w' ⟨rfl, rfl⟩) | (go_at_call 37; refine (HW2.out _).mono ?_; rintro e w' ⟨rfl, rfl⟩) | (go_at_call 28; refine (l01In_any _ _ _ _).mono ?_; rintro e w' ⟨rfl, rfl⟩) | (go_at_call 33; refine (HK.out _).mono ?_; rintro e w' ⟨rfl, rfl⟩))
  go_loopw [10, 9, 8] (fun i j row wr => ∃ (k G : Nat) (R : Option Addr) (d : Nat), k ≤ n ∧ i = .int .i64 k ∧ j = .int .i64 G ∧ row = .slice R k d ∧ G = hol p k ∧ Own W wr 5 R k d (bvs (withL p w k))) (fun i _ _ _ => n - (intOf i).toNat)
  case atStart => exact ⟨0, 0, _, _, Nat.zero_le _, rfl, rfl, rfl, (hol_zero p).symm, Own.made0 (Below.refl _ _) _⟩
  case round =>
    obtain ⟨k, G, R, d, hk, rfl, rfl, rfl, hG, hrow⟩ := hrel
    have HR := Lib.hid hrow
    have hGk : G ≤ k := by rw [hG]; exact hol_le (by omega) k
    clear hrow
    by_cases hlt2 : k < n
    · have HS := Lib.hid (withL_snoc p w k)
      have hsu := hol_succ (p := p) (by omega) k
      obtain ⟨M, hM⟩ : ∃ M, M = k % p.length := ⟨_, rfl⟩
      have hMl : M < p.length := by rw [hM]; exact Nat.mod_lt _ (by omega)
      have e2 : (k : Int) % (p.length : Int) = (M : Int) := by rw [hM]; simp
      have hsg : sg p k = p[M] := by rw [sg_at (by omega)]; simp only [hM]
      clear hM
      by_cases h63 : sg p k = 63
      · have g1 : ((p[M].toNat : Int) == 63) = true := by rw [← hsg, h63]; rfl
        have hGl : G < w.length := by have := hol_mono (p := p) (by omega) hlt2 h63; have := HH.out; omega
        have HS2 := Lib.hid (show withL p w (k + 1) = withL p w k ++ [w[G]] by rw [HS.out, withC_hole h63 (by omega)]; simp only [hG])
        have HG2 := Lib.hid (show G + 1 = hol p (k + 1) by rw [hsu, h63, hG]; rfl)
        clear hsg h63 hG hsu
        go_wp2_with (at_builtin; refine app_one (.tmp 52) (.tmp 54) _ _ _ 1 rfl rfl Tryd.underlying32 infoB rfl rfl HR.out rfl rfl (by omega) (by omega) ?_; intro R' d' w4 hrow1)
        exact ⟨⟨k + 1, G + 1, R', d', by omega, by go_num, by go_num, rfl, HG2.out, by rw [HS2.out, bvs_snoc]; exact hrow1⟩, by simp [intOf]; omega⟩
      · have g1 : ((p[M].toNat : Int) == 63) = false := by
          rw [← hsg]; simp; intro e; exact h63 (UInt8.toNat_inj.1 (by show _ = 63; omega))
        have HS2 := Lib.hid (show withL p w (k + 1) = withL p w k ++ [p[M]] by rw [HS.out, withC_letter h63, hsg])
        have HG2 := Lib.hid (show G = hol p (k + 1) by rw [hsu, hG]; simp [h63])
        clear hsg h63 hG hsu
        go_wp2_with (at_builtin; refine app_one (.tmp 52) (.tmp 54) _ _ _ 1 rfl rfl Tryd.underlying32 infoB rfl rfl HR.out rfl rfl (by omega) (by omega) ?_; intro R' d' w4 hrow1)
        exact ⟨⟨k + 1, G, R', d', by omega, by go_num, rfl, rfl, HG2.out, by rw [HS2.out, bvs_snoc]; exact hrow1⟩, by simp [intOf]; omega⟩
    · obtain rfl : k = n := by omega
      have hconv := conv_bytes (P := Tryd.prog) (c := d) 32 9 5 Tryd.underlying32 Tryd.underlying5 Tryd.underlying9 HR.out.rd
      clear hG
      go_wp2
      go_ret2
      exact ⟨ret_sbH HE.out, HR.out.2⟩
end Go.Proofs.YtfjehlmknbhghaaDoor
