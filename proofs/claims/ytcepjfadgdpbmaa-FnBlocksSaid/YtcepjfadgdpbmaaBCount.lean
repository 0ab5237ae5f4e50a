/-
  Contract of the reference's CountParts. No conditions.
-/
import Derived.Test.YtcepjfadgdpbmaaBPart
import Derived.Test.YtcepjfadgdpbmaaJoin
import Derived.Test.YtcepjfadgdpbmaaSet
namespace Go.Proofs.Ytcepjfadgdpbmaa
open Go.RowKit

def keyP (p : List (List UInt8)) (w h y x : Nat) : List UInt8 := Lib.join (part p x y w h) [47]
def insRow (p : List (List UInt8)) (w h y : Nat) : Nat → List (List UInt8) → List (List UInt8)
  | 0, s => s
  | x + 1, s => insS (keyP p w h y x) (insRow p w h y x s)
def insAll (p : List (List UInt8)) (w h : Nat) : Nat → List (List UInt8)
  | 0 => []
  | y + 1 => insRow p w h y (wd p + 1 - w) (insAll p w h y)
theorem srt_row {p : List (List UInt8)} {w h y : Nat} {s : List (List UInt8)} (hs : Srt s) : ∀ x, Srt (insRow p w h y x s)
  | 0 => hs
  | x + 1 => srt_insS _ (srt_row hs x)
theorem srt_all {p : List (List UInt8)} {w h : Nat} : ∀ y, Srt (insAll p w h y)
  | 0 => List.Pairwise.nil
  | y + 1 => srt_row (srt_all y) _
theorem len_le {x : List UInt8} {l : List (List UInt8)} (h : Srt l) : (insS x l).length ≤ l.length + 1 := by rw [len_insS x h]; split <;> omega
theorem len_row {p : List (List UInt8)} {w h y : Nat} {s : List (List UInt8)} (hs : Srt s) : ∀ x, (insRow p w h y x s).length ≤ s.length + x
  | 0 => by simp [insRow]
  | x + 1 => by have h1 := len_row (p := p) (w := w) (h := h) (y := y) hs x; have h2 := len_le (x := keyP p w h y x) (srt_row (p := p) (w := w) (h := h) (y := y) hs x); show (insS _ _).length ≤ _; omega
theorem len_all {p : List (List UInt8)} {w h : Nat} (hw : wd p ≤ 32) (h1 : 1 ≤ w) : ∀ y, (insAll p w h y).length ≤ 32 * y
  | 0 => by simp [insAll]
  | y + 1 => by
    have h1 := len_all (p := p) (w := w) (h := h) hw h1 y
    have h2 := len_row (p := p) (w := w) (h := h) (y := y) (srt_all (p := p) (w := w) (h := h) y) (wd p + 1 - w)
    show (insRow _ _ _ _ _ _).length ≤ _
    omega
def countParts (p : List (List UInt8)) (w h : Int) : Int :=
  if pOk p && (wi w 1 32 && wi h 1 32) then ((insAll p w.toNat h.toNat (p.length + 1 - h.toNat)).length : Int) else -1
theorem part_lens {p : List (List UInt8)} (h : pOk p = true) (x y w hh : Nat) : ∀ s ∈ part p x y w hh, s.length ≤ 32 := by
  intro s hs
  obtain ⟨r, hr, rfl⟩ := List.mem_map.1 hs
  have := pOk_row h (List.mem_of_mem_drop (List.mem_of_mem_take hr))
  simp; omega

set_option maxHeartbeats 1600000 in
theorem cCountPartsS (A : Option Addr) (n c : Nat) (p : List (List UInt8)) (w h : Int) (W : World) (hp : SIn W A n c p) :
    Calls Try.prog 40 #[.slice A n c, .int .i64 w, .int .i64 h] W fun e w' => e = .returned (.int .i64 (countParts p w h)) ∧ Below W.heap.size W w' := by
  have hcp := sPatchOk_any A n c _ p W hp.1 hp.2.1 hp.longs
  have hlen := Lib.hid hp.1.lenS
  cases hok : pOk p
  case false =>
    have HE := Lib.hid (show -1 = countParts p w h by simp [countParts, hok])
    rw [hok] at hcp
    have HC := Lib.hid hcp
    clear hcp
    go_enter Try.func40, Try.ntmps40
    go_wp2_with (go_at_call 16; refine HC.out.mono ?_; rintro e w' ⟨rfl, rfl⟩)
    go_ret
    exact ⟨ret_int HE.out, Below.same⟩
  rw [hok] at hcp
  have HCP := Lib.hid hcp
  clear hcp
  cases hw : wi w 1 32
  case false =>
    have HE := Lib.hid (show -1 = countParts p w h by simp [countParts, hw])
    go_enter Try.func40, Try.ntmps40
    go_wp2_with (first | (go_at_call 16; refine HCP.out.mono ?_; rintro e w' ⟨rfl, rfl⟩) | (go_at_call 47; refine (l01In_any _ _ _ _).mono ?_; rintro e w' ⟨rfl, rfl⟩))
    go_ret
    exact ⟨ret_int HE.out, Below.same⟩
  cases hh : wi h 1 32
  case false =>
    have HE := Lib.hid (show -1 = countParts p w h by simp [countParts, hh])
    go_enter Try.func40, Try.ntmps40
    go_wp2_with (first | (go_at_call 16; refine HCP.out.mono ?_; rintro e w' ⟨rfl, rfl⟩) | (go_at_call 47; refine (l01In_any _ _ _ _).mono ?_; rintro e w' ⟨rfl, rfl⟩))
    go_ret
    exact ⟨ret_int HE.out, Below.same⟩
  have hw2 := wi_yes hw
  have hh2 := wi_yes hh
  obtain ⟨u, rfl⟩ := Int.eq_ofNat_of_zero_le (show 0 ≤ w by omega)
  obtain ⟨v, rfl⟩ := Int.eq_ofNat_of_zero_le (show 0 ≤ h by omega)
  have hu : 1 ≤ u ∧ u ≤ 32 := by omega
  have hv : 1 ≤ v ∧ v ≤ 32 := by omega
  have HE := Lib.hid (show ((insAll p u v (n + 1 - v)).length : Int) = countParts p u v by
    simp only [countParts, hok, hw, hh, hlen.out]; rfl)
  have hpl := pOk_len hok
  have hwd := pOk_wd hok
  have hn32 : n ≤ 32 := by have := hlen.out; omega
  have hn0 : 0 < n := by have := hlen.out; omega
  obtain ⟨a, rfl, hab, hc0⟩ := hp.1.str (k := 0) (by omega)
  obtain ⟨r0, hr0⟩ : ∃ r0, r0 = p[0] := ⟨_, rfl⟩
  have HW0 := Lib.hid (show wd p = r0.length by rw [hr0]; exact wd_zero (p := p) (by omega))
  have HP := Lib.hid hp
  have HOK := Lib.hid hok
  rw [HW0.out] at hwd
  have hc00 : W.cell? a = some (.string ⟨r0.toArray⟩) := by rw [hr0]; exact hc0
  clear hr0
  clear hp hok hw2 hh2 hc0
  go_enter Try.func40, Try.ntmps40
  go_wp2_with (first | (go_at_call 16; refine HCP.out.mono ?_; rintro e w' ⟨rfl, rfl⟩) | (go_at_call 47; refine (l01In_any _ _ _ _).mono ?_; rintro e w' ⟨rfl, rfl⟩))
  clear HCP hw hh
  have hcap := HP.out.2.2.2
  go_loopw [8, 7] (fun i out wr => ∃ (y : Nat) (A' : Option Addr) (m c' : Nat), y ≤ n + 1 - v ∧ i = .int .i64 y ∧ out = .slice A' m c' ∧ Own W wr 9 A' m c' (svs (insAll p u v y))) (fun i _ _ => n + 1 - v - (intOf i).toNat)
  case atStart => exact ⟨0, _, _, _, Nat.zero_le _, rfl, rfl, Own.made0 (Below.refl _ _) _⟩
  case round =>
    obtain ⟨y, A', m, c', hy, rfl, rfl, hown⟩ := hrel
    have HO := Lib.hid hown
    have hlm : m ≤ 32 * y := by have h1 := len_all (p := p) (w := u) (h := v) (by rw [HW0.out]; omega) hu.1 y; have h2 := hown.len; simp only [svs, List.length_map] at h2; omega
    clear hown
    by_cases hlt : y + v ≤ n
    · have hd : decide ((y : Int) + (v : Int) ≤ (n : Int)) = true := by simp; omega
      go_wp2
      go_loopw [9, 7] (fun i out wr => ∃ (x : Nat) (A' : Option Addr) (m c' : Nat), x ≤ r0.length + 1 - u ∧ i = .int .i64 x ∧ out = .slice A' m c' ∧ Own W wr 9 A' m c' (svs (insRow p u v y x (insAll p u v y)))) (fun i _ _ => r0.length + 1 - u - (intOf i).toNat)
      case atStart => exact ⟨0, _, _, _, Nat.zero_le _, rfl, rfl, HO.out⟩
      case round =>
        obtain ⟨x, A2, m2, c2, hx, rfl, rfl, hown⟩ := hrel
        have HO2 := Lib.hid hown
        have hlm2 : m2 ≤ 32 * y + x := by
          have h1 := len_all (p := p) (w := u) (h := v) (by rw [HW0.out]; omega) hu.1 y
          have h2 := hown.len
          have h3 := len_row (p := p) (w := u) (h := v) (y := y) (srt_all (p := p) (w := u) (h := v) y) x
          simp only [svs, List.length_map] at h2; omega
        have hc00 : wr.cell? a = some (.string ⟨r0.toArray⟩) := (hown.2.cell (p := a) (by assumption)).trans hc00
        clear hown
        by_cases hlt2 : x + u ≤ r0.length
        · go_wp2_with fail
          refine (spart_any _ _ _ _ _ _ _ _ _ (HP.out.later HO2.out.2) (by omega) (by omega) (by omega) (part_row HOK.out (by rw [HW0.out]; omega))).mono ?_
          rintro e w1 ⟨A3, n3, c3, rfl, ho3⟩
          have HN3 := Lib.hid (show n3 = v by have h1 := ho3.len; simp only [svs, List.length_map] at h1; rw [← h1]; exact part_len (by rw [hlen.out]; omega))
          have HO3 := Lib.hid ho3
          clear ho3
          go_wp2_with fail
          refine (sJoin_any _ _ _ _ [47] _ (SIn.of HO3.out.rd (by have := HN3.out; omega) (fun s hs => by have := part_lens HOK.out _ _ _ _ s hs; omega) HO3.out.cap) (by simp)).mono ?_
          rintro e w2 ⟨rfl, rfl⟩
          go_wp2_with fail
          refine (l05Insert_any W _ _ _ _ _ _ (HO2.out.later HO3.out.2) (by omega) HO2.out.capMax (srt_row (srt_all y) x)).mono ?_
          rintro e w3 ⟨A4, n4, c4, rfl, ho4⟩
          have HO4 := Lib.hid ho4
          clear ho4
          go_wp2
          exact ⟨⟨x + 1, A4, _, c4, by omega, by go_num, rfl, HO4.out⟩, by simp [intOf]; omega⟩
        · obtain rfl : x = r0.length + 1 - u := by omega
          have HA := Lib.hid (show insRow p u v y (r0.length + 1 - u) (insAll p u v y) = insAll p u v (y + 1) by show _ = insRow _ _ _ _ _ _; rw [HW0.out])
          go_wp2
          exact ⟨⟨y + 1, A2, _, c2, by omega, by go_num, rfl, HA.out ▸ HO2.out⟩, by simp [intOf]; omega⟩
    · obtain rfl : y = n + 1 - v := by omega
      have HL := Lib.hid (show (m : Int) = countParts p u v by rw [← HE.out]; have h1 := HO.out.len; simp only [svs, List.length_map] at h1; rw [← h1])
      go_wp2
      go_ret
      exact ⟨ret_int HL.out, HO.out.2⟩
theorem key_len {p : List (List UInt8)} (hp : pOk p = true) {x y w h : Nat} : (keyP p w h y x).length ≤ 2048 := by
  have h1 := join_bound (ss := part p x y w h) [47] (m := 32) (part_lens hp x y w h)
  have h2 : (part p x y w h).length ≤ 32 := by have := pOk_len hp; simp [part]; omega
  exact Nat.le_trans h1 (Nat.le_trans (Nat.mul_le_mul (show [47].length + 32 ≤ 33 by simp) h2) (by decide))
set_option maxHeartbeats 1600000 in
theorem cCountPartsI (A : Option Addr) (n c : Nat) (p : List (List UInt8)) (w h : Int) (W : World) (hp : SIn W A n c p) :
    Calls Try.prog 41 #[.slice A n c, .int .i64 w, .int .i64 h] W fun e w' => e = .returned (.int .i64 (countParts p w h)) ∧ Below W.heap.size W w' := by
  have hcp := iPatchOk_any A n c _ p W hp.1 hp.2.1 hp.longs
  have hlen := Lib.hid hp.1.lenS
  cases hok : pOk p
  case false =>
    have HE := Lib.hid (show -1 = countParts p w h by simp [countParts, hok])
    rw [hok] at hcp
    have HC := Lib.hid hcp
    clear hcp
    go_enter Try.func41, Try.ntmps41
    go_wp2_with (go_at_call 18; refine HC.out.mono ?_; rintro e w' ⟨rfl, rfl⟩)
    go_ret
    exact ⟨ret_int HE.out, Below.same⟩
  rw [hok] at hcp
  have HCP := Lib.hid hcp
  clear hcp
  cases hw : wi w 1 32
  case false =>
    have HE := Lib.hid (show -1 = countParts p w h by simp [countParts, hw])
    go_enter Try.func41, Try.ntmps41
    go_wp2_with (first | (go_at_call 18; refine HCP.out.mono ?_; rintro e w' ⟨rfl, rfl⟩) | (go_at_call 50; refine (within_any _ _ _ _).mono ?_; rintro e w' ⟨rfl, rfl⟩))
    go_ret
    exact ⟨ret_int HE.out, Below.same⟩
  cases hh : wi h 1 32
  case false =>
    have HE := Lib.hid (show -1 = countParts p w h by simp [countParts, hh])
    go_enter Try.func41, Try.ntmps41
    go_wp2_with (first | (go_at_call 18; refine HCP.out.mono ?_; rintro e w' ⟨rfl, rfl⟩) | (go_at_call 50; refine (within_any _ _ _ _).mono ?_; rintro e w' ⟨rfl, rfl⟩))
    go_ret
    exact ⟨ret_int HE.out, Below.same⟩
  have hw2 := wi_yes hw
  have hh2 := wi_yes hh
  obtain ⟨u, rfl⟩ := Int.eq_ofNat_of_zero_le (show 0 ≤ w by omega)
  obtain ⟨v, rfl⟩ := Int.eq_ofNat_of_zero_le (show 0 ≤ h by omega)
  have hu : 1 ≤ u ∧ u ≤ 32 := by omega
  have hv : 1 ≤ v ∧ v ≤ 32 := by omega
  have HE := Lib.hid (show ((insAll p u v (n + 1 - v)).length : Int) = countParts p u v by
    simp only [countParts, hok, hw, hh, hlen.out]; rfl)
  have hpl := pOk_len hok
  have hwd := pOk_wd hok
  have hn32 : n ≤ 32 := by have := hlen.out; omega
  have hn0 : 0 < n := by have := hlen.out; omega
  obtain ⟨a, rfl, hab, hc0⟩ := hp.1.str (k := 0) (by omega)
  obtain ⟨r0, hr0⟩ : ∃ r0, r0 = p[0] := ⟨_, rfl⟩
  have HW0 := Lib.hid (show wd p = r0.length by rw [hr0]; exact wd_zero (p := p) (by omega))
  have HP := Lib.hid hp
  have HOK := Lib.hid hok
  rw [HW0.out] at hwd
  have hc00 : W.cell? a = some (.string ⟨r0.toArray⟩) := by rw [hr0]; exact hc0
  clear hr0
  clear hp hok hw2 hh2 hc0
  have hmm := @run_makeMap Try.prog
  go_enter Try.func41, Try.ntmps41
  go_wp2_with (first | (go_at_call 18; refine HCP.out.mono ?_; rintro e w' ⟨rfl, rfl⟩) | (go_at_call 50; refine (within_any _ _ _ _).mono ?_; rintro e w' ⟨rfl, rfl⟩))
  clear HCP hw hh
  go_loopw [8] (fun i wr => ∃ y : Nat, y ≤ n + 1 - v ∧ i = .int .i64 y ∧ SetAt Try.prog 9 4 wr W.heap.size (32 * y) (insAll p u v y) ∧ Below W.heap.size W wr) (fun i _ => n + 1 - v - (intOf i).toNat)
  case atStart => exact ⟨0, Nat.zero_le _, rfl, SetAt.made W, (Below.refl _ _).alloc (Nat.le_refl _) _⟩
  case round =>
    obtain ⟨y, hy, rfl, hset, hbel⟩ := hrel
    have HO := Lib.hid hset
    clear hset
    by_cases hlt : y + v ≤ n
    · have hd : decide ((y : Int) + (v : Int) ≤ (n : Int)) = true := by simp; omega
      go_wp2
      go_loopw [9] (fun i wr => ∃ x : Nat, x ≤ r0.length + 1 - u ∧ i = .int .i64 x ∧ SetAt Try.prog 9 4 wr W.heap.size (32 * y + x) (insRow p u v y x (insAll p u v y)) ∧ Below W.heap.size W wr) (fun i _ => r0.length + 1 - u - (intOf i).toNat)
      case atStart => exact ⟨0, Nat.zero_le _, rfl, HO.out, hbel⟩
      case round =>
        clear hbel
        obtain ⟨x, hx, rfl, hset, hbel⟩ := hrel
        have HO2 := Lib.hid hset
        have hc00 : wr.cell? a = some (.string ⟨r0.toArray⟩) := (hbel.cell (p := a) (by assumption)).trans hc00
        clear hset
        by_cases hlt2 : x + u ≤ r0.length
        · go_wp2_with fail
          refine (ipart_any _ _ _ _ _ _ _ _ _ (HP.out.later hbel) (by omega) (by omega) (by omega) (part_row HOK.out (by rw [HW0.out]; omega))).mono ?_
          rintro e w1 ⟨A3, n3, c3, rfl, ho3⟩
          have HN3 := Lib.hid (show n3 = v by have h1 := ho3.len; simp only [svs, List.length_map] at h1; rw [← h1]; exact part_len (by rw [hlen.out]; omega))
          have HO3 := Lib.hid ho3
          clear ho3
          go_wp2_with fail
          refine (iJoin_any _ _ _ _ [47] _ (SOwn.of HO3.out.1 (by have := HN3.out; omega) (fun s hs => by have := part_lens HOK.out _ _ _ _ s hs; omega) HO3.out.cap) (by simp) (Nat.le_trans (key_len HOK.out) (by decide))).mono ?_
          rintro e w2 ⟨rfl, hb2⟩
          have HB2 := Lib.hid hb2
          have HS2 := Lib.hid ((HO2.out.later HO3.out.2).later hb2)
          have HKL := Lib.hid (key_len HOK.out (x := x) (y := y) (w := u) (h := v))
          clear hb2
          go_wp2_with (at_mapUpdate; refine setAt_put _ rfl _ _ _ _ rfl Try.underlying9 Try.underlying4 Try.underlying54 rfl HS2.out (by omega) (srt_row (srt_all y) x) _ (Nat.le_trans HKL.out (by decide)) rfl true rfl ?_; intro w3 hs3 hg3)
          exact ⟨⟨x + 1, by omega, by go_num, hs3, (hbel.trans ((HO3.out.2.mono hbel.size).trans (HB2.out.mono (Nat.le_trans hbel.size HO3.out.2.size)))).grown hg3 (Nat.le_trans (Nat.le_trans hbel.size HO3.out.2.size) HB2.out.size) (fun k hk => by cases hk; exact Nat.le_refl _)⟩, by simp [intOf]; omega⟩
        · obtain rfl : x = r0.length + 1 - u := by omega
          have HA := Lib.hid (show insRow p u v y (r0.length + 1 - u) (insAll p u v y) = insAll p u v (y + 1) by show _ = insRow _ _ _ _ _ _; rw [HW0.out])
          go_wp2
          exact ⟨⟨y + 1, by omega, by go_num, HA.out ▸ HO2.out.mono (by omega), hbel⟩, by simp [intOf]; omega⟩
    · obtain rfl : y = n + 1 - v := by omega
      go_wp2_with (at_len; refine setAt_len rfl _ _ rfl Try.underlying54 rfl HO.out ?_)
      go_ret
      exact ⟨ret_int HE.out, hbel⟩
end Go.Proofs.Ytcepjfadgdpbmaa
