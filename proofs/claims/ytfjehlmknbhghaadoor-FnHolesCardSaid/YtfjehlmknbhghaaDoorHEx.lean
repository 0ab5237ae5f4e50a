/-
  Contracts of HolesOf, DepthOf, LetterOfPattern, FillPattern, FoldPattern, FillWith (program and reference) and the walks of their laws. Condition: internal/bytealg's variable MaxLen holds some number.
-/
import Derived.Test.YtfjehlmknbhghaaDoorHFil
namespace Go.Proofs.YtfjehlmknbhghaaDoor
open Go.RowKit

def holesOf (p : List UInt8) : Int := if patOk p then (cnt p : Nat) else -1
def depthOf (p : List UInt8) (n : Int) : Int := if patOk p && wi n 0 100000 then ((fil p n.toNat).2 : Nat) else -1
def letterOf (p : List UInt8) (n : Int) : List UInt8 × Bool := if patOk p && wi n 0 100000 then ([(fil p n.toNat).1], true) else ([], false)
def fillL (p : List UInt8) (n : Nat) : List UInt8 := (List.range n).map fun i => (fil p i).1
def fillPattern (p : List UInt8) (n : Int) : List UInt8 × Bool := if patOk p && wi n 0 400 then (fillL p n.toNat, true) else ([], false)
def withC (p w : List UInt8) (i : Nat) : UInt8 := if sg p i == 63 then w.getD (hol p i) 0 else sg p i
def withL (p w : List UInt8) (n : Nat) : List UInt8 := (List.range n).map (withC p w)
def fillWith (p w : List UInt8) (n : Int) : List UInt8 × Bool := if patOk p && (isW w && (wi n 0 400 && decide (hol p n.toNat ≤ w.length))) then (withL p w n.toNat, true) else ([], false)
theorem fillL_snoc (p : List UInt8) (n : Nat) : fillL p (n + 1) = fillL p n ++ [(fil p n).1] := by unfold fillL; rw [List.range_succ, List.map_append]; rfl
theorem withL_snoc (p w : List UInt8) (n : Nat) : withL p w (n + 1) = withL p w n ++ [withC p w n] := by unfold withL; rw [List.range_succ, List.map_append]; rfl
theorem ret_sbH {p q : List UInt8 × Bool} (h : p = q) : Ending.returned (.tuple #[.string ⟨p.1.toArray⟩, .bool p.2]) = .returned (.tuple #[.string ⟨q.1.toArray⟩, .bool q.2]) := by rw [h]
theorem hol_len {p : List UInt8} (h : 0 < p.length) : hol p p.length = cnt p := by
  unfold hol
  rw [Nat.div_self h, Nat.mod_self]
  simp [cnt, Lib.countByte]

theorem enc97 : Utf8.encode (((97 : UInt8).toNat : Nat) : Int) = ⟨[(97 : UInt8)].toArray⟩ := by kernel_rfl
theorem enc98 : Utf8.encode (((98 : UInt8).toNat : Nat) : Int) = ⟨[(98 : UInt8)].toArray⟩ := by kernel_rfl
theorem enc99 : Utf8.encode (((99 : UInt8).toNat : Nat) : Int) = ⟨[(99 : UInt8)].toArray⟩ := by kernel_rfl
theorem enc100 : Utf8.encode (((100 : UInt8).toNat : Nat) : Int) = ⟨[(100 : UInt8)].toArray⟩ := by kernel_rfl
section
variable (p : List UInt8) (hp : p.length ≤ 1048576) (w : World)
include hp

/-! ## HolesOf -/
set_option maxHeartbeats 400000 in
theorem iHolesOf_any (hm : MaxAt w) : Calls Tryd.prog 14 #[.string ⟨p.toArray⟩] w fun e w' => e = .returned (.int .i64 (holesOf p)) ∧ Below w.heap.size w w' := by
  have hc := iPatternOk_any p hp w hm
  cases h : patOk p
  · have HE := Lib.hid (show -1 = holesOf p by unfold holesOf; rw [h]; rfl)
    rw [h] at hc
    have HC := Lib.hid hc
    clear hc h
    go_enter Tryd.func14, Tryd.ntmps14
    go_wp2_with (go_at_call 12; refine HC.out.mono ?_; rintro e w1 ⟨rfl, hb⟩)
    go_ret
    exact ⟨ret_int HE.out, hb⟩
  · have HE := Lib.hid (show ((cnt p : Nat) : Int) = holesOf p by unfold holesOf; rw [h]; rfl)
    rw [h] at hc
    have HC := Lib.hid hc
    clear hc h
    go_enter Tryd.func14, Tryd.ntmps14
    go_wp2_with (first | (go_at_call 12; refine HC.out.mono ?_; rintro e w1 ⟨rfl, hb⟩) | (go_at_call 34; refine (cntC_any _ _).mono ?_; rintro e w' ⟨rfl, rfl⟩))
    go_ret
    exact ⟨ret_int HE.out, hb⟩
set_option maxHeartbeats 400000 in
theorem sHolesOf_any : Calls Tryd.prog 13 #[.string ⟨p.toArray⟩] w fun e w' => e = .returned (.int .i64 (holesOf p)) ∧ Below w.heap.size w w' := by
  have hc := sPatternOk_any p hp w
  cases h : patOk p
  · have HE := Lib.hid (show -1 = holesOf p by unfold holesOf; rw [h]; rfl)
    rw [h] at hc
    have HC := Lib.hid hc
    clear hc h
    go_enter Tryd.func13, Tryd.ntmps13
    go_wp2_with (go_at_call 11; refine HC.out.mono ?_; rintro e w' ⟨rfl, rfl⟩)
    go_ret
    exact ⟨ret_int HE.out, Below.refl _ _⟩
  · have hl := patOk_len h
    have HE := Lib.hid (show ((hol p p.length : Nat) : Int) = holesOf p by unfold holesOf; rw [h, hol_len (by omega)]; rfl)
    rw [h] at hc
    have HC := Lib.hid hc
    have HK := Lib.hid (fun w => l20Holes_any p p.length hl.1 hl.2 (by omega) w)
    clear hc h hl
    go_enter Tryd.func13, Tryd.ntmps13
    go_wp2_with (first | (go_at_call 11; refine HC.out.mono ?_; rintro e w' ⟨rfl, rfl⟩) | (go_at_call 33; refine (HK.out _).mono ?_; rintro e w' ⟨rfl, rfl⟩))
    go_ret
    exact ⟨ret_int HE.out, Below.refl _ _⟩

/-! ## DepthOf -/
set_option maxHeartbeats 800000 in
theorem iDepthOf_any (n : Int) (hm : MaxAt w) : Calls Tryd.prog 16 #[.string ⟨p.toArray⟩, .int .i64 n] w fun e w' => e = .returned (.int .i64 (depthOf p n)) ∧ Below w.heap.size w w' := by
  have hc := iPatternOk_any p hp w hm
  cases h : patOk p
  · have HE := Lib.hid (show -1 = depthOf p n by unfold depthOf; rw [h]; rfl)
    rw [h] at hc
    have HC := Lib.hid hc
    clear hc h
    go_enter Tryd.func16, Tryd.ntmps16
    go_wp2_with (go_at_call 12; refine HC.out.mono ?_; rintro e w1 ⟨rfl, hb⟩)
    go_ret
    exact ⟨ret_int HE.out, hb⟩
  · cases h2 : wi n 0 100000
    · have HE := Lib.hid (show -1 = depthOf p n by unfold depthOf; rw [h, h2]; rfl)
      rw [h] at hc
      have HC := Lib.hid hc
      clear hc h
      go_enter Tryd.func16, Tryd.ntmps16
      go_wp2_with (first | (go_at_call 12; refine HC.out.mono ?_; rintro e w1 ⟨rfl, hb⟩) | (go_at_call 29; refine (within_any _ _ _ _).mono ?_; rintro e w' ⟨rfl, rfl⟩))
      go_ret
      exact ⟨ret_int HE.out, hb⟩
    · have hn := wi_yes h2
      obtain ⟨n, rfl⟩ := Int.eq_ofNat_of_zero_le (show 0 ≤ n by omega)
      have HE := Lib.hid (show (((fil p n).2 : Nat) : Int) = depthOf p n by unfold depthOf; rw [h, h2]; rfl)
      rw [h] at hc
      have HC := Lib.hid hc
      have HK := Lib.hid (fun w => filled_any p n h (by omega) w)
      clear hc h
      go_enter Tryd.func16, Tryd.ntmps16
      go_wp2_with (first | (go_at_call 12; refine HC.out.mono ?_; rintro e w1 ⟨rfl, hb⟩) | (go_at_call 29; refine (within_any _ _ _ _).mono ?_; rintro e w' ⟨rfl, rfl⟩) | (go_at_call 36; refine (HK.out _).mono ?_; rintro e w2 ⟨rfl, hb2⟩))
      go_ret
      exact ⟨ret_int HE.out, hb.trans (hb2.mono hb.size)⟩
set_option maxHeartbeats 800000 in
theorem sDepthOf_any (n : Int) : Calls Tryd.prog 15 #[.string ⟨p.toArray⟩, .int .i64 n] w fun e w' => e = .returned (.int .i64 (depthOf p n)) ∧ Below w.heap.size w w' := by
  have hc := sPatternOk_any p hp w
  cases h : patOk p
  · have HE := Lib.hid (show -1 = depthOf p n by unfold depthOf; rw [h]; rfl)
    rw [h] at hc
    have HC := Lib.hid hc
    clear hc h
    go_enter Tryd.func15, Tryd.ntmps15
    go_wp2_with (go_at_call 11; refine HC.out.mono ?_; rintro e w' ⟨rfl, rfl⟩)
    go_ret
    exact ⟨ret_int HE.out, Below.refl _ _⟩
  · cases h2 : wi n 0 100000
    · have HE := Lib.hid (show -1 = depthOf p n by unfold depthOf; rw [h, h2]; rfl)
      rw [h] at hc
      have HC := Lib.hid hc
      clear hc h
      go_enter Tryd.func15, Tryd.ntmps15
      go_wp2_with (first | (go_at_call 11; refine HC.out.mono ?_; rintro e w' ⟨rfl, rfl⟩) | (go_at_call 28; refine (l01In_any _ _ _ _).mono ?_; rintro e w' ⟨rfl, rfl⟩))
      go_ret
      exact ⟨ret_int HE.out, Below.refl _ _⟩
    · have hn := wi_yes h2
      obtain ⟨n, rfl⟩ := Int.eq_ofNat_of_zero_le (show 0 ≤ n by omega)
      have HE := Lib.hid (show (((fil p n).2 : Nat) : Int) = depthOf p n by unfold depthOf; rw [h, h2]; rfl)
      rw [h] at hc
      have HC := Lib.hid hc
      have HK := Lib.hid (fun w => l20Letter_any p n h (by omega) w)
      clear hc h
      go_enter Tryd.func15, Tryd.ntmps15
      go_wp2_with (first | (go_at_call 11; refine HC.out.mono ?_; rintro e w' ⟨rfl, rfl⟩) | (go_at_call 28; refine (l01In_any _ _ _ _).mono ?_; rintro e w' ⟨rfl, rfl⟩) | (go_at_call 35; refine (HK.out _).mono ?_; rintro e w2 ⟨rfl, hb2⟩))
      go_ret
      exact ⟨ret_int HE.out, hb2⟩

/-! ## LetterOfPattern -/
omit hp in
theorem enc_letter {c : UInt8} (h : isLet c = true) : Utf8.encode (c.toNat : Int) = ⟨[c].toArray⟩ := by
  have hb := isLet_bd h
  have : c.toNat = 97 ∨ c.toNat = 98 ∨ c.toNat = 99 ∨ c.toNat = 100 := by omega
  have hc : c = 97 ∨ c = 98 ∨ c = 99 ∨ c = 100 := by
    rcases this with h | h | h | h
    · exact Or.inl (UInt8.toNat_inj.1 h)
    · exact Or.inr (Or.inl (UInt8.toNat_inj.1 h))
    · exact Or.inr (Or.inr (Or.inl (UInt8.toNat_inj.1 h)))
    · exact Or.inr (Or.inr (Or.inr (UInt8.toNat_inj.1 h)))
  rcases hc with rfl | rfl | rfl | rfl
  · exact enc97
  · exact enc98
  · exact enc99
  · exact enc100
set_option maxHeartbeats 800000 in
theorem iLetterOf_any (n : Int) (hm : MaxAt w) : Calls Tryd.prog 18 #[.string ⟨p.toArray⟩, .int .i64 n] w fun e w' => e = .returned (.tuple #[.string ⟨(letterOf p n).1.toArray⟩, .bool (letterOf p n).2]) ∧ Below w.heap.size w w' := by
  have hc := iPatternOk_any p hp w hm
  cases h : patOk p
  · have HE := Lib.hid (show ([], false) = letterOf p n by unfold letterOf; rw [h]; rfl)
    rw [h] at hc
    have HC := Lib.hid hc
    clear hc h
    go_enter Tryd.func18, Tryd.ntmps18
    go_wp2_with (go_at_call 12; refine HC.out.mono ?_; rintro e w1 ⟨rfl, hb⟩)
    go_ret2
    exact ⟨ret_sbH HE.out, hb⟩
  · cases h2 : wi n 0 100000
    · have HE := Lib.hid (show ([], false) = letterOf p n by unfold letterOf; rw [h, h2]; rfl)
      rw [h] at hc
      have HC := Lib.hid hc
      clear hc h
      go_enter Tryd.func18, Tryd.ntmps18
      go_wp2_with (first | (go_at_call 12; refine HC.out.mono ?_; rintro e w1 ⟨rfl, hb⟩) | (go_at_call 29; refine (within_any _ _ _ _).mono ?_; rintro e w' ⟨rfl, rfl⟩))
      go_ret2
      exact ⟨ret_sbH HE.out, hb⟩
    · have hn := wi_yes h2
      obtain ⟨n, rfl⟩ := Int.eq_ofNat_of_zero_le (show 0 ≤ n by omega)
      have HE := Lib.hid (show ([(fil p n).1], true) = letterOf p n by unfold letterOf; rw [h, h2]; rfl)
      have hlet := (fil_let h n).1
      rw [h] at hc
      have HC := Lib.hid hc
      have hk := filled_any p n h (by omega)
      obtain ⟨c, hcc⟩ : ∃ c, c = (fil p n).1 := ⟨_, rfl⟩
      rw [← hcc] at hk hlet HE
      have HK := Lib.hid hk
      have hen := enc_letter hlet
      have hcb := isLet_bd hlet
      clear hc h hk hcc hlet
      go_enter Tryd.func18, Tryd.ntmps18
      go_wp2_with (first | (go_at_call 12; refine HC.out.mono ?_; rintro e w1 ⟨rfl, hb⟩) | (go_at_call 29; refine (within_any _ _ _ _).mono ?_; rintro e w' ⟨rfl, rfl⟩) | (go_at_call 36; refine (HK.out _).mono ?_; rintro e w2 ⟨rfl, hb2⟩))
      go_ret2
      exact ⟨ret_sbH HE.out, hb.trans (hb2.mono hb.size)⟩
set_option maxHeartbeats 800000 in
theorem sLetterOf_any (n : Int) : Calls Tryd.prog 17 #[.string ⟨p.toArray⟩, .int .i64 n] w fun e w' => e = .returned (.tuple #[.string ⟨(letterOf p n).1.toArray⟩, .bool (letterOf p n).2]) ∧ Below w.heap.size w w' := by
  have hc := sPatternOk_any p hp w
  cases h : patOk p
  · have HE := Lib.hid (show ([], false) = letterOf p n by unfold letterOf; rw [h]; rfl)
    rw [h] at hc
    have HC := Lib.hid hc
    clear hc h
    go_enter Tryd.func17, Tryd.ntmps17
    go_wp2_with (go_at_call 11; refine HC.out.mono ?_; rintro e w' ⟨rfl, rfl⟩)
    go_ret2
    exact ⟨ret_sbH HE.out, Below.refl _ _⟩
  · cases h2 : wi n 0 100000
    · have HE := Lib.hid (show ([], false) = letterOf p n by unfold letterOf; rw [h, h2]; rfl)
      rw [h] at hc
      have HC := Lib.hid hc
      clear hc h
      go_enter Tryd.func17, Tryd.ntmps17
      go_wp2_with (first | (go_at_call 11; refine HC.out.mono ?_; rintro e w' ⟨rfl, rfl⟩) | (go_at_call 28; refine (l01In_any _ _ _ _).mono ?_; rintro e w' ⟨rfl, rfl⟩))
      go_ret2
      exact ⟨ret_sbH HE.out, Below.refl _ _⟩
    · have hn := wi_yes h2
      obtain ⟨n, rfl⟩ := Int.eq_ofNat_of_zero_le (show 0 ≤ n by omega)
      have HE := Lib.hid (show ([(fil p n).1], true) = letterOf p n by unfold letterOf; rw [h, h2]; rfl)
      rw [h] at hc
      have HC := Lib.hid hc
      have hk := l20Letter_any p n h (by omega) w
      obtain ⟨c, hcc⟩ : ∃ c, c = (fil p n).1 := ⟨_, rfl⟩
      rw [← hcc] at hk HE
      have HK := Lib.hid hk
      clear hc h hk hcc
      go_enter Tryd.func17, Tryd.ntmps17
      go_wp2_with (first | (go_at_call 11; refine HC.out.mono ?_; rintro e w' ⟨rfl, rfl⟩) | (go_at_call 28; refine (l01In_any _ _ _ _).mono ?_; rintro e w' ⟨rfl, rfl⟩) | (go_at_call 35; refine HK.out.mono ?_; rintro e w2 ⟨rfl, hb2⟩; have hconv := conv_bytes (P := Tryd.prog) (n := 1) (c := 1) (l := [c]) 32 9 5 Tryd.underlying32 Tryd.underlying5 Tryd.underlying9 (Rd.one w2 (.int .u8 (c.toNat : Nat)) 5)))
      go_ret2
      exact ⟨ret_sbH HE.out, (hb2.alloc hb2.size _)⟩

/-! ## FillPattern -/
set_option maxHeartbeats 800000 in
theorem iFillPattern_any (n : Int) (hm : MaxAt w) : Calls Tryd.prog 20 #[.string ⟨p.toArray⟩, .int .i64 n] w fun e w' => e = .returned (.tuple #[.string ⟨(fillPattern p n).1.toArray⟩, .bool (fillPattern p n).2]) ∧ Below w.heap.size w w' := by
  have hc := iPatternOk_any p hp w hm
  cases h : patOk p
  · have HE := Lib.hid (show ([], false) = fillPattern p n by unfold fillPattern; rw [h]; rfl)
    rw [h] at hc
    have HC := Lib.hid hc
    clear hc h
    go_enter Tryd.func20, Tryd.ntmps20
    go_wp2_with (go_at_call 12; refine HC.out.mono ?_; rintro e w1 ⟨rfl, hb⟩)
    go_ret2
    exact ⟨ret_sbH HE.out, hb⟩
  · cases h2 : wi n 0 400
    · have HE := Lib.hid (show ([], false) = fillPattern p n by unfold fillPattern; rw [h, h2]; rfl)
      rw [h] at hc
      have HC := Lib.hid hc
      clear hc h
      go_enter Tryd.func20, Tryd.ntmps20
      go_wp2_with (first | (go_at_call 12; refine HC.out.mono ?_; rintro e w1 ⟨rfl, hb⟩) | (go_at_call 29; refine (within_any _ _ _ _).mono ?_; rintro e w' ⟨rfl, rfl⟩))
      go_ret2
      exact ⟨ret_sbH HE.out, hb⟩
    · have hn := wi_yes h2
      obtain ⟨n, rfl⟩ := Int.eq_ofNat_of_zero_le (show 0 ≤ n by omega)
      have HE := Lib.hid (show (fillL p n, true) = fillPattern p n by unfold fillPattern; rw [h, h2]; rfl)
      have HP := Lib.hid h
      rw [h] at hc
      have HC := Lib.hid hc
      clear hc h
      go_enter Tryd.func20, Tryd.ntmps20
      go_wp2_with (first | (go_at_call 12; refine HC.out.mono ?_; rintro e w1 ⟨rfl, hb⟩) | (go_at_call 29; refine (within_any _ _ _ _).mono ?_; rintro e w' ⟨rfl, rfl⟩))
      go_loopw [20, 6] (fun i row wr => ∃ (k : Nat) (R : Option Addr) (d : Nat), k ≤ n ∧ i = .int .i64 k ∧ row = .slice R k d ∧ Own w1 wr 5 R k d (bvs (fillL p k))) (fun i _ _ => n - (intOf i).toNat)
      case atStart => exact ⟨0, _, _, Nat.zero_le _, rfl, rfl, Own.made0 (Below.refl _ _) _⟩
      case round =>
        obtain ⟨k, R, d, hk, rfl, rfl, hrow⟩ := hrel
        have HR := Lib.hid hrow
        clear hrow
        by_cases hlt2 : k < n
        · have HS := Lib.hid (fillL_snoc p k)
          go_wp2_with fail
          refine (filled_any p k HP.out (by omega) _).mono ?_
          rintro e w2 ⟨rfl, hb2⟩
          have HR2 := Lib.hid (HR.out.later hb2)
          clear hb2
          go_wp2_with (at_builtin; refine app_one (.tmp 29) (.tmp 31) _ _ _ 1 rfl rfl Tryd.underlying32 infoB rfl rfl HR2.out rfl rfl (by omega) (by omega) ?_; intro R' d' w3 hrow1)
          exact ⟨⟨k + 1, R', d', by omega, by go_num, rfl, by rw [HS.out, bvs_snoc]; exact hrow1⟩, by simp [intOf]; omega⟩
        · obtain rfl : k = n := by omega
          have hconv := conv_bytes (P := Tryd.prog) (c := d) 32 9 5 Tryd.underlying32 Tryd.underlying5 Tryd.underlying9 HR.out.rd
          go_wp2
          go_ret2
          exact ⟨ret_sbH HE.out, hb.trans (HR.out.2.mono hb.size)⟩
set_option maxHeartbeats 800000 in
theorem sFillPattern_any (n : Int) : Calls Tryd.prog 19 #[.string ⟨p.toArray⟩, .int .i64 n] w fun e w' => e = .returned (.tuple #[.string ⟨(fillPattern p n).1.toArray⟩, .bool (fillPattern p n).2]) ∧ Below w.heap.size w w' := by
  have hc := sPatternOk_any p hp w
  cases h : patOk p
  · have HE := Lib.hid (show ([], false) = fillPattern p n by unfold fillPattern; rw [h]; rfl)
    rw [h] at hc
    have HC := Lib.hid hc
    clear hc h
    go_enter Tryd.func19, Tryd.ntmps19
    go_wp2_with (go_at_call 11; refine HC.out.mono ?_; rintro e w' ⟨rfl, rfl⟩)
    go_ret2
    exact ⟨ret_sbH HE.out, Below.refl _ _⟩
  · cases h2 : wi n 0 400
    · have HE := Lib.hid (show ([], false) = fillPattern p n by unfold fillPattern; rw [h, h2]; rfl)
      rw [h] at hc
      have HC := Lib.hid hc
      clear hc h
      go_enter Tryd.func19, Tryd.ntmps19
      go_wp2_with (first | (go_at_call 11; refine HC.out.mono ?_; rintro e w' ⟨rfl, rfl⟩) | (go_at_call 28; refine (l01In_any _ _ _ _).mono ?_; rintro e w' ⟨rfl, rfl⟩))
      go_ret2
      exact ⟨ret_sbH HE.out, Below.refl _ _⟩
    · have hn := wi_yes h2
      obtain ⟨n, rfl⟩ := Int.eq_ofNat_of_zero_le (show 0 ≤ n by omega)
      have HE := Lib.hid (show (fillL p n, true) = fillPattern p n by unfold fillPattern; rw [h, h2]; rfl)
      have HP := Lib.hid h
      rw [h] at hc
      have HC := Lib.hid hc
      clear hc h
      go_enter Tryd.func19, Tryd.ntmps19
      go_wp2_with (first | (go_at_call 11; refine HC.out.mono ?_; rintro e w' ⟨rfl, rfl⟩) | (go_at_call 28; refine (l01In_any _ _ _ _).mono ?_; rintro e w' ⟨rfl, rfl⟩))
      go_loopw [7, 6] (fun i row wr => ∃ (k : Nat) (R : Option Addr) (d : Nat), k ≤ n ∧ i = .int .i64 k ∧ row = .slice R k d ∧ Own w wr 5 R k d (bvs (fillL p k))) (fun i _ _ => n - (intOf i).toNat)
      case atStart => exact ⟨0, _, _, Nat.zero_le _, rfl, rfl, Own.made0 (Below.refl _ _) _⟩
      case round =>
        obtain ⟨k, R, d, hk, rfl, rfl, hrow⟩ := hrel
        have HR := Lib.hid hrow
        clear hrow
        by_cases hlt2 : k < n
        · have HS := Lib.hid (fillL_snoc p k)
          go_wp2_with fail
          refine (l20Letter_any p k HP.out (by omega) _).mono ?_
          rintro e w2 ⟨rfl, hb2⟩
          have HR2 := Lib.hid (HR.out.later hb2)
          clear hb2
          go_wp2_with (at_builtin; refine app_one (.tmp 30) (.tmp 32) _ _ _ 1 rfl rfl Tryd.underlying32 infoB rfl rfl HR2.out rfl rfl (by omega) (by omega) ?_; intro R' d' w3 hrow1)
          exact ⟨⟨k + 1, R', d', by omega, by go_num, rfl, by rw [HS.out, bvs_snoc]; exact hrow1⟩, by simp [intOf]; omega⟩
        · obtain rfl : k = n := by omega
          have hconv := conv_bytes (P := Tryd.prog) (c := d) 32 9 5 Tryd.underlying32 Tryd.underlying5 Tryd.underlying9 HR.out.rd
          go_wp2
          go_ret2
          exact ⟨ret_sbH HE.out, HR.out.2⟩
end
def foldP : List UInt8 := [97, 63, 98, 63]
set_option maxHeartbeats 400000 in
theorem iFold_any (n : Int) (w : World) (hm : MaxAt w) : Calls Tryd.prog 22 #[.int .i64 n] w fun e w' => e = .returned (.tuple #[.string ⟨(fillPattern foldP n).1.toArray⟩, .bool (fillPattern foldP n).2]) ∧ Below w.heap.size w w' := by
  have HC := Lib.hid (show Calls Tryd.prog 20 #[.string ⟨#[97, 63, 98, 63]⟩, .int .i64 n] w _ from iFillPattern_any foldP (by decide) w n hm)
  go_enter Tryd.func22, Tryd.ntmps22
  go_wp2_with (go_at_call 20; refine HC.out.mono ?_; rintro e w1 ⟨rfl, hb⟩)
  go_ret2
  exact ⟨rfl, hb⟩
set_option maxHeartbeats 400000 in
theorem sFold_any (n : Int) (w : World) : Calls Tryd.prog 21 #[.int .i64 n] w fun e w' => e = .returned (.tuple #[.string ⟨(fillPattern foldP n).1.toArray⟩, .bool (fillPattern foldP n).2]) ∧ Below w.heap.size w w' := by
  have HC := Lib.hid (show Calls Tryd.prog 19 #[.string ⟨#[97, 63, 98, 63]⟩, .int .i64 n] w _ from sFillPattern_any foldP (by decide) w n)
  go_enter Tryd.func21, Tryd.ntmps21
  go_wp2_with (go_at_call 19; refine HC.out.mono ?_; rintro e w1 ⟨rfl, hb⟩)
  go_ret2
  exact ⟨rfl, hb⟩
end Go.Proofs.YtfjehlmknbhghaaDoor
