/-
  Contracts of image, isGrowing, fixed and FixedPoint (program) at the letter a, of a substitution of which each image has two letters. Conditions as named.
-/
import Derived.Test.YtcicoplmpinnmaaDoorANam
import Derived.Test.YtcicoplmpinnmaaDoorARowM
import Derived.Deep.RegionHeld3
import Derived.Deep.RegionWith
import Derived.Deep.DeepCutAuto
namespace Go.Proofs.YtcicoplmpinnmaaDoor
open Go.RowKit

set_option maxHeartbeats 800000 in
theorem image_any {A : Option Addr} {n c : Nat} {ss : Wds} {x : UInt8} {img : List UInt8} (W : World) (hs : SIn W A n c ss) (hx : 97 ≤ x.toNat) (hi : ss[x.toNat - 97]? = some img) :
    Calls Tryd.prog 51 #[SubV A n c, .int .u8 (x.toNat : Nat)] W fun e w' => e = .returned (.string ⟨img.toArray⟩) ∧ Below W.heap.size W w' := by
  have HM0 := Lib.hid ((Mem.start W).sub 39 A n c)
  obtain ⟨hlt, himg⟩ := List.getElem?_eq_some_iff.1 hi
  obtain ⟨a, rfl, hab, hca⟩ := (hs.later HM0.out.bel).1.str (k := x.toNat - 97) hlt
  rw [himg] at hca
  have hn := hs.1.lenS
  have bs0 := HM0.out.subAt (t := 39) (g := W.heap.size) (A := some a) (n := n) (c := c) (by simp)
  have hx2 := x.toNat_lt
  have ix1 : IntKind.u8.wrap ((x.toNat : Int) - 97) = (x.toNat : Int) - 97 := IntWalk.u8_in _ (by omega)
  have ix2 : (0 : Int) ≤ (x.toNat : Int) - 97 := by omega
  have ix3 : (x.toNat : Int) - 97 < (n : Int) := by omega
  have ix4 : ((x.toNat : Int) - 97).toNat = x.toNat - 97 := by omega
  have ix6 : (97 : Int) ≤ (x.toNat : Int) := by omega
  clear hs hi himg
  go_enter Tryd.func51, Tryd.ntmps51
  go_wp2
  go_ret
  exact ⟨rfl, HM0.out.bel⟩
theorem image_a {A : Option Addr} {n c : Nat} {ss : Wds} {img : List UInt8} (W : World) (hs : SIn W A n c ss) (hi : ss[0]? = some img) :
    Calls Tryd.prog 51 #[SubV A n c, .int .u8 97] W fun e w' => e = .returned (.string ⟨img.toArray⟩) ∧ Below W.heap.size W w' := image_any (x := 97) W hs (by decide) hi
theorem isLetter_a (w : World) : Calls Tryd.prog 58 #[.string ⟨#[97]⟩] w fun e w' => e = .returned (.bool true) ∧ w = w' := by
  have HC := Lib.hid (isWord_is (l := [97]) (b := true) (by decide) (by decide) w)
  go_enter Tryd.func58, Tryd.ntmps58
  go_wp2_with (go_at_call 24; refine HC.out.mono ?_; rintro e w' ⟨rfl, rfl⟩)
  go_ret
  exact ⟨rfl, rfl⟩
theorem hasImage_a {A : Option Addr} {n c : Nat} (W : World) (hn : n ≤ 1048576) (h1 : 1 ≤ n) :
    Calls Tryd.prog 50 #[SubV A n c, .string ⟨#[97]⟩] W fun e w' => e = .returned (.bool true) ∧ Below W.heap.size W w' := by
  have HM0 := Lib.hid ((Mem.start W).sub 39 A n c)
  have bs0 := HM0.out.subAt (t := 39) (g := W.heap.size) (A := A) (n := n) (c := c) (by simp)
  have HC := Lib.hid (isLetter_a (W.alloc (.cells #[.slice A n c] 39)))
  have hh := hasImages_any A n c [97] (W.alloc (.cells #[.slice A n c] 39)) hn (by simp)
  rw [show hasI n [97] = true by
    unfold hasI among
    rw [show isW [97] = true from by decide]
    simp; omega] at hh
  have HH := Lib.hid hh
  clear hh
  go_enter Tryd.func50, Tryd.ntmps50
  go_wp2_with (go_at_call 58; refine HC.out.mono ?_; rintro e w' ⟨rfl, rfl⟩)
  refine HH.out.mono ?_
  rintro e w2 ⟨rfl, hb2⟩
  have HM2 := Lib.hid (HM0.out.later hb2)
  go_wp2
  go_ret
  exact ⟨rfl, HM2.out.bel⟩
set_option maxRecDepth 4096 in
set_option maxHeartbeats 1600000 in
theorem isGrowing_a {A : Option Addr} {n c : Nat} {ss : Wds} (W : World) (hs : SIn W A n c ss) (h1 : 1 ≤ n) (hi : ss[0]? = some [97, 98]) :
    Calls Tryd.prog 33 #[SubV A n c, .string ⟨#[97]⟩] W fun e w' => e = .returned (.bool true) ∧ Below W.heap.size W w' := by
  have HM0 := Lib.hid ((Mem.start W).sub 39 A n c)
  have bs0 := HM0.out.subAt (t := 39) (g := W.heap.size) (A := A) (n := n) (c := c) (by simp)
  have HS := Lib.hid (hs.later HM0.out.bel)
  have HC := Lib.hid (hasImage_a (A := A) (c := c) (W.alloc (.cells #[.slice A n c] 39)) hs.2.1 h1)
  have HI := Lib.hid hi
  clear hs hi
  go_enter Tryd.func33, Tryd.ntmps33
  go_wp2_with fail
  refine HC.out.mono ?_
  rintro e w2 ⟨rfl, hb2⟩
  have HM2 := Lib.hid (HM0.out.later hb2)
  have HS2 := Lib.hid (HS.out.later hb2)
  have bs2 := HM2.out.subAt (t := 39) (g := W.heap.size) (A := A) (n := n) (c := c) (by simp)
  clear hb2 HM0 HS HC bs0
  go_wp2_with fail
  go_region_held3 (fun w' => w'.cell? ⟨W.heap.size, 0, none⟩ = some (.slice A n c)) (first | exact (HM3.out.subAt (t := 39) (g := W.heap.size) (A := A) (n := n) (c := c) (by simp)) | exact bs2 | (go_keep; done)) ((go_at_call 51; (with_reducible refine (image_a (img := [97, 98]) _ (HS2.out.later (below_drew1 _)) HI.out).mono ?_); rintro e w3 ⟨rfl, hb3⟩; have HM3 := Lib.hid ((HM2.out.later (below_drew1 _)).later hb3)))
  clear hb3 HM2 HS2 bs2
  go_wp2_with fail
  go_quiet (fail)
  go_wp2
  go_ret
  exact ⟨rfl, below_drewN HM3.out.bel nq⟩
/-- the first letters of the fixed point of a, after k images -/
def fx (ss : Wds) : Nat → List UInt8
  | 0 => [97, 98]
  | k + 1 => fx ss k ++ ss.getD (((fx ss k).getD (k + 1) 0).toNat - 97) []
def Two2 (ss : Wds) : Prop := ss[0]? = some [97, 98] ∧ ∀ l ∈ ss, l.length = 2 ∧ ∀ x ∈ l, 97 ≤ x.toNat ∧ x.toNat < 97 + ss.length
theorem fx_ok {ss : Wds} (h : Two2 ss) : ∀ k, (fx ss k).length = 2 * (k + 1) ∧ ∀ x ∈ fx ss k, 97 ≤ x.toNat ∧ x.toNat < 97 + ss.length
  | 0 => ⟨rfl, by
    obtain ⟨h0, h1⟩ := List.getElem?_eq_some_iff.1 h.1
    intro x hx
    exact (h.2 _ (List.getElem_mem h0)).2 x (by rw [h1]; exact hx)⟩
  | k + 1 => by
    obtain ⟨h1, h2⟩ := fx_ok h k
    have hk : k + 1 < (fx ss k).length := by omega
    have hx := h2 _ (List.getElem_mem hk)
    have e : (fx ss k).getD (k + 1) 0 = (fx ss k)[k + 1] := by rw [List.getD_eq_getElem?_getD, List.getElem?_eq_getElem hk]; rfl
    have hi : (fx ss k)[k + 1].toNat - 97 < ss.length := by omega
    have e2 : ss.getD (((fx ss k).getD (k + 1) 0).toNat - 97) [] = ss[(fx ss k)[k + 1].toNat - 97] := by rw [e, List.getD_eq_getElem?_getD, List.getElem?_eq_getElem hi]; rfl
    obtain ⟨h3, h4⟩ := h.2 _ (List.getElem_mem hi)
    unfold fx
    rw [e2]
    refine ⟨by rw [List.length_append]; omega, fun x hx => ?_⟩
    rcases List.mem_append.1 hx with hx | hx
    · exact h2 x hx
    · exact h4 x hx
set_option maxRecDepth 4096 in
set_option maxHeartbeats 3200000 in
theorem fixed_a {A : Option Addr} {n c : Nat} {ss : Wds} (W : World) (hs : SIn W A n c ss) (h2 : Two2 ss) :
    Calls Tryd.prog 34 #[SubV A n c, .string ⟨#[97]⟩, .int .i64 100] W fun e w' => ∃ A' c', e = .returned (.slice A' 100 c') ∧ OwnM W w' 5 A' 100 c' (fx ss 49) := by
  have HM0 := Lib.hid ((Mem.start W).sub 39 A n c)
  have bs0 := HM0.out.subAt (t := 39) (g := W.heap.size) (A := A) (n := n) (c := c) (by simp)
  have HS := Lib.hid (hs.later HM0.out.bel)
  have H2 := Lib.hid h2
  have HI := Lib.hid h2.1
  obtain ⟨W1, hW1⟩ : ∃ W1, W1 = W.alloc (.cells #[.slice A n c] 39) := ⟨_, rfl⟩
  rw [← hW1] at HM0 bs0 HS
  have HWW := Lib.hid hW1
  obtain ⟨g, hg⟩ : ∃ g, g = W.heap.size := ⟨_, rfl⟩
  rw [← hg] at bs0
  have hgl := World.block_lt_of_cell? W1 _ bs0
  clear hs h2
  go_enter Tryd.func34, Tryd.ntmps34
  go_upto_region 1 with (fail)
  rw [← HWW.out, ← hg]
  clear HWW hW1 hg
  go_cut [7] (fun s wc => ∃ A5 c5, s = .slice A5 2 c5 ∧ Hid (OwnM W1 wc 5 A5 2 c5 (fx ss 0)))
  case first =>
    go_wp2_with fail
    go_region_with (go_at_call 51; (with_reducible refine (image_a (img := [97, 98]) _ (HS.out.later (below_drew1 _)) HI.out).mono ?_); rintro e w3 ⟨rfl, hb3⟩; have HB3 := Lib.hid ((below_drew1 W1).trans (hb3.mono (Nat.le_refl _))); have bs3 := (HB3.out.cell (p := ⟨g, 0, none⟩) hgl).trans bs0; obtain ⟨A5, c5, w5, hcv, hm5⟩ := conv_strM (P := Tryd.prog) 9 22 5 Tryd.underlying9 Tryd.underlying22 Tryd.underlying5 [97, 98] (by decide) HB3.out; have HM5 := Lib.hid hm5; clear hm5)
    all_goals
      go_wp2_with fail
      go_meet
      exact ⟨_, _, rfl, HM5⟩
  case rest =>
    obtain ⟨A5, c5, rfl, HM5⟩ := hcut
    go_wp2_with fail
    go_loopw [7, 8] (fun out i wr => ∃ (k : Nat) (A7 : Option Addr) (c7 : Nat), k ≤ 49 ∧ out = .slice A7 (2 * (k + 1)) c7 ∧ i = .int .i64 (((k + 1 : Nat)) : Int) ∧ Hid (OwnM W1 wr 5 A7 (2 * (k + 1)) c7 (fx ss k))) (fun _ i _ => 100 - (intOf i).toNat)
    case atStart => exact ⟨0, _, _, Nat.zero_le _, rfl, rfl, HM5⟩
    case round =>
      clear HM5
      obtain ⟨k, A7, c7, hk, rfl, rfl, HO⟩ := hrel
      have hl := fx_ok H2.out k
      by_cases hlt : k < 49
      · have hq0 : k + 1 < (fx ss k).length := by omega
        have hx := hl.2 _ (List.getElem_mem hq0)
        obtain ⟨a, rfl, hab, hca⟩ := HO.out.rd.byte (k := k + 1) hq0
        have hgd : (fx ss k).getD (k + 1) 0 = (fx ss k)[k + 1] := by rw [List.getD_eq_getElem?_getD, List.getElem?_eq_getElem hq0]; rfl
        obtain ⟨x, hxe⟩ : ∃ x, x = (fx ss k)[k + 1] := ⟨_, rfl⟩
        rw [← hxe] at hx hca hgd
        have hi : x.toNat - 97 < ss.length := by omega
        obtain ⟨u, v, huv⟩ : ∃ u v, ss[x.toNat - 97] = [u, v] := by
          have h3 := (H2.out.2 _ (List.getElem_mem hi)).1
          match hh : ss[x.toNat - 97], h3 with
          | [u, v], _ => exact ⟨u, v, rfl⟩
        have HIM := Lib.hid (show ss[x.toNat - 97]? = some [u, v] by rw [List.getElem?_eq_getElem hi, huv])
        have HNX := Lib.hid (show fx ss (k + 1) = fx ss k ++ [u, v] by
          show fx ss k ++ _ = _
          rw [hgd, List.getD_eq_getElem?_getD, List.getElem?_eq_getElem hi, huv]; rfl)
        have HX := Lib.hid hx.1
        have HV := Lib.hid (show (bvs (fx ss k))[k + 1]? = some (.int .u8 (x.toNat : Nat)) by rw [bvs, List.getElem?_map, List.getElem?_eq_getElem hq0, ← hxe]; rfl)
        have hgw : g < wr.heap.size := by have := HO.out.bel.size; omega
        obtain ⟨m, hm⟩ : ∃ m, m = 2 * (k + 1) := ⟨_, rfl⟩
        obtain ⟨q, hq⟩ : ∃ q, q = k + 1 := ⟨_, rfl⟩
        rw [← hm] at HO ⊢
        rw [← hq] at hca HV ⊢
        have hm100 : m < 100 := by omega
        have hqm : q < m := by omega
        have d1 : decide ((m : Int) < 100) = true := by simp; omega
        have d2 : decide (m < 100) = true := by simp; omega
        have i1 : (0 : Int) ≤ (q : Int) := by omega
        have i2 : (q : Int) < (m : Int) := by omega
        have bs4 := (HO.out.bel.cell (p := ⟨g, 0, none⟩) hgl).trans bs0
        have HM := Lib.hid hm
        have HQ := Lib.hid hq
        clear hm hq hxe hgd hi huv hx hl hq0
        go_wp2_with fail
        go_region_held3 (fun w' => w'.cell? ⟨g, 0, none⟩ = some (.slice A n c) ∧ w'.cell? (a.add q) = some (.int .u8 (x.toNat : Nat))) (first | exact ⟨bs8, hca8⟩ | exact ⟨bs5, hca5⟩ | exact ⟨bs4, hca⟩ | (go_keep; done)) (first
          | (go_at_call 51; (with_reducible refine (image_any (img := [u, v]) _ ((HS.out.later HO.out.bel).later (below_drew1 _)) HX.out HIM.out).mono ?_); rintro e w3 ⟨rfl, hb3⟩; have HO3 := Lib.hid ((HO.out.later (below_drew1 wr)).later hb3); have hb5 : Below wr.heap.size wr w3 := (below_drew1 wr).trans (hb3.mono (Nat.le_refl _)); have bs5 := (hb5.cell (p := ⟨g, 0, none⟩) hgw).trans bs4; have hca5 := (hb5.cell (p := a.add q) (by rw [add_block]; exact hab)).trans hca; clear hb5)
          | (refine step_app_strM (.tmp 20) (.tmp 26) _ _ _ (by rfl) (by rfl) Tryd.underlying22 Tryd.underlying9 infoB (by rfl) HO3.out (by rfl) (by simp; omega) ?_; intro A8 c8 w8 hown8 hkeep; have hca8 := hkeep _ q _ rfl HV.out; have bs8 := (hown8.bel.cell (p := ⟨g, 0, none⟩) hgl).trans bs0; clear hkeep))
        have HO8 := Lib.hid hown8
        clear hown8 bs8 hca8 bs5 hca5 HO3 bs4 hca
        go_wp2_with fail
        exact ⟨⟨k + 1, A8, c8, by omega, by congr 1 <;> (have := HM.out; first | omega | (simp only [List.length_cons, List.length_nil]; omega)), by congr 1 <;> (have := HQ.out; omega), Lib.hid (by have h8 := HO8.out; rw [← HNX.out, HM.out] at h8; exact h8)⟩, by simp [intOf]; omega⟩
      · obtain rfl : k = 49 := by omega
        go_wp2_with fail
        go_ret
        exact ⟨A7, c7, rfl, HO.out.up HM0.out.bel⟩
set_option maxRecDepth 4096 in
set_option maxHeartbeats 1600000 in
theorem iFixed_any {A : Option Addr} {n c : Nat} {ss : Wds} (W : World) (hs : SIn W A n c ss) (hk : sOk ss = true) (h2 : Two2 ss) {t : List UInt8} (ht : fx ss 49 = t) :
    Calls Tryd.prog 16 #[SubV A n c, .string ⟨#[97]⟩, .int .i64 100] W fun e w' => e = .returned (.tuple #[.string ⟨t.toArray⟩, .bool true]) ∧ Below W.heap.size W w' := by
  have HM0 := Lib.hid ((Mem.start W).sub 39 A n c)
  have bs0 := HM0.out.subAt (t := 39) (g := W.heap.size) (A := A) (n := n) (c := c) (by simp)
  have HS := Lib.hid (hs.later HM0.out.bel)
  have H2 := Lib.hid h2
  have HT := Lib.hid ht
  have hn := sOk_n hk
  have hlen := hs.1.lenS
  have HN := Lib.hid (show 1 ≤ n by omega)
  have hc := iSubstOk_any A n c ss _ (hs.later HM0.out.bel)
  rw [hk] at hc
  have HC := Lib.hid hc
  have H1 := Lib.hid (within_is (n := 100) (lo := 0) (hi := 400) (b := true) (by decide))
  clear hs hk h2 hc hn hlen ht
  go_enter Tryd.func16, Tryd.ntmps16
  go_wp2_with fail
  refine HC.out.mono ?_
  rintro e w1 ⟨rfl, hb1⟩
  have HM1 := Lib.hid (HM0.out.later hb1)
  have HS1 := Lib.hid (HS.out.later hb1)
  have bs1 := HM1.out.subAt (t := 39) (g := W.heap.size) (A := A) (n := n) (c := c) (by simp)
  clear hb1 HM0 HS HC bs0
  go_wp2_with fail
  refine (isGrowing_a _ HS1.out HN.out H2.out.1).mono ?_
  rintro e w2 ⟨rfl, hb2⟩
  have HM2 := Lib.hid (HM1.out.later hb2)
  have HS2 := Lib.hid (HS1.out.later hb2)
  have bs2 := HM2.out.subAt (t := 39) (g := W.heap.size) (A := A) (n := n) (c := c) (by simp)
  clear hb2 HM1 HS1 bs1
  go_wp2_with (go_at_call 21; (with_reducible refine (H1.out _).mono ?_); rintro e w' ⟨rfl, rfl⟩)
  refine (fixed_a _ HS2.out H2.out).mono ?_
  rintro e w3 ⟨A3, c3, rfl, ho⟩
  have HO := Lib.hid ho
  have hcap := ho.cap
  have hconv := conv_bytes (P := Tryd.prog) 22 9 5 Tryd.underlying22 Tryd.underlying5 Tryd.underlying9 ho.rd (c := c3)
  rw [HT.out] at hconv
  have j1 : (100 : Int) ≤ (c3 : Int) := by omega
  clear ho
  go_wp2_with fail
  go_ret2
  exact ⟨rfl, HM2.out.bel.trans (HO.out.bel.mono HM2.out.bel.size)⟩
end Go.Proofs.YtcicoplmpinnmaaDoor
