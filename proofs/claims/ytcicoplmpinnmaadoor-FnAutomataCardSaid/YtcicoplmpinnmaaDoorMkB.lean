/-
  Drawn words, rules and patches: contracts of l02Word, l21Rule, l21Draw, MakeRule, MakePatch, MakeSize. No conditions beyond the code's length.
-/
import Derived.Test.YtcicoplmpinnmaaDoorMkA
import Derived.Test.YtcicoplmpinnmaaDoorPat
import Derived.Test.YtcicoplmpinnmaaDoorBytes
import Derived.Test.YtcicoplmpinnmaaDoorIns
namespace Go.Proofs.YtcicoplmpinnmaaDoor
open Go.RowKit

/-- the world cut to its first n blocks -/
def trunc (w : World) (n : Nat) : World := { w with heap := w.heap.extract 0 n }
theorem trunc_size (w : World) {n : Nat} (h : n ≤ w.heap.size) : (trunc w n).heap.size = n := by simp [trunc]; omega
theorem trunc_below (w : World) {n : Nat} (h : n ≤ w.heap.size) : Below n (trunc w n) w :=
  ⟨rfl, rfl, rfl, by rw [trunc_size w h]; exact h, fun k hk => by
    simp only [trunc]
    rw [Array.getElem?_extract]
    simp
    omega⟩
/-- a row of the call's own beside the cursor in block g -/
def GOwn (w0 w : World) (g : Nat) (e : TypeId) (A : Option Addr) (n c : Nat) (xs : List Value) : Prop :=
  w.ownsRow w0.heap.size e 1 (.slice A n c) n xs ∧ TurnG w0 w g ∧ CurAt w g
section
variable {w0 w w' : World} {g : Nat} {e : TypeId} {A A' : Option Addr} {n c n' c' : Nat} {xs ys : List Value}
theorem GOwn.own (h : GOwn w0 w g e A n c xs) : Own (trunc w w0.heap.size) w e A n c xs := by
  have hs := trunc_size w h.2.1.size
  refine ⟨by rw [hs]; exact h.1, ?_⟩
  rw [hs]
  exact trunc_below w h.2.1.size
theorem GOwn.after (h : GOwn w0 w g e A n c xs) (hg : g < w0.heap.size) (ho : Own (trunc w w0.heap.size) w' e A' n' c' ys) : GOwn w0 w' g e A' n' c' ys := by
  have hs := trunc_size w h.2.1.size
  obtain ⟨h1, h2⟩ := ho
  rw [hs] at h1 h2
  have hbl : ∀ k, k < w0.heap.size → w'.heap[k]? = w.heap[k]? := fun k hk => by
    rw [h2.block k hk, (trunc_below w h.2.1.size).block k hk]
  refine ⟨h1, ⟨?_, ?_, ?_, ?_, fun k hk hne => ?_⟩, ?_⟩
  · exact h2.os.trans h.2.1.os
  · exact h2.tape.trans h.2.1.tape
  · exact h2.output.trans h.2.1.output
  · have := h2.size; rw [hs] at this; exact this
  · rw [hbl k hk]; exact h.2.1.block k hk hne
  · obtain ⟨B, m, d, l, i, hh, hr, h3, h4⟩ := h.2.2
    refine ⟨B, m, d, l, i, hh, ?_, h3.keep fun p hp => ?_, h4⟩
    · refine ⟨hr.1, ?_⟩
      rcases hr.2 with ⟨hv, _⟩ | ⟨g1, cap, cur, hv, hb, hh1, r⟩
      · cases hv
      · simp only [Value.slice.injEq, Option.some.injEq, Addr.mk.injEq, and_true, true_and] at hv
        obtain ⟨rfl, rfl⟩ := hv
        exact Or.inr ⟨_, _, cur, rfl, hb, by rw [hbl _ hg]; exact hh1, r⟩
    · have hb := hbl p.block (by omega)
      unfold World.cell?
      rw [hb]
theorem GOwn.turn (h : GOwn w0 w g e A n c xs) (hg : g < w0.heap.size) (ht : TurnG w w' g) (hc : CurAt w' g) : GOwn w0 w' g e A n c xs := by
  refine ⟨h.1.kept ht ?_, h.2.1.trans ht, hc⟩
  cases hb : (Value.slice A n c).ownBlock with
  | none => exact Or.inl rfl
  | some k =>
    right
    have := (own_blk_lt h.1 k hb).1
    intro h2; injection h2 with h2; omega
theorem GOwn.start (hc : CurAt w g) (ht : TurnG w0 w g) (hs : w0.heap.size ≤ w.heap.size) (e : TypeId) : GOwn w0 (w.alloc (.cells #[] e)) g e (some ⟨w.heap.size, 0, none⟩) 0 0 [] :=
  ⟨World.ownsRow_made w #[] 0 hs (by simp) (by simp), ht.trans (TurnG.of ((Below.refl _ _).alloc (Nat.le_refl _) _)), hc.later ((Below.refl _ _).alloc (Nat.le_refl _) _)⟩
end

def wordK (k : Nat) (s : List UInt8) : Prop := ∀ c ∈ s, 97 ≤ c.toNat ∧ c.toNat < 97 + k
def WordN (n k : Nat) (w : World) (g : Nat) (e : Ending) (w' : World) : Prop := ∃ s : List UInt8, e = .returned (.string ⟨s.toArray⟩) ∧ s.length = n ∧ wordK k s ∧ CurAt w' g ∧ TurnG w w' g
set_option maxHeartbeats 1600000 in
theorem l02Word_any (g : Nat) (n k : Nat) (w : World) (hn : n ≤ 1024) (hk0 : 1 ≤ k) (hk : k ≤ 100) (h : CurAt w g) :
    Calls Tryd.prog 41 #[.pointer (some ⟨g, 0, none⟩), .int .i64 (n : Int), .int .i64 (k : Int)] w (WordN n k w g) := by
  have hg := h.lt
  have H := Lib.hid h
  clear h
  go_enter Tryd.func41, Tryd.ntmps41
  go_wp2
  go_loopw [8, 7] (fun i out wr => ∃ (j : Nat) (A : Option Addr) (c : Nat) (s : List UInt8), j ≤ n ∧ i = .int .i64 j ∧ out = .slice A j c ∧ wordK k s ∧ s.length = j ∧ GOwn w wr g 5 A j c (bvs s)) (fun i _ _ => n - (intOf i).toNat)
  case atStart => exact ⟨0, _, _, [], Nat.zero_le _, rfl, rfl, (fun c hc => by cases hc), rfl, GOwn.start H.out TurnG.same (Nat.le_refl _) _⟩
  case round =>
    obtain ⟨j, A, c, s, hj, rfl, rfl, hs, hsl, hown⟩ := hrel
    have HO := Lib.hid hown
    have HS := Lib.hid hs
    have HSL := Lib.hid hsl
    clear hown hs hsl
    by_cases hlt : j < n
    · go_wp2_with fail
      refine (l01Below_any g k _ (by omega) HO.out.2.2).mono ?_
      rintro e w2 ⟨v, rfl, hv0, hv1, hv2, hc2, ht2⟩
      have hvk := hv1 (by omega)
      obtain ⟨v, rfl⟩ := Int.eq_ofNat_of_zero_le hv0
      have hG := HO.out.turn hg ht2 hc2
      have HG := Lib.hid hG
      have hown := hG.own
      obtain ⟨L, hL⟩ : ∃ L : UInt8, (L.toNat : Int) = 97 + (v : Int) := ⟨UInt8.ofNat (97 + v), by simp; omega⟩
      have hcv := fun W => conv_u8 _ _ hL W
      have HS2 := Lib.hid (show wordK k (s ++ [L]) from fun c hc => by
        rcases List.mem_append.1 hc with hc | hc
        · exact HS.out c hc
        · simp at hc; subst hc; omega)
      clear hG hc2 ht2 hv1 hv2 hL
      go_wp2_with (at_builtin; refine app_one (.tmp 15) (.tmp 21) _ _ _ 1 rfl rfl Tryd.underlying22 infoB rfl rfl hown rfl rfl (by omega) (by omega) ?_; intro A' c' w3 hown3)
      exact ⟨⟨j + 1, A', c', s ++ [L], by omega, by go_num, rfl, HS2.out, by simp [HSL.out], by rw [bvs_snoc]; exact HG.out.after hg hown3⟩, by simp [intOf]; omega⟩
    · obtain rfl : j = n := by omega
      have hconv := conv_bytes (P := Tryd.prog) 22 9 5 Tryd.underlying22 Tryd.underlying5 Tryd.underlying9 HO.out.own.rd (c := c)
      go_wp2
      go_ret
      exact ⟨s, rfl, HSL.out, HS.out, HO.out.2.2, HO.out.2.1⟩
end Go.Proofs.YtcicoplmpinnmaaDoor
