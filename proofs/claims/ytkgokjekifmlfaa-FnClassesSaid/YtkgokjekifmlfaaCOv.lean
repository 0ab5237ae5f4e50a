/-
  Contracts of isPower, hasPower, IsOverlapFree, flip and MakeNum. Condition: words of at most 400 letters.
-/
import Derived.Test.YtkgokjekifmlfaaCLaw
import Derived.Test.YtkgokjekifmlfaaMkA
import Derived.Test.YtkgokjekifmlfaaBytes
import Derived.Lib.OthersKept
import Derived.Laws.RangeString
import Derived.IntWalk
namespace Go.Proofs.Ytkgokjekifmlfaa
open Go.RowKit

theorem range_all_snocC (f : Nat → Bool) (k : Nat) : (List.range (k + 1)).all f = ((List.range k).all f && f k) := by rw [List.range_succ, List.all_append]; simp
theorem range_all_badC {f : Nat → Bool} {k n : Nat} (hk : k < n) (h : f k = false) : (List.range n).all f = false := by
  rw [List.all_eq_false]; exact ⟨k, List.mem_range.2 hk, by simp [h]⟩
theorem range_any_snocC (f : Nat → Bool) (k : Nat) : (List.range (k + 1)).any f = ((List.range k).any f || f k) := by rw [List.range_succ, List.any_append]; simp
theorem range_any_hitC {f : Nat → Bool} {k n : Nat} (hk : k < n) (h : f k = true) : (List.range n).any f = true := by
  rw [List.any_eq_true]; exact ⟨k, List.mem_range.2 hk, h⟩
theorem getD_atC {l : List UInt8} {x : Nat} (h : x < l.length) : l.getD x 0 = l[x] := by simp [List.getD, List.getElem?_eq_getElem h]
theorem isPow_step {l : List UInt8} {m p : Nat} (h1 : m < l.length) (h2 : m + p < l.length) : (l.getD m 0 == l.getD (m + p) 0) = !((l[m].toNat : Int) != (l[m + p].toNat : Int)) := by
  rw [getD_atC h1, getD_atC h2]
  by_cases h : l[m] = l[m + p]
  · simp [h]
  · have : l[m].toNat ≠ l[m + p].toNat := fun e => h (UInt8.toNat_inj.1 e)
    have h3 : ((l[m].toNat : Int) != (l[m + p].toNat : Int)) = true := by simp; omega
    rw [h3, beq_eq_false_iff_ne.2 h]; rfl

set_option maxHeartbeats 800000 in
theorem isPower_any (l : List UInt8) (a n p : Nat) (hl : l.length ≤ 400) (ha : a ≤ 400) (hn : n ≤ 1000) (hp0 : 1 ≤ p) (hp : p ≤ 1000) (w : World) :
    Calls Try.prog 25 #[.string ⟨l.toArray⟩, .int .i64 (a : Int), .int .i64 (n : Int), .int .i64 (p : Int)] w fun e w' => e = .returned (.bool (isPow l a n p)) ∧ Below w.heap.size w w' := by
  by_cases hb : a + n ≤ l.length
  case neg =>
    have HE := Lib.hid (show false = isPow l a n p by unfold isPow; rw [decide_eq_false hb]; rfl)
    go_enter Try.func25, Try.ntmps25
    go_wp2
    go_ret
    exact ⟨ret_bool HE.out, Below.refl _ _⟩
  case pos =>
  have HE := Lib.hid (show ((List.range (n - p)).all fun j => l.getD (a + j) 0 == l.getD (a + j + p) 0) = isPow l a n p by unfold isPow; rw [decide_eq_true hb]; rfl)
  go_enter Try.func25, Try.ntmps25
  go_wp2
  go_loopw [9] (fun i wr => ∃ m : Nat, a ≤ m ∧ m ≤ a + (n - p) ∧ i = .int .i64 m ∧ ((List.range (m - a)).all fun j => l.getD (a + j) 0 == l.getD (a + j + p) 0) = true ∧ Below w.heap.size w wr) (fun i _ => a + n - (intOf i).toNat)
  case atStart => exact ⟨a, Nat.le_refl _, by omega, rfl, by rw [Nat.sub_self]; rfl, Below.refl _ _⟩
  case round =>
    obtain ⟨m, ham, hm, rfl, hall, hbel⟩ := hrel
    have HA := Lib.hid hall
    clear hall
    by_cases hlt : m + p < a + n
    · have h1 : m < l.length := by omega
      have h2 : m + p < l.length := by omega
      have HSN := Lib.hid (range_all_snocC (fun j => l.getD (a + j) 0 == l.getD (a + j + p) 0) (m - a))
      have HST := Lib.hid (isPow_step (l := l) (m := m) (p := p) h1 h2)
      have HMA := Lib.hid (show a + (m - a) = m by omega)
      have HM1 := Lib.hid (show m - a + 1 = m + 1 - a by omega)
      have e1 : IntKind.i64.wrap ((m : Int) + (p : Int)) = (m : Int) + (p : Int) := IntWalk.i64_in _ (by omega)
      have e2 : (0 : Int) ≤ (m : Int) + (p : Int) := by omega
      have e3 : ((m : Int) + (p : Int)).toNat = m + p := by omega
      have e4 : (m : Int) + (p : Int) < (l.length : Int) := by omega
      have e5 : (m : Int) < (l.length : Int) := by omega
      obtain ⟨x, hx⟩ : ∃ x, x = l[m] := ⟨_, rfl⟩
      obtain ⟨y, hy⟩ : ∃ y, y = l[m + p] := ⟨_, rfl⟩
      rw [← hx, ← hy] at HST
      cases hne : ((l[m].toNat : Int) != (l[m + p].toNat : Int))
      · have HN := Lib.hid (show ((List.range (m + 1 - a)).all fun j => l.getD (a + j) 0 == l.getD (a + j + p) 0) = true by
          rw [← HM1.out, HSN.out, HA.out, HMA.out, HST.out, hx, hy, hne]; rfl)
        clear hx hy
        go_wp2
        go_quiet (fail)
        clear e1
        go_wp2
        exact ⟨⟨m + 1, by omega, by omega, by go_num, HN.out, below_drewN hbel nq⟩, by simp [intOf]; omega⟩
      · have HN := Lib.hid (show false = isPow l a n p by
          rw [← HE.out]; exact (range_all_badC (k := m - a) (by omega) (by rw [HMA.out, HST.out, hx, hy, hne]; rfl)).symm)
        clear hx hy
        go_wp2
        go_quiet (fail)
        clear e1
        go_wp2
        go_ret
        exact ⟨ret_bool HN.out, below_drewN hbel nq⟩
    · have HN := Lib.hid (show true = isPow l a n p by
        rw [← HE.out]
        by_cases hpn : p ≤ n
        · rw [show n - p = m - a by omega]; exact HA.out.symm
        · rw [show n - p = 0 by omega]; rfl)
      go_wp2
      go_ret
      exact ⟨ret_bool HN.out, hbel⟩

/-- what an iterator over a string has yet to give -/
def leftOf (w : World) (k n : Nat) : Nat := match w.heap[k]? with | some (.stringIter _ q) => n - q | _ => 0
theorem leftOf_at {w : World} {k n q : Nat} {s : ByteArray} (h : w.heap[k]? = some (.stringIter s q)) : leftOf w k n = n - q := by unfold leftOf; rw [h]
set_option maxHeartbeats 1600000 in
theorem hasPower_any (l : List UInt8) (hw : isW l = true) (W : World) :
    Calls Try.prog 23 #[.string ⟨l.toArray⟩, .int .i64 2, .int .i64 1] W fun e w' => e = .returned (.bool (hasPow l l.length)) ∧ Below W.heap.size W w' := by
  have hl := isW_len hw
  have HLET := Lib.hid (isW_all hw)
  clear hw
  obtain ⟨L, hL⟩ : ∃ L : Nat, L = l.length := ⟨_, rfl⟩
  have HL := Lib.hid hL
  clear hL
  go_enter Try.func23, Try.ntmps23
  go_wp2
  go_loopw [7] (fun i wr => ∃ q : Nat, q ≤ 200 ∧ i = .int .i64 ((q + 1 : Nat) : Int) ∧ hasPow l q = false ∧ Below W.heap.size W wr) (fun i _ => 202 - (intOf i).toNat)
  case atStart => exact ⟨0, by omega, rfl, rfl, Below.refl _ _⟩
  case round =>
    obtain ⟨q, hq, rfl, hno, hbel⟩ := hrel
    have HNO := Lib.hid hno
    clear hno
    obtain ⟨d, hd⟩ : ∃ d : Nat, d = q + 1 := ⟨_, rfl⟩
    have HD := Lib.hid hd
    rw [← hd]
    have hd1 : 1 ≤ d := by omega
    have hd2 : d ≤ 201 := by omega
    clear hd
    by_cases hlt : 2 * d + 1 ≤ l.length
    · have hq2 : d ≤ 200 := by omega
      obtain ⟨wo, hwo⟩ : ∃ wo : World, wo = wr := ⟨_, rfl⟩
      have HIT := Lib.hid (World.iter_heap wr ⟨l.toArray⟩ 0)
      have hbel2 : Below W.heap.size W (wr.iter ⟨l.toArray⟩ 0) := hbel.alloc hbel.size _
      have hsz : W.heap.size ≤ wr.heap.size := hbel.size
      have dd : decide (2 * (d : Int) + 1 ≤ (l.length : Int)) = true := by simp; omega
      rw [← hwo]
      rw [← hwo] at HIT hbel2 hsz
      clear hwo
      go_wp2
      go_loopw [8] (fun _ w2 => ∃ k : Nat, k ≤ l.length ∧ powAt l (2 * d + 1) d k = false ∧ w2.heap[wo.heap.size]? = some (.stringIter ⟨l.toArray⟩ k) ∧ Below W.heap.size W w2) (fun _ w2 => leftOf w2 wo.heap.size l.length)
      case atStart => exact ⟨0, Nat.zero_le _, rfl, HIT.out, hbel2⟩
      case round =>
        obtain ⟨k, hk, hno, hit, hb2⟩ := hrel
        have HI := Lib.hid hit
        have HNK := Lib.hid hno
        clear hit hno HIT hbel2
        by_cases hkl : k < l.length
        · have hlx := isLet_bd (List.all_eq_true.1 HLET.out _ (List.getElem_mem hkl))
          have hnx : ∀ ty, (Instr.next (.pointer (some ⟨wo.heap.size, 0, none⟩)) true ty).run Try.prog wr = _ := fun ty => Lib.run_next_ascii_at wr wo.heap.size ⟨l.toArray⟩ k ty HI.out hkl (show l[k].toNat < 128 by omega)
          have HI1 := Lib.hid (Lib.iterAt_heap wr wo.heap.size ⟨l.toArray⟩ k (k + 1) HI.out)
          have hb3 := Lib.below_iterAt hb2 hsz ⟨l.toArray⟩ (k + 1)
          have HSN := Lib.hid (range_any_snocC (fun a => isPow l a (2 * d + 1) d) k)
          obtain ⟨w3, hw3⟩ : ∃ w3, w3 = wr.iterAt wo.heap.size ⟨l.toArray⟩ (k + 1) := ⟨_, rfl⟩
          rw [← hw3] at hnx HI1 hb3
          clear hw3
          have hcon := isPower_any l k (2 * d + 1) d hl (by omega) (by omega) hd1 (by omega) w3
          have ex : ((2 * d + 1 : Nat) : Int) = 2 * (d : Int) + 1 := by omega
          rw [ex] at hcon
          clear ex
          cases hp : isPow l k (2 * d + 1) d
          · rw [hp] at hcon
            have HC := Lib.hid hcon
            have HN := Lib.hid (show powAt l (2 * d + 1) d (k + 1) = false by unfold powAt; rw [HSN.out, hp, Bool.or_false]; exact HNK.out)
            clear hcon hp
            go_wp2_with (go_at_call 25; refine HC.out.mono ?_; rintro e w4 ⟨rfl, hb4⟩)
            have HI4 := (hb4.block wo.heap.size (Array.getElem?_eq_some_iff.1 HI1.out).1).trans HI1.out
            exact ⟨⟨k + 1, by omega, HN.out, HI4, hb3.trans (hb4.mono hb3.size)⟩, by rw [leftOf_at HI4, leftOf_at HI.out]; omega⟩
          · rw [hp] at hcon
            have HC := Lib.hid hcon
            have HN := Lib.hid (show true = hasPow l l.length by
              refine (range_any_hitC (k := q) (by have := HD.out; omega) ?_).symm
              rw [← HD.out, decide_eq_true hlt]
              exact range_any_hitC hkl hp)
            clear hcon hp
            go_wp2_with (go_at_call 25; refine HC.out.mono ?_; rintro e w4 ⟨rfl, hb4⟩)
            go_ret
            exact ⟨ret_bool HN.out, hb3.trans (hb4.mono hb3.size)⟩
        · have hnx : ∀ ty, (Instr.next (.pointer (some ⟨wo.heap.size, 0, none⟩)) true ty).run Try.prog wr = _ := fun ty => Lib.run_next_end_at wr wo.heap.size ⟨l.toArray⟩ k ty HI.out hkl
          have HN := Lib.hid (show hasPow l (q + 1) = false by
            have h1 : k = l.length := by omega
            have h2 := HNK.out
            rw [h1, HD.out] at h2
            unfold hasPow
            rw [range_any_snocC]
            have h3 := HNO.out
            unfold hasPow at h3
            rw [h3, h2]; simp)
          have hdi : (d : Int) + 1 = ((q + 1 + 1 : Nat) : Int) := by have := HD.out; omega
          have HDI := Lib.hid hdi
          clear hdi
          go_wp2
          exact ⟨⟨q + 1, by have := HD.out; omega, by rw [HDI.out], HN.out, hb2⟩, by have := HD.out; simp [intOf]; omega⟩
    · have HN := Lib.hid (show false = hasPow l l.length by
        symm
        unfold hasPow
        rw [List.any_eq_false]
        intro j hj
        by_cases hjq : j < q
        · have h1 := HNO.out
          unfold hasPow at h1
          rw [List.any_eq_false] at h1
          exact h1 j (List.mem_range.2 hjq)
        · have := HD.out
          rw [decide_eq_false (show ¬ 2 * (j + 1) + 1 ≤ l.length by omega)]; simp)
      go_wp2
      go_ret
      exact ⟨ret_bool HN.out, hbel⟩
set_option maxHeartbeats 400000 in
theorem ovFree_any (l : List UInt8) (hl : l.length ≤ 9223372036854775807) (w : World) : Calls Try.prog 13 #[.string ⟨l.toArray⟩] w fun e w' => e = .returned (.bool (ovFree l)) ∧ Below w.heap.size w w' := by
  cases h1 : isW l
  · have HE := Lib.hid (show false = ovFree l by unfold ovFree; rw [h1]; rfl)
    have hcw := isWord_any l hl w
    rw [h1] at hcw
    have HC := Lib.hid hcw
    clear hcw h1
    go_enter Try.func13, Try.ntmps13
    go_wp2_with (go_at_call 22; refine HC.out.mono ?_; rintro e w' ⟨rfl, rfl⟩)
    go_ret
    exact ⟨ret_bool HE.out, Below.refl _ _⟩
  · have hcw := isWord_any l hl w
    rw [h1] at hcw
    have HC := Lib.hid hcw
    have hch := hasPower_any l h1 w
    cases h2 : hasPow l l.length
    all_goals
      rw [h2] at hch
      have HC2 := Lib.hid hch
      have he : (!hasPow l l.length) = ovFree l := by unfold ovFree; rw [h1]; rfl
      rw [h2] at he
      have HE := Lib.hid he
      clear hcw hch h1 h2 he
      go_enter Try.func13, Try.ntmps13
      go_wp2_with (first | (go_at_call 22; refine HC.out.mono ?_; rintro e w' ⟨rfl, rfl⟩) | (go_at_call 23; refine HC2.out.mono ?_; rintro e w' ⟨rfl, hb⟩))
      go_ret
      exact ⟨ret_bool HE.out, hb⟩
theorem rev_snoc (l : List UInt8) {k : Nat} (h : k < l.length) : l.reverse.take (l.length - k) = l.reverse.take (l.length - (k + 1)) ++ [l[k]] := by
  have h1 : l.length - (k + 1) < l.reverse.length := by rw [List.length_reverse]; omega
  have e : l.length - k = l.length - (k + 1) + 1 := by omega
  rw [e, take_snoc _ _ h1, List.getElem_reverse]
  have e2 : l.length - 1 - (l.length - (k + 1)) = k := by omega
  simp only [e2]
set_option maxHeartbeats 400000 in
theorem flip_any (l : List UInt8) (hl : l.length ≤ 1048576) (w : World) : Calls Try.prog 14 #[.string ⟨l.toArray⟩] w fun e w' => e = .returned (.string ⟨l.reverse.toArray⟩) ∧ Below w.heap.size w w' := by
  go_enter Try.func14, Try.ntmps14
  go_wp2
  go_loopw [4, 3] (fun i row wr => ∃ (k : Nat) (R : Option Addr) (n d : Nat), k ≤ l.length ∧ n = l.length - k ∧ i = .int .i64 ((k : Int) - 1) ∧ row = .slice R n d ∧ Own w wr 5 R n d (bvs (l.reverse.take (l.length - k)))) (fun i _ _ => (intOf i + 1).toNat)
  case atStart => exact ⟨l.length, _, _, _, Nat.le_refl _, by omega, rfl, rfl, by rw [Nat.sub_self]; exact Own.made0 (Below.refl _ _) _⟩
  case round =>
    obtain ⟨k, R, n, d, hk, hn, rfl, rfl, hrow⟩ := hrel
    have HN := Lib.hid hn
    have HR := Lib.hid hrow
    have hn2 : n ≤ 1048576 := by omega
    clear hn hrow
    by_cases hlt : 0 < k
    · obtain ⟨m, hm⟩ : ∃ m, m = k - 1 := ⟨_, rfl⟩
      obtain rfl : k = m + 1 := by omega
      have hml : m < l.length := by omega
      have hm1 : ((m + 1 : Nat) : Int) - 1 = (m : Int) := by omega
      rw [hm1]
      have HS := Lib.hid (rev_snoc l hml)
      clear hm hm1 hlt
      go_wp2_with (at_builtin; refine app_one (.tmp 13) (.tmp 17) _ _ _ 1 rfl rfl Try.underlying22 infoB rfl rfl HR.out rfl rfl (by omega) (by omega) ?_; intro R' d' w2 hrow1)
      exact ⟨⟨m, R', n + 1, d', by omega, by have := HN.out; omega, by go_num, rfl, by rw [HS.out, bvs_snoc]; exact hrow1⟩, by simp [intOf]⟩
    · obtain rfl : k = 0 := by omega
      have hrow2 := HR.out
      rw [Nat.sub_zero, List.take_of_length_le (by simp)] at hrow2
      have hconv := conv_bytes (P := Try.prog) (c := d) 22 9 5 Try.underlying22 Try.underlying5 Try.underlying9 hrow2.rd
      go_wp2
      go_ret
      exact ⟨rfl, hrow2.2⟩
def NumR (W : World) (e : Ending) (w' : World) : Prop := ∃ v : Nat, e = .returned (.int .i64 (v : Int)) ∧ v ≤ 65535 ∧ Below W.heap.size W w'
set_option maxHeartbeats 400000 in
theorem MakeNum_any (A : Option Addr) (n c : Nat) (l : List UInt8) (m : Nat) (W : World) (hr : Rd W W.heap.size A n (bvs l)) (hn : n ≤ 1048576) (hm : m ≤ 100000) :
    Calls Try.prog 10 #[.slice A n c, .int .i64 (m : Int)] W (NumR W) := by
  have HR := Lib.hid hr
  clear hr
  go_enter Try.func10, Try.ntmps10
  go_wp2_with fail
  refine (l31New_any A n c l m W HR.out hn hm).mono ?_
  rintro e w1 ⟨g, rfl, hg, hcur, hb1⟩
  have HC := Lib.hid hcur
  clear hcur
  go_wp2_with fail
  refine (l01Byte_any g _ HC.out).mono ?_
  rintro e w2 ⟨v1, rfl, h1, h2, hcur2, ht2⟩
  have HC2 := Lib.hid hcur2
  have HT2 := Lib.hid ht2
  clear hcur2 ht2
  go_wp2_with fail
  refine (l01Byte_any g _ HC2.out).mono ?_
  rintro e w3 ⟨v2, rfl, h3, h4, hcur3, ht3⟩
  have HT3 := Lib.hid ht3
  clear hcur3 ht3
  go_wp2
  go_ret
  exact ⟨(v1 * 256 + v2).toNat, ret_int (by omega), by omega, below_turn hb1 (HT2.out.trans HT3.out) hg⟩
end Go.Proofs.Ytkgokjekifmlfaa
