/-
  Contracts of ApplyBlocks (program and reference) and l21Apply. No conditions.
-/
import Derived.Test.YtbjhjpakjinpiaaBLaws1
import Derived.Test.YtbjhjpakjinpiaaTwo
import Derived.Test.YtbjhjpakjinpiaaBytes
import Derived.Deep.RegionHeld3
namespace Go.Proofs.Ytbjhjpakjinpiaa
open Go.RowKit

theorem four {r : List UInt8} (h : r.length = 4) : ∃ x y z u, r = [x, y, z, u] := by
  match r, h with
  | [x, y, z, u], _ => exact ⟨x, y, z, u, rfl⟩
def blk (b : List (List UInt8)) (c : UInt8) : List UInt8 := b.getD (c.toNat - 97) []
def upW (b : List (List UInt8)) (r : List UInt8) : List UInt8 := r.flatMap fun c => (blk b c).take 2
def lowW (b : List (List UInt8)) (r : List UInt8) : List UInt8 := r.flatMap fun c => (blk b c).drop 2
def applyB (b p : List (List UInt8)) : List (List UInt8) := p.flatMap fun r => [upW b r, lowW b r]
def apOk (b p : List (List UInt8)) : Bool := rOk b && (pOk p && (p.all (hasB b.length) && (decide (2 * p.length ≤ 32) && decide (2 * wd p ≤ 32))))
def applyBlocks (b p : List (List UInt8)) : List (List UInt8) × Bool := if apOk b p then (applyB b p, true) else ([], false)

theorem flat_snoc {α β : Type} (l : List α) (f : α → List β) {k : Nat} (h : k < l.length) : (l.take (k + 1)).flatMap f = (l.take k).flatMap f ++ f l[k] := by
  rw [take_snoc l k h, List.flatMap_append]; simp
theorem applyB_len (b p : List (List UInt8)) : (applyB b p).length = 2 * p.length := by
  induction p with
  | nil => rfl
  | cons r p ih => unfold applyB at ih ⊢; rw [List.flatMap_cons, List.length_append, ih]; simp; omega
theorem applyBlocks_len (b p : List (List UInt8)) : (applyBlocks b p).1.length ≤ 4096 := by
  unfold applyBlocks
  split
  · rename_i h
    simp only [apOk, Bool.and_eq_true, decide_eq_true_eq] at h
    show (applyB b p).length ≤ 4096
    rw [applyB_len]; omega
  · simp
theorem blk_eq {b : List (List UInt8)} {c : UInt8} (h : c.toNat - 97 < b.length) : blk b c = b[c.toNat - 97] := by simp [blk, List.getD, List.getElem?_eq_getElem h]

/-- rows that a rule can be applied to -/
def Fit (b : List (List UInt8)) (r : List UInt8) : Prop := r.all isLet = true ∧ hasB b.length r = true
theorem hasB_at {n : Nat} {l : List UInt8} (h : hasB n l = true) {k : Nat} (hk : k < l.length) : l[k].toNat - 97 < n := by
  have := List.all_eq_true.1 h _ (List.getElem_mem hk)
  simpa using this
theorem flat_len {l : List UInt8} {f : UInt8 → List UInt8} {m : Nat} (h : ∀ c ∈ l, (f c).length = m) : (l.flatMap f).length = m * l.length := by
  induction l with
  | nil => simp
  | cons a l ih =>
    rw [List.flatMap_cons, List.length_append, h a (by simp), ih (fun c hc => h c (by simp [hc])), List.length_cons, Nat.mul_add]; omega
theorem blk_mem {b : List (List UInt8)} (hb : rOk b = true) {r : List UInt8} (hr : hasB b.length r = true) {c : UInt8} (hc : c ∈ r) : blk b c ∈ b := by
  have h := List.all_eq_true.1 hr c hc
  have h2 : c.toNat - 97 < b.length := by simpa using h
  rw [blk_eq h2]; exact List.getElem_mem h2
theorem upW_len {b : List (List UInt8)} (hb : rOk b = true) {r : List UInt8} (hr : hasB b.length r = true) : (upW b r).length = 2 * r.length :=
  flat_len fun c hc => by have := (rOk_row hb (blk_mem hb hr hc)).2.1; simp [this]
theorem lowW_len {b : List (List UInt8)} (hb : rOk b = true) {r : List UInt8} (hr : hasB b.length r = true) : (lowW b r).length = 2 * r.length :=
  flat_len fun c hc => by have := (rOk_row hb (blk_mem hb hr hc)).2.1; simp [this]
theorem upW_let {b : List (List UInt8)} (hb : rOk b = true) {r : List UInt8} (hr : hasB b.length r = true) : (upW b r).all isLet = true := by
  rw [List.all_eq_true]
  intro x hx
  obtain ⟨c, hc, hx⟩ := List.mem_flatMap.1 hx
  exact List.all_eq_true.1 (isW_all (rOk_row hb (blk_mem hb hr hc)).1) x (List.mem_of_mem_take hx)
theorem lowW_let {b : List (List UInt8)} (hb : rOk b = true) {r : List UInt8} (hr : hasB b.length r = true) : (lowW b r).all isLet = true := by
  rw [List.all_eq_true]
  intro x hx
  obtain ⟨c, hc, hx⟩ := List.mem_flatMap.1 hx
  exact List.all_eq_true.1 (isW_all (rOk_row hb (blk_mem hb hr hc)).1) x (List.mem_of_mem_drop hx)
theorem upW_has {b : List (List UInt8)} (hb : rOk b = true) {r : List UInt8} (hr : hasB b.length r = true) : hasB b.length (upW b r) = true := by
  unfold hasB
  rw [List.all_eq_true]
  intro x hx
  obtain ⟨c, hc, hx⟩ := List.mem_flatMap.1 hx
  exact List.all_eq_true.1 (rOk_row hb (blk_mem hb hr hc)).2.2 x (List.mem_of_mem_take hx)
theorem lowW_has {b : List (List UInt8)} (hb : rOk b = true) {r : List UInt8} (hr : hasB b.length r = true) : hasB b.length (lowW b r) = true := by
  unfold hasB
  rw [List.all_eq_true]
  intro x hx
  obtain ⟨c, hc, hx⟩ := List.mem_flatMap.1 hx
  exact List.all_eq_true.1 (rOk_row hb (blk_mem hb hr hc)).2.2 x (List.mem_of_mem_drop hx)
theorem applyB_fit {b p : List (List UInt8)} (hb : rOk b = true) (hp : ∀ r ∈ p, hasB b.length r = true) : ∀ l ∈ applyB b p, Fit b l := by
  intro l hl
  obtain ⟨r, hr, hl⟩ := List.mem_flatMap.1 hl
  have h := hp r hr
  simp only [List.mem_cons, List.mem_nil_iff, or_false] at hl
  rcases hl with rfl | rfl
  · exact ⟨upW_let hb h, upW_has hb h⟩
  · exact ⟨lowW_let hb h, lowW_has hb h⟩
theorem applyB_row {b p : List (List UInt8)} {m : Nat} (hb : rOk b = true) (hp : ∀ r ∈ p, hasB b.length r = true) (hm : ∀ r ∈ p, r.length = m) : ∀ l ∈ applyB b p, l.length = 2 * m := by
  intro l hl
  obtain ⟨r, hr, hl⟩ := List.mem_flatMap.1 hl
  have h := hp r hr
  simp only [List.mem_cons, List.mem_nil_iff, or_false] at hl
  rcases hl with rfl | rfl
  · rw [upW_len hb h, hm r hr]
  · rw [lowW_len hb h, hm r hr]
theorem pOk_apply {b p : List (List UInt8)} (hb : rOk b = true) (hp : pOk p = true) (hh : p.all (hasB b.length) = true) :
    pOk (applyB b p) = (decide (2 * p.length ≤ 32) && decide (2 * wd p ≤ 32)) := by
  have hpl := pOk_len hp
  have hall : ∀ r ∈ p, hasB b.length r = true := List.all_eq_true.1 hh
  have hrow := applyB_row (m := wd p) hb hall (fun r hr => (pOk_row hp hr).2.1)
  have hfit := applyB_fit hb hall
  have hlen := applyB_len b p
  have hw := pOk_wd hp
  have hwd : wd (applyB b p) = 2 * wd p := by
    rw [wd_zero (by omega)]; exact hrow _ (List.getElem_mem _)
  have h0 : 0 < (applyB b p).length := by omega
  by_cases h1 : 2 * wd p ≤ 32
  · have hA : (applyB b p).all (rowOk (wd (applyB b p))) = true := by
      rw [List.all_eq_true]
      intro l hl
      have hl2 := hrow l hl
      refine rowOk_mk ?_ (wi_mk (by omega) (by omega)) (by rw [hwd]; exact hl2)
      unfold isW
      rw [(hfit l hl).1]
      simp; omega
    unfold pOk
    rw [hA, hlen]
    by_cases h2 : 2 * p.length ≤ 32
    · have := wi_mk (n := ((2 * p.length : Nat) : Int)) (lo := 1) (hi := 32) (by omega) (by omega)
      simp only [this, h1, h2]; rfl
    · have := wi_not (n := ((2 * p.length : Nat) : Int)) (lo := 1) (hi := 32) (by omega)
      simp only [this, h2]; simp
  · have hA : (applyB b p).all (rowOk (wd (applyB b p))) = false := by
      refine all_bad (p := rowOk (wd (applyB b p))) h0 ?_
      have hl2 := hrow _ (List.getElem_mem h0)
      have := wi_not (n := (((applyB b p)[0]).length : Int)) (lo := 1) (hi := 32) (by omega)
      unfold rowOk
      rw [this]; simp
    unfold pOk
    rw [hA]
    simp [h1]

theorem up_snoc (b : List (List UInt8)) (r : List UInt8) {k : Nat} (h : k < r.length) (hj : r[k].toNat - 97 < b.length) {x y z u : UInt8} (hb : [x, y, z, u] = b[r[k].toNat - 97]) :
    upW b (r.take (k + 1)) = upW b (r.take k) ++ [x, y] := by
  unfold upW; rw [flat_snoc r _ h, blk_eq hj, ← hb]; rfl
theorem low_snoc (b : List (List UInt8)) (r : List UInt8) {k : Nat} (h : k < r.length) (hj : r[k].toNat - 97 < b.length) {x y z u : UInt8} (hb : [x, y, z, u] = b[r[k].toNat - 97]) :
    lowW b (r.take (k + 1)) = lowW b (r.take k) ++ [z, u] := by
  unfold lowW; rw [flat_snoc r _ h, blk_eq hj, ← hb]; rfl
theorem ap_snoc (b p : List (List UInt8)) {k : Nat} (h : k < p.length) : applyB b (p.take (k + 1)) = applyB b (p.take k) ++ [upW b p[k], lowW b p[k]] := flat_snoc p _ h
theorem svs_two (ss : List (List UInt8)) (a b : List UInt8) : svs (ss ++ [a, b]) = svs ss ++ [.string ⟨a.toArray⟩, .string ⟨b.toArray⟩] := by simp [svs]
theorem bvs_two (l : List UInt8) (a b : UInt8) : bvs (l ++ [a, b]) = bvs l ++ [.int .u8 (a.toNat : Nat), .int .u8 (b.toNat : Nat)] := by simp [bvs]

set_option maxHeartbeats 1600000 in
theorem cApplyBlocksI (A : Option Addr) (n c : Nat) (b : List (List UInt8)) (A2 : Option Addr) (n2 c2 : Nat) (p : List (List UInt8)) (W : World) (hb : SIn W A n c b) (hp : SIn W A2 n2 c2 p) :
    Calls Try.prog 6 #[.slice A n c, .slice A2 n2 c2] W (RetSB 9 W (applyBlocks b p).1 (applyBlocks b p).2) := by
  have hcb := iRuleOk_any A n c _ b W hb.1 hb.2.1 hb.longs
  have hcp := iPatchOk_any A2 n2 c2 _ p W hp.1 hp.2.1 hp.longs
  have hlenb := Lib.hid hb.1.lenS
  have hlenp := Lib.hid hp.1.lenS
  cases hok : rOk b
  case false =>
    have HE := Lib.hid (show ([], false) = applyBlocks b p by simp [applyBlocks, apOk, hok])
    rw [hok] at hcb
    have HC := Lib.hid hcb
    clear hcb hcp
    go_enter Try.func6, Try.ntmps6
    go_wp2_with (go_at_call 23; refine HC.out.mono ?_; rintro e w' ⟨rfl, rfl⟩)
    go_ret2
    rw [← HE.out]
    exact ⟨_, _, _, rfl, Own.nil (Below.refl _ _) _⟩
  rw [hok] at hcb
  have HCB := Lib.hid hcb
  clear hcb
  cases hpk : pOk p
  case false =>
    have HE := Lib.hid (show ([], false) = applyBlocks b p by simp [applyBlocks, apOk, hpk])
    rw [hpk] at hcp
    have HC := Lib.hid hcp
    clear hcp
    go_enter Try.func6, Try.ntmps6
    go_wp2_with (first | (go_at_call 23; refine HCB.out.mono ?_; rintro e w' ⟨rfl, rfl⟩) | (go_at_call 12; refine HC.out.mono ?_; rintro e w' ⟨rfl, rfl⟩))
    go_ret2
    rw [← HE.out]
    exact ⟨_, _, _, rfl, Own.nil (Below.refl _ _) _⟩
  rw [hpk] at hcp
  have HCP := Lib.hid hcp
  clear hcp
  have hch := haveBlocks_any A n c _ A2 n2 c2 p W hp.1 hb.2.1 hp.2.1 (fun s hs => ⟨isW_all (pOk_row hpk hs).1, by have := pOk_row hpk hs; omega⟩)
  rw [← hlenb.out] at hch
  cases hha : p.all (hasB b.length)
  case false =>
    have HE := Lib.hid (show ([], false) = applyBlocks b p by simp [applyBlocks, apOk, hha])
    rw [hha, hlenb.out] at hch
    have HC := Lib.hid hch
    clear hch
    go_enter Try.func6, Try.ntmps6
    go_wp2_with (first | (go_at_call 23; refine HCB.out.mono ?_; rintro e w' ⟨rfl, rfl⟩) | (go_at_call 12; refine HCP.out.mono ?_; rintro e w' ⟨rfl, rfl⟩) | (go_at_call 24; refine HC.out.mono ?_; rintro e w' ⟨rfl, rfl⟩))
    go_ret2
    rw [← HE.out]
    exact ⟨_, _, _, rfl, Own.nil (Below.refl _ _) _⟩
  rw [hha, hlenb.out] at hch
  have HC := Lib.hid hch
  clear hch
  have hbl := rOk_len hok
  have hpl := pOk_len hpk
  have hn4 : n ≤ 4 := by have := hlenb.out; omega
  have hn32 : n2 ≤ 32 := by have := hlenp.out; omega
  have HOK := Lib.hid hok
  have HPK := Lib.hid hpk
  have HHA := Lib.hid (show ∀ r ∈ p, hasB b.length r = true from List.all_eq_true.1 hha)
  have HPA := Lib.hid (pOk_apply hok hpk hha)
  have HE := Lib.hid (show (if pOk (applyB b p) then (applyB b p, true) else ([], false)) = applyBlocks b p by rw [HPA.out]; simp [applyBlocks, apOk, hok, hpk, hha])
  have HB := Lib.hid hb
  have HP := Lib.hid hp
  clear hok hpk hha hb hp
  go_enter Try.func6, Try.ntmps6
  go_wp2_with (first | (go_at_call 23; refine HCB.out.mono ?_; rintro e w' ⟨rfl, rfl⟩) | (go_at_call 12; refine HCP.out.mono ?_; rintro e w' ⟨rfl, rfl⟩) | (go_at_call 24; refine HC.out.mono ?_; rintro e w' ⟨rfl, rfl⟩))
  go_loopw [30, 6] (fun i out wr => ∃ (k : Nat) (A' : Option Addr) (c' : Nat), k ≤ n2 ∧ i = .int .i64 k ∧ out = .slice A' (2 * k) c' ∧ Own W wr 9 A' (2 * k) c' (svs (applyB b (p.take k)))) (fun i _ _ => n2 - (intOf i).toNat)
  case atStart => exact ⟨0, _, _, Nat.zero_le _, rfl, rfl, Own.made0 (Below.refl _ _) _⟩
  case round =>
    obtain ⟨k, A', c', hk, rfl, rfl, hown⟩ := hrel
    by_cases hlt : k < n2
    · have hkl : k < p.length := by rw [hlenp.out]; exact hlt
      obtain ⟨a, rfl, _, hcell⟩ := (HP.out.1.below hown.2).str (k := k) hkl
      have hr := pOk_row HPK.out (List.getElem_mem hkl)
      have hhr := HHA.out _ (List.getElem_mem hkl)
      have HS := Lib.hid (ap_snoc b p hkl)
      obtain ⟨r, hre⟩ : ∃ r, r = p[k] := ⟨_, rfl⟩
      rw [← hre] at hcell hr hhr HS
      clear hre
      have hrl : r.length ≤ 32 := by omega
      have HW := Lib.hid (isW_all hr.1)
      have HH := Lib.hid hhr
      clear hr hhr
      go_wp2
      go_loopw [36, 9, 10] (fun i up low wr2 => ∃ j : Nat, j ≤ r.length ∧ i = .int .i64 j ∧ up = .string ⟨(upW b (r.take j)).toArray⟩ ∧ low = .string ⟨(lowW b (r.take j)).toArray⟩ ∧ Own W wr2 9 A' (2 * k) c' (svs (applyB b (p.take k)))) (fun i _ _ _ => r.length - (intOf i).toNat)
      case atStart => exact ⟨0, Nat.zero_le _, rfl, rfl, rfl, hown⟩
      case round =>
        clear hcell
        obtain ⟨j, hj, rfl, rfl, rfl, hown1⟩ := hrel
        by_cases hjl : j < r.length
        · have hbd := let_at HW.out hjl
          have hjb := hasB_at HH.out hjl
          obtain ⟨a2, rfl, _, hcell2⟩ := (HB.out.1.below hown1.2).str (k := r[j].toNat - 97) hjb
          have hq4 := (rOk_row HOK.out (List.getElem_mem hjb)).2.1
          obtain ⟨q, hq⟩ : ∃ q, q = b[r[j].toNat - 97] := ⟨_, rfl⟩
          rw [← hq] at hcell2 hq4
          obtain ⟨x, y, z, u, rfl⟩ := four hq4
          have HU := Lib.hid (up_snoc b r hjl hjb hq)
          have HL := Lib.hid (low_snoc b r hjl hjb hq)
          have hlb := hlenb.out
          have htk : hasB b.length (r.take j) = true := by
            have h := HH.out
            unfold hasB at h ⊢
            rw [List.all_eq_true] at h ⊢
            exact fun x hx => h x (List.mem_of_mem_take hx)
          have hul : (upW b (r.take j)).length = 2 * j := by rw [upW_len HOK.out htk, List.length_take]; omega
          have hll : (lowW b (r.take j)).length = 2 * j := by rw [lowW_len HOK.out htk, List.length_take]; omega
          have hlim : ¬ 9223372036854775807 < 2 * j + 2 := by omega
          clear hq hq4 htk
          go_wp2
          go_region_held3 (fun _ => True) (trivial) (fail)
          go_wp2
          exact ⟨⟨j + 1, by omega, by go_num, by rw [HU.out], by rw [HL.out], hown1.drew⟩, by simp [intOf]; omega⟩
        · have HK := Lib.hid (show r.take j = r from List.take_of_length_le (by omega))
          rw [HK.out]
          go_wp2_with (at_builtin; refine app_own (.tmp 55) (.tmp 58) _ _ _ 16 rfl rfl Try.underlying23 infoS rfl rfl (hown1.alloc _) rfl (fun h => by cases h) (Rd.two _ _ _ _) (by simp [Value.oneCell']) (by omega) (by omega) ?_; intro A3 c3 w1 hown2 _)
          exact ⟨⟨k + 1, A3, c3, by omega, by go_num, rfl, by rw [HS.out, svs_two]; exact hown2⟩, by simp [intOf]; omega⟩
    · have HK := Lib.hid (show p.take k = p from List.take_of_length_le (by rw [hlenp.out]; omega))
      have hown2 := hown
      rw [HK.out] at hown2
      obtain rfl : k = n2 := by omega
      have hap := applyB_row (m := wd p) HOK.out HHA.out (fun r hr => (pOk_row HPK.out hr).2.1)
      have hwp := pOk_wd HPK.out
      have hcq := iPatchOk_any A' (2 * k) c' _ (applyB b p) wr hown2.rd (by omega) (fun s hs => by have := hap s hs; omega)
      cases hfin : pOk (applyB b p)
      · rw [hfin] at hcq
        have HE2 := HE.out
        rw [hfin] at HE2
        have HQ := Lib.hid hcq
        have HE3 := Lib.hid HE2
        clear hcq hfin HE2 HCB HCP HC
        go_wp2_with (go_at_call 12; refine HQ.out.mono ?_; rintro e w' ⟨rfl, rfl⟩)
        go_ret2
        rw [← HE3.out]
        exact ⟨_, _, _, rfl, Own.nil hown2.2 _⟩
      · rw [hfin] at hcq
        have HE2 := HE.out
        rw [hfin] at HE2
        have HQ := Lib.hid hcq
        have HE3 := Lib.hid HE2
        clear hcq hfin HE2 HCB HCP HC
        go_wp2_with (go_at_call 12; refine HQ.out.mono ?_; rintro e w' ⟨rfl, rfl⟩)
        go_ret2
        rw [← HE3.out]
        exact ⟨_, _, _, rfl, hown2⟩
end Go.Proofs.Ytbjhjpakjinpiaa
