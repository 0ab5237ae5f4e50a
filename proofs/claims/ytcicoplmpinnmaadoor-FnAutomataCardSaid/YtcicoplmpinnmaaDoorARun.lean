/-
  The state and the letter that an automaton ends in, in the program and in the reference. Conditions: a valid automaton, a number that is not negative.
-/
import Derived.Test.YtcicoplmpinnmaaDoorAAu
import Derived.Test.YtcicoplmpinnmaaDoorHelpI
import Derived.Deep.RegionHeld3
namespace Go.Proofs.YtcicoplmpinnmaaDoor
open Go.RowKit

def tab (zss : Tab) (s d : Nat) : Nat := ((zss.getD s []).getD d 0).toNat
/-- the digits of a number, the lowest first, with fuel -/
def digsF : Nat → Nat → Nat → List Nat
  | 0, _, _ => []
  | f + 1, b, n => if n = 0 then [] else n % b :: digsF f b (n / b)
def digs (b n : Nat) : List Nat := digsF n b n
def runD (zss : Tab) : List Nat → Nat
  | [] => 0
  | d :: ds => tab zss (runD zss ds) d
def aEnd (zss : Tab) (b n : Nat) : Nat := runD zss (digs b n)
theorem digsF_zero (f b : Nat) : digsF f b 0 = [] := by cases f <;> rfl
theorem digsF_more {b : Nat} (hb : 2 ≤ b) : ∀ (f g n : Nat), n ≤ f → n ≤ g → digsF f b n = digsF g b n
  | 0, g, n, hf, _ => by obtain rfl : n = 0 := by omega
                         rw [digsF_zero, digsF_zero]
  | f + 1, 0, n, _, hg => by obtain rfl : n = 0 := by omega
                             rw [digsF_zero, digsF_zero]
  | f + 1, g + 1, n, hf, hg => by
    rcases Nat.eq_zero_or_pos n with rfl | hn
    · rw [digsF_zero, digsF_zero]
    · have hlt : n / b < n := Nat.div_lt_self hn (by omega)
      simp only [digsF]
      rw [digsF_more hb f g (n / b) (by omega) (by omega)]
theorem digs_step {b n : Nat} (hb : 2 ≤ b) (hn : 0 < n) : digs b n = n % b :: digs b (n / b) := by
  unfold digs
  have hlt : n / b < n := Nat.div_lt_self hn (by omega)
  obtain ⟨m, rfl⟩ : ∃ m, n = m + 1 := ⟨n - 1, by omega⟩
  simp only [digsF]
  rw [if_neg (by omega), digsF_more hb m ((m + 1) / b) ((m + 1) / b) (by omega) (Nat.le_refl _)]
theorem digs_zero (b : Nat) : digs b 0 = [] := rfl
theorem aEnd_zero (zss : Tab) (b : Nat) : aEnd zss b 0 = 0 := rfl
theorem aEnd_step {zss : Tab} {b n : Nat} (hb : 2 ≤ b) (hn : 0 < n) : aEnd zss b n = tab zss (aEnd zss b (n / b)) (n % b) := by
  unfold aEnd; rw [digs_step hb hn]; rfl
theorem digs_lt {b : Nat} (hb : 2 ≤ b) : ∀ (f n : Nat), ∀ d ∈ digsF f b n, d < b
  | 0, _, d, h => by simp [digsF] at h
  | f + 1, n, d, h => by
    unfold digsF at h
    split at h
    · simp at h
    · rcases List.mem_cons.1 h with rfl | h
      · exact Nat.mod_lt _ (by omega)
      · exact digs_lt hb f _ d h
/-- a table that is fit -/
def Good (b : Nat) (zss : Tab) : Prop := 2 ≤ b ∧ b ≤ 4 ∧ 1 ≤ zss.length ∧ zss.length ≤ 8 ∧ ∀ z ∈ zss, z.length = b ∧ ∀ x ∈ z, 0 ≤ x ∧ x < (zss.length : Int)
theorem aOk_good {b : Int} {zss : Tab} {o : List UInt8} (h : aOk b zss o = true) : ∃ bn : Nat, b = bn ∧ Good bn zss ∧ o.length = zss.length ∧ isW o = true := by
  unfold aOk headOk at h
  simp only [Bool.and_eq_true, beq_iff_eq, List.all_eq_true] at h
  obtain ⟨⟨h1, h2, h3, h4⟩, h5⟩ := h
  have hb := wi_yes h1
  have hn := wi_yes h2
  refine ⟨b.toNat, by omega, ⟨by omega, by omega, by omega, by omega, fun z hz => ?_⟩, by omega, h4⟩
  have h6 := h5 z hz
  unfold rowOkA at h6
  simp only [Bool.and_eq_true, decide_eq_true_eq, List.all_eq_true] at h6
  exact ⟨by omega, fun x hx => by have := wi_yes (h6.2 x hx); omega⟩
theorem tab_at {b : Nat} {zss : Tab} (hg : Good b zss) {s d : Nat} (hs : s < zss.length) (hd : d < b) :
    tab zss s d < zss.length ∧ d < (zss[s]'hs).length ∧ ∀ hdl, (zss[s]'hs)[d]'hdl = (tab zss s d : Int) := by
  obtain ⟨h1, h2⟩ := hg.2.2.2.2 _ (List.getElem_mem hs)
  have hdl : d < (zss[s]'hs).length := by omega
  have h3 := h2 _ (List.getElem_mem hdl)
  have e : tab zss s d = ((zss[s]'hs)[d]'hdl).toNat := by
    unfold tab
    simp only [List.getD_eq_getElem?_getD]
    rw [List.getElem?_eq_getElem hs]
    simp only [Option.getD_some]
    rw [List.getElem?_eq_getElem hdl]; rfl
  exact ⟨by rw [e]; omega, hdl, fun _ => by rw [e]; omega⟩
theorem runD_lt {b : Nat} {zss : Tab} (hg : Good b zss) : ∀ (ds : List Nat), (∀ d ∈ ds, d < b) → runD zss ds < zss.length
  | [], _ => by have := hg.2.2.1; show 0 < _; omega
  | d :: ds, h => (tab_at hg (runD_lt hg ds (fun x hx => h x (by simp [hx]))) (h d (by simp))).1
theorem aEnd_lt {b : Nat} {zss : Tab} (hg : Good b zss) (n : Nat) : aEnd zss b n < zss.length := runD_lt hg _ (digs_lt hg.1 n n)

theorem bdA (w : World) : Below w.heap.size w w.drew := (Below.refl _ _).drew
theorem cell_keepA {w w' : World} (hb : Below w.heap.size w w') {a : Addr} {v : Value} (h : w.cell? a = some v) : w'.cell? a = some v := by
  rw [hb.cell (World.block_lt_of_cell? w _ h)]; exact h
set_option maxRecDepth 4096 in
set_option maxHeartbeats 3200000 in
theorem end_any (b : Nat) (A : Option Addr) (n c : Nat) (zss : Tab) (o : List UInt8) (hgd : Good b zss) : ∀ (f k : Nat) (W : World), k ≤ f → k ≤ 4611686018427387903 → GIn W A n c zss →
    Calls Tryd.prog 43 #[AutoV b A n c o, .int .i64 (k : Int)] W fun e w' => e = .returned (.int .i64 (aEnd zss b k : Nat)) ∧ Below W.heap.size W w' := by
  intro f
  induction f with
  | zero =>
    intro k W hk _ hg
    obtain rfl : k = 0 := by omega
    have HW1 := Lib.hid (Below.boxed W (.cells #[.int .i64 (b : Int), .slice A n c, .string ⟨o.toArray⟩] 25))
    have HE := Lib.hid (aEnd_zero zss b)
    clear hg
    go_enter Tryd.func43, Tryd.ntmps43
    go_wp2
    go_ret
    exact ⟨by rw [HE.out]; rfl, HW1.out⟩
  | succ f ih =>
    intro k W hk hk2 hg
    have HW1 := Lib.hid (Below.boxed W (.cells #[.int .i64 (b : Int), .slice A n c, .string ⟨o.toArray⟩] 25))
    have HBx := Lib.hid (BoxAt.made W 25 b A n c o)
    by_cases h0 : k = 0
    · subst h0
      have HE := Lib.hid (aEnd_zero zss b)
      clear hg ih
      go_enter Tryd.func43, Tryd.ntmps43
      go_wp2
      go_ret
      exact ⟨by rw [HE.out]; rfl, HW1.out⟩
    · have hpos : 0 < k := by omega
      have hb2 := hgd.1
      have hlt : k / b < k := Nat.div_lt_self hpos (by omega)
      have hmod : k % b < b := Nat.mod_lt _ (by omega)
      have HG1 := Lib.hid (hg.later HW1.out)
      have HIH := Lib.hid (fun (w : World) (hb : Below (W.alloc (.cells #[.int .i64 (b : Int), .slice A n c, .string ⟨o.toArray⟩] 25)).heap.size (W.alloc (.cells #[.int .i64 (b : Int), .slice A n c, .string ⟨o.toArray⟩] 25)) w) => ih (k / b) w (by omega) (by omega) (HG1.out.later hb))
      obtain ⟨W1, hW1⟩ : ∃ W1, W1 = W.alloc (.cells #[.int .i64 (b : Int), .slice A n c, .string ⟨o.toArray⟩] 25) := ⟨_, rfl⟩
      rw [← hW1] at HBx HW1 HG1 HIH
      have HWW := Lib.hid hW1
      obtain ⟨g, hgs⟩ : ∃ g, g = W.heap.size := ⟨_, rfl⟩
      rw [← hgs] at HBx
      obtain ⟨bx0, bx1, bx2⟩ := HBx.out
      obtain ⟨s, hs⟩ : ∃ s, s = aEnd zss b (k / b) := ⟨_, rfl⟩
      have hsl : s < zss.length := by rw [hs]; exact aEnd_lt hgd _
      obtain ⟨a, A1, m1, c1, rfl, hab, hca, hrd, hzl⟩ := HG1.out.at hsl
      obtain ⟨ht1, ht2, ht3⟩ := tab_at hgd hsl hmod
      obtain ⟨a1, rfl, hab1, hc1⟩ := hrd.int ht2
      rw [ht3] at hc1
      have HE := Lib.hid (show aEnd zss b k = tab zss s (k % b) by rw [hs]; exact aEnd_step hb2 hpos)
      obtain ⟨t, ht⟩ : ∃ t, t = tab zss s (k % b) := ⟨_, rfl⟩
      rw [← ht] at hc1 HE
      rw [← hs] at HIH
      have hzn : zss.length = n := HG1.out.len
      have hm1 : m1 = b := by have h1 := hrd.lenI; have h2 := (hgd.2.2.2.2 _ (List.getElem_mem hsl)).1; omega
      subst hm1
      obtain ⟨D, hD⟩ : ∃ D, D = k / m1 := ⟨_, rfl⟩
      obtain ⟨M, hM⟩ : ∃ M, M = k % m1 := ⟨_, rfl⟩
      rw [← hD] at HIH
      rw [← hM] at hc1 hmod
      have hDk : D ≤ k := by rw [hD]; exact Nat.div_le_self _ _
      have e1 : (k : Int).tdiv (m1 : Int) = (D : Int) := by rw [Int.tdiv_eq_ediv_of_nonneg (by omega), hD]; simp
      have e2 : (k : Int).tmod (m1 : Int) = (M : Int) := by rw [Int.tmod_eq_emod_of_nonneg (by omega), hM]; simp
      have e3 : IntKind.i64.wrap (D : Int) = (D : Int) := IntWalk.i64_in _ (by omega)
      have e4 : IntKind.i64.wrap (M : Int) = (M : Int) := IntWalk.i64_in _ (by omega)
      have e8 : ((m1 : Int) == 0) = false := beq_eq_false_iff_ne.2 (by omega)
      have e9 : ¬ m1 = 0 := by omega
      have i1 : (s : Int) < (n : Int) := by omega
      have i2 : (M : Int) < (m1 : Int) := by omega
      have i3 : (0 : Int) ≤ (s : Int) := by omega
      have i4 : (0 : Int) ≤ (M : Int) := by omega
      have HCon := HIH
      clear hD hM hlt
      clear hrd hzl ih hg ht1 ht2 ht3 ht hs HG1 hgd hzn hsl HIH HBx hW1
      go_enter Tryd.func43, Tryd.ntmps43
      go_wp2
      rw [← HWW.out, ← hgs]
      clear HWW hgs
      go_region_held3 (fun w' => w'.cell? ⟨g, 0, none⟩ = some (.int .i64 (m1 : Int)) ∧ w'.cell? ⟨g, 1, none⟩ = some (.slice (some a) n c) ∧ w'.cell? ⟨g, 2, none⟩ = some (.string ⟨o.toArray⟩) ∧ w'.cell? (a.add s) = some (.slice (some a1) m1 c1) ∧ w'.cell? (a1.add M) = some (.int .i64 (t : Int)))
        (first | go_keep | exact ⟨cell_keepA hb1 (by simpa using bx0), cell_keepA hb1 (by simpa using bx1), cell_keepA hb1 (by simpa using bx2), cell_keepA hb1 (by simpa using hca), cell_keepA hb1 (by simpa using hc1)⟩)
        (first | (go_at_call 43; (with_reducible refine (HCon.out _ (bdA _)).mono ?_); rintro e w1 ⟨rfl, hb1⟩))
      go_wp2
      go_ret
      exact ⟨by (rw [HE.out]; try rfl), HW1.out.trans ((bdA W1).trans (hb1.mono (bdA W1).size) |>.mono HW1.out.size)⟩
/-- the letter that an automaton ends in -/
def aLet (zss : Tab) (o : List UInt8) (b n : Nat) : UInt8 := o.getD (aEnd zss b n) 0
theorem getD_inA {l : List UInt8} {k : Nat} (h : k < l.length) : l.getD k 0 = l[k] := by simp [List.getD_eq_getElem?_getD, h]
set_option maxRecDepth 4096 in
set_option maxHeartbeats 1600000 in
theorem letter_any (b : Nat) (A : Option Addr) (n c : Nat) (zss : Tab) (o : List UInt8) (hgd : Good b zss) (hol : o.length = zss.length) (k : Nat) (W : World) (hk2 : k ≤ 4611686018427387903) (hg : GIn W A n c zss) :
    Calls Tryd.prog 22 #[AutoV b A n c o, .int .i64 (k : Int)] W fun e w' => e = .returned (.int .u8 (aLet zss o b k).toNat) ∧ Below W.heap.size W w' := by
  have HW1 := Lib.hid (Below.boxed W (.cells #[.int .i64 (b : Int), .slice A n c, .string ⟨o.toArray⟩] 25))
  have HBx := Lib.hid (BoxAt.made W 25 b A n c o)
  have HCon := Lib.hid (fun (w : World) (hb : Below (W.alloc (.cells #[.int .i64 (b : Int), .slice A n c, .string ⟨o.toArray⟩] 25)).heap.size (W.alloc (.cells #[.int .i64 (b : Int), .slice A n c, .string ⟨o.toArray⟩] 25)) w) => end_any b A n c zss o hgd k k w (Nat.le_refl _) hk2 (hg.later (HW1.out.trans (hb.mono HW1.out.size))))
  obtain ⟨W1, hW1⟩ : ∃ W1, W1 = W.alloc (.cells #[.int .i64 (b : Int), .slice A n c, .string ⟨o.toArray⟩] 25) := ⟨_, rfl⟩
  rw [← hW1] at HBx HW1 HCon
  have HWW := Lib.hid hW1
  obtain ⟨g, hgs⟩ : ∃ g, g = W.heap.size := ⟨_, rfl⟩
  rw [← hgs] at HBx
  obtain ⟨bx0, bx1, bx2⟩ := HBx.out
  have hsl : aEnd zss b k < o.length := by rw [hol]; exact aEnd_lt hgd k
  have HE := Lib.hid (show aLet zss o b k = o[aEnd zss b k] from getD_inA hsl)
  obtain ⟨s, hs⟩ : ∃ s, s = aEnd zss b k := ⟨_, rfl⟩
  rw [← hs] at HCon hsl
  have HE2 := Lib.hid (show (aLet zss o b k).toNat = (o[s]'hsl).toNat by rw [HE.out]; simp only [hs])
  have i1 : (0 : Int) ≤ (s : Int) := by omega
  have i2 : (s : Int) < (o.length : Int) := by omega
  clear hs HE HBx hW1 hg hgd hol
  go_enter Tryd.func22, Tryd.ntmps22
  go_wp2
  rw [← HWW.out, ← hgs]
  clear HWW hgs
  go_region_held3 (fun w' => w'.cell? ⟨g, 0, none⟩ = some (.int .i64 (b : Int)) ∧ w'.cell? ⟨g, 1, none⟩ = some (.slice A n c) ∧ w'.cell? ⟨g, 2, none⟩ = some (.string ⟨o.toArray⟩))
    (first | go_keep | exact ⟨cell_keepA hb1 (by simpa using bx0), cell_keepA hb1 (by simpa using bx1), cell_keepA hb1 (by simpa using bx2)⟩)
    (first | (go_at_call 43; (with_reducible refine (HCon.out _ (bdA _)).mono ?_); rintro e w1 ⟨rfl, hb1⟩))
  go_wp2
  go_ret
  exact ⟨by rw [HE2.out]; first | rfl | simp, HW1.out.trans ((bdA W1).trans (hb1.mono (bdA W1).size) |>.mono HW1.out.size)⟩
def nvs (ds : List Nat) : List Value := ds.map fun d : Nat => .int .i64 (d : Int)
theorem nvs_snoc (ds : List Nat) (d : Nat) : nvs (ds ++ [d]) = nvs ds ++ [.int .i64 (d : Int)] := by simp [nvs]
theorem runD_drop {zss : Tab} {ds : List Nat} {i : Nat} (h : i < ds.length) : runD zss (ds.drop i) = tab zss (runD zss (ds.drop (i + 1))) ds[i] := by
  rw [List.drop_eq_getElem_cons h]; rfl
theorem digs_len {b : Nat} (hb : 2 ≤ b) : ∀ (f n : Nat), (digsF f b n).length ≤ n
  | 0, n => Nat.zero_le _
  | f + 1, n => by
    unfold digsF
    split
    · simp
    · have h := digs_len hb f (n / b)
      have h2 : n / b < n := Nat.div_lt_self (by omega) (by omega)
      simp only [List.length_cons]; omega
/-- the least power of two above it bounds how many digits there are -/
theorem digs_len2 {b : Nat} (hb : 2 ≤ b) : ∀ (m f n : Nat), n < 2 ^ m → (digsF f b n).length ≤ m
  | m, 0, n, _ => Nat.zero_le _
  | 0, f + 1, n, h => by
    obtain rfl : n = 0 := by simpa using h
    rw [digsF_zero]; simp
  | m + 1, f + 1, n, h => by
    unfold digsF
    split
    · simp
    · have h3 : n / b < 2 ^ m := Nat.div_lt_of_lt_mul (Nat.lt_of_lt_of_le h (by rw [Nat.pow_succ, Nat.mul_comm]; exact Nat.mul_le_mul_right _ hb))
      have h2 := digs_len2 hb m f (n / b) h3
      simp only [List.length_cons]; omega
end Go.Proofs.YtcicoplmpinnmaaDoor
