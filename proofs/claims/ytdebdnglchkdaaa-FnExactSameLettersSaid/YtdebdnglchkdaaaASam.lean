/-
  Contracts of the reference's l18Same and l18Classes. Conditions: a valid automaton.
-/
import Derived.Test.YtdebdnglchkdaaaANum
namespace Go.Proofs.Ytdebdnglchkdaaa
open Go.RowKit

theorem Rd.nat {w : World} {B : Nat} {A : Option Addr} {n k : Nat} {ds : List Nat} (h : Rd w B A n (nvs ds)) (hk : k < ds.length) : ∃ a, A = some a ∧ a.block < B ∧ w.cell? (a.add k) = some (.int .i64 (ds[k] : Nat)) := by
  have h1 := h.cell (k := k) (by simpa [nvs] using hk)
  simpa [nvs] using h1
theorem Rd.lenN {w : World} {B : Nat} {A : Option Addr} {n : Nat} {ds : List Nat} (h : Rd w B A n (nvs ds)) : ds.length = n := by simpa [nvs] using h.1
/-- the first values of a function -/
def vals (f : Nat → Nat) (n : Nat) : List Nat := (List.range n).map f
theorem vals_len (f : Nat → Nat) (n : Nat) : (vals f n).length = n := by simp [vals]
theorem vals_get (f : Nat → Nat) {n k : Nat} (h : k < (vals f n).length) : (vals f n)[k] = f k := by simp [vals]
theorem vals_snoc (f : Nat → Nat) (n : Nat) : vals f (n + 1) = vals f n ++ [f n] := by simp [vals, List.range_succ]
theorem Rd.val {w : World} {B : Nat} {A : Option Addr} {n k : Nat} {f : Nat → Nat} (h : Rd w B A n (nvs (vals f n))) (hk : k < n) : ∃ a, A = some a ∧ a.block < B ∧ w.cell? (a.add k) = some (.int .i64 (f k : Nat)) := by
  obtain ⟨a, h1, h2, h3⟩ := h.nat (k := k) (by rw [vals_len]; exact hk)
  rw [vals_get] at h3
  exact ⟨a, h1, h2, h3⟩
theorem tab_lt {b : Nat} {zss : Tab} (hg : Good b zss) {s d : Nat} (hs : s < zss.length) (hd : d < b) : tab zss s d < zss.length := (tab_at hg hs hd).1

set_option maxRecDepth 4096 in
set_option maxHeartbeats 3200000 in
theorem l18Same_any (b : Nat) (A : Option Addr) (n c : Nat) (zss : Tab) (o : List UInt8) (hgd : Good b zss) (f : Nat → Nat) (C : Option Addr) (cc i k : Nat) (W : World) (hg : GIn W A n c zss) (hcl : Rd W W.heap.size C n (nvs (vals f n))) (hi : i < n) (hk : k < n) :
    Calls Try.prog 64 #[AutoV b A n c o, .slice C n cc, .int .i64 (i : Int), .int .i64 (k : Int)] W fun e w' => e = .returned (.bool (keyOf zss b f i == keyOf zss b f k)) ∧ Below W.heap.size W w' := by
  obtain ⟨res, hres⟩ : ∃ res, res = (keyOf zss b f i == keyOf zss b f k) := ⟨_, rfl⟩
  rw [← hres]
  have HY := Lib.hid (fun (h : f i = f k ∧ ∀ d < b, f (tab zss i d) = f (tab zss k d)) => show res = true by rw [hres, beq_iff_eq]; exact keyOf_eq.2 h)
  have HN := Lib.hid (fun (h : ¬ (f i = f k ∧ ∀ d < b, f (tab zss i d) = f (tab zss k d))) => show res = false by rw [hres, beq_eq_false_iff_ne]; exact fun h2 => h (keyOf_eq.1 h2))
  have HLen := Lib.hid hg.len
  have HW1 := Lib.hid (Below.boxed W (.cells #[.int .i64 (b : Int), .slice A n c, .string ⟨o.toArray⟩] 27))
  have HBx := Lib.hid (BoxAt.made W 27 b A n c o)
  obtain ⟨W1, hW1⟩ : ∃ W1, W1 = W.alloc (.cells #[.int .i64 (b : Int), .slice A n c, .string ⟨o.toArray⟩] 27) := ⟨_, rfl⟩
  rw [← hW1] at HBx HW1
  have HG := Lib.hid (hg.later HW1.out)
  have HC := Lib.hid (hcl.later HW1.out)
  have HWW := Lib.hid hW1
  obtain ⟨g, hgs⟩ : ∃ g, g = W.heap.size := ⟨_, rfl⟩
  rw [← hgs] at HBx
  have HGd := Lib.hid hgd
  obtain ⟨ac, rfl, hacb, hci⟩ := HC.out.val hi
  obtain ⟨ac2, hac2, _, hck⟩ := HC.out.val hk
  obtain rfl := Option.some.inj hac2
  have hn8 : n ≤ 8 := by have := hgd.2.2.2.1; have := hg.len; omega
  have i1 : (0 : Int) ≤ (i : Int) := by omega
  have i2 : (i : Int) < (n : Int) := by omega
  have i3 : (0 : Int) ≤ (k : Int) := by omega
  have i4 : (k : Int) < (n : Int) := by omega
  obtain ⟨fi, hfi⟩ : ∃ fi, fi = f i := ⟨_, rfl⟩
  obtain ⟨fk, hfk⟩ : ∃ fk, fk = f k := ⟨_, rfl⟩
  rw [← hfi] at hci HY HN
  rw [← hfk] at hck HY HN
  clear hcl hg hgd hres hfi hfk
  by_cases hff : fi = fk
  · have d1 : ((fi : Int) != (fk : Int)) = false := by simp [hff]
    have HY2 := Lib.hid (fun h => HY.out ⟨hff, h⟩)
    have HN2 := Lib.hid (fun (h : ¬ ∀ d < b, f (tab zss i d) = f (tab zss k d)) => HN.out (fun h2 => h h2.2))
    clear HY HN hff
    go_enter Try.func64, Try.ntmps64
    go_wp2
    rw [← HWW.out, ← hgs]
    clear HWW hgs hW1
    go_quiet (fail)
    have HBn := Lib.hid (below_drewN (Below.refl W1.heap.size W1) nq)
    obtain ⟨W2, hW2⟩ : ∃ W2, W2 = W1.drewN nq := ⟨_, rfl⟩
    rw [← hW2] at HBn ⊢
    clear hW2 hci hck
    obtain ⟨bx0, bx1, bx2⟩ := HBx.out.later HBn.out
    have hil : i < zss.length := by rw [HLen.out]; exact hi
    have hkl : k < zss.length := by rw [HLen.out]; exact hk
    obtain ⟨a, A1, m1, c1, rfl, hab, hca, hrd, hzl⟩ := (HG.out.later HBn.out).at hil
    obtain ⟨a9, A2, m2, c2, ha9, _, hca2, hrd2, hzl2⟩ := (HG.out.later HBn.out).at hkl
    obtain rfl := Option.some.inj ha9
    have hm1 : m1 = b := by have h1 := hrd.lenI; have h2 := (HGd.out.2.2.2.2 _ (List.getElem_mem hil)).1; omega
    have hm2 : m2 = b := by have h1 := hrd2.lenI; have h2 := (HGd.out.2.2.2.2 _ (List.getElem_mem hkl)).1; omega
    subst hm1
    subst hm2
    have HR1 := Lib.hid hrd
    have HR2 := Lib.hid hrd2
    have HTI := Lib.hid (fun d hd => tab_at HGd.out hil (d := d) hd)
    have HTK := Lib.hid (fun d hd => tab_at HGd.out hkl (d := d) hd)
    have hb4 := HGd.out.2.1
    clear hrd hrd2 hzl hzl2
    go_wp2
    go_loopw [26] (fun q wr => ∃ d : Nat, d ≤ m2 ∧ q = .int .i64 d ∧ Below W2.heap.size W2 wr ∧ Hid (∀ j < d, f (tab zss i j) = f (tab zss k j))) (fun q _ => m2 - (intOf q).toNat)
    case atStart => exact ⟨0, Nat.zero_le _, rfl, Below.refl _ _, Lib.hid (fun j hj => absurd hj (Nat.not_lt_zero _))⟩
    case round =>
      obtain ⟨d, hd, rfl, hbel, HA⟩ := hrel
      have HB := Lib.hid hbel
      by_cases hlt : d < m2
      · obtain ⟨t1, t2, t3⟩ := HTI.out d hlt
        obtain ⟨u1, u2, u3⟩ := HTK.out d hlt
        obtain ⟨a1, rfl, hab1, hc1⟩ := (HR1.out.later hbel).int t2
        obtain ⟨a2, rfl, hab2, hc2⟩ := (HR2.out.later hbel).int u2
        rw [t3] at hc1
        rw [u3] at hc2
        rw [HLen.out] at t1 u1
        obtain ⟨ac3, hac3, _, hcx⟩ := (HC.out.later (HBn.out.trans (hbel.mono HBn.out.size))).val t1
        obtain ⟨ac4, hac4, _, hcy⟩ := (HC.out.later (HBn.out.trans (hbel.mono HBn.out.size))).val u1
        obtain rfl := Option.some.inj hac3
        obtain rfl := Option.some.inj hac4
        have HStep := Lib.hid (fun (h : f (tab zss i d) = f (tab zss k d)) => show ∀ j < d + 1, f (tab zss i j) = f (tab zss k j) from fun j hj => by
          by_cases he : j = d
          · subst he; exact h
          · exact HA.out j (by omega))
        have HBad := Lib.hid (fun (h : ¬ f (tab zss i d) = f (tab zss k d)) => HN2.out (fun h2 => h (h2 d hlt)))
        have hcb2 : wr.cell? (a.add k) = some (.slice (some a2) m2 c2) := cell_keepA hbel hca2
        obtain ⟨x, hx⟩ : ∃ x, x = tab zss i d := ⟨_, rfl⟩
        obtain ⟨y, hy⟩ : ∃ y, y = tab zss k d := ⟨_, rfl⟩
        rw [← hx] at t1 hc1 hcx HStep HBad
        rw [← hy] at u1 hc2 hcy HStep HBad
        obtain ⟨fx, hfx⟩ : ∃ fx, fx = f x := ⟨_, rfl⟩
        obtain ⟨fy, hfy⟩ : ∃ fy, fy = f y := ⟨_, rfl⟩
        rw [← hfx] at hcx HStep HBad
        rw [← hfy] at hcy HStep HBad
        obtain ⟨bx0, bx1, bx2⟩ := HBx.out.later (HBn.out.trans (hbel.mono HBn.out.size))
        have j1 : (0 : Int) ≤ (x : Int) := by omega
        have j2 : (x : Int) < (n : Int) := by omega
        have j3 : (0 : Int) ≤ (y : Int) := by omega
        have j4 : (y : Int) < (n : Int) := by omega
        have j5 : (0 : Int) ≤ (d : Int) := by omega
        have j6 : (d : Int) < (m2 : Int) := by omega
        clear t2 t3 u2 u3 HA hbel hx hy hfx hfy hca2
        by_cases hfe : fx = fy
        · have d2 : ((fx : Int) != (fy : Int)) = false := by simp [hfe]
          have HS := Lib.hid (HStep.out hfe)
          clear hfe HStep HBad
          go_wp2_with fail
          go_quiet (fail)
          go_wp2
          exact ⟨⟨d + 1, by omega, by go_num, below_drewN HB.out nq, HS⟩, by simp [intOf]; omega⟩
        · have d2 : ((fx : Int) != (fy : Int)) = true := by simp; omega
          have HS := Lib.hid (HBad.out hfe)
          clear hfe HStep HBad
          go_wp2_with fail
          go_quiet (fail)
          go_wp2
          go_ret
          exact ⟨by (rw [HS.out]; try rfl), HW1.out.trans ((HBn.out.trans ((below_drewN HB.out nq).mono HBn.out.size)).mono HW1.out.size)⟩
      · have HS := Lib.hid (HY2.out (fun j hj => HA.out j (by omega)))
        clear hbel
        go_wp2
        go_ret
        exact ⟨by (rw [HS.out]; try rfl), HW1.out.trans ((HBn.out.trans (HB.out.mono HBn.out.size)).mono HW1.out.size)⟩
  · have d1 : ((fi : Int) != (fk : Int)) = true := by simp; omega
    have HS := Lib.hid (HN.out (fun h => hff h.1))
    clear HY HN hff
    go_enter Try.func64, Try.ntmps64
    go_wp2
    rw [← HWW.out, ← hgs]
    clear HWW hgs hW1
    go_quiet (fail)
    go_wp2
    go_ret
    exact ⟨by (rw [HS.out]; try rfl), HW1.out.trans ((below_drewN (Below.refl W1.heap.size W1) nq).mono HW1.out.size)⟩
theorem cl0_is {zss : Tab} {o : List UInt8} {b i k : Nat} (h1 : o.getD k 0 = o.getD i 0) (h2 : ∀ j < k, o.getD j 0 ≠ o.getD i 0) : cl zss o b 0 i = k :=
  rep_is (key0_eq.2 h1) (fun j hj h => h2 j hj (key0_eq.1 h))
theorem cl1_is {zss : Tab} {o : List UInt8} {b t i k : Nat} (h1 : keyOf zss b (cl zss o b t) k = keyOf zss b (cl zss o b t) i) (h2 : ∀ j < k, keyOf zss b (cl zss o b t) j ≠ keyOf zss b (cl zss o b t) i) : cl zss o b (t + 1) i = k :=
  rep_is h1 h2
set_option maxRecDepth 4096 in
set_option maxHeartbeats 6400000 in
theorem l18Classes_any (b : Nat) (A : Option Addr) (n c : Nat) (zss : Tab) (o : List UInt8) (hgd : Good b zss) (hol : o.length = zss.length) (W : World) (hg : GIn W A n c zss) :
    Calls Try.prog 47 #[AutoV b A n c o] W fun e w' => ∃ C cc, e = .returned (.slice C n cc) ∧ Own W w' 3 C n cc (nvs (vals (cl zss o b n) n)) := by
  have HLen := Lib.hid hg.len
  have HW1 := Lib.hid (Below.boxed W (.cells #[.int .i64 (b : Int), .slice A n c, .string ⟨o.toArray⟩] 27))
  have HBx := Lib.hid (BoxAt.made W 27 b A n c o)
  obtain ⟨W1, hW1⟩ : ∃ W1, W1 = W.alloc (.cells #[.int .i64 (b : Int), .slice A n c, .string ⟨o.toArray⟩] 27) := ⟨_, rfl⟩
  rw [← hW1] at HBx HW1
  have HG := Lib.hid (hg.later HW1.out)
  have HWW := Lib.hid hW1
  obtain ⟨g, hgs⟩ : ∃ g, g = W.heap.size := ⟨_, rfl⟩
  rw [← hgs] at HBx
  have HGd := Lib.hid hgd
  have hn8 : n ≤ 8 := by have := hgd.2.2.2.1; have := hg.len; omega
  have hon : o.length = n := by rw [hol]; exact hg.len
  have HSz := Lib.hid (show W1.heap.size = g + 1 by rw [hW1, hgs]; simp)
  clear hg hgd hol
  go_enter Try.func47, Try.ntmps47
  go_wp2
  rw [← HWW.out, ← hgs]
  clear HWW hgs hW1
  obtain ⟨bx0, bx1, bx2⟩ := HBx.out.later (Below.boxed W1 (.cells #[] 3))
  go_wp2
  go_loopw [14, 3] (fun q l wr => ∃ (i : Nat) (C : Option Addr) (cc : Nat), i ≤ n ∧ q = .int .i64 i ∧ l = .slice C i cc ∧ Own W1 wr 3 C i cc (nvs (vals (cl zss o b 0) i))) (fun q _ _ => n - (intOf q).toNat)
  case atStart => exact ⟨0, _, _, Nat.zero_le _, rfl, rfl, by rw [← HSz.out]; exact Own.made0 (Below.refl _ _) _⟩
  case round =>
    clear bx0 bx1 bx2
    obtain ⟨i, C, cc, hi, rfl, rfl, hown⟩ := hrel
    have HO := Lib.hid hown
    clear hown
    by_cases hlt : i < n
    · have HV := Lib.hid (vals_snoc (cl zss o b 0) i)
      have hio : i < o.length := by omega
      obtain ⟨y, hy⟩ : ∃ y, y = o[i] := ⟨_, rfl⟩
      have HYi := Lib.hid (show o.getD i 0 = y by rw [hy]; exact getD_inA hio)
      have hgy : o[i] = y := hy.symm
      have i3 : (0 : Int) ≤ (i : Int) := by omega
      have i4 : (i : Int) < (o.length : Int) := by omega
      clear hy
      go_wp2
      obtain ⟨wo, rfl⟩ : ∃ wo, wo = wr := ⟨_, rfl⟩
      go_loopw [5] (fun q wr => ∃ k : Nat, k ≤ i ∧ q = .int .i64 k ∧ Below wo.heap.size wo wr ∧ Hid (∀ j < k, o.getD j 0 ≠ y)) (fun q _ => i - (intOf q).toNat)
      case atStart => exact ⟨0, Nat.zero_le _, rfl, Below.refl _ _, Lib.hid (fun j hj => absurd hj (Nat.not_lt_zero _))⟩
      case round =>
        obtain ⟨k, hk, rfl, hbel, HA⟩ := hrel
        have HB := Lib.hid hbel
        obtain ⟨bx0, bx1, bx2⟩ := HBx.out.later (HO.out.bel.trans (hbel.mono HO.out.bel.size))
        have hko : k < o.length := by omega
        obtain ⟨x, hx⟩ : ∃ x, x = o[k] := ⟨_, rfl⟩
        have HXk := Lib.hid (show o.getD k 0 = x by rw [hx]; exact getD_inA hko)
        have hgx : o[k] = x := hx.symm
        have j3 : (0 : Int) ≤ (k : Int) := by omega
        have j4 : (k : Int) < (o.length : Int) := by omega
        clear hx hbel
        by_cases hxy : x = y
        · have HE := Lib.hid (show cl zss o b 0 i = k from cl0_is (by rw [HXk.out, HYi.out, hxy]) (by rw [HYi.out]; exact HA.out))
          have d1 : ((x.toNat : Int) != (y.toNat : Int)) = false := by simp [hxy]
          clear hxy HA
          go_wp2_with fail
          go_quiet (fail)
          have HO2 := Lib.hid (HO.out.later (below_drewN HB.out nq))
          go_wp2_with (at_builtin; refine app_one (.tmp 28) (.tmp 30) _ _ _ 8 rfl rfl Try.underlying58 infoI rfl rfl HO2.out rfl rfl (by omega) (by omega) ?_; intro A5 c5 w5 hown5)
          exact ⟨⟨i + 1, A5, c5, by omega, by go_num, rfl, by rw [HV.out, nvs_snoc, HE.out]; exact hown5⟩, by simp [intOf]; omega⟩
        · have hki : k < i := by
            have : k ≠ i := fun h => by subst h; exact hxy (hgx.symm.trans hgy)
            omega
          have HS := Lib.hid (show ∀ j < k + 1, o.getD j 0 ≠ y from fun j hj => by
            by_cases he : j = k
            · subst he; rw [HXk.out]; exact hxy
            · exact HA.out j (by omega))
          have d1 : ((x.toNat : Int) != (y.toNat : Int)) = true := by
            have : x.toNat ≠ y.toNat := fun h => hxy (UInt8.toNat_inj.1 h)
            simp; omega
          clear hxy HA
          go_wp2_with fail
          go_quiet (fail)
          go_wp2
          exact ⟨⟨k + 1, by omega, by go_num, below_drewN HB.out nq, HS⟩, by simp [intOf]; omega⟩
    · obtain rfl : n = i := by omega
      go_wp2
      go_loopw [6, 3] (fun q l wr => ∃ (t : Nat) (C : Option Addr) (cc : Nat), t ≤ n ∧ q = .int .i64 t ∧ l = .slice C n cc ∧ Own W1 wr 3 C n cc (nvs (vals (cl zss o b t) n))) (fun q _ _ => n - (intOf q).toNat)
      case atStart => exact ⟨0, _, _, Nat.zero_le _, rfl, rfl, HO.out⟩
      case round =>
        clear HO
        obtain ⟨t, C, cc, ht, rfl, rfl, hown⟩ := hrel
        have HO := Lib.hid hown
        obtain ⟨bx0, bx1, bx2⟩ := HBx.out.later hown.bel
        have by1 := (HBx.out.later (hown.bel.trans ((Below.boxed wr (.cells #[] 3)).mono hown.bel.size))).2.1
        clear hown
        by_cases hlt2 : t < n
        · have dT : decide ((t : Int) < (n : Int)) = true := by simp; omega
          go_wp2
          obtain ⟨wo, rfl⟩ : ∃ wo, wo = wr := ⟨_, rfl⟩
          go_loopw [44, 7] (fun q l wr => ∃ (i : Nat) (D : Option Addr) (dd : Nat), i ≤ n ∧ q = .int .i64 i ∧ l = .slice D i dd ∧ Own wo wr 3 D i dd (nvs (vals (cl zss o b (t + 1)) i))) (fun q _ _ => n - (intOf q).toNat)
          case atStart => exact ⟨0, _, _, Nat.zero_le _, rfl, rfl, Own.made0 (Below.refl _ _) _⟩
          case round =>
            clear bx0 bx1 bx2 by1
            obtain ⟨i, D, dd, hi, rfl, rfl, hown⟩ := hrel
            have HO2 := Lib.hid hown
            clear hown
            by_cases hlt3 : i < n
            · have HV := Lib.hid (vals_snoc (cl zss o b (t + 1)) i)
              have dI : decide ((i : Int) < (n : Int)) = true := by simp; omega
              go_wp2
              obtain ⟨wp, rfl⟩ : ∃ wp, wp = wr := ⟨_, rfl⟩
              go_loopw [9] (fun q wr => ∃ k : Nat, k ≤ i ∧ q = .int .i64 k ∧ Below wp.heap.size wp wr ∧ Hid (∀ j < k, keyOf zss b (cl zss o b t) j ≠ keyOf zss b (cl zss o b t) i)) (fun q _ => i - (intOf q).toNat)
              case atStart => exact ⟨0, Nat.zero_le _, rfl, Below.refl _ _, Lib.hid (fun j hj => absurd hj (Nat.not_lt_zero _))⟩
              case round =>
                obtain ⟨k, hk, rfl, hbel, HA⟩ := hrel
                have HB := Lib.hid hbel
                have HBB := Lib.hid (HO2.out.bel.trans (hbel.mono HO2.out.bel.size))
                have HBA := Lib.hid (HO.out.bel.trans (HBB.out.mono HO.out.bel.size))
                obtain ⟨bx0, bx1, bx2⟩ := HBx.out.later HBA.out
                have HC := Lib.hid (l18Same_any b A n c zss o HGd.out (cl zss o b t) C cc k i wr (HG.out.later HBA.out) (HO.out.later HBB.out).rd (by omega) hlt3)
                clear hbel
                cases hke : (keyOf zss b (cl zss o b t) k == keyOf zss b (cl zss o b t) i)
                · rw [hke] at HC
                  have hne := beq_eq_false_iff_ne.1 hke
                  have hki : k < i := by
                    have : k ≠ i := fun h => by subst h; exact hne rfl
                    omega
                  have HS := Lib.hid (show ∀ j < k + 1, keyOf zss b (cl zss o b t) j ≠ keyOf zss b (cl zss o b t) i from fun j hj => by
                    by_cases he : j = k
                    · subst he; exact hne
                    · exact HA.out j (by omega))
                  clear hne hke HA
                  go_wp2_with fail
                  refine HC.out.mono ?_
                  rintro e w5 ⟨rfl, hb5⟩
                  have HB5 := Lib.hid (HB.out.trans (hb5.mono HB.out.size))
                  clear hb5
                  go_wp2
                  exact ⟨⟨k + 1, by omega, by go_num, HB5.out, HS⟩, by simp [intOf]; omega⟩
                · rw [hke] at HC
                  have HE := Lib.hid (show cl zss o b (t + 1) i = k from cl1_is (eq_of_beq hke) HA.out)
                  clear hke HA
                  go_wp2_with fail
                  refine HC.out.mono ?_
                  rintro e w5 ⟨rfl, hb5⟩
                  have HO5 := Lib.hid (HO2.out.later (HB.out.trans (hb5.mono HB.out.size)))
                  clear hb5
                  go_wp2_with (at_builtin; refine app_one (.tmp 55) (.tmp 57) _ _ _ 8 rfl rfl Try.underlying58 infoI rfl rfl HO5.out rfl rfl (by omega) (by omega) ?_; intro A6 c6 w6 hown6)
                  exact ⟨⟨i + 1, A6, c6, by omega, by go_num, rfl, by rw [HV.out, nvs_snoc, HE.out]; exact hown6⟩, by simp [intOf]; omega⟩
            · obtain rfl : n = i := by omega
              go_wp2
              exact ⟨⟨t + 1, D, dd, by omega, by go_num, rfl, HO2.out.up HO.out.bel⟩, by simp [intOf]; omega⟩
        · obtain rfl : n = t := by omega
          go_wp2
          go_ret
          exact ⟨C, cc, rfl, HO.out.up HW1.out⟩
end Go.Proofs.Ytdebdnglchkdaaa
