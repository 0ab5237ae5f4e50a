/-
  Contract of the program's below. Conditions: at most 64 words of one length, at most 20 levels.
-/
import Derived.Test.YtbaleboljcoigaaRLev
import Derived.Test.YtbaleboljcoigaaHelpI
import Derived.RegionTactic
import Derived.BigRegion
namespace Go.Proofs.Ytbaleboljcoigaa
open Go.RowKit

theorem infoSIr : (Try.prog.info? 51).map (fun i => (i.zero, i.size, i.bytes)) = some (some (.slice none 0 0), 1, 24) := by kernel_rfl
theorem perm_newR (a b : Row) (l : List Row) : (a :: b :: l).Perm (b :: (l ++ [a])) :=
  (List.Perm.swap b a l).trans ((List.perm_append_comm (l₁ := [a]) (l₂ := l)).cons b)
theorem grid_at {w : World} {A : Option Addr} {m : Nat} {rs : List Row} {zss : List (List Int)} (h : RdG w A m rs) (hx : rs.map Row.xs = zss.map ivs) {q : Nat} (hq : q < zss.length) :
    ∃ a A1 m1 c1, A = some a ∧ a.block < w.heap.size ∧ w.cell? (a.add q) = some (.slice A1 m1 c1) ∧ Rd w w.heap.size A1 m1 (ivs zss[q]) := by
  have hk : q < rs.length := by rw [xs_len hx]; exact hq
  obtain ⟨a, rfl, hab, hc⟩ := h.cell hk
  have h2 := h.2 _ (List.getElem_mem hk)
  rw [xs_at hx hk] at h2
  exact ⟨a, _, _, _, rfl, hab, hc, h2⟩
/-- what a call that hands back a slice of slices of numbers and a flag leaves -/
def RetGB (et st : TypeId) (w0 : World) (zss : List (List Int)) (b : Bool) (e : Ending) (w' : World) : Prop :=
  ∃ A n c rs, e = .returned (.tuple #[.slice A n c, .bool b]) ∧ Mem w0 w' (⟨st, A, n, c, rs.map SVal⟩ :: rs) ∧ rs.map Row.xs = zss.map ivs ∧ ∀ r ∈ rs, r.e = et
/-- the program's row at the head of the middle loop -/
def rowI (cur : List Int) (L i : Nat) : List Int := if i < L then fillR cur L i 0 else cur
theorem rowI_start {cur : List Int} {L : Nat} (hc : cur.length = L) : List.replicate L (0 : Int) = rowI cur L 0 := by
  unfold rowI
  split
  · exact fillR_start (by omega)
  · have : L = 0 := by omega
    subst this
    rw [List.length_eq_zero_iff.1 hc]; rfl
theorem rowI_next {cur : List Int} {L i : Nat} (hc : cur.length = L) (hi : i < L) : fillR cur L i (cur.getD i 0) = rowI cur L (i + 1) := by
  unfold rowI
  split
  · exact fillR_next hc (by omega)
  · exact fillR_last hc (by omega)
theorem rowI_in {cur : List Int} {L i : Nat} (hi : i < L) : rowI cur L i = fillR cur L i 0 := if_pos hi
theorem rowI_done {cur : List Int} {L : Nat} : rowI cur L L = cur := if_neg (by omega)
theorem fillR_ivs {cur : List Int} {L i : Nat} {x : Int} (hc : cur.length = L) (hi : i < L) : (ivs (fillR cur L i x))[i]? = some (.int .i64 x) := by
  unfold ivs; rw [List.getElem?_map, fillR_get hc hi]; rfl

set_option maxRecDepth 4096 in
set_option maxHeartbeats 3200000 in
theorem below_any (A : Option Addr) (L c : Nat) (rows : Pch) (h : Nat) (A1 : Option Addr) (n1 c1 : Nat) (col : Pch) (q : Nat) (W : World) (hr : SIn W A L c rows) (hc : SIn W A1 n1 c1 col)
    (hL : L ≤ 64) (hq : q ≤ 64) (hrow : ∀ x ∈ rows, x.length = q) (hh : h ≤ 20) :
    Calls Try.prog 52 #[.slice A L c, .int .i64 h, .slice A1 n1 c1] W (RetGB 3 51 W (if okH col rows h = true then levs col rows h else []) (okH col rows h)) := by
  obtain ⟨i0, hi, hz0, hz1, hz2⟩ := info_parts infoI
  have HI := Lib.hid hi
  have HZ0 := Lib.hid hz0
  have HZ1 := Lib.hid hz1
  have HZ2 := Lib.hid hz2
  have HLen := Lib.hid (hr.1.lenS)
  have HR := Lib.hid hr
  have HC := Lib.hid hc
  have HRow := Lib.hid hrow
  clear hr hc hrow hi hz0 hz1 hz2
  obtain ⟨b, hb⟩ : ∃ b, b = okH col rows h := ⟨_, rfl⟩
  obtain ⟨zss, hzss⟩ : ∃ zss, zss = (if okH col rows h = true then levs col rows h else []) := ⟨_, rfl⟩
  rw [← hzss, ← hb]
  have HB := Lib.hid hb
  have HZ := Lib.hid hzss
  clear hb hzss
  go_enter Try.func52, Try.ntmps52
  go_wp2
  go_loopw [18, 8] (fun i out wr => ∃ (n : Nat) (A2 : Option Addr) (c2 : Nat) (rs : List Row), n ≤ h ∧ i = .int .i64 n ∧ out = .slice A2 n c2 ∧ Mem W wr (⟨51, A2, n, c2, rs.map SVal⟩ :: rs) ∧ rs.map Row.xs = (levs col rows n).map ivs ∧ (∀ r ∈ rs, r.e = 3) ∧ okH col rows n = true) (fun i _ _ => h - (intOf i).toNat)
  case atStart => exact ⟨0, _, _, [], Nat.zero_le _, rfl, rfl, (Mem.start W).add (Own.made0 (Below.refl _ _) _), rfl, by simp, rfl⟩
  case round =>
    obtain ⟨n, A2, c2, rs, hn, rfl, rfl, hmem, hxs, hes, hok⟩ := hrel
    have HM := Lib.hid hmem
    have HX := Lib.hid hxs
    have HE := Lib.hid hes
    have HOK := Lib.hid hok
    clear hmem hxs hes hok
    by_cases hlt : n < h
    · have hd1 : decide ((n : Int) < (h : Int)) = true := by simp; omega
      obtain ⟨cur, hcur⟩ : ∃ cur, cur = lev col rows n := ⟨_, rfl⟩
      have HCur := Lib.hid hcur
      have HCL := Lib.hid (show cur.length = L by rw [hcur, lev_len]; exact HLen.out)
      have HNN := Lib.hid (show ∀ z ∈ cur, 0 ≤ z by rw [hcur]; exact lev_nonneg col rows n)
      have HMO := Lib.hid (show ∀ z ∈ cur, z ≤ most by rw [hcur]; exact lev_most HOK.out)
      clear hcur
      go_wp2_with (at_make; refine wpList_make_full _ rfl _ _ 51 rfl wr.heap.size 3 i0 (.int .i64 0) 1 Try.underlying51 HI.out HZ0.out HZ1.out .i64 .i64 _ _ L rfl rfl rfl rfl (by rw [HZ2.out]; omega) (by unfold maxLen; omega) (Nat.le_refl _) ?_; intro w1 hown1 hg1)
      have HM1 := Lib.hid (show Mem W w1 (⟨3, some ⟨wr.heap.size, 0, none⟩, L, L, ivs (rowI cur L 0)⟩ :: ⟨51, A2, n, c2, rs.map SVal⟩ :: rs) by
        rw [Nat.mul_one, show (Value.int .i64 0).cells = #[.int .i64 0] from rfl, toList_madeCells_one] at hown1
        rw [← rowI_start HCL.out, show ivs (List.replicate L (0 : Int)) = List.replicate L (Value.int .i64 0) by simp [ivs]]
        exact HM.out.add ⟨hown1, (Below.refl _ _).grown hg1 (Nat.le_refl _) (fun k hk => by cases hk)⟩)
      obtain ⟨g, hg⟩ : ∃ g, g = wr.heap.size := ⟨_, rfl⟩
      rw [← hg] at HM1 ⊢
      clear hown1 hg1 hg HM
      obtain ⟨wo, rfl⟩ : ∃ wo, wo = wr := ⟨_, rfl⟩
      go_wp2
      go_loopw [26, 11] (fun i sum wr => ∃ (i0 : Nat), i0 ≤ L ∧ i = .int .i64 i0 ∧ sum = .int .i64 (cur.take i0).sum ∧ Mem W wr (⟨3, some ⟨g, 0, none⟩, L, L, ivs (rowI cur L i0)⟩ :: ⟨51, A2, n, c2, rs.map SVal⟩ :: rs)) (fun i _ _ => L - (intOf i).toNat)
      case atStart => exact ⟨0, Nat.zero_le _, rfl, by simp, HM1.out⟩
      case round =>
        clear HM1
        obtain ⟨i, hi, rfl, rfl, hmem⟩ := hrel
        have HM2 := Lib.hid hmem
        clear hmem
        by_cases hlt2 : i < L
        · have hd2 : decide ((i : Int) < (L : Int)) = true := by simp; omega
          have hil : i < rows.length := by rw [HLen.out]; exact hlt2
          obtain ⟨a, rfl, hab, hca⟩ := (HR.out.later HM2.out.bel).1.str (k := i) hil
          obtain ⟨u, hu⟩ : ∃ u, u = rows[i] := ⟨_, rfl⟩
          have huq : u.length ≤ 64 := by have := HRow.out _ (List.getElem_mem hil); rw [hu]; omega
          rw [← hu] at hca
          have HUQ := Lib.hid (show u.length = q by rw [hu]; exact HRow.out _ (List.getElem_mem hil))
          have HMD := Lib.hid (show midK col rows n u L = cur.getD i 0 by rw [hu, HCur.out, ← HLen.out]; exact midK_done hil)
          have HBD := Lib.hid (fun k => midK_bd HOK.out u k)
          have HM3 := Lib.hid (by have h := HM2.out; rw [rowI_in hlt2] at h; exact h)
          have HNext := Lib.hid (rowI_next HCL.out hlt2)
          have HSum := Lib.hid (sum_take_succ (l := cur) (k := i) (by rw [HCL.out]; exact hlt2))
          have hs0 : 0 ≤ (cur.take i).sum := sum_take_nonneg HNN.out i
          have hs1 : (cur.take i).sum ≤ 64000000000000 := by
            have h := sum_take_le HMO.out (by unfold most; omega) i
            have h2 : (i : Int) * most ≤ 64 * most := Int.mul_le_mul_of_nonneg_right (by omega) (by unfold most; omega)
            unfold most at h h2; omega
          have hx0 : 0 ≤ cur.getD i 0 := getD_nonneg HNN.out i
          have hx1 : cur.getD i 0 ≤ 1000000000000 := by have h := (HBD.out L).2; rw [HMD.out] at h; exact h
          obtain ⟨s0, hs⟩ : ∃ s0, s0 = (cur.take i).sum := ⟨_, rfl⟩
          rw [← hs] at hs0 hs1 HSum ⊢
          obtain ⟨y0, hy⟩ : ∃ y0, y0 = cur.getD i 0 := ⟨_, rfl⟩
          rw [← hy] at hx0 hx1 HSum HMD HNext
          have hc0 := (HM3.out.row0.cellAt i (by omega)).trans (fillR_ivs HCL.out hlt2)
          have hf0 := HM3.out.row0.frozenAt i
          obtain ⟨v0, hc0⟩ : ∃ v0, wr.cell? ⟨g, i, none⟩ = some v0 := ⟨_, hc0⟩
          clear hu hs hy HM2 hil
          obtain ⟨wm, rfl⟩ : ∃ wm, wm = wr := ⟨_, rfl⟩
          by_cases hn0 : n = 0
          · have d0 : ((n : Int) == 0) = true := by simp [hn0]
            have d1 : decide ((0 : Int) < (n : Int)) = false := by simp [hn0]
            have HD := Lib.hid (show y0 = 1 by rw [← HMD.out, hn0, midK_one])
            have HM4 := Lib.hid (by
              have h := World.ownsRow.stored HM3.out.row0 i (.int .i64 1)
              rw [ivs_set, fillR_set HCL.out hlt2] at h
              exact HM3.out.mark0 h.1 h.2)
            clear HM3
            go_wp2
            go_loopw [38] (fun j wr => ∃ k : Nat, k ≤ L ∧ j = .int .i64 k ∧ Mem W wr (⟨3, some ⟨g, 0, none⟩, L, L, ivs (fillR cur L i 1)⟩ :: ⟨51, A2, n, c2, rs.map SVal⟩ :: rs)) (fun j _ => L - (intOf j).toNat)
            case atStart => exact ⟨0, Nat.zero_le _, rfl, HM4.out⟩
            case round =>
              clear HM4 hc0 hf0 hca
              obtain ⟨k, hk, rfl, hmem⟩ := hrel
              have HMk := Lib.hid hmem
              clear hmem
              by_cases hlt3 : k < L
              · have hkl : k < rows.length := by rw [HLen.out]; exact hlt3
                obtain ⟨a', ha', hab', hcb⟩ := (HR.out.later HMk.out.bel).1.str (k := k) hkl
                obtain rfl := Option.some.inj ha'
                obtain ⟨t, ht⟩ : ∃ t, t = rows[k] := ⟨_, rfl⟩
                rw [← ht] at hcb
                clear ht
                go_wp2
                exact ⟨⟨k + 1, by omega, by go_num, HMk.out⟩, by simp [intOf]; omega⟩
              · have hc1 := (HMk.out.row0.cellAt i (by omega)).trans (fillR_ivs HCL.out hlt2)
                have e1 : IntKind.i64.wrap (s0 + 1) = s0 + 1 := IntWalk.i64_in _ (by omega)
                go_wp2
                exact ⟨⟨i + 1, by omega, by go_num, by rw [HSum.out, HD.out], by rw [← HNext.out, HD.out]; exact HMk.out⟩, by simp [intOf]; omega⟩
          · have d0 : ((n : Int) == 0) = false := by simp [hn0]
            have d1 : decide ((0 : Int) < (n : Int)) = true := by simp; omega
            obtain ⟨p, hp⟩ : ∃ p, p = n - 1 := ⟨_, rfl⟩
            have HNP := Lib.hid (show n = p + 1 by omega)
            have e2 : IntKind.i64.wrap ((n : Int) - 1) = (n : Int) - 1 := IntWalk.i64_in _ (by omega)
            have e3 : ((n : Int) - 1).toNat = p := by omega
            have e4 : (0 : Int) ≤ (n : Int) - 1 := by omega
            have e5 : (n : Int) - 1 < (n : Int) := by omega
            have hpn : p < n := by omega
            have HM4 := Lib.hid (by have h := HM3.out; rw [← (show midK col rows n u 0 = 0 by rw [HNP.out, midK_zero])] at h; exact h)
            clear HM3 hp
            go_wp2
            go_loopw [38] (fun j wr => ∃ k : Nat, k ≤ L ∧ j = .int .i64 k ∧ Mem W wr (⟨3, some ⟨g, 0, none⟩, L, L, ivs (fillR cur L i (midK col rows n u k))⟩ :: ⟨51, A2, n, c2, rs.map SVal⟩ :: rs)) (fun j _ => L - (intOf j).toNat)
            case atStart => exact ⟨0, Nat.zero_le _, rfl, HM4.out⟩
            case round =>
              clear HM4 hc0 hf0 hca
              obtain ⟨k, hk, rfl, hmem⟩ := hrel
              have HMk := Lib.hid hmem
              clear hmem
              by_cases hlt3 : k < L
              · have hkl : k < rows.length := by rw [HLen.out]; exact hlt3
                obtain ⟨a', ha', hab', hcb⟩ := (HR.out.later HMk.out.bel).1.str (k := k) hkl
                obtain rfl := Option.some.inj ha'
                obtain ⟨t, ht⟩ : ∃ t, t = rows[k] := ⟨_, rfl⟩
                have HTQ := Lib.hid (show t.length = q by rw [ht]; exact HRow.out _ (List.getElem_mem hkl))
                rw [← ht] at hcb
                have hcon := stands_any u t A1 n1 c1 col wr (HC.out.later HMk.out.bel) huq (by rw [HTQ.out, HUQ.out])
                cases hst : stand col u t
                · rw [hst] at hcon
                  have HCon := Lib.hid hcon
                  have HN := Lib.hid (show midK col rows n u (k + 1) = midK col rows n u k by rw [HNP.out]; exact midK_no hkl (by rw [← ht]; exact hst))
                  clear hst ht hcon
                  go_wp2_with fail
                  refine HCon.out.mono ?_
                  rintro e w2 ⟨rfl, hb2⟩
                  go_wp2
                  exact ⟨⟨k + 1, by omega, by go_num, by rw [HN.out]; exact HMk.out.later hb2⟩, by simp [intOf]; omega⟩
                · rw [hst] at hcon
                  have HCon := Lib.hid hcon
                  have HN := Lib.hid (show midK col rows n u (k + 1) = midK col rows n u k + (lev col rows p).getD k 0 by rw [HNP.out]; exact midK_yes hkl (by rw [← ht]; exact hst))
                  clear hst ht hcon
                  go_wp2_with fail
                  refine HCon.out.mono ?_
                  rintro e w2 ⟨rfl, hb2⟩
                  have HMl := Lib.hid (HMk.out.later hb2)
                  clear hb2 HCon
                  have hb0 := HBD.out k
                  have hb1 := HBD.out (k + 1)
                  rw [HN.out] at hb1
                  obtain ⟨a2, A3, m3, c3, hA2, hab2, hcm, hrd3⟩ := grid_at (Mem.rdG HMl.out (List.mem_cons_of_mem _ List.mem_cons_self) (fun r hr => List.mem_cons_of_mem _ (List.mem_cons_of_mem _ hr))) HX.out (q := p) (by rw [levs_len]; exact hpn)
                  subst hA2
                  rw [levs_get col rows hpn] at hrd3
                  have hm3 : m3 = L := by rw [← hrd3.lenI, lev_len]; exact HLen.out
                  obtain ⟨a3, hA3, hab3, hc3⟩ := hrd3.int (k := k) (by rw [lev_len]; exact hkl)
                  subst hA3 hm3
                  rw [← getD_at (d := 0) (by rw [lev_len]; exact hkl)] at hc3
                  have hc1 := (HMl.out.row0.cellAt i (by omega)).trans (fillR_ivs HCL.out hlt2)
                  have hf1 := HMl.out.row0.frozenAt i
                  obtain ⟨y, hy⟩ : ∃ y, y = (lev col rows p).getD k 0 := ⟨_, rfl⟩
                  obtain ⟨x, hx⟩ : ∃ x, x = midK col rows n u k := ⟨_, rfl⟩
                  rw [← hy] at hc3 hb1 HN
                  rw [← hx] at hc1 hb0 hb1 HN HMl
                  unfold most at hb0 hb1
                  have e6 : IntKind.i64.wrap (x + y) = x + y := IntWalk.i64_in _ (by omega)
                  clear hy hx hrd3 HMk hcb
                  go_wp2
                  go_region
                  have HMn := Lib.hid (by
                    have h := World.ownsRow.stored HMl.out.row0 i (.int .i64 (x + y))
                    rw [ivs_set, fillR_set HCL.out hlt2] at h
                    exact HMl.out.mark0 h.1 h.2)
                  clear hc1 hc3 hcm hf1
                  go_wp2
                  refine ⟨⟨k + 1, by omega, by go_num, ?_⟩, by simp [intOf]; omega⟩
                  rw [HN.out]
                  first | exact HMn.out.drew | exact HMn.out
              · have hc1 := (HMk.out.row0.cellAt i (by omega)).trans (fillR_ivs HCL.out hlt2)
                have hkL : k = L := by omega
                rw [hkL, HMD.out] at hc1
                have HK := Lib.hid (by have h := HMk.out; rw [hkL, HMD.out, HNext.out] at h; exact h)
                have e1 : IntKind.i64.wrap (s0 + y0) = s0 + y0 := IntWalk.i64_in _ (by omega)
                clear hkL
                go_wp2
                exact ⟨⟨i + 1, by omega, by go_num, by rw [HSum.out], HK.out⟩, by simp [intOf]; omega⟩
        · have HMa := Lib.hid (by have h := HM2.out; rw [show i = L by omega, rowI_done] at h; exact h)
          have hall : (cur.take i).sum = cur.sum := sum_take_all (by rw [HCL.out]; omega)
          obtain ⟨s0, hs⟩ : ∃ s0, s0 = cur.sum := ⟨_, rfl⟩
          rw [hall, ← hs]
          have HS := Lib.hid hs
          clear HM2 hs hall
          by_cases hbig : s0 ≤ 1000000000000
          · have d1 : decide ((1000000000000 : Int) < s0) = false := by simp; omega
            have HO2 := Lib.hid (show okH col rows (n + 1) = true by rw [okH_snoc, HOK.out]; simp only [okLev, Bool.true_and, decide_eq_true_eq]; rw [← HCur.out, ← HS.out]; unfold most; exact hbig)
            go_wp2_with (at_builtin; refine app_mem [⟨3, some ⟨g, 0, none⟩, L, L, ivs cur⟩] rs (.tmp 75) (.tmp 77) 48 51 (.slice none 0 0) 24 rfl rfl Try.underlying48 infoSIr rfl rfl (HMa.out.alloc _) rfl (by omega) (Rd.one _ _ _) (fun u hu => by simp at hu; subst hu; rfl) (by omega) (by omega) ?_; intro A5 c5 w5 hm5)
            refine ⟨⟨n + 1, A5, c5, rs ++ [⟨3, some ⟨g, 0, none⟩, L, L, ivs cur⟩], by omega, by go_num, rfl, ?_, ?_, ?_, HO2.out⟩, by simp [intOf]; omega⟩
            · have h := Mem.perm hm5 (perm_newR _ _ _)
              simpa [SVal] using h
            · rw [List.map_append, HX.out, levs_snoc, List.map_append, ← HCur.out]; rfl
            · intro r hr
              rcases List.mem_append.1 hr with hr | hr
              · exact HE.out r hr
              · simp at hr; subst hr; rfl
          · have d1 : decide ((1000000000000 : Int) < s0) = true := by simp; omega
            have HF := Lib.hid (show b = false by rw [HB.out]; exact okH_bad hlt (by rw [← HCur.out, ← HS.out]; unfold most; omega))
            go_wp2
            go_ret2
            refine ⟨none, 0, 0, [], by (rw [HF.out]; try rfl), (HMa.out.drop (List.nil_sublist _)).add (Own.nil (Below.refl _ _) _), ?_, by simp⟩
            rw [HZ.out, ← HB.out, HF.out]; rfl
    · have HO2 := Lib.hid (show b = true by rw [HB.out, show h = n by omega]; exact HOK.out)
      have HX2 := Lib.hid (show rs.map Row.xs = zss.map ivs by rw [HZ.out, ← HB.out, if_pos HO2.out, show h = n by omega]; exact HX.out)
      go_wp2
      go_ret2
      exact ⟨A2, n, c2, rs, by (rw [HO2.out]; try rfl), HM.out, HX2.out, HE.out⟩
end Go.Proofs.Ytbaleboljcoigaa
