/-
  Contract of the program's classes. Conditions: a valid automaton.
-/
import Derived.Test.YtcicoplmpinnmaaDoorAFn
import Derived.Deep.RegionLaw
import Derived.BigRegion
namespace Go.Proofs.YtcicoplmpinnmaaDoor
open Go.RowKit

theorem nvs_ivs' (r : List Nat) : nvs r = ivs (r.map fun x : Nat => (x : Int)) := by simp [nvs, ivs]
theorem nvs_beq (a c : List Nat) : ((a.map fun x : Nat => (x : Int)) == (c.map fun x : Nat => (x : Int))) = (a == c) := by
  by_cases h : a = c
  · subst h; simp
  · have h2 : ¬ (a.map fun x : Nat => (x : Int)) = c.map fun x : Nat => (x : Int) := fun h2 => h (List.map_inj_right (fun x y hxy => by omega) |>.1 h2)
    rw [beq_eq_false_iff_ne.2 h, beq_eq_false_iff_ne.2 h2]
set_option maxHeartbeats 800000 in
theorem classes1_any (W w : World) (LR : List Row) (b9 : Nat) (K : Option Addr) (m cK : Nat) (key : List Nat) (B : Option Addr) (n1 c1 : Nat) (xs : List Nat)
    (hm : Mem W w LR) (h1 : CellV 54 b9 (.slice K m cK) ∈ LR) (hk : Rd w w.heap.size K m (nvs key)) (ho : Rd w w.heap.size B n1 (nvs xs)) (hm8 : m ≤ 1048576) (hn8 : n1 ≤ 1048576) :
    Calls Tryd.prog 56 #[.slice B n1 c1, .pointer (some ⟨b9, 0, none⟩)] w fun e w' => e = .returned (.bool (xs == key)) ∧ Below w.heap.size w w' := by
  have c9 := hm.cellV h1
  rw [nvs_ivs'] at hk ho
  have HC := Lib.hid (equalI_any B K n1 m c1 cK _ _ w ho hk hn8 hm8)
  rw [nvs_beq] at HC
  clear hm h1 hk ho
  go_enter Tryd.func56, Tryd.ntmps56
  go_wp2_with (go_at_call 26; refine HC.out.mono ?_; rintro e w2 ⟨rfl, hb2⟩)
  go_ret
  exact ⟨rfl, hb2⟩
/-- the classes so far: own numbers that agree as the least states do -/
def OwnOk (zss : Tab) (o : List UInt8) (b t n : Nat) (ow : List Nat) : Prop := ow.length = n ∧ (∀ x ∈ ow, x ≤ 255) ∧ ∀ i k, i < n → k < n → (ow.getD i 0 = ow.getD k 0 ↔ cl zss o b t i = cl zss o b t k)
abbrev ofL (ow : List Nat) (j : Nat) : Nat := ow.getD j 0
/-- the keys so far and the numbers given -/
def KeyOk (zss : Tab) (b : Nat) (ow : List Nat) (i : Nat) (ks : List (List Nat)) (nw : List Nat) : Prop :=
  nw.length = i ∧ ks.Nodup ∧ ks.length ≤ i ∧ ∀ j, j < i → nw.getD j 0 < ks.length ∧ ks.getD (nw.getD j 0) [] = keyOf zss b (ofL ow) j
theorem getD_app {α : Type} {l m : List α} {k : Nat} {d : α} (h : k < l.length) : (l ++ m).getD k d = l.getD k d := by
  simp only [List.getD_eq_getElem?_getD]; rw [List.getElem?_append_left h]
theorem getD_last {α : Type} {l : List α} {x d : α} : (l ++ [x]).getD l.length d = x := by
  simp [List.getD_eq_getElem?_getD]
theorem getD_of {α : Type} {l : List α} {k : Nat} {d : α} (h : k < l.length) : l.getD k d = l[k] := by
  rw [List.getD_eq_getElem?_getD, List.getElem?_eq_getElem h]; rfl
theorem KeyOk.start (zss : Tab) (b : Nat) (ow : List Nat) : KeyOk zss b ow 0 [] [] := ⟨rfl, List.nodup_nil, Nat.le_refl _, fun j hj => absurd hj (Nat.not_lt_zero _)⟩
theorem KeyOk.old {zss : Tab} {b : Nat} {ow : List Nat} {i : Nat} {ks : List (List Nat)} {nw : List Nat} (h : KeyOk zss b ow i ks nw) {p : Nat} (hp : p < ks.length) (hk : ks[p] = keyOf zss b (ofL ow) i) : KeyOk zss b ow (i + 1) ks (nw ++ [p]) := by
  obtain ⟨h1, h2, h3, h4⟩ := h
  refine ⟨by simp [h1], h2, by omega, fun j hj => ?_⟩
  by_cases hji : j = i
  · subst hji
    have e : (nw ++ [p]).getD j 0 = p := by rw [← h1]; exact getD_last
    rw [e]; exact ⟨hp, by rw [getD_of hp, hk]⟩
  · rw [getD_app (by omega)]; exact h4 j (by omega)
theorem KeyOk.new {zss : Tab} {b : Nat} {ow : List Nat} {i : Nat} {ks : List (List Nat)} {nw : List Nat} (h : KeyOk zss b ow i ks nw) (hn : ∀ q (hq : q < ks.length), ks[q] ≠ keyOf zss b (ofL ow) i) : KeyOk zss b ow (i + 1) (ks ++ [keyOf zss b (ofL ow) i]) (nw ++ [ks.length]) := by
  obtain ⟨h1, h2, h3, h4⟩ := h
  refine ⟨by simp [h1], ?_, by simp; omega, fun j hj => ?_⟩
  · rw [List.nodup_append]
    refine ⟨h2, by simp, fun a ha c hc hac => ?_⟩
    simp at hc
    subst hc
    obtain ⟨q, hq, rfl⟩ := List.getElem_of_mem ha
    exact hn q hq hac
  · by_cases hji : j = i
    · subst hji
      have e : (nw ++ [ks.length]).getD j 0 = ks.length := by rw [← h1]; exact getD_last
      rw [e]; exact ⟨by simp, getD_last⟩
    · rw [getD_app (by omega)]
      obtain ⟨h5, h6⟩ := h4 j (by omega)
      exact ⟨Nat.lt_of_lt_of_le h5 (by simp), by rw [getD_app h5]; exact h6⟩
theorem KeyOk.done {zss : Tab} {o : List UInt8} {b t n : Nat} {ow ks' : List Nat} {ks : List (List Nat)} {nw : List Nat} (hT : ∀ i < n, ∀ d < b, tab zss i d < n) (hn : n ≤ 8) (ho : OwnOk zss o b t n ow) (h : KeyOk zss b ow n ks nw) : OwnOk zss o b (t + 1) n nw := by
  obtain ⟨h1, h2, h3, h4⟩ := h
  refine ⟨h1, fun x hx => ?_, fun i k hi hk => ?_⟩
  · obtain ⟨j, hj, rfl⟩ := List.getElem_of_mem hx
    have h5 := (h4 j (by omega)).1
    rw [getD_of hj] at h5
    omega
  · have hi2 := h4 i hi
    have hk2 := h4 k hk
    have e1 : nw.getD i 0 = nw.getD k 0 ↔ keyOf zss b (ofL ow) i = keyOf zss b (ofL ow) k := by
      constructor
      · intro h5; rw [← hi2.2, ← hk2.2, h5]
      · intro h5
        rw [← hi2.2, ← hk2.2, getD_of hi2.1, getD_of hk2.1] at h5
        rcases Nat.lt_trichotomy (nw.getD i 0) (nw.getD k 0) with h6 | h6 | h6
        · exact absurd h5 (List.pairwise_iff_getElem.1 h2 _ _ hi2.1 hk2.1 h6)
        · exact h6
        · exact absurd h5.symm (List.pairwise_iff_getElem.1 h2 _ _ hk2.1 hi2.1 h6)
    rw [e1, keyOf_eq, cl_succ, ho.2.2 i k hi hk]
    constructor
    · rintro ⟨h5, h6⟩; exact ⟨h5, fun d hd => (ho.2.2 _ _ (hT i hi d hd) (hT k hk d hd)).1 (h6 d hd)⟩
    · rintro ⟨h5, h6⟩; exact ⟨h5, fun d hd => (ho.2.2 _ _ (hT i hi d hd) (hT k hk d hd)).2 (h6 d hd)⟩
theorem OwnOk.start {zss : Tab} {o : List UInt8} {b n : Nat} (ho : o.length = n) (hl : ∀ x ∈ o, x.toNat ≤ 255) : OwnOk zss o b 0 n (o.map UInt8.toNat) := by
  refine ⟨by simp [ho], fun x hx => ?_, fun i k hi hk => ?_⟩
  · obtain ⟨y, hy, rfl⟩ := List.mem_map.1 hx; exact hl y hy
  · rw [cl0_eq, getD_of (by simp; omega), getD_of (by simp; omega), getD_inA (by omega), getD_inA (by omega)]
    simp only [List.getElem_map]
    exact UInt8.toNat_inj
theorem letters_snoc (o : List UInt8) {i : Nat} (h : i < o.length) : (o.take (i + 1)).map UInt8.toNat = (o.take i).map UInt8.toNat ++ [o[i].toNat] := by rw [take_snoc o i h, List.map_append]; rfl
theorem Mem.nilN2 {W w : World} {L : List Row} (h : Mem W w L) (e : TypeId) {b : Nat} (hb : b = w.heap.size) : Mem W (w.alloc (.cells #[] e)) (⟨e, some ⟨b, 0, none⟩, 0, 0, []⟩ :: L) := by
  subst hb; exact h.add (Own.made0 (w0 := w) (w := w) (Below.refl _ _) e)
/-- the key of a state while it is built -/
def keyUp (zss : Tab) (f : Nat → Nat) (i d : Nat) : List Nat := f i :: (List.range d).map fun j => f (tab zss i j)
theorem keyUp_snoc (zss : Tab) (f : Nat → Nat) (i d : Nat) : keyUp zss f i (d + 1) = keyUp zss f i d ++ [f (tab zss i d)] := by simp [keyUp, List.range_succ]
theorem keyUp_len (zss : Tab) (f : Nat → Nat) (i d : Nat) : (keyUp zss f i d).length = d + 1 := by simp [keyUp]
theorem keyUp_all (zss : Tab) (f : Nat → Nat) (b i : Nat) : keyUp zss f i b = keyOf zss b f i := rfl
set_option maxRecDepth 4096 in
set_option maxHeartbeats 6400000 in
theorem classes_any (b : Nat) (A : Option Addr) (n c : Nat) (zss : Tab) (o : List UInt8) (hgd : Good b zss) (hol : o.length = zss.length) (W : World) (hg : GIn W A n c zss) :
    Calls Tryd.prog 44 #[AutoV b A n c o] W fun e w' => ∃ C cc ow, e = .returned (.slice C n cc) ∧ Own W w' 3 C n cc (nvs ow) ∧ OwnOk zss o b n n ow := by
  have HLen := Lib.hid hg.len
  have HW1 := Lib.hid (Below.boxed W (.cells #[.int .i64 (b : Int), .slice A n c, .string ⟨o.toArray⟩] 25))
  have HBx := Lib.hid (BoxAt.made W 25 b A n c o)
  obtain ⟨W1, hW1⟩ : ∃ W1, W1 = W.alloc (.cells #[.int .i64 (b : Int), .slice A n c, .string ⟨o.toArray⟩] 25) := ⟨_, rfl⟩
  rw [← hW1] at HBx HW1
  have HG := Lib.hid (hg.later HW1.out)
  have HWW := Lib.hid hW1
  obtain ⟨g, hgs⟩ : ∃ g, g = W.heap.size := ⟨_, rfl⟩
  rw [← hgs] at HBx
  have HGd := Lib.hid hgd
  have hn8 : n ≤ 8 := by have := hgd.2.2.2.1; have := hg.len; omega
  have hon : o.length = n := by rw [hol]; exact hg.len
  have hb4 := hgd.2.1
  have HT := Lib.hid (show ∀ i < n, ∀ d < b, tab zss i d < n from fun i hi d hd => by
    have h := tab_lt hgd (s := i) (by rw [hg.len]; exact hi) hd
    rwa [hg.len] at h)
  have HSz := Lib.hid (show W1.heap.size = g + 1 by rw [hW1, hgs]; simp)
  clear hg hgd hol
  go_enter Tryd.func44, Tryd.ntmps44
  go_wp2
  rw [← HWW.out, ← hgs]
  clear HWW hgs hW1
  obtain ⟨bx0, bx1, bx2⟩ := HBx.out.later (Below.boxed W1 (.cells #[] 3))
  go_wp2
  go_loopw [17, 3] (fun q l wr => ∃ (i : Nat) (C : Option Addr) (cc : Nat), i ≤ n ∧ q = .int .i64 i ∧ l = .slice C i cc ∧ Own W1 wr 3 C i cc (nvs ((o.take i).map UInt8.toNat))) (fun q _ _ => n - (intOf q).toNat)
  case atStart => exact ⟨0, _, _, Nat.zero_le _, rfl, rfl, by rw [← HSz.out]; exact Own.made0 (Below.refl _ _) _⟩
  case round =>
    clear bx0 bx1 bx2
    obtain ⟨i, C, cc, hi, rfl, rfl, hown⟩ := hrel
    have HO := Lib.hid hown
    obtain ⟨bx0, bx1, bx2⟩ := HBx.out.later hown.bel
    clear hown
    by_cases hlt : i < n
    · have hio : i < o.length := by omega
      have HV := Lib.hid (letters_snoc o hio)
      obtain ⟨x, hx⟩ : ∃ x, x = o[i] := ⟨_, rfl⟩
      rw [← hx] at HV
      have hgx : o[i] = x := hx.symm
      have hx256 := x.toNat_lt
      have e2 : IntKind.i64.wrap (x.toNat : Int) = (x.toNat : Int) := IntWalk.i64_in _ (by omega)
      have i3 : (0 : Int) ≤ (i : Int) := by omega
      have i4 : (i : Int) < (o.length : Int) := by omega
      clear hx
      go_wp2_with (at_builtin; refine app_one (.tmp 20) (.tmp 26) _ _ _ 8 rfl rfl Tryd.underlying54 infoI rfl rfl HO.out rfl rfl (by omega) (by omega) ?_; intro A5 c5 w5 hown5)
      exact ⟨⟨i + 1, A5, c5, by omega, by go_num, rfl, by rw [HV.out, nvs_snoc]; exact hown5⟩, by simp [intOf]; omega⟩
    · obtain rfl : n = i := by omega
      have HO0 := Lib.hid (show OwnOk zss o b 0 n ((o.take n).map UInt8.toNat) by
        rw [List.take_of_length_le (by omega)]
        exact OwnOk.start hon (fun x _ => by have := x.toNat_lt; omega))
      go_wp2
      go_loopw [32, 3] (fun q l wr => ∃ (t : Nat) (C : Option Addr) (cc : Nat) (ow : List Nat), t ≤ n ∧ q = .int .i64 t ∧ l = .slice C n cc ∧ Own W1 wr 3 C n cc (nvs ow) ∧ Hid (OwnOk zss o b t n ow)) (fun q _ _ => n - (intOf q).toNat)
      case atStart => exact ⟨0, _, _, _, Nat.zero_le _, rfl, rfl, HO.out, HO0⟩
      case round =>
        clear HO HO0 bx0 bx1 bx2
        obtain ⟨t, C, cc, ow, ht, rfl, rfl, hown, HOw⟩ := hrel
        have HO := Lib.hid hown
        clear hown
        by_cases hlt2 : t < n
        · have dT : decide ((t : Int) < (n : Int)) = true := by simp; omega
          have HM0 := Lib.hid ((((Mem.start W1).add HO.out).nilN2 54 (b := wr.heap.size) rfl).nilN2 3 (b := wr.heap.size + 1) (by simp))
          obtain ⟨bx0, bx1, bx2⟩ := HBx.out.later HM0.out.bel
          go_wp2
          go_loopw [39, 5, 6] (fun q l u wr => ∃ (i p : Nat) (A5 : Option Addr) (c5 : Nat) (N : Option Addr) (cN : Nat) (krs : List Row) (ks : List (List Nat)) (nw : List Nat), i ≤ n ∧ q = .int .i64 i ∧ l = .slice A5 p c5 ∧ u = .slice N i cN ∧ Mem W1 wr (⟨54, A5, p, c5, krs.map SVal⟩ :: ⟨3, N, i, cN, nvs nw⟩ :: ⟨3, C, n, cc, nvs ow⟩ :: krs) ∧ Hid (krs.map Row.xs = ks.map nvs) ∧ Hid (KeyOk zss b ow i ks nw) ∧ Hid (∀ r ∈ krs, r.n ≤ 8)) (fun q _ _ _ => n - (intOf q).toNat)
          case atStart => exact ⟨0, 0, _, 0, _, 0, [], [], [], Nat.zero_le _, rfl, rfl, rfl, HM0.out.perm (List.Perm.swap _ _ _), Lib.hid rfl, Lib.hid (KeyOk.start zss b ow), Lib.hid (fun r hr => by simp at hr)⟩
          case round =>
            clear HM0 bx0 bx1 bx2
            obtain ⟨i, p, A5, c5, N, cN, krs, ks, nw, hi, rfl, rfl, rfl, hmem, HX, HK, HN8⟩ := hrel
            have HM := Lib.hid hmem
            clear hmem
            by_cases hlt3 : i < n
            · have hil : i < zss.length := by rw [HLen.out]; exact hlt3
              obtain ⟨a, A1, m1, c1, rfl, hab, hcaW, hrd, hzl⟩ := HG.out.at hil
              have hca := cell_keepA HM.out.bel hcaW
              have hm1 : m1 = b := by have h1 := hrd.lenI; have h2 := (HGd.out.2.2.2.2 _ (List.getElem_mem hil)).1; omega
              subst hm1
              have HRd := Lib.hid hrd
              have HTab := Lib.hid (fun d hd => tab_at HGd.out hil (d := d) hd)
              have hpl : p = ks.length := by
                have h1 := HM.out.rd0.1
                have h2 := congrArg List.length HX.out
                simp only [List.length_map] at h1 h2; omega
              subst hpl
              have hp8 : ks.length ≤ 8 := by have := HK.out.2.2.1; omega
              obtain ⟨ac, hac, hacb, hci⟩ := (HM.out.rd (r := ⟨3, C, n, cc, nvs ow⟩) (by simp)).nat (k := i) (by rw [HOw.out.1]; exact hlt3)
              subst hac
              have HFi := Lib.hid (show ow[i]'(by rw [HOw.out.1]; exact hlt3) = ofL ow i from (getD_of (by rw [HOw.out.1]; exact hlt3)).symm)
              rw [HFi.out] at hci
              have HMk := Lib.hid ((HM.out.add (Own.made (w0 := wr) (w := wr) (Below.refl _ _) 3 [.int .i64 (ofL ow i : Nat)] (by simp))).newV 54 (.slice (some ⟨wr.heap.size, 0, none⟩) 1 1) (b := wr.heap.size + 1) (by simp))
              have i3 : (0 : Int) ≤ (i : Int) := by omega
              have i4 : (i : Int) < (n : Int) := by omega
              have dI : decide ((i : Int) < (n : Int)) = true := by simp; omega
              obtain ⟨fi, hfi⟩ : ∃ fi, fi = ofL ow i := ⟨_, rfl⟩
              rw [← hfi] at hci HMk
              have HKU := Lib.hid (show nvs (keyUp zss (ofL ow) i 0) = [.int .i64 (fi : Int)] by rw [hfi]; rfl)
              clear hrd hzl hcaW HM hfi
              go_wp2
              obtain ⟨g9, hg9⟩ : ∃ g, g = wr.heap.size + 1 := ⟨_, rfl⟩
              rw [← hg9] at HMk ⊢
              clear hg9 hci hca
              obtain ⟨RS, hRS⟩ : ∃ RS : List Row, RS = (⟨54, A5, ks.length, c5, krs.map SVal⟩ :: ⟨3, N, i, cN, nvs nw⟩ :: ⟨3, some ac, n, cc, nvs ow⟩ :: krs) := ⟨_, rfl⟩
              rw [← hRS] at HMk
              have HRS := Lib.hid hRS
              have HRC := Lib.hid (show (⟨3, some ac, n, cc, nvs ow⟩ : Row) ∈ RS by rw [hRS]; simp)
              clear hRS
              go_loopw [51] (fun q wr => ∃ (d : Nat) (K : Option Addr) (cK : Nat), d ≤ m1 ∧ q = .int .i64 d ∧ Mem W1 wr (CellV 54 g9 (.slice K (d + 1) cK) :: ⟨3, K, d + 1, cK, nvs (keyUp zss (ofL ow) i d)⟩ :: RS)) (fun q _ => m1 - (intOf q).toNat)
              case atStart => exact ⟨0, _, 1, Nat.zero_le _, rfl, by rw [HKU.out]; exact HMk.out⟩
              case round =>
                clear HMk HKU
                obtain ⟨d, K, cK, hd, rfl, hmem⟩ := hrel
                have HM := Lib.hid hmem
                clear hmem
                by_cases hlt4 : d < m1
                · obtain ⟨t1, t2, t3⟩ := HTab.out d hlt4
                  obtain ⟨a1, ha1, _, hcx⟩ := (HRd.out.later HM.out.bel).int t2
                  subst ha1
                  rw [t3] at hcx
                  rw [HLen.out] at t1
                  have htl : tab zss i d < ow.length := by rw [HOw.out.1]; exact t1
                  obtain ⟨ac3, hac3, _, hcy⟩ := (HM.out.rd (r := ⟨3, some ac, n, cc, nvs ow⟩) (by simp [HRC.out])).nat htl
                  obtain rfl := Option.some.inj hac3
                  rw [show ow[tab zss i d] = ofL ow (tab zss i d) from (getD_of htl).symm] at hcy
                  have HKS := Lib.hid (keyUp_snoc zss (ofL ow) i d)
                  obtain ⟨x, hx⟩ : ∃ x, x = tab zss i d := ⟨_, rfl⟩
                  rw [← hx] at hcx hcy t1 HKS
                  obtain ⟨y, hy⟩ : ∃ y, y = ofL ow x := ⟨_, rfl⟩
                  rw [← hy] at hcy HKS
                  have j1 : (0 : Int) ≤ (x : Int) := by omega
                  have j2 : (x : Int) < (n : Int) := by omega
                  have j3 : (0 : Int) ≤ (d : Int) := by omega
                  have j4 : (d : Int) < (m1 : Int) := by omega
                  have hc9 := HM.out.cellV (e := 54) (b := g9) (v := .slice K (d + 1) cK) (by simp)
                  have hg9l : g9 < wr.heap.size := World.block_lt_of_cell? wr _ hc9
                  clear hx hy t2 t3 htl
                  go_wp2_with fail
                  go_region_law (first | (refine step_app_mem [CellV 54 g9 (.slice K (d + 1) cK)] RS (.tmp 55) (.tmp 60) _ _ _ 8 (by rfl) (by rfl) Tryd.underlying54 infoI (by rfl) (by rfl) ((HM.out.alloc _).drew) (by rfl) (by omega) (Rd.one _ _ _) (by simp [Value.oneCell']) (by omega) (by omega) ?_; intro A6 c6 w6 hm6; have hc6 : w6.cell? ⟨g9, 0, none⟩ = some (.slice K (d + 1) cK) := hm6.cellV (e := 54) (by simp); have hf6 : w6.frozen? ⟨g9, 0, none⟩ = false := hm6.cellVF (e := 54) (v := .slice K (d + 1) cK) (by simp)))
                  all_goals
                    have HM7 := Lib.hid (Mem.setV (pre := []) hm6 (.slice A6 (d + 1 + 1) c6))
                    rw [← nvs_snoc, ← HKS.out] at HM7
                    obtain ⟨w7, hw7⟩ : ∃ w7, w7 = w6.setCell ⟨g9, 0, none⟩ (.slice A6 (d + 1 + 1) c6) := ⟨_, rfl⟩
                    rw [← hw7] at HM7 ⊢
                    clear hw7 hm6 hc6 hf6 hc9 hcx hcy HM
                    go_wp2
                    exact ⟨⟨d + 1, A6, c6, by omega, by go_num, HM7.out⟩, by simp [intOf]; omega⟩
                · obtain rfl : m1 = d := by omega
                  have hkl : (keyUp zss (ofL ow) i m1).length = m1 + 1 := keyUp_len _ _ _ _
                  obtain ⟨key, hkey⟩ : ∃ key, key = keyUp zss (ofL ow) i m1 := ⟨_, rfl⟩
                  rw [← hkey] at HM hkl
                  have HKey := Lib.hid (show key = keyOf zss m1 (ofL ow) i from hkey)
                  have HM2 := Lib.hid (show Mem W1 wr (CellV 54 g9 (.slice K (m1 + 1) cK) :: ⟨3, K, m1 + 1, cK, nvs key⟩ :: ⟨54, A5, ks.length, c5, krs.map SVal⟩ :: ⟨3, N, i, cN, nvs nw⟩ :: ⟨3, some ac, n, cc, nvs ow⟩ :: krs) by rw [← HRS.out]; exact HM.out)
                  have hkrl : krs.length = ks.length := by have h2 := congrArg List.length HX.out; simpa using h2
                  have HKX := Lib.hid (show ∀ k (hk : k < krs.length), krs[k].xs = nvs (ks.getD k []) from fun k hk => by
                    have hk2 : k < ks.length := by omega
                    have h1 : (krs.map Row.xs)[k]'(by simpa using hk) = (ks.map nvs)[k]'(by simpa using hk2) := by simp only [HX.out]
                    simp only [List.getElem_map] at h1
                    rw [h1, getD_of hk2])
                  have HKN := Lib.hid (show ∀ k (hk : k < krs.length), krs[k].n ≤ 1048576 from fun k hk => by
                    have := HN8.out _ (List.getElem_mem hk); omega)
                  have HF := Lib.hid (indexFuncG_any 56 #[.pointer (some ⟨g9, 0, none⟩)] (fun _ _ => rfl) A5 ks.length c5 krs (fun k => ks.getD k [] == key) wr
                    (Mem.rdG HM2.out (e := 54) (c := c5) (by simp) (fun r hr => by simp [hr])) (by omega) (by
                      intro w hb k hk
                      have hm := HM2.out.later hb
                      have hr := hm.rd (r := krs[k]) (by simp)
                      rw [HKX.out k hk] at hr
                      exact classes1_any W1 w _ g9 K (m1 + 1) cK key krs[k].A krs[k].n krs[k].c (ks.getD k []) hm (by simp) (hm.rd (r := ⟨3, K, m1 + 1, cK, nvs key⟩) (by simp)) hr (by omega) (HKN.out k hk)))
                  have dD : decide ((m1 : Int) < (m1 : Int)) = false := by simp
                  clear hkey HM
                  by_cases hex : ∃ q, q < ks.length ∧ ks.getD q [] = key
                  · obtain ⟨q, hq, hqe⟩ := hex
                    have HFx := Lib.hid (show fidx (fun k => ks.getD k [] == key) ks.length = (q : Int) from fidx_hit hq (beq_iff_eq.2 hqe) (fun j hj => by
                      rw [beq_eq_false_iff_ne, getD_of (by omega), ← hqe, getD_of hq]
                      exact List.pairwise_iff_getElem.1 HK.out.2.1 j q (by omega) hq hj))
                    rw [HFx.out] at HF
                    have HKn := Lib.hid (HK.out.old hq (by rw [← getD_of (d := []) hq, hqe, HKey.out]))
                    have d2 : decide ((q : Int) < 0) = false := by simp
                    clear hqe
                    go_wp2_with (first
                      | (go_at_call 55; refine HF.out.mono ?_; rintro e w7 ⟨rfl, hb7⟩; have HM7 := Lib.hid (HM2.out.later hb7))
                      | (at_builtin; refine app_mem [CellV 54 g9 (.slice K (m1 + 1) cK), ⟨3, K, m1 + 1, cK, nvs key⟩, ⟨54, A5, ks.length, c5, krs.map SVal⟩] (⟨3, some ac, n, cc, nvs ow⟩ :: krs) (.tmp 74) (.tmp 76) _ _ _ 8 rfl rfl Tryd.underlying54 infoI rfl rfl (HM7.out.alloc _) rfl (by omega) (Rd.one _ _ _) (by simp [Value.oneCell']) (by omega) (by omega) ?_; intro A8 c8 w8 hm8))
                    refine ⟨⟨i + 1, ks.length, A5, c5, A8, c8, krs, ks, nw ++ [q], by omega, by go_num, rfl, rfl, ?_, HX, HKn, HN8⟩, by simp [intOf]; omega⟩
                    rw [nvs_snoc]
                    exact hm8.drop (((List.Sublist.refl _).cons _).cons _)
                  · have HFx := Lib.hid (show fidx (fun k => ks.getD k [] == key) ks.length = -1 from fidx_none (fun j hj => by
                      rw [beq_eq_false_iff_ne]
                      exact fun h => hex ⟨j, hj, h⟩))
                    rw [HFx.out] at HF
                    have HKn := Lib.hid (HK.out.new (fun q hq h => hex ⟨q, hq, by rw [getD_of hq, h, HKey.out]⟩))
                    clear hex
                    go_wp2_with (first
                      | (go_at_call 55; refine HF.out.mono ?_; rintro e w7 ⟨rfl, hb7⟩; have HM7 := Lib.hid (HM2.out.later hb7); have hc9 := HM7.out.cellV (e := 54) (b := g9) (v := .slice K (m1 + 1) cK) (by simp))
                      | (at_builtin; refine app_mem [CellV 54 g9 (.slice K (m1 + 1) cK), ⟨3, K, m1 + 1, cK, nvs key⟩] (⟨3, N, i, cN, nvs nw⟩ :: ⟨3, some ac, n, cc, nvs ow⟩ :: krs) (.tmp 70) (.tmp 72) _ _ _ 24 rfl rfl Tryd.underlying23 infoG rfl rfl (HM7.out.alloc _) rfl (by omega) (Rd.one _ _ _) (by simp [Value.oneCell']) (by omega) (by omega) ?_; intro A8 c8 w8 hm8)
                      | (at_builtin; refine app_mem [CellV 54 g9 (.slice K (m1 + 1) cK), ⟨3, K, m1 + 1, cK, nvs key⟩, ⟨54, A8, ks.length + 1, c8, krs.map SVal ++ [.slice K (m1 + 1) cK]⟩] (⟨3, some ac, n, cc, nvs ow⟩ :: krs) (.tmp 74) (.tmp 76) _ _ _ 8 rfl rfl Tryd.underlying54 infoI rfl rfl (hm8.alloc _) rfl (by omega) (Rd.one _ _ _) (by simp [Value.oneCell']) (by omega) (by omega) ?_; intro A9 c10 w9 hm9))
                    refine ⟨⟨i + 1, ks.length + 1, A8, c8, A9, c10, krs ++ [⟨3, K, m1 + 1, cK, nvs key⟩], ks ++ [key], nw ++ [ks.length], by omega, by go_num, rfl, rfl, ?_, Lib.hid (by rw [List.map_append, List.map_append, HX.out]; rfl), by rw [HKey.out]; exact HKn, Lib.hid (fun r hr => by
                      rcases List.mem_append.1 hr with hr | hr
                      · exact HN8.out r hr
                      · simp only [List.mem_singleton] at hr; subst hr; show m1 + 1 ≤ 8; omega)⟩, by simp [intOf]; omega⟩
                    rw [nvs_snoc]
                    have h := hm9.drop ((List.Sublist.refl _).cons _)
                    refine h.perm ?_
                    simp only [List.map_append, List.map_cons, List.map_nil, SVal, List.cons_append, List.append_assoc, List.nil_append]
                    exact (List.perm_append_singleton (⟨3, K, m1 + 1, cK, nvs key⟩ : Row) (⟨54, A8, ks.length + 1, c8, krs.map (fun r => .slice r.A r.n r.c) ++ [.slice K (m1 + 1) cK]⟩ :: ⟨3, A9, i + 1, c10, nvs nw ++ [.int .i64 (ks.length : Int)]⟩ :: ⟨3, some ac, n, cc, nvs ow⟩ :: krs)).symm
            · obtain rfl : n = i := by omega
              have HN := Lib.hid (show OwnOk zss o b (t + 1) n nw from KeyOk.done (ks' := []) HT.out hn8 HOw.out HK.out)
              have HO2 := Lib.hid (Mem.own (pre := [_]) HM.out)
              go_wp2
              exact ⟨⟨t + 1, N, cN, nw, by omega, by go_num, rfl, HO2.out, HN⟩, by simp [intOf]; omega⟩
        · obtain rfl : n = t := by omega
          go_wp2
          go_ret
          exact ⟨C, cc, ow, rfl, HO.out.up HW1.out, HOw.out⟩
end Go.Proofs.YtcicoplmpinnmaaDoor
