/-
  Contracts of l18Draw and MakeAuto (drawn automata): several rows of the call's own beside the cursor. No conditions beyond the code's length.
-/
import Derived.Test.YtcicoplmpinnmaaDoorANam
import Derived.Test.YtcicoplmpinnmaaDoorATwi
import Derived.Test.YtcicoplmpinnmaaDoorMkC
namespace Go.Proofs.YtcicoplmpinnmaaDoor
open Go.RowKit

/-- rows of the call's own beside the cursor in block g -/
def GMem (w0 w : World) (g : Nat) (L : List Row) : Prop := Mem (trunc w w0.heap.size) w L ∧ TurnG w0 w g ∧ CurAt w g
section
variable {w0 w w' w1 : World} {g : Nat} {L L' : List Row}
theorem GMem.start (hc : CurAt w g) (ht : TurnG w0 w g) : GMem w0 w g [] := by
  have hs := trunc_size w ht.size
  exact ⟨⟨by rw [hs]; exact trunc_below w ht.size, by simp, List.Pairwise.nil⟩, ht, hc⟩
theorem GMem.turn (h : GMem w0 w g L) (hg : g < w0.heap.size) (ht : TurnG w w' g) (hc : CurAt w' g) : GMem w0 w' g L := by
  have ht2 := h.2.1.trans ht
  have hs := trunc_size w h.2.1.size
  have hs2 := trunc_size w' ht2.size
  refine ⟨⟨by rw [hs2]; exact trunc_below w' ht2.size, fun r hr => ?_, h.1.2.2⟩, ht2, hc⟩
  have hr1 := h.1.2.1 r hr
  rw [hs] at hr1
  rw [hs2]
  refine hr1.kept ht ?_
  cases hb : (Value.slice r.A r.n r.c).ownBlock with
  | none => exact Or.inl rfl
  | some k =>
    right
    have := (own_blk_lt hr1 k hb).1
    intro h2; injection h2 with h2; omega
theorem GMem.after (h : GMem w0 w g L) (hg : g < w0.heap.size) (hm : Mem (trunc w w0.heap.size) w' L') : GMem w0 w' g L' := by
  have hs := trunc_size w h.2.1.size
  obtain ⟨h2, h1, hp⟩ := hm
  rw [hs] at h1 h2
  have hbl : ∀ k, k < w0.heap.size → w'.heap[k]? = w.heap[k]? := fun k hk => by
    rw [h2.block k hk, (trunc_below w h.2.1.size).block k hk]
  have hsz : w0.heap.size ≤ w'.heap.size := by have := h2.size; rw [hs] at this; exact this
  have hs2 := trunc_size w' hsz
  refine ⟨⟨by rw [hs2]; exact trunc_below w' hsz, by rw [hs2]; exact h1, hp⟩, ⟨?_, ?_, ?_, hsz, fun k hk hne => ?_⟩, ?_⟩
  · exact h2.os.trans h.2.1.os
  · exact h2.tape.trans h.2.1.tape
  · exact h2.output.trans h.2.1.output
  · rw [hbl k hk]; exact h.2.1.block k hk hne
  · obtain ⟨B, m, d, l, i, hh, hr, h3, h4⟩ := h.2.2
    refine ⟨B, m, d, l, i, hh, ?_, h3.keep fun p hp => ?_, h4⟩
    · refine ⟨hr.1, ?_⟩
      rcases hr.2 with ⟨hv, _⟩ | ⟨g1, cap, cur, hv, hb, hh1, r⟩
      · cases hv
      · simp only [Value.slice.injEq, Option.some.injEq, Addr.mk.injEq, and_true, true_and] at hv
        obtain ⟨rfl, rfl⟩ := hv
        exact Or.inr ⟨_, _, cur, rfl, hb, by rw [hbl _ hg]; exact hh1, r⟩
    · have hb := hbl p.block (by omega)
      unfold World.cell?
      rw [hb]
/-- the rows seen from a world ahead of the cursor -/
theorem Mem.addTurn (h : Mem w1 w0 L) (hG : GMem w0 w g L') (hg : w1.heap.size ≤ g) (hne : ∀ r ∈ L, r.blk ≠ some g) : Mem w1 w (L' ++ L) := by
  have hs := trunc_size w hG.2.1.size
  have hb : Below w1.heap.size w1 w := below_turn h.1 hG.2.1 hg
  refine ⟨hb, fun r hr => ?_, List.pairwise_append.2 ⟨hG.1.2.2, h.2.2, fun r hr s hs' => ?_⟩⟩
  · rcases List.mem_append.1 hr with hr | hr
    · have h1 := hG.1.2.1 r hr
      rw [hs] at h1
      exact less_row h1 h.1.size
    · refine (h.2.1 r hr).kept hG.2.1 ?_
      cases hb2 : (Value.slice r.A r.n r.c).ownBlock with
      | none => exact Or.inl rfl
      | some k => exact Or.inr fun h2 => hne r hr (by rw [← h2]; exact hb2)
  · cases hb2 : r.blk with
    | none => exact Or.inl rfl
    | some k =>
      refine Or.inr fun hc => ?_
      have h1 := hG.1.2.1 r hr
      rw [hs] at h1
      have h3 := (own_blk_lt h1 k hb2).1
      have h4 := (own_blk_lt (h.2.1 s hs') k hc.symm).2
      omega
end
/-- what a drawn automaton leaves -/
def DrawA (w : World) (g : Nat) (e : Ending) (w' : World) : Prop :=
  ∃ (b : Nat) (A : Option Addr) (n c : Nat) (zss : Tab) (o : List UInt8) (rs : List Row), e = .returned (AutoV (b : Int) A n c o) ∧ aOk b zss o = true ∧ GMem w w' g (⟨54, A, n, c, rs.map SVal⟩ :: rs) ∧ rs.map Row.xs = zss.map ivs
theorem named_of {l : List UInt8} (h : Name3 l) : ofOk (named3 l) = true ∧ uni (named3 l) = 2 ∧ aOk 2 (ofTab (named3 l)) (ofOut (named3 l)) = true := by
  rcases h with rfl | rfl | rfl <;> decide
/-- a drawn table is fit -/
theorem drawn_ok {b m : Nat} {zs : Tab} {o : List UInt8} (hb : 2 ≤ b) (hb3 : b ≤ 4) (hm : 1 ≤ m) (hm8 : m ≤ 8) (hz : zs.length = m) (hr : ∀ z ∈ zs, z.length = b ∧ ∀ x ∈ z, 0 ≤ x ∧ x < (m : Int)) (ho : o.length = m) (hw : wordK 2 o) : aOk b zs o = true := by
  refine good_aOk ⟨hb, hb3, by omega, by omega, fun z h => ⟨(hr z h).1, fun x hx => by have := (hr z h).2 x hx; omega⟩⟩ (by omega) ?_
  unfold isW
  rw [Bool.and_eq_true, decide_eq_true_eq]
  refine ⟨List.all_eq_true.2 fun c hc => ?_, by omega⟩
  have := hw c hc
  simp only [isLet, decide_eq_true_eq]; omega
set_option maxRecDepth 4096 in
set_option maxHeartbeats 6400000 in
theorem l18Draw_any (g : Nat) (W : World) (h : CurAt W g) : Calls Tryd.prog 18 #[.pointer (some ⟨g, 0, none⟩)] W (DrawA W g) := by
  have hg := h.lt
  have H0 := Lib.hid ((GMem.start h TurnG.same).after hg ((GMem.start h TurnG.same).1.box 25 0 none 0 0 []))
  clear h
  obtain ⟨g2, hg2⟩ : ∃ g, g = W.heap.size := ⟨_, rfl⟩
  rw [← hg2] at H0
  go_enter Tryd.func18, Tryd.ntmps18
  go_wp2_with fail
  obtain ⟨W1, hW1⟩ : ∃ W1, W1 = W.alloc (.cells #[.int .i64 0, .slice none 0 0, .string ⟨#[]⟩] 25) := ⟨_, rfl⟩
  have H1 := Lib.hid (show GMem W W1 g [BoxR 25 g2 0 none 0 0 []] by rw [hW1]; exact H0.out)
  rw [← hW1, ← hg2]
  clear hW1 H0 hg2
  refine (l01Once_any g 3 _ (by omega) H1.out.2.2).mono ?_
  rintro e w2 ⟨t, rfl, hc2, ht2⟩
  have H2 := Lib.hid (H1.out.turn hg ht2 hc2)
  clear hc2 ht2 H1
  cases t
  case true =>
    have HO3 := Lib.hid (Own.made (w0 := w2) (w := w2) (Below.refl _ _) 9 (svs [nThue, nDoub, nRudin]) (by simp [svs]))
    have hgn : g < w2.heap.size := H2.out.2.2.lt
    have H3 := Lib.hid (H2.out.after hg (H2.out.1.later HO3.out.bel))
    go_wp2_with fail
    refine (l01Str_any g _ 3 3 [nThue, nDoub, nRudin] _ H3.out.2.2 (by show w2.heap.size ≠ g; omega) HO3.out.rd (by omega) (by omega)).mono ?_
    rintro e w4 ⟨l, hl, rfl, hc4, ht4⟩
    have H4 := Lib.hid (H3.out.turn hg ht4 hc4)
    have hn3 : Name3 l := by
      simp only [List.mem_cons, List.mem_nil_iff, or_false] at hl
      exact hl
    have hno := named_of hn3
    have HN := Lib.hid hn3
    have HNO := Lib.hid hno
    clear hl hc4 ht4 hn3 hno H3 HO3 H2
    go_wp2_with fail
    refine (sNamed_any _ HN.out).mono ?_
    rintro e w5 ⟨A5, n5, c5, rfl, o5⟩
    obtain ⟨ss, hss⟩ : ∃ ss, ss = named3 l := ⟨_, rfl⟩
    rw [← hss] at o5 HNO
    have hsok := (ofOk_sOk HNO.out.1).1
    have hn5 : n5 ≤ 4 := by have h1 := o5.len; have h2 := sOk_n hsok; simp only [svs, List.length_map] at h1; omega
    have HS5 := Lib.hid (SIn.of o5.rd (by omega) (fun s hs => by have := (sOk_img hsok hs).1; omega) o5.cap)
    have H5 := Lib.hid (H4.out.after hg (H4.out.1.later o5.bel))
    clear o5 hss H4 HN
    have H6 := Lib.hid (H5.out.after hg (H5.out.1.sub 39 A5 n5 c5))
    have bs6 := H6.out.1.subAt (t := 39) (g := w5.heap.size) (A := A5) (n := n5) (c := c5) (by simp)
    have hb6 : Below w5.heap.size w5 (w5.alloc (.cells #[.slice A5 n5 c5] 39)) := (Below.refl _ _).alloc (Nat.le_refl _) _
    have HS6 := Lib.hid (HS5.out.later hb6)
    clear hb6 HS5
    go_wp2_with fail
    refine (cAutoOfS A5 n5 c5 ss _ HS6.out).mono ?_
    rintro e w7 ⟨A7, n7, c7, rs, rfl, hm7, hx7⟩
    have hbase : ofBase ss = 2 := by unfold ofBase; rw [if_pos HNO.out.1]; exact HNO.out.2.1
    rw [hbase]
    obtain ⟨zz, hzz⟩ : ∃ zz, zz = ofTab ss := ⟨_, rfl⟩
    obtain ⟨oo, hoo⟩ : ∃ oo, oo = ofOut ss := ⟨_, rfl⟩
    obtain ⟨kk, hkk⟩ : ∃ kk, kk = ofOk ss := ⟨_, rfl⟩
    rw [← hoo, ← hkk]
    have HK7 := Lib.hid (show aOk 2 zz oo = true by rw [hzz, hoo]; exact HNO.out.2.2)
    have HX7 := Lib.hid (show rs.map Row.xs = zz.map ivs by rw [hx7, hzz])
    have H7 := Lib.hid (H6.out.after hg (H6.out.1.addAll hm7))
    clear hm7 hx7 hzz hoo hkk hbase bs6
    have H8 := Lib.hid (H7.out.after hg (H7.out.1.box 25 2 A7 n7 c7 oo))
    obtain ⟨bx0, bx1, bx2⟩ := H8.out.1.boxAt (t := 25) (g := w7.heap.size) (b := 2) (A := A7) (n := n7) (c := c7) (o := oo) (by simp)
    obtain ⟨by0, by1, by2⟩ := H8.out.1.boxAt (t := 25) (g := g2) (b := 0) (A := none) (n := 0) (c := 0) (o := []) (by simp)
    have fx := fun j => H8.out.1.boxFree (t := 25) (g := g2) (b := 0) (A := none) (n := 0) (c := 0) (o := []) (by simp) j
    have fx0 := fx 0
    have fx1 := fx 1
    have fx2 := fx 2
    clear fx H7 H6 H5
    go_wp2_with fail
    have HM9 := Lib.hid (H8.out.after hg (Mem.boxAll (pre := BoxR 25 w7.heap.size 2 A7 n7 c7 oo :: ⟨54, A7, n7, c7, rs.map SVal⟩ :: (rs ++ [SubR 39 w5.heap.size A5 n5 c5])) (post := []) (by simpa using H8.out.1) 2 A7 n7 c7 oo))
    obtain ⟨w9, hw9⟩ : ∃ w9, w9 = ((((w7.alloc (.cells #[.int .i64 2, .slice A7 n7 c7, .string ⟨oo.toArray⟩] 25)).setCell ⟨g2, 0, none⟩ (.int .i64 2)).setCell ⟨g2, 1, none⟩ (.slice A7 n7 c7)).setCell ⟨g2, 2, none⟩ (.string ⟨oo.toArray⟩)) := ⟨_, rfl⟩
    rw [← hw9] at HM9 ⊢
    clear hw9 H8 bx0 bx1 bx2 by0 by1 by2 fx0 fx1 fx2
    obtain ⟨by0, by1, by2⟩ := HM9.out.1.boxAt (t := 25) (g := g2) (b := 2) (A := A7) (n := n7) (c := c7) (o := oo) (by simp)
    refine bodyPost_ret (v := AutoV 2 A7 n7 c7 oo) (by simp [results, Tryd.results18, go_sem, by0, by1, by2]) rfl ?_
    exact ⟨2, A7, n7, c7, zz, oo, rs, rfl, HK7.out, HM9.out.after hg (HM9.out.1.drop (by simp)), HX7.out⟩
  case false =>
    go_wp2_with fail
    refine (l01Below_any g 5 _ (by omega) H2.out.2.2).mono ?_
    rintro e w3 ⟨v, rfl, hv0, hv1, hv2, hc3, ht3⟩
    have hv5 := hv1 (by omega)
    obtain ⟨v, rfl⟩ := Int.eq_ofNat_of_zero_le hv0
    have H3 := Lib.hid (H2.out.turn hg ht3 hc3)
    obtain ⟨m, hm⟩ : ∃ m, m = v + 1 := ⟨_, rfl⟩
    have em : 1 + (v : Int) = (m : Int) := by omega
    have e1 : IntKind.i64.wrap (1 + (v : Int)) = (m : Int) := by rw [em]; exact IntWalk.i64_in _ (by omega)
    have e1b : IntKind.i64.wrap (m : Int) = (m : Int) := IntWalk.i64_in _ (by omega)
    have hm1 : 1 ≤ m := by omega
    have hm5 : m ≤ 5 := by omega
    clear hv1 hv2 hc3 ht3 hv0 hv5 H2 hm
    go_wp2_with fail
    refine (l01Below_any g 2 _ (by omega) H3.out.2.2).mono ?_
    rintro e w4 ⟨u, rfl, hu0, hu1, hu2, hc4, ht4⟩
    have hu3 := hu1 (by omega)
    obtain ⟨u, rfl⟩ := Int.eq_ofNat_of_zero_le hu0
    have H4 := Lib.hid (H3.out.turn hg ht4 hc4)
    obtain ⟨b, hb⟩ : ∃ b, b = u + 2 := ⟨_, rfl⟩
    have eb : 2 + (u : Int) = (b : Int) := by omega
    have e2 : IntKind.i64.wrap (2 + (u : Int)) = (b : Int) := by rw [eb]; exact IntWalk.i64_in _ (by omega)
    have e2b : IntKind.i64.wrap (b : Int) = (b : Int) := IntWalk.i64_in _ (by omega)
    have hb2 : 2 ≤ b := by omega
    have hb3 : b ≤ 3 := by omega
    clear hu1 hu2 hc4 ht4 hu0 hu3 H3 hb
    go_wp2_with fail
    refine (l02Word_any g m 2 _ (by omega) (by omega) (by omega) H4.out.2.2).mono ?_
    rintro e w5 ⟨o, rfl, hol, how, hc5, ht5⟩
    have H5 := Lib.hid (H4.out.turn hg ht5 hc5)
    have HOL := Lib.hid hol
    have HOW := Lib.hid how
    clear hol how hc5 ht5 H4 e1 em e2 eb
    have H6 := Lib.hid (H5.out.after hg (H5.out.1.box 25 (b : Int) none 0 0 o))
    go_wp2_with fail
    obtain ⟨g8, hg8⟩ : ∃ g8, g8 = w5.heap.size := ⟨_, rfl⟩
    obtain ⟨w6, hw6⟩ : ∃ w6, w6 = w5.alloc (.cells #[.int .i64 (b : Int), .slice none 0 0, .string ⟨o.toArray⟩] 25) := ⟨_, rfl⟩
    rw [← hw6, ← hg8] at H6
    rw [← hw6, ← hg8]
    have H7 := Lib.hid (H6.out.after hg (H6.out.1.add (Own.nil (Below.refl w6.heap.size w6) 54)))
    clear hw6 hg8 H6 H5
    go_loopw [9] (fun i wr => ∃ (k : Nat) (A5 : Option Addr) (c5 : Nat) (rs : List Row) (zs : Tab), k ≤ m ∧ i = .int .i64 k ∧ GMem W wr g (⟨54, A5, k, c5, rs.map SVal⟩ :: (rs ++ [BoxR 25 g8 (b : Int) A5 k c5 o, BoxR 25 g2 0 none 0 0 []])) ∧ Hid (rs.map Row.xs = zs.map ivs ∧ zs.length = k ∧ ∀ z ∈ zs, z.length = b ∧ ∀ x ∈ z, 0 ≤ x ∧ x < (m : Int))) (fun i _ => m - (intOf i).toNat)
    case atStart => exact ⟨0, none, 0, [], [], Nat.zero_le _, rfl, H7.out, Lib.hid ⟨rfl, rfl, by simp⟩⟩
    case round =>
      clear H7
      obtain ⟨k, A5, c5, rs, zs, hk, rfl, hmem, HZ⟩ := hrel
      have H8 := Lib.hid hmem
      clear hmem
      by_cases hlt : k < m
      · have H9 := Lib.hid (H8.out.after hg (H8.out.1.add (Own.made0 (w0 := wr) (w := wr) (Below.refl _ _) 3)))
        clear H8
        go_wp2_with fail
        go_loopw [11, 10] (fun i row w3 => ∃ (d : Nat) (A6 : Option Addr) (c6 : Nat) (z : List Int), d ≤ b ∧ i = .int .i64 d ∧ row = .slice A6 d c6 ∧ GMem W w3 g (⟨3, A6, d, c6, ivs z⟩ :: ⟨54, A5, k, c5, rs.map SVal⟩ :: (rs ++ [BoxR 25 g8 (b : Int) A5 k c5 o, BoxR 25 g2 0 none 0 0 []])) ∧ Hid (z.length = d ∧ ∀ x ∈ z, 0 ≤ x ∧ x < (m : Int))) (fun i _ _ => b - (intOf i).toNat)
        case atStart => exact ⟨0, _, _, [], Nat.zero_le _, rfl, rfl, H9.out, Lib.hid ⟨rfl, by simp⟩⟩
        case round =>
          clear H9
          obtain ⟨d, A6, c6, z, hd, rfl, rfl, hmem, HV⟩ := hrel
          have H10 := Lib.hid hmem
          obtain ⟨bx0, bx1, bx2⟩ := hmem.1.boxAt (t := 25) (g := g8) (b := (b : Int)) (A := A5) (n := k) (c := c5) (o := o) (by simp)
          clear hmem
          by_cases hlt2 : d < b
          · have d1 : decide ((d : Int) < (b : Int)) = true := by simp; omega
            go_wp2_with fail
            refine (l01Below_any g (m : Int) _ (by omega) H10.out.2.2).mono ?_
            rintro e w4 ⟨x, rfl, hx0, hx1, hx2, hc4, ht4⟩
            have hxm := hx1 (by omega)
            have H11 := Lib.hid (H10.out.turn hg ht4 hc4)
            have HV2 := Lib.hid (show (z ++ [x]).length = d + 1 ∧ ∀ y ∈ z ++ [x], 0 ≤ y ∧ y < (m : Int) from ⟨by rw [List.length_append, HV.out.1]; rfl, fun y hy => by
              rcases List.mem_append.1 hy with hy | hy
              · exact HV.out.2 y hy
              · simp only [List.mem_singleton] at hy; subst hy; exact ⟨hx0, hxm⟩⟩)
            clear hx0 hx1 hx2 hxm hc4 ht4 H10 HV bx0 bx1 bx2
            go_wp2_with (at_builtin; refine app_mem [] (⟨54, A5, k, c5, rs.map SVal⟩ :: (rs ++ [BoxR 25 g8 (b : Int) A5 k c5 o, BoxR 25 g2 0 none 0 0 []])) (.tmp 49) (.tmp 53) _ _ _ 8 rfl rfl Tryd.underlying54 infoI rfl rfl (H11.out.1.alloc _) rfl (by omega) (Rd.one _ _ _) (fun u hu => by simp at hu; subst hu; rfl) (by omega) (by omega) ?_; intro A7 c7 w7 hm7)
            exact ⟨⟨d + 1, A7, c7, z ++ [x], by omega, by go_num, rfl, by rw [ivs_snoc]; exact H11.out.after hg hm7, HV2⟩, by simp [intOf]; omega⟩
          · obtain rfl : d = b := by omega
            have d1 : decide ((d : Int) < (d : Int)) = false := by simp
            go_wp2_with (at_builtin; refine app_mem [⟨3, A6, d, c6, ivs z⟩] (rs ++ [BoxR 25 g8 (d : Int) A5 k c5 o, BoxR 25 g2 0 none 0 0 []]) (.tmp 56) (.tmp 58) _ _ _ 24 rfl rfl Tryd.underlying23 infoG rfl rfl (H10.out.1.alloc _) rfl (by omega) (Rd.one _ _ _) (by simp [Value.oneCell']) (by omega) (by omega) ?_; intro A8 c8 w8 hm8; have by1 := (hm8.boxAt (t := 25) (g := g8) (b := (d : Int)) (A := A5) (n := k) (c := c5) (o := o) (by simp)).2.1; have bf1 := hm8.boxFree (t := 25) (g := g8) (b := (d : Int)) (A := A5) (n := k) (c := c5) (o := o) (by simp) 1)
            have HM9 := Lib.hid (Mem.box1 (pre := ⟨3, A6, d, c6, ivs z⟩ :: ⟨54, A8, k + 1, c8, rs.map SVal ++ [.slice A6 d c6]⟩ :: rs) (post := [_]) (by simpa using hm8) A8 (k + 1) c8)
            refine ⟨⟨k + 1, A8, c8, rs ++ [⟨3, A6, d, c6, ivs z⟩], zs ++ [z], by omega, by go_num, ?_, ?_⟩, by simp [intOf]; omega⟩
            · refine H10.out.after hg (HM9.out.perm ?_)
              simp only [List.map_append, List.map_cons, List.map_nil, SVal, List.cons_append, List.append_assoc, List.nil_append]
              refine (List.Perm.swap _ _ _).trans (List.Perm.cons _ ?_)
              exact List.perm_middle.symm
            · refine Lib.hid ⟨by rw [List.map_append, List.map_append, HZ.out.1]; rfl, by rw [List.length_append, HZ.out.2.1]; rfl, fun y hy => ?_⟩
              rcases List.mem_append.1 hy with hy | hy
              · exact HZ.out.2.2 y hy
              · simp only [List.mem_singleton] at hy; subst hy; exact HV.out
      · obtain rfl : k = m := by omega
        have HK := Lib.hid (drawn_ok (zs := zs) hb2 (by omega) hm1 (by omega) HZ.out.2.1 HZ.out.2.2 HOL.out HOW.out)
        have HX := Lib.hid HZ.out.1
        obtain ⟨bx0, bx1, bx2⟩ := H8.out.1.boxAt (t := 25) (g := g8) (b := (b : Int)) (A := A5) (n := k) (c := c5) (o := o) (by simp)
        obtain ⟨by0, by1, by2⟩ := H8.out.1.boxAt (t := 25) (g := g2) (b := 0) (A := none) (n := 0) (c := 0) (o := []) (by simp)
        have fx := fun j => H8.out.1.boxFree (t := 25) (g := g2) (b := 0) (A := none) (n := 0) (c := 0) (o := []) (by simp) j
        have fx0 := fx 0
        have fx1 := fx 1
        have fx2 := fx 2
        clear fx
        go_wp2_with fail
        have HM9 := Lib.hid (H8.out.after hg (Mem.boxAll (pre := ⟨54, A5, k, c5, rs.map SVal⟩ :: (rs ++ [BoxR 25 g8 (b : Int) A5 k c5 o])) (post := []) (by simpa using H8.out.1) (b : Int) A5 k c5 o))
        obtain ⟨w9, hw9⟩ : ∃ w9, w9 = (((wr.setCell ⟨g2, 0, none⟩ (.int .i64 (b : Int))).setCell ⟨g2, 1, none⟩ (.slice A5 k c5)).setCell ⟨g2, 2, none⟩ (.string ⟨o.toArray⟩)) := ⟨_, rfl⟩
        rw [← hw9] at HM9 ⊢
        clear hw9 H8 bx0 bx1 bx2 by0 by1 by2 fx0 fx1 fx2
        obtain ⟨by0, by1, by2⟩ := HM9.out.1.boxAt (t := 25) (g := g2) (b := (b : Int)) (A := A5) (n := k) (c := c5) (o := o) (by simp)
        refine bodyPost_ret (v := AutoV (b : Int) A5 k c5 o) (by simp [results, Tryd.results18, go_sem, by0, by1, by2]) rfl ?_
        exact ⟨b, A5, k, c5, zs, o, rs, rfl, HK.out, HM9.out.after hg (HM9.out.1.drop (by simp)), HX.out⟩
set_option maxRecDepth 4096 in
set_option maxHeartbeats 1600000 in
theorem MakeAuto_any (A : Option Addr) (n c : Nat) (l : List UInt8) (m : Nat) (W : World) (hr : Rd W W.heap.size A n (bvs l)) (hn : n ≤ 1048576) (hm : m ≤ 100000) :
    Calls Tryd.prog 4 #[.slice A n c, .int .i64 (m : Int)] W fun e w' => ∃ (b : Nat) (A' : Option Addr) (n' c' : Nat) (zss : Tab) (o : List UInt8) (rs : List Row), e = .returned (AutoV (b : Int) A' n' c' o) ∧ aOk b zss o = true ∧ Mem W w' (⟨54, A', n', c', rs.map SVal⟩ :: rs) ∧ rs.map Row.xs = zss.map ivs := by
  have HM0 := Lib.hid ((Mem.start W).box 25 0 none 0 0 [])
  have HC := Lib.hid (l31New_any A n c l m _ (hr.later HM0.out.bel) hn hm)
  clear hr
  go_enter Tryd.func4, Tryd.ntmps4
  go_wp2_with fail
  refine HC.out.mono ?_
  rintro e w2 ⟨g, rfl, hg, hcur, hbel⟩
  have HM1 := Lib.hid (HM0.out.later hbel)
  have HCu := Lib.hid hcur
  have hg1 : W.heap.size < g := by simp at hg; omega
  clear hg hcur hbel HM0 HC
  go_wp2_with fail
  refine (l18Draw_any g _ HCu.out).mono ?_
  rintro e w3 ⟨b, A5, n5, c5, zss, o, rs, rfl, hk, hG, hx⟩
  have HK := Lib.hid hk
  have HX := Lib.hid hx
  have HM2 := Lib.hid (HM1.out.addTurn hG (by omega) (fun r hr h => by
    simp only [List.mem_singleton] at hr
    subst hr
    simp only [Row.blk, BoxR, Value.ownBlock] at h
    injection h with h
    omega))
  obtain ⟨by0, by1, by2⟩ := HM2.out.boxAt (t := 25) (g := W.heap.size) (b := 0) (A := none) (n := 0) (c := 0) (o := []) (by simp)
  have fx := fun j => HM2.out.boxFree (t := 25) (g := W.heap.size) (b := 0) (A := none) (n := 0) (c := 0) (o := []) (by simp) j
  have fx0 := fx 0
  have fx1 := fx 1
  have fx2 := fx 2
  clear fx hk hG hx HM1
  go_wp2_with fail
  have HM9 := Lib.hid (Mem.boxAll (pre := ⟨54, A5, n5, c5, rs.map SVal⟩ :: rs) (post := []) (by simpa using HM2.out) (b : Int) A5 n5 c5 o)
  obtain ⟨w9, hw9⟩ : ∃ w9, w9 = (((w3.setCell ⟨W.heap.size, 0, none⟩ (.int .i64 (b : Int))).setCell ⟨W.heap.size, 1, none⟩ (.slice A5 n5 c5)).setCell ⟨W.heap.size, 2, none⟩ (.string ⟨o.toArray⟩)) := ⟨_, rfl⟩
  rw [← hw9] at HM9 ⊢
  clear hw9 HM2 by0 by1 by2 fx0 fx1 fx2
  obtain ⟨by0, by1, by2⟩ := HM9.out.boxAt (t := 25) (g := W.heap.size) (b := (b : Int)) (A := A5) (n := n5) (c := c5) (o := o) (by simp)
  refine bodyPost_ret (v := AutoV (b : Int) A5 n5 c5 o) (by simp [results, Tryd.results4, go_sem, by0, by1, by2]) rfl ?_
  exact ⟨b, A5, n5, c5, zss, o, rs, rfl, HK.out, HM9.out.drop (by simp), HX.out⟩
end Go.Proofs.YtcicoplmpinnmaaDoor
