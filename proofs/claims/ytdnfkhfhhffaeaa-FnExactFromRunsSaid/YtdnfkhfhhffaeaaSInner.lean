/-
  Contracts of RunWord, InnerRunWord and their parts (program and reference), and the walks of the laws on them. No conditions.
-/
import Derived.Test.YtdnfkhfhhffaeaaSWord
namespace Go.Proofs.Ytdnfkhfhhffaeaa
open Go.RowKit

def runWord (l : List UInt8) : List UInt8 × Bool := if isW l then runW (rns l) else ([], false)
theorem rns_small {l : List UInt8} (h : isW l = true) : Small (rns l) := fun z hz => by
  have := rnsK_bd l l.length z hz
  have := isW_len h
  omega
theorem rns_len4 {l : List UInt8} (h : isW l = true) : (rns l).length ≤ 400 := by have := rns_len (l := l); have := isW_len h; omega

set_option maxHeartbeats 400000 in
theorem iRunWord_any (l : List UInt8) (hl : l.length ≤ 9223372036854775807) (w : World) : Calls Try.prog 12 #[.string ⟨l.toArray⟩] w fun e w' => e = .returned (.tuple #[.string ⟨(runWord l).1.toArray⟩, .bool (runWord l).2]) ∧ Below w.heap.size w w' := by
  cases h : isW l
  · have HE := Lib.hid (show ([], false) = runWord l by simp [runWord, h])
    go_enter Try.func12, Try.ntmps12
    go_wp2_with (go_at_call 30; refine (isWord_any l hl _).mono ?_; rintro e w' ⟨rfl, rfl⟩)
    go_ret2
    exact ⟨ret_sb HE.out, Below.refl _ _⟩
  · have HE := Lib.hid (show runW (rns l) = runWord l by simp [runWord, h])
    have h4 := isW_len h
    have HS := Lib.hid (rns_small h)
    have HL := Lib.hid (rns_len4 h)
    go_enter Try.func12, Try.ntmps12
    go_wp2_with (first | (go_at_call 30; refine (isWord_any l hl _).mono ?_; rintro e w' ⟨rfl, rfl⟩) | (go_at_call 32; refine (iruns_any l h4 _).mono ?_; rintro e w1 ⟨A, n, c, rfl, hown⟩) | (go_at_call 31; refine (irunLetters_any _ _ _ _ _ _ hown.rd (Nat.le_refl _) (by have h1 := hown.len; have h2 := HL.out; simp [ivs] at h1; omega) HS.out).mono ?_; rintro e w2 ⟨rfl, hb2⟩))
    go_ret2
    exact ⟨ret_sb HE.out, hown.2.trans (hb2.mono hown.2.size)⟩

set_option maxHeartbeats 400000 in
theorem sRunWord_any (l : List UInt8) (hl : l.length ≤ 9223372036854775807) (w : World) : Calls Try.prog 11 #[.string ⟨l.toArray⟩] w fun e w' => e = .returned (.tuple #[.string ⟨(runWord l).1.toArray⟩, .bool (runWord l).2]) ∧ Below w.heap.size w w' := by
  cases h : isW l
  · have HE := Lib.hid (show ([], false) = runWord l by simp [runWord, h])
    go_enter Try.func11, Try.ntmps11
    go_wp2_with (go_at_call 27; refine (WordOk_any l hl _).mono ?_; rintro e w' ⟨rfl, rfl⟩)
    go_ret2
    exact ⟨ret_sb HE.out, Below.refl _ _⟩
  · have HE := Lib.hid (show runW (rns l) = runWord l by simp [runWord, h])
    have h4 := isW_len h
    have HS := Lib.hid (rns_small h)
    have HL := Lib.hid (rns_len4 h)
    go_enter Try.func11, Try.ntmps11
    go_wp2_with (first | (go_at_call 27; refine (WordOk_any l hl _).mono ?_; rintro e w' ⟨rfl, rfl⟩) | (go_at_call 29; refine (sruns_any l h4 _).mono ?_; rintro e w1 ⟨A, n, c, rfl, hown⟩) | (go_at_call 28; refine (sl24Word_any _ _ _ _ _ _ hown.rd (Nat.le_refl _) (by have h1 := hown.len; have h2 := HL.out; simp [ivs] at h1; omega) HS.out).mono ?_; rintro e w2 ⟨rfl, hb2⟩))
    go_ret2
    exact ⟨ret_sb HE.out, hown.2.trans (hb2.mono hown.2.size)⟩

/-! ## without short runs at the ends -/
def innerOf {α : Type} [BEq α] (x : α) (zs : List α) : List α :=
  if zs.length < 2 then zs else
    let a := if zs[zs.length - 1]? == some x then zs.take (zs.length - 1) else zs
    if a[0]? == some x then a.drop 1 else a
def innerRun (l : List UInt8) : List UInt8 × Bool := if isW l then runW (innerOf 1 (rns l)) else ([], false)

theorem inner_lt {α : Type} [BEq α] {x : α} {zs : List α} (h : zs.length < 2) : innerOf x zs = zs := by simp [innerOf, h]
theorem inner_mem {α : Type} [BEq α] {x : α} {zs : List α} {y : α} (h : y ∈ innerOf x zs) : y ∈ zs := by
  unfold innerOf at h
  split at h
  · exact h
  · dsimp only at h
    split at h <;> split at h
    · exact List.mem_of_mem_take (List.mem_of_mem_drop h)
    · exact List.mem_of_mem_take h
    · exact List.mem_of_mem_drop h
    · exact h
theorem inner_len {α : Type} [BEq α] (x : α) (zs : List α) : (innerOf x zs).length ≤ zs.length := by
  unfold innerOf
  split
  · omega
  · dsimp only
    split <;> split <;> simp <;> omega

theorem runLet_one {z : Int} (h : 1 ≤ z ∧ z ≤ 400) (h2 : z ≤ 2) : (runLet z == 97) = (z == 1) := by
  have e := runLet_nat h.1 h2
  by_cases hz : z = 1
  · subst hz; rfl
  · have hz2 : z = 2 := by omega
    subst hz2; rfl

theorem inner_map {zs : List Int} (hs : Small zs) (ho : zs.all runOk = true) : innerOf 97 (zs.map runLet) = (innerOf 1 zs).map runLet := by
  have ho' : ∀ z ∈ zs, z ≤ 2 := fun z hz => by simpa [runOk] using List.all_eq_true.1 ho z hz
  have key : ∀ (ys : List Int) (j : Nat), (∀ y ∈ ys, y ∈ zs) → ((ys.map runLet)[j]? == some 97) = (ys[j]? == some 1) := by
    intro ys j hy
    rw [List.getElem?_map]
    cases hj : ys[j]? with
    | none => rfl
    | some z =>
      have hz := hy z (List.mem_of_getElem? hj)
      show (some (runLet z) == some 97) = (some z == some 1)
      exact runLet_one (hs z hz) (ho' z hz)
  unfold innerOf
  rw [List.length_map]
  split
  · rfl
  · dsimp only
    rw [key zs _ (fun y h => h)]
    split
    · rw [← List.map_take, key _ _ (fun y h => List.mem_of_mem_take h)]
      split
      · rw [List.map_drop]
      · rfl
    · rw [key _ _ (fun y h => h)]
      split
      · rw [List.map_drop]
      · rfl

theorem all_inner {zs : List Int} : (innerOf 1 zs).all runOk = zs.all runOk := by
  rw [Bool.eq_iff_iff]
  constructor
  · intro h
    rw [List.all_eq_true] at h ⊢
    intro z hz
    by_cases hm : z ∈ innerOf 1 zs
    · exact h z hm
    · -- what was cut off is 1
      have hone : z = 1 := by
        unfold innerOf at hm
        split at hm
        · exact absurd hz hm
        · rename_i hlen
          dsimp only at hm
          have hcut : ∀ (ys : List Int), z ∈ ys → (ys[0]? == some 1) = true → z ∉ ys.drop 1 → z = 1 := by
            intro ys hy h0 hd
            cases ys with
            | nil => simp at hy
            | cons y r =>
              simp at h0 hd
              rcases List.mem_cons.1 hy with rfl | hy
              · exact h0
              · exact absurd hy hd
          have hend : (zs[zs.length - 1]? == some 1) = true → z ∉ zs.take (zs.length - 1) → z = 1 := by
            intro hl hn
            have e : zs = zs.take (zs.length - 1) ++ [zs[zs.length - 1]'(by omega)] := by
              have := take_snoc zs (zs.length - 1) (by omega)
              rw [← this, List.take_of_length_le (by omega)]
            rw [e] at hz
            rcases List.mem_append.1 hz with h1 | h1
            · exact absurd h1 hn
            · simp at h1
              rw [List.getElem?_eq_getElem (by omega)] at hl
              simp at hl
              rw [h1, hl]
          split at hm <;> rename_i hl
          · by_cases hin : z ∈ zs.take (zs.length - 1)
            · split at hm
              · rename_i h0; exact hcut _ hin h0 hm
              · exact absurd hin hm
            · exact hend hl hin
          · split at hm
            · rename_i h0; exact hcut _ hz h0 hm
            · exact absurd hz hm
      subst hone; rfl
  · intro h
    rw [List.all_eq_true] at h ⊢
    exact fun z hz => h z (inner_mem hz)

/-- the two ways of the two texts are one -/
theorem inner_two {l : List UInt8} (h : isW l = true) :
    innerRun l = if (runWord l).2 && decide (2 ≤ (runWord l).1.length) then (innerOf 97 (runWord l).1, true) else runWord l := by
  have hs := rns_small h
  simp only [innerRun, runWord, h, if_true]
  by_cases ho : (rns l).all runOk = true
  · have h1 : runW (rns l) = ((rns l).map runLet, true) := by simp [runW, ho]
    have h2 : runW (innerOf 1 (rns l)) = ((innerOf 1 (rns l)).map runLet, true) := by simp [runW, all_inner, ho]
    rw [h1, h2]
    by_cases hl : 2 ≤ (rns l).length
    · simp [hl, inner_map hs ho]
    · simp [hl]; rw [inner_lt (by omega)]
  · have ho' : (rns l).all runOk = false := by simpa using ho
    have h1 : runW (rns l) = ([], false) := by unfold runW; rw [ho']; rfl
    have h2 : runW (innerOf 1 (rns l)) = ([], false) := by unfold runW; rw [all_inner, ho']; rfl
    rw [h1, h2]; rfl

theorem inner_go {zs : List Int} (h : ¬ zs.length < 2) {b1 b2 : Bool} (h1 : (zs[zs.length - 1]? == some 1) = b1) (h2 : (zs[0]? == some 1) = b2) :
    innerOf 1 zs = if b2 then (if b1 then zs.take (zs.length - 1) else zs).drop 1 else (if b1 then zs.take (zs.length - 1) else zs) := by
  unfold innerOf
  rw [if_neg h]
  dsimp only
  rw [h1]
  cases b1
  · simp [h2]
  · have h3 : ((zs.take (zs.length - 1))[0]? == some 1) = b2 := by rw [List.getElem?_take, if_pos (by omega), h2]
    simp only [if_true]
    rw [h3]
theorem ivs_take (zs : List Int) (k : Nat) : (ivs zs).take k = ivs (zs.take k) := by simp [ivs, List.map_take]
theorem ivs_drop (zs : List Int) (k : Nat) : (ivs zs).drop k = ivs (zs.drop k) := by simp [ivs, List.map_drop]

set_option maxHeartbeats 1000000 in
theorem sInner_any (l : List UInt8) (hl : l.length ≤ 400) (w : World) : Calls Try.prog 33 #[.string ⟨l.toArray⟩] w fun e w' => ∃ A n c, e = .returned (.slice A n c) ∧ Rd w' w'.heap.size A n (ivs (innerOf 1 (rns l))) ∧ Below w.heap.size w w' := by
  have HL := Lib.hid (rns_len (l := l))
  go_enter Try.func33, Try.ntmps33
  go_wp2_with fail
  refine (sruns_any l hl _).mono ?_
  rintro e w1 ⟨A, n, c, rfl, hown⟩
  have HN := Lib.hid (show (rns l).length = n by have := hown.len; simpa [ivs] using this)
  have hn4 : n ≤ 400 := by have := HL.out; have := HN.out; omega
  have hcap := hown.cap
  by_cases h2 : n < 2
  · have HE := Lib.hid (inner_lt (x := (1 : Int)) (zs := rns l) (by have := HN.out; omega))
    go_wp2
    go_ret
    exact ⟨_, _, _, rfl, by rw [HE.out]; exact hown.rd, hown.2⟩
  · obtain ⟨g, rfl⟩ := own_form hown.1 (by omega)
    have hz0 : 0 < (rns l).length := by have := HN.out; omega
    have hz1 : n - 1 < (rns l).length := by have := HN.out; omega
    have hc0 := hown.cellAt (j := 0) (by simpa [ivs] using hz0)
    have hc1 := hown.cellAt (j := n - 1) (by simpa [ivs] using hz1)
    rw [ivs_get hz0] at hc0
    rw [ivs_get hz1] at hc1
    have hrd := hown.rd
    have HG := Lib.hid (fun b1 b2 => inner_go (zs := rns l) (b1 := b1) (b2 := b2) (by have := HN.out; omega))
    have e1 : (rns l)[(rns l).length - 1]? = some (rns l)[n - 1] := by rw [HN.out]; exact List.getElem?_eq_getElem hz1
    have e0 : (rns l)[0]? = some (rns l)[0] := List.getElem?_eq_getElem hz0
    have E1 := Lib.hid e1
    have E0 := Lib.hid e0
    clear e1 e0
    cases q1 : ((rns l)[n - 1] == 1) <;> cases q0 : ((rns l)[0] == 1)
    · have HE := Lib.hid (HG.out false false (by rw [E1.out]; exact q1) (by rw [E0.out]; exact q0))
      go_wp2
      go_ret
      exact ⟨_, _, _, rfl, by rw [HE.out]; exact hrd, hown.2⟩
    · have HE := Lib.hid (HG.out false true (by rw [E1.out]; exact q1) (by rw [E0.out]; exact q0))
      go_wp2
      go_ret
      refine ⟨_, _, _, rfl, ?_, hown.2⟩
      have hd := hrd.drop (k := 1)
      rw [ivs_drop] at hd
      rw [HE.out]
      exact hd
    · have HE := Lib.hid (HG.out true false (by rw [E1.out]; exact q1) (by rw [E0.out]; exact q0))
      go_wp2
      go_ret
      refine ⟨_, _, _, rfl, ?_, hown.2⟩
      have hd := hrd.take (k := n - 1) (by omega)
      rw [ivs_take] at hd
      rw [HE.out, HN.out]
      exact hd
    · have HE := Lib.hid (HG.out true true (by rw [E1.out]; exact q1) (by rw [E0.out]; exact q0))
      go_wp2
      go_ret
      refine ⟨_, _, _, rfl, ?_, hown.2⟩
      have hd := (hrd.take (k := n - 1) (by omega)).drop (k := 1)
      rw [ivs_take, ivs_drop] at hd
      rw [HE.out, HN.out]
      exact hd

set_option maxHeartbeats 400000 in
theorem sInnerRun_any (l : List UInt8) (hl : l.length ≤ 9223372036854775807) (w : World) : Calls Try.prog 18 #[.string ⟨l.toArray⟩] w fun e w' => e = .returned (.tuple #[.string ⟨(innerRun l).1.toArray⟩, .bool (innerRun l).2]) ∧ Below w.heap.size w w' := by
  cases h : isW l
  · have HE := Lib.hid (show ([], false) = innerRun l by simp [innerRun, h])
    go_enter Try.func18, Try.ntmps18
    go_wp2_with (go_at_call 27; refine (WordOk_any l hl _).mono ?_; rintro e w' ⟨rfl, rfl⟩)
    go_ret2
    exact ⟨ret_sb HE.out, Below.refl _ _⟩
  · have HE := Lib.hid (show runW (innerOf 1 (rns l)) = innerRun l by simp [innerRun, h])
    have h4 := isW_len h
    have HS := Lib.hid (show Small (innerOf 1 (rns l)) from fun z hz => rns_small h z (inner_mem hz))
    have HL := Lib.hid (Nat.le_trans (inner_len (1 : Int) (rns l)) (rns_len4 h))
    go_enter Try.func18, Try.ntmps18
    go_wp2_with (first | (go_at_call 27; refine (WordOk_any l hl _).mono ?_; rintro e w' ⟨rfl, rfl⟩) | (go_at_call 33; refine (sInner_any l h4 _).mono ?_; rintro e w1 ⟨A, n, c, rfl, hrd, hb1⟩) | (go_at_call 28; refine (sl24Word_any _ _ _ _ _ _ hrd (Nat.le_refl _) (by have h1 := hrd.1; have h2 := HL.out; simp [ivs] at h1; omega) HS.out).mono ?_; rintro e w2 ⟨rfl, hb2⟩))
    go_ret2
    exact ⟨ret_sb HE.out, hb1.trans (hb2.mono hb1.size)⟩

theorem inner_gob {zs : List UInt8} (h : ¬ zs.length < 2) {b1 b2 : Bool} (h1 : (zs[zs.length - 1]? == some 97) = b1) (h2 : (zs[0]? == some 97) = b2) :
    innerOf 97 zs = if b2 then (if b1 then zs.take (zs.length - 1) else zs).drop 1 else (if b1 then zs.take (zs.length - 1) else zs) := by
  unfold innerOf
  rw [if_neg h]
  dsimp only
  rw [h1]
  cases b1
  · simp [h2]
  · have h3 : ((zs.take (zs.length - 1))[0]? == some 97) = b2 := by rw [List.getElem?_take, if_pos (by omega), h2]
    simp only [if_true]
    rw [h3]
theorem beq_byte (c : UInt8) : (some c == some 97) = ((c.toNat : Int) == 97) := by
  rw [Bool.eq_iff_iff]
  simp only [beq_iff_eq, Option.some.injEq]
  constructor
  · rintro rfl; rfl
  · intro h; exact UInt8.toNat_inj.1 (by rw [show (97 : UInt8).toNat = 97 from rfl]; omega)

theorem runW_len {l : List UInt8} : (runWord l).1.length ≤ 400 := by
  unfold runWord
  split
  · rename_i h
    have := rns_len4 h
    unfold runW; split <;> simp <;> omega
  · simp
theorem runWord_no {l : List UInt8} (h : isW l = false) : runWord l = ([], false) := by simp [runWord, h]

set_option maxHeartbeats 1000000 in
theorem iInnerRun_any (l : List UInt8) (hl : l.length ≤ 9223372036854775807) (w : World) : Calls Try.prog 19 #[.string ⟨l.toArray⟩] w fun e w' => e = .returned (.tuple #[.string ⟨(innerRun l).1.toArray⟩, .bool (innerRun l).2]) ∧ Below w.heap.size w w' := by
  have hcall := iRunWord_any l hl
  have hlen := runW_len (l := l)
  have HT : innerRun l = if (runWord l).2 && decide (2 ≤ (runWord l).1.length) then (innerOf 97 (runWord l).1, true) else runWord l := by
    cases h : isW l
    · rw [runWord_no h]; simp [innerRun, h]
    · exact inner_two h
  obtain ⟨o, b, hp⟩ : ∃ o b, runWord l = (o, b) := ⟨_, _, rfl⟩
  rw [hp] at hcall hlen HT
  dsimp only at hcall hlen HT
  have HC := Lib.hid hcall
  have HE := Lib.hid HT
  clear hcall hp HT
  cases b
  · have HF := Lib.hid (show (o, false) = innerRun l by rw [HE.out]; simp)
    go_enter Try.func19, Try.ntmps19
    go_wp2_with (go_at_call 12; refine (HC.out _).mono ?_; rintro e w1 ⟨rfl, hb1⟩)
    go_ret2
    exact ⟨ret_sb HF.out, hb1⟩
  · by_cases h2 : 2 ≤ o.length
    · have HF := Lib.hid (show (innerOf 97 o, true) = innerRun l by rw [HE.out]; simp [h2])
      have hz0 : 0 < o.length := by omega
      have hz1 : o.length - 1 < o.length := by omega
      have HG := Lib.hid (fun b1 b2 => inner_gob (zs := o) (b1 := b1) (b2 := b2) (by omega))
      have E1 := Lib.hid (show o[o.length - 1]? = some o[o.length - 1] from List.getElem?_eq_getElem hz1)
      have E0 := Lib.hid (show o[0]? = some o[0] from List.getElem?_eq_getElem hz0)
      cases q1 : ((o[o.length - 1].toNat : Int) == 97) <;> cases q0 : ((o[0].toNat : Int) == 97)
      · have HI := Lib.hid (show (o, true) = innerRun l by rw [← HF.out, HG.out false false (by rw [E1.out, beq_byte]; exact q1) (by rw [E0.out, beq_byte]; exact q0)]; rfl)
        go_enter Try.func19, Try.ntmps19
        go_wp2_with (go_at_call 12; refine (HC.out _).mono ?_; rintro e w1 ⟨rfl, hb1⟩)
        go_ret2
        exact ⟨ret_sb HI.out, hb1⟩
      · have HI := Lib.hid (show (o.tail, true) = innerRun l by rw [← HF.out, HG.out false true (by rw [E1.out, beq_byte]; exact q1) (by rw [E0.out, beq_byte]; exact q0)]; simp)
        go_enter Try.func19, Try.ntmps19
        go_wp2_with (go_at_call 12; refine (HC.out _).mono ?_; rintro e w1 ⟨rfl, hb1⟩)
        go_ret2
        exact ⟨ret_sb HI.out, hb1⟩
      · have HI := Lib.hid (show (o.take (o.length - 1), true) = innerRun l by rw [← HF.out, HG.out true false (by rw [E1.out, beq_byte]; exact q1) (by rw [E0.out, beq_byte]; exact q0)]; rfl)
        go_enter Try.func19, Try.ntmps19
        go_wp2_with (go_at_call 12; refine (HC.out _).mono ?_; rintro e w1 ⟨rfl, hb1⟩)
        go_ret2
        exact ⟨ret_sb HI.out, hb1⟩
      · have HI := Lib.hid (show (((o.take (o.length - 1)).take (o.length - 1)).tail, true) = innerRun l by rw [← HF.out, HG.out true true (by rw [E1.out, beq_byte]; exact q1) (by rw [E0.out, beq_byte]; exact q0)]; simp [List.take_take])
        go_enter Try.func19, Try.ntmps19
        go_wp2_with (go_at_call 12; refine (HC.out _).mono ?_; rintro e w1 ⟨rfl, hb1⟩)
        go_ret2
        exact ⟨ret_sb HI.out, hb1⟩
    · have HF := Lib.hid (show (o, true) = innerRun l by rw [HE.out]; simp [h2])
      go_enter Try.func19, Try.ntmps19
      go_wp2_with (go_at_call 12; refine (HC.out _).mono ?_; rintro e w1 ⟨rfl, hb1⟩)
      go_ret2
      exact ⟨ret_sb HF.out, hb1⟩

set_option maxHeartbeats 400000 in
theorem walk_FnExactRunWord (l : List UInt8) (w : World) (hl : StrArg l) : Calls Try.prog 4 #[.string ⟨l.toArray⟩] w fun e w' => e = .returned (.bool true) ∧ Below w.heap.size w w' := by
  unfold StrArg at hl
  by_cases hbig : l.length ≤ 1048576
  · go_enter Try.func4, Try.ntmps4
    go_wp2_with (first | (go_at_call 11; refine (sRunWord_any l hl _).mono ?_; rintro e w1 ⟨rfl, hb1⟩) | (go_at_call 12; refine (iRunWord_any l hl _).mono ?_; rintro e w2 ⟨rfl, hb2⟩))
    go_ret
    exact ⟨rfl, hb1.trans (hb2.mono hb1.size)⟩
  · go_enter Try.func4, Try.ntmps4
    go_wp2_with fail
    go_ret
    exact ⟨rfl, Below.refl _ _⟩

set_option maxHeartbeats 400000 in
theorem walk_FnExactInnerRunWord (l : List UInt8) (w : World) (hl : StrArg l) : Calls Try.prog 6 #[.string ⟨l.toArray⟩] w fun e w' => e = .returned (.bool true) ∧ Below w.heap.size w w' := by
  unfold StrArg at hl
  by_cases hbig : l.length ≤ 1048576
  · go_enter Try.func6, Try.ntmps6
    go_wp2_with (first | (go_at_call 18; refine (sInnerRun_any l hl _).mono ?_; rintro e w1 ⟨rfl, hb1⟩) | (go_at_call 19; refine (iInnerRun_any l hl _).mono ?_; rintro e w2 ⟨rfl, hb2⟩))
    go_ret
    exact ⟨rfl, hb1.trans (hb2.mono hb1.size)⟩
  · go_enter Try.func6, Try.ntmps6
    go_wp2_with fail
    go_ret
    exact ⟨rfl, Below.refl _ _⟩
end Go.Proofs.Ytdnfkhfhhffaeaa