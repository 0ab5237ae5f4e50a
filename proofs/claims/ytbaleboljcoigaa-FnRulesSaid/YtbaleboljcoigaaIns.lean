/-
  The reference's l05Insert: a word put into an ordered list of words. Condition: the list is the caller's own and ordered.
-/
import Derived.Test.YtbaleboljcoigaaTwo
import Derived.Test.YtbaleboljcoigaaHelpS
import Derived.Sort.Walk0
namespace Go.Proofs.Ytbaleboljcoigaa
open Go.RowKit

def insS (x : List UInt8) : List (List UInt8) → List (List UInt8)
  | [] => [x]
  | y :: l => if x < y then x :: y :: l else if x = y then y :: l else y :: insS x l
def Srt (l : List (List UInt8)) : Prop := l.Pairwise (· < ·)
theorem lt_tri (a b : List UInt8) : a < b ∨ a = b ∨ b < a := by
  by_cases h : a < b
  · exact Or.inl h
  · rcases List.le_iff_lt_or_eq.1 (List.not_lt.1 h) with h | h
    · exact Or.inr (Or.inr h)
    · exact Or.inr (Or.inl h.symm)
theorem lt_no {a b : List UInt8} (h : a < b) : ¬ b < a := fun h2 => List.lt_irrefl a (List.lt_trans h h2)
theorem lt_neq {a b : List UInt8} (h : a < b) : a ≠ b := fun h2 => by subst h2; exact List.lt_irrefl a h
theorem insS_new (x : List UInt8) : ∀ (l : List (List UInt8)) (k : Nat), k ≤ l.length → (∀ (j : Nat) (h : j < l.length), j < k → l[j] < x) → (∀ (j : Nat) (h : j < l.length), k ≤ j → x < l[j]) → insS x l = l.take k ++ x :: l.drop k
  | [], 0, _, _, _ => rfl
  | [], k + 1, h, _, _ => by simp at h
  | y :: l, 0, _, _, h2 => by
    have := h2 0 (by simp) (by omega)
    simp at this
    simp [insS, this]
  | y :: l, k + 1, hk, h1, h2 => by
    have h0 := h1 0 (by simp) (by omega)
    simp at h0
    have ih := insS_new x l k (by simpa using hk) (fun j h hj => h1 (j + 1) (by simpa using h) (by omega)) (fun j h hj => h2 (j + 1) (by simpa using h) (by omega))
    simp [insS, lt_no h0, (lt_neq h0).symm, ih]
theorem insS_old (x : List UInt8) : ∀ (l : List (List UInt8)) (k : Nat) (h : k < l.length), (∀ (j : Nat) (h : j < l.length), j < k → l[j] < x) → l[k] = x → insS x l = l
  | [], _, h, _, _ => by simp at h
  | y :: l, 0, _, _, h2 => by
    simp at h2
    subst h2
    simp [insS, List.lt_irrefl]
  | y :: l, k + 1, hk, h1, h2 => by
    have h0 := h1 0 (by simp) (by omega)
    simp at h0
    have ih := insS_old x l k (by simpa using hk) (fun j h hj => h1 (j + 1) (by simpa using h) (by omega)) (by simpa using h2)
    simp [insS, lt_no h0, (lt_neq h0).symm, ih]
theorem mem_insS (x y : List UInt8) (l : List (List UInt8)) : y ∈ insS x l ↔ y = x ∨ y ∈ l := by
  induction l with
  | nil => simp [insS]
  | cons z l ih =>
    unfold insS
    split
    · simp
    · split
      · rename_i h; subst h; simp
      · simp only [List.mem_cons, ih]
        constructor
        · rintro (h | h | h) <;> simp [h]
        · rintro (h | h | h) <;> simp [h]
theorem srt_insS (x : List UInt8) {l : List (List UInt8)} (h : Srt l) : Srt (insS x l) := by
  unfold Srt at h ⊢
  induction l with
  | nil => simp [insS]
  | cons z l ih =>
    obtain ⟨h1, h2⟩ := List.pairwise_cons.1 h
    unfold insS
    split
    · rename_i hx
      exact List.pairwise_cons.2 ⟨fun a ha => by
        rcases List.mem_cons.1 ha with rfl | ha
        · exact hx
        · exact List.lt_trans hx (h1 a ha), h⟩
    · split
      · exact h
      · rename_i hx hne
        refine List.pairwise_cons.2 ⟨fun a ha => ?_, ih h2⟩
        rcases (mem_insS x a l).1 ha with rfl | ha
        · rcases lt_tri z a with h3 | h3 | h3
          · exact h3
          · exact absurd h3.symm hne
          · exact absurd h3 hx
        · exact h1 a ha
theorem len_insS (x : List UInt8) {l : List (List UInt8)} (h : Srt l) : (insS x l).length = if x ∈ l then l.length else l.length + 1 := by
  unfold Srt at h
  induction l with
  | nil => simp [insS]
  | cons z l ih =>
    obtain ⟨h1, h2⟩ := List.pairwise_cons.1 h
    unfold insS
    split
    · rename_i hx
      have : x ∉ z :: l := by
        intro hm
        rcases List.mem_cons.1 hm with rfl | hm
        · exact List.lt_irrefl _ hx
        · exact List.lt_irrefl _ (List.lt_trans hx (h1 x hm))
      simp [this]
    · split
      · rename_i hx; subst hx; simp
      · rename_i hx hne
        simp only [List.length_cons, ih h2, List.mem_cons, hne, false_or]
        split <;> simp
theorem srt_lt {l : List (List UInt8)} (h : Srt l) {j m : Nat} (hm : m < l.length) (hj : j < m) : l[j]'(by omega) < l[m] := List.pairwise_iff_getElem.1 h j m (by omega) hm hj

theorem Own.noneCap {w0 w : World} {e : TypeId} {A : Option Addr} {n c : Nat} {xs : List Value} (h : Own w0 w e A n c xs) (hA : A = none) : c = 0 := by
  rcases h.1.2 with ⟨hv, _⟩ | ⟨g, cap, cur, hv, _⟩
  · injection hv
  · injection hv with h1; rw [hA] at h1; cases h1
theorem Own.capMax {w0 w : World} {e : TypeId} {A : Option Addr} {n c : Nat} {xs : List Value} (h : Own w0 w e A n c xs) : c ≤ 9223372036854775807 := by
  rcases h.1.2 with ⟨hv, hn⟩ | ⟨g, cap, cur, hv, _, _, _, hm, _⟩
  · injection hv with _ _ hc; omega
  · injection hv with _ _ hc2; unfold maxLen at hm; omega
theorem Own.noneAll {w0 w : World} {e : TypeId} {A : Option Addr} {n c : Nat} {xs : List Value} (h : Own w0 w e A n c xs) (hA : A = none) : n = 0 ∧ c = 0 := by
  rcases h.1.2 with ⟨hv, hn⟩ | ⟨g, cap, cur, hv, _⟩
  · injection hv with _ _ h2; exact ⟨hn, h2⟩
  · injection hv with h1; rw [hA] at h1; cases h1
theorem svs_app (a b : List (List UInt8)) : svs (a ++ b) = svs a ++ svs b := by simp [svs]
theorem svs_cons (a : List UInt8) (b : List (List UInt8)) : svs (a :: b) = .string ⟨a.toArray⟩ :: svs b := by simp [svs]
theorem svs_takeI (a : List (List UInt8)) (k : Nat) : (svs a).take k = svs (a.take k) := by simp [svs]
theorem svs_dropI (a : List (List UInt8)) (k : Nat) : (svs a).drop k = svs (a.drop k) := by simp [svs]

theorem Below.allocI (W : World) (o : Obj) : Below W.heap.size W (W.alloc o) := (Below.refl _ _).alloc (Nat.le_refl _) o
/-- what remains to be done behind the scan: the word is there at m, or it goes to k -/
def InsAt (x : List UInt8) (l : List (List UInt8)) (k : Nat) : Prop := insS x l = l.take k ++ x :: l.drop k

set_option maxHeartbeats 1600000 in
theorem l05Insert_any (w0 : World) (A : Option Addr) (n c : Nat) (l : List (List UInt8)) (x : List UInt8) (w : World) (hown : Own w0 w 9 A n c (svs l)) (hn : n ≤ 1048575) (hc : c ≤ 9223372036854775807) (hs : Srt l) :
    Calls Try.prog 81 #[.slice A n c, .string ⟨x.toArray⟩] w fun e w' => ∃ A' n' c', e = .returned (.slice A' n' c') ∧ Own w0 w' 9 A' n' c' (svs (insS x l)) := by
  have hlen := Lib.hid hown.rd.lenS
  have HR := Lib.hid hown.rd
  have hcap := hown.cap
  have HN := Lib.hid hown.noneCap
  have HO := Lib.hid hown
  have HS := Lib.hid hs
  clear hown hs
  go_enter Try.func81, Try.ntmps81
  go_wp2
  go_loop [5] (fun i => ∃ k : Nat, k ≤ n ∧ i = .int .i64 k ∧ ∀ (j : Nat) (h : j < l.length), k ≤ j → x < l[j]) (fun i => (intOf i).toNat)
  case atStart => exact ⟨n, Nat.le_refl _, rfl, fun j h hj => by have := hlen.out; omega⟩
  case round =>
    obtain ⟨k, hk, rfl, ha⟩ := hrel
    have HA := Lib.hid ha
    clear ha
    rcases k with _ | m
    · have HE := Lib.hid (show insS x l = x :: l from insS_new x l 0 (Nat.zero_le _) (fun j h hj => absurd hj (by omega)) HA.out)
      have HR0 := Lib.hid (show Rd w w.heap.size A 0 [] from Rd.zero)
      clear HA
      have hz : A = none → n = 0 ∧ c = 0 := fun h => HO.out.noneAll h
      rcases A with _ | a
      · obtain ⟨rfl, rfl⟩ := hz rfl
        have HXA := Lib.hid (show (none : Option Addr) = none → 0 = 0 from fun _ => rfl)
        clear hz
        go_wp2_with (first
          | (at_builtin; (refine app_own (.tmp 34) (.tmp 37) _ _ _ 16 rfl rfl Try.underlying23 infoS rfl rfl (Own.made0 (w0 := w) (Below.refl _ _) 9) rfl HXA.out (Rd.zero (B := 0)) (by simp) (by omega) (by omega) ?_; intro A1 c1 w1 hown1 _; simp only [Nat.zero_add, List.nil_append] at hown1))
          | (at_builtin; (refine app_one (.tmp 39) (.tmp 41) _ _ _ 16 rfl rfl Try.underlying23 infoS rfl rfl hown1 rfl rfl (by omega) (by omega) ?_; intro A2 c2 w2 hown2; simp only [Nat.zero_add, List.nil_append] at hown2))
          | (at_builtin; (refine app_own (.tmp 43) (.tmp 46) _ _ _ 16 rfl rfl Try.underlying23 infoS rfl rfl hown2 rfl HXA.out (HR.out.later hown2.2) (svs_one l) (by omega) (by omega) ?_; intro A3 c3 w3 hown3 _)))
        go_ret
        refine ⟨A3, _, c3, rfl, ?_⟩
        have h3 := hown3.up HO.out.2
        rw [HE.out, svs_cons]
        simpa using h3
      · have HXA := Lib.hid (show (some a : Option Addr) = none → c = 0 from fun h => by cases h)
        clear hz
        go_wp2_with (first
          | (at_builtin; (refine app_own (.tmp 34) (.tmp 37) _ _ _ 16 rfl rfl Try.underlying23 infoS rfl rfl (Own.made0 (w0 := w) (Below.refl _ _) 9) rfl HXA.out (Rd.zero (B := 0)) (by simp) (by omega) (by omega) ?_; intro A1 c1 w1 hown1 _; simp only [Nat.zero_add, List.nil_append] at hown1))
          | (at_builtin; (refine app_one (.tmp 39) (.tmp 41) _ _ _ 16 rfl rfl Try.underlying23 infoS rfl rfl hown1 rfl rfl (by omega) (by omega) ?_; intro A2 c2 w2 hown2; simp only [Nat.zero_add, List.nil_append] at hown2))
          | (at_builtin; (refine app_own (.tmp 43) (.tmp 46) _ _ _ 16 rfl rfl Try.underlying23 infoS rfl rfl hown2 rfl HXA.out (HR.out.later hown2.2) (svs_one l) (by omega) (by omega) ?_; intro A3 c3 w3 hown3 _)))
        go_ret
        refine ⟨A3, _, c3, rfl, ?_⟩
        have h3 := hown3.up HO.out.2
        rw [HE.out, svs_cons]
        simpa using h3
    · have hm : m < l.length := by rw [hlen.out]; omega
      obtain ⟨g, rfl⟩ := own_form HO.out.1 (by omega)
      obtain ⟨a, ha, _, hcell⟩ := HR.out.str (k := m) hm
      injection ha with ha
      subst ha
      obtain ⟨y, hy⟩ : ∃ y, y = l[m] := ⟨_, rfl⟩
      rw [← hy, show ((⟨g, 0, none⟩ : Addr).add m) = ⟨g, m, none⟩ from by unfold Addr.add; split <;> simp_all] at hcell
      have HY := Lib.hid hy
      clear hy
      rcases lt_tri y x with h | h | h
      · have hb1 : Op.bytesLess y x = true := by rw [bytesLess_eq]; simpa using h
        have HE := Lib.hid (insS_new x l (m + 1) (by omega) (fun j hj1 hj => by
          by_cases hjm : j = m
          · subst hjm; rw [← HY.out]; exact h
          · have h1 := srt_lt HS.out hm (show j < m by omega)
            rw [← HY.out] at h1
            exact List.lt_trans h1 h) HA.out)
        have hb2 : (y == x) = false := by simpa using lt_neq h
        clear h
        have HX1 := Lib.hid (show (some ⟨g, 0, none⟩ : Option Addr) = none → c = 0 from fun h => by cases h)
        have hadd : (some (⟨g, 0, none⟩ : Addr)).map (·.add (m + 1)) = some ⟨g, m + 1, none⟩ := by simp [Addr.add]
        have HX2 := Lib.hid (show (if c = (m + 1) then (some ⟨g, 0, none⟩ : Option Addr) else (some ⟨g, m + 1, none⟩ : Option Addr)) = none → c - (m + 1) = 0 by
          intro h
          split at h <;> simp at h)
        have HRC := Lib.hid (show Rd w w.heap.size (if c = (m + 1) then (some ⟨g, 0, none⟩ : Option Addr) else (some ⟨g, m + 1, none⟩ : Option Addr)) (n - (m + 1)) ((svs l).drop (m + 1)) by
          have h := HR.out.cut (k := m + 1) hk hcap
          rw [hadd] at h
          exact h)
        clear hadd
        go_wp2_with (first
          | (at_builtin; (refine app_own (.tmp 34) (.tmp 37) _ _ _ 16 rfl rfl Try.underlying23 infoS rfl rfl (Own.made0 (w0 := w) (Below.refl _ _) 9) rfl HX1.out ((HR.out.take (k := (m + 1)) hk).later (Below.allocI w _)) (fun u hu => svs_one l u (List.mem_of_mem_take hu)) (by omega) (by omega) ?_; intro A1 c1 w1 hown1 _; simp only [Nat.zero_add, List.nil_append] at hown1))
          | (at_builtin; (refine app_one (.tmp 39) (.tmp 41) _ _ _ 16 rfl rfl Try.underlying23 infoS rfl rfl hown1 rfl rfl (by omega) (by omega) ?_; intro A2 c2 w2 hown2))
          | (at_builtin; (refine app_own (.tmp 43) (.tmp 46) _ _ _ 16 rfl rfl Try.underlying23 infoS rfl rfl hown2 rfl HX2.out (HRC.out.later hown2.2) (fun u hu => svs_one l u (List.mem_of_mem_drop hu)) (by omega) (by omega) ?_; intro A3 c3 w3 hown3 _)))
        all_goals
          go_ret
          refine ⟨A3, _, c3, rfl, ?_⟩
          have h3 := hown3.up HO.out.2
          rw [HE.out, svs_app, svs_cons]
          simpa [svs_takeI, svs_dropI, List.append_assoc] using h3
      · have hb1 : Op.bytesLess y x = false := by rw [bytesLess_eq]; subst h; simp [List.lt_irrefl]
        have hb2 : (y == x) = true := by simpa using h
        have HE := Lib.hid (insS_old x l m hm (fun j hj1 hj => by
          have h1 := srt_lt HS.out hm hj
          rw [← HY.out, h] at h1
          exact h1) (by rw [← HY.out]; exact h))
        clear h
        go_wp2
        go_ret
        exact ⟨_, _, _, rfl, by rw [HE.out]; exact HO.out⟩
      · have hb1 : Op.bytesLess y x = false := by rw [bytesLess_eq]; simpa using lt_no h
        have hb2 : (y == x) = false := by simp [(lt_neq h).symm]
        have H := Lib.hid (show ∀ (j : Nat) (h : j < l.length), m ≤ j → x < l[j] from fun j hj1 hj => by
          by_cases hjm : j = m
          · subst hjm; rw [← HY.out]; exact h
          · exact HA.out j hj1 (by omega))
        clear h
        go_wp2
        go_round
        case rel => exact ⟨m, by omega, by go_num, H.out⟩
        case measure => simp [intOf]
end Go.Proofs.Ytbaleboljcoigaa
