/-
  The reference's Join, and plain facts on joined words, over lists of words. Condition: lengths at most 2^20 each, and their sum at most 2^46.
-/
import Derived.Test.YtcicoplmpinnmaaDoorRowW
import Derived.Laws.Concat
import Derived.Lib.Join
namespace Go.Proofs.YtcicoplmpinnmaaDoor
open Go.RowKit

theorem join_first {ss : List (List UInt8)} (by_ : List UInt8) (h : 0 < ss.length) : Lib.join (ss.take 1) by_ = ss[0] := by
  cases ss with
  | nil => simp at h
  | cons x r => simp [Lib.join_one]
theorem join_more {ss : List (List UInt8)} (by_ : List UInt8) {k : Nat} (hk : 0 < k) (h : k < ss.length) : Lib.join (ss.take (k + 1)) by_ = Lib.join (ss.take k) by_ ++ by_ ++ ss[k] := by
  cases ss with
  | nil => simp at h
  | cons x r =>
    obtain ⟨j, rfl⟩ : ∃ j, k = j + 1 := ⟨k - 1, by omega⟩
    simp only [List.take_succ_cons, List.getElem_cons_succ]
    have hj : j < r.length := by simpa using h
    rw [Lib.join_cons, Lib.join_cons, Lib.joinTail_take_succ by_ r j r[j] (by simp [hj])]
    simp [List.append_assoc]
theorem join_bound {ss : List (List UInt8)} (by_ : List UInt8) {m : Nat} (h : ∀ s ∈ ss, s.length ≤ m) : (Lib.join ss by_).length ≤ (by_.length + m) * ss.length := by
  cases ss with
  | nil => simp [Lib.join_nil]
  | cons x r =>
    rw [Lib.join_length]
    have hl : ∀ ss : List (List UInt8), (∀ s ∈ ss, s.length ≤ m) → Lib.lens ss ≤ m * ss.length := by
      intro ss
      induction ss with
      | nil => intro _; simp [Lib.lens]
      | cons a l ih =>
        intro hs
        have h1 := ih (fun s hs2 => hs s (by simp [hs2]))
        have h2 := hs a (by simp)
        simp only [Lib.lens, List.map_cons, List.sum_cons, List.length_cons, Nat.mul_add] at h1 ⊢
        omega
    have h2 := hl _ h
    have h3 : by_.length * r.length ≤ by_.length * (x :: r).length := Nat.mul_le_mul_left _ (by simp)
    rw [Nat.add_mul]; omega

def SOwn (w : World) (A : Option Addr) (n c : Nat) (ss : List (List UInt8)) : Prop := SIn w A n c ss ∧ (0 < n → ∃ g, A = some ⟨g, 0, none⟩)
theorem SOwn.of {w : World} {base : Nat} {e : TypeId} {A : Option Addr} {n c : Nat} {ss : List (List UInt8)} (h : w.ownsRow base e 1 (.slice A n c) n (svs ss)) (hn : n ≤ 1048576) (hl : Lens ss) (hc : n ≤ c) : SOwn w A n c ss :=
  ⟨SIn.of (Rd.own h) hn hl hc, own_form h⟩

set_option maxHeartbeats 800000 in
theorem sJoin_any (A : Option Addr) (n c : Nat) (ss : List (List UInt8)) (by_ : List UInt8) (w : World) (h : SIn w A n c ss) (hby : by_.length ≤ 1048576) :
    Calls Tryd.prog 67 #[.slice A n c, .string ⟨by_.toArray⟩] w fun e w' => e = .returned (.string ⟨(Lib.join ss by_).toArray⟩) ∧ w = w' := by
  have hlen := Lib.hid h.1.lenS
  have HR := Lib.hid h.1
  have HL := Lib.hid h.2.2.1
  have hn := h.2.1
  clear h
  go_enter Tryd.func67, Tryd.ntmps67
  go_wp2
  go_loop [10, 5] (fun i s => ∃ k : Nat, k ≤ n ∧ i = .int .i64 k ∧ s = .string ⟨(Lib.join (ss.take k) by_).toArray⟩) (fun i _ => n - (intOf i).toNat)
  case atStart => exact ⟨0, Nat.zero_le _, rfl, rfl⟩
  case round =>
    obtain ⟨k, hk, rfl, rfl⟩ := hrel
    by_cases hlt : k < n
    · have hkl : k < ss.length := by rw [hlen.out]; exact hlt
      obtain ⟨a, rfl, hab, hcell⟩ := HR.out.str (k := k) hkl
      have hsl := HL.out _ (List.getElem_mem hkl)
      have hJl := join_bound (ss := ss.take k) by_ (m := 1048576) (fun s hs => HL.out s (List.mem_of_mem_take hs))
      have hJ2 : (Lib.join (ss.take k) by_).length ≤ 2199023255552 := by
        refine Nat.le_trans hJl (Nat.le_trans (Nat.mul_le_mul (show by_.length + 1048576 ≤ 2097152 by omega) (show (ss.take k).length ≤ 1048576 by rw [List.length_take]; omega)) (by decide))
      clear hJl
      obtain ⟨x, hx⟩ : ∃ x, x = ss[k] := ⟨_, rfl⟩
      rw [← hx] at hcell hsl
      rcases Nat.eq_zero_or_pos k with rfl | hk0
      · have H := Lib.hid (show Lib.join (ss.take 1) by_ = x by rw [join_first by_ hkl, hx])
        clear hx
        have hj0 : Lib.join [] by_ = [] := rfl
        have hcell0 : w.cell? a = some (.string ⟨x.toArray⟩) := hcell
        have hlim : ¬ 9223372036854775807 < x.length := by omega
        go_wp2
        go_round
        case rel => exact ⟨1, by omega, by go_num, by rw [H.out]⟩
        case measure => simp [intOf]; omega
      · have H := Lib.hid (show Lib.join (ss.take (k + 1)) by_ = Lib.join (ss.take k) by_ ++ by_ ++ x by rw [join_more by_ hk0 hkl, hx])
        clear hx
        obtain ⟨J, hJ⟩ : ∃ J, J = Lib.join (ss.take k) by_ := ⟨_, rfl⟩
        rw [← hJ] at H hJ2 ⊢
        clear hJ
        have hlim : ¬ 9223372036854775807 < J.length + by_.length := by omega
        have hlim2 : ¬ 9223372036854775807 < J.length + by_.length + x.length := by omega
        have hlim3 : ¬ 9223372036854775807 < J.length + (by_.length + x.length) := by omega
        go_wp2
        go_round
        case rel => exact ⟨k + 1, by omega, by go_num, by rw [H.out]; simp⟩
        case measure => simp [intOf]; omega
    · have HE := Lib.hid (show Lib.join (ss.take k) by_ = Lib.join ss by_ by rw [List.take_of_length_le (by rw [hlen.out]; omega)])
      go_wp2
      go_ret
      exact ⟨by rw [HE.out]; rfl, rfl⟩
end Go.Proofs.YtcicoplmpinnmaaDoor
