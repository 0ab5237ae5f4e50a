/-
  Words for memory: a slice that reads as a list, strings as lists of bytes, what a law's arguments are. No conditions.
-/
import Derived.Test.YtcicoplmpinnmaaDoorBase
import Derived.Deep.Draws
import Derived.Laws.OwnMore
namespace Go.Proofs.YtcicoplmpinnmaaDoor
open Go.RowKit

/-! ## A slice of one-cell elements that reads as a list; nil and empty are let in -/
theorem add_block (a : Addr) (n : Nat) : (a.add n).block = a.block := by unfold Addr.add; split <;> rfl
theorem add_add (a : Addr) (i j : Nat) : (a.add i).add j = a.add (i + j) := by
  unfold Addr.add
  rcases Nat.eq_zero_or_pos i with rfl | hi
  · simp
  · rcases Nat.eq_zero_or_pos j with rfl | hj
    · simp
    · have h1 : i ≠ 0 := by omega
      have h2 : j ≠ 0 := by omega
      simp [h1, h2, Nat.add_assoc]

def Rd (w : World) (B : Nat) (A : Option Addr) (n : Nat) (xs : List Value) : Prop :=
  xs.length = n ∧ ∀ j u, xs[j]? = some u → ∃ a, A = some a ∧ a.block < B ∧ w.cell? (a.add j) = some u

def svs (ss : List (List UInt8)) : List Value := ss.map fun l => .string ⟨l.toArray⟩
def ivs (zs : List Int) : List Value := zs.map fun z => .int .i64 z
def bvs (l : List UInt8) : List Value := l.map fun c => .int .u8 c.toNat

section
variable {w w' : World} {B B' n : Nat} {A : Option Addr} {xs : List Value}
theorem Rd.zero : Rd w B A 0 [] := ⟨rfl, fun j u h => by simp at h⟩
theorem Rd.keep (h : Rd w B A n xs) (hk : ∀ p : Addr, p.block < B → w'.cell? p = w.cell? p) : Rd w' B A n xs :=
  ⟨h.1, fun j u hu => let ⟨a, e, hb, hc⟩ := h.2 j u hu; ⟨a, e, hb, (hk _ (by rw [add_block]; exact hb)).trans hc⟩⟩
theorem Rd.more (h : Rd w B A n xs) (hB : B ≤ B') : Rd w B' A n xs :=
  ⟨h.1, fun j u hu => let ⟨a, e, hb, hc⟩ := h.2 j u hu; ⟨a, e, by omega, hc⟩⟩
theorem Rd.below (h : Rd w B A n xs) (hb : Below B w w') : Rd w' B A n xs := h.keep fun _ hp => hb.cell hp
/-- in a later world, below its own heap's size -/
theorem Rd.later (h : Rd w w.heap.size A n xs) (hb : Below w.heap.size w w') : Rd w' w'.heap.size A n xs := (h.below hb).more hb.size
theorem Rd.cell {k : Nat} (h : Rd w B A n xs) (hk : k < xs.length) : ∃ a, A = some a ∧ a.block < B ∧ w.cell? (a.add k) = some xs[k] :=
  h.2 k _ (List.getElem?_eq_getElem hk)
theorem Rd.take {k : Nat} (h : Rd w B A n xs) (hk : k ≤ n) : Rd w B A k (xs.take k) :=
  ⟨by rw [List.length_take, h.1]; omega, fun j u hu => h.2 j u (by
    rw [List.getElem?_take] at hu
    split at hu
    · exact hu
    · cases hu)⟩
theorem Rd.drop {k : Nat} (h : Rd w B A n xs) : Rd w B (A.map (·.add k)) (n - k) (xs.drop k) :=
  ⟨by rw [List.length_drop, h.1], fun j u hu => by
    rw [List.getElem?_drop] at hu
    obtain ⟨a, rfl, hb, hc⟩ := h.2 _ u hu
    exact ⟨a.add k, rfl, by rw [add_block]; exact hb, by rw [add_add]; exact hc⟩⟩
/-- 's[k:]' as the walk spells its address -/
theorem Rd.cut {k c : Nat} (h : Rd w B A n xs) (hk : k ≤ n) (hc : n ≤ c) : Rd w B (if c = k then A else A.map (·.add k)) (n - k) (xs.drop k) := by
  by_cases e : c = k
  · rw [if_pos e]
    have hn : n = k := by omega
    have : xs.drop k = [] := List.drop_eq_nil_of_le (by rw [h.1]; omega)
    rw [this, hn, Nat.sub_self]
    exact Rd.zero
  · rw [if_neg e]; exact h.drop
theorem Rd.own {base : Nat} {e : TypeId} {c : Nat} (h : w.ownsRow base e 1 (.slice A n c) n xs) : Rd w w.heap.size A n xs := by
  refine ⟨by simpa using h.1, fun j u hu => ?_⟩
  rcases h.2 with ⟨hv, rfl⟩ | ⟨g, cap, cur, hv, hb, hg, hn, hm, hs, ht⟩
  · have : xs = [] := List.eq_nil_of_length_eq_zero (by simpa using h.1)
    subst this
    simp at hu
  · injection hv with hA
    subst hA
    refine ⟨_, rfl, (Array.getElem?_eq_some_iff.1 hg).1, ?_⟩
    have hadd : (⟨g, 0, none⟩ : Addr).add j = ⟨g, j, none⟩ := by unfold Addr.add; split <;> simp_all
    rw [hadd, cell_of_row w g j cur e (0, 0) hg]
    rw [← ht, List.getElem?_take] at hu
    split at hu
    · simpa using hu
    · cases hu

theorem Rd.str {k : Nat} {ss : List (List UInt8)} (h : Rd w B A n (svs ss)) (hk : k < ss.length) :
    ∃ a, A = some a ∧ a.block < B ∧ w.cell? (a.add k) = some (.string ⟨(ss[k]).toArray⟩) := by
  have h' := h.cell (k := k) (by simpa [svs] using hk)
  simpa [svs] using h'
theorem Rd.int {k : Nat} {zs : List Int} (h : Rd w B A n (ivs zs)) (hk : k < zs.length) :
    ∃ a, A = some a ∧ a.block < B ∧ w.cell? (a.add k) = some (.int .i64 zs[k]) := by
  have h' := h.cell (k := k) (by simpa [ivs] using hk)
  simpa [ivs] using h'
theorem Rd.byte {k : Nat} {l : List UInt8} (h : Rd w B A n (bvs l)) (hk : k < l.length) :
    ∃ a, A = some a ∧ a.block < B ∧ w.cell? (a.add k) = some (.int .u8 (l[k]).toNat) := by
  have h' := h.cell (k := k) (by simpa [bvs] using hk)
  simpa [bvs] using h'
theorem Rd.lenS {ss : List (List UInt8)} (h : Rd w B A n (svs ss)) : ss.length = n := by simpa [svs] using h.1
theorem Rd.lenI {zs : List Int} (h : Rd w B A n (ivs zs)) : zs.length = n := by simpa [ivs] using h.1
theorem Rd.lenB {l : List UInt8} (h : Rd w B A n (bvs l)) : l.length = n := by simpa [bvs] using h.1
end

theorem svs_one (ss : List (List UInt8)) : ∀ u ∈ svs ss, u.oneCell' = true := by
  intro u hu; obtain ⟨_, _, rfl⟩ := List.mem_map.1 hu; rfl
theorem ivs_one (zs : List Int) : ∀ u ∈ ivs zs, u.oneCell' = true := by
  intro u hu; obtain ⟨_, _, rfl⟩ := List.mem_map.1 hu; rfl
theorem bvs_one (l : List UInt8) : ∀ u ∈ bvs l, u.oneCell' = true := by
  intro u hu; obtain ⟨_, _, rfl⟩ := List.mem_map.1 hu; rfl

/-! ## Strings as lists of bytes -/
theorem ba_get (l : List UInt8) (k : Nat) (h : k < (⟨l.toArray⟩ : ByteArray).size) : (⟨l.toArray⟩ : ByteArray)[k]'h = l[k]'(by simpa [ByteArray.size] using h) := rfl
attribute [go_sem] ba_get
theorem ba_extract (l : List UInt8) (a b : Nat) : (⟨l.toArray⟩ : ByteArray).extract a b = ⟨((l.take b).drop a).toArray⟩ := by
  apply ByteArray.ext
  rw [ByteArray.data_extract]
  apply Array.toList_inj.1
  rw [Array.toList_extract]
  show (l.toArray.toList.extract a b) = _
  simp only [List.extract_eq_take_drop, List.drop_take]
theorem ba_append (a b : List UInt8) : (⟨a.toArray⟩ : ByteArray) ++ (⟨b.toArray⟩ : ByteArray) = ⟨(a ++ b).toArray⟩ := by
  apply ByteArray.ext
  rw [ByteArray.data_append]
  simp
attribute [go_sem] ba_extract ba_append

theorem take_snoc {α : Type} (l : List α) (k : Nat) (h : k < l.length) : l.take (k + 1) = l.take k ++ [l[k]] := by
  rw [List.take_succ_eq_append_getElem h]
theorem all_snoc {α : Type} {p : α → Bool} {l : List α} {k : Nat} (h : k < l.length) (ha : (l.take k).all p = true) (hp : p l[k] = true) : (l.take (k + 1)).all p = true := by
  rw [take_snoc l k h, List.all_append, ha]; simpa using hp
theorem all_bad {α : Type} {p : α → Bool} {l : List α} {k : Nat} (h : k < l.length) (hp : p l[k] = false) : l.all p = false := by
  rw [List.all_eq_false]; exact ⟨l[k], List.getElem_mem h, by simp [hp]⟩
theorem all_done {α : Type} {p : α → Bool} {l : List α} {k : Nat} (h : ¬ k < l.length) (ha : (l.take k).all p = true) : l.all p = true := by
  rwa [List.take_of_length_le (by omega)] at ha

/-! ## What a law's arguments are -/
def I64 (n : Int) : Prop := -9223372036854775808 ≤ n ∧ n ≤ 9223372036854775807
def StrArg (l : List UInt8) : Prop := l.length ≤ 9223372036854775807
def StrsArg (w : World) (A : Option Addr) (n c : Nat) (ss : List (List UInt8)) : Prop :=
  Rd w w.heap.size A n (svs ss) ∧ n ≤ c ∧ c ≤ 9223372036854775807 ∧ ∀ s ∈ ss, s.length ≤ 9223372036854775807
def IntsArg (w : World) (A : Option Addr) (n c : Nat) (zs : List Int) : Prop :=
  Rd w w.heap.size A n (ivs zs) ∧ n ≤ c ∧ c ≤ 9223372036854775807 ∧ ∀ z ∈ zs, I64 z
def BytesArg (w : World) (A : Option Addr) (n c : Nat) (l : List UInt8) : Prop :=
  Rd w w.heap.size A n (bvs l) ∧ n ≤ c ∧ c ≤ 9223372036854775807
end Go.Proofs.YtcicoplmpinnmaaDoor
