/-
  Contracts of SelfWord (program and reference), and the walk of the law on them. No conditions.
-/
import Derived.Test.YtdnfkhfhhffaeaaHelpI
import Derived.Test.YtdnfkhfhhffaeaaBytes
import Derived.Lib.SlBytesConst
namespace Go.Proofs.Ytdnfkhfhhffaeaa
open Go.RowKit

/-- a row to which may be appended: the call's own, or a full one that reads as xs -/
def Ext (w0 w : World) (e : TypeId) (A : Option Addr) (n c : Nat) (xs : List Value) : Prop :=
  Own w0 w e A n c xs ∨ (c = n ∧ 0 < n ∧ Rd w w.heap.size A n xs ∧ Below w0.heap.size w0 w)
section
variable {w0 w : World} {e : TypeId} {A : Option Addr} {n c : Nat} {xs : List Value}
theorem Ext.rd (h : Ext w0 w e A n c xs) : Rd w w.heap.size A n xs := by
  rcases h with h | h
  · exact h.rd
  · exact h.2.2.1
theorem Ext.bel (h : Ext w0 w e A n c xs) : Below w0.heap.size w0 w := by
  rcases h with h | h
  · exact h.2
  · exact h.2.2.2
theorem Ext.cap (h : Ext w0 w e A n c xs) : n ≤ c := by
  rcases h with h | h
  · exact h.cap
  · omega
theorem Ext.len (h : Ext w0 w e A n c xs) : xs.length = n := h.rd.1

theorem app_ext {P : Program} {ops : Array Oper} {rest : List Oper} {o : Oper} {a : Act} {Q : Exit → Act → World → Prop} (s x : Operand) (t : TypeId) (z : Value) (bytes : Nat)
    (hgd : o.guard = none) (ho : o.op = .call { callee := .builtin .append, args := #[s, x], argTypes := #[t, t] })
    (ht : P.underlying t = some (.slice e)) (hinf : (P.info? e).map (fun i => (i.zero, i.size, i.bytes)) = some (some z, 1, bytes)) (hz1 : z.cells.size = 1)
    {u : Value} (hs : a.eval s = .slice A n c) (hown : Ext w0 w e A n c xs)
    (hx : a.eval x = .slice (some ⟨w.heap.size, 0, none⟩) 1 1) (h1 : u.oneCell' = true)
    (h63 : n + 1 ≤ 9223372036854775807) (hbytes : (n + 1) * bytes ≤ 140737488355328)
    (h : ∀ A' c' w', Own w0 w' e A' (n + 1) c' (xs ++ [u]) → wpList P ops Q rest (a.put o.dst (.slice A' (n + 1) c')) w') : wpList P ops Q (o :: rest) a (w.alloc (.cells #[u] e)) := by
  rcases hown with hown | ⟨rfl, hpos, hrd, hbel⟩
  · exact app_one s x t e z bytes hgd ho ht hinf hz1 hs hown hx h1 h63 hbytes h
  · obtain ⟨i, hi, hz, hsz, hby⟩ := info_parts hinf
    have hxl := hrd.1
    have hsome : ∃ ad, A = some ad := by
      obtain ⟨ad, hA, _⟩ := hrd.cell (k := 0) (by omega)
      exact ⟨ad, hA⟩
    obtain ⟨ad, rfl⟩ := hsome
    have hold : Rd (w.alloc (.cells #[u] e)) w.heap.size (some ad) c xs := hrd.below ((Below.refl _ _).alloc (Nat.le_refl _) _)
    refine wpList_append_grows _ hgd s x t ho e i z 1 bytes ht hi hz hsz hby hz1 (by omega) (some ad) c c xs hs (fun h => by cases h) (by simpa using hxl) ?_ ⟨w.heap.size, 0, none⟩ 1 1 [u] hx rfl ?_ (by simpa using h1) (by omega) (by unfold maxLen; omega) hbytes ?_
    · intro b hb j v hv
      injection hb with hb
      subst hb
      obtain ⟨a', ha', _, hc⟩ := hold.2 j v hv
      injection ha' with ha'
      subst ha'
      exact hc
    · intro j v hv
      obtain ⟨a', ha', _, hc⟩ := (Rd.one w u e).2 j v hv
      injection ha' with ha'
      subst ha'
      exact hc
    · intro v' w' hown hg
      have hsz0 : w.heap.size ≤ (w.alloc (.cells #[u] e)).heap.size := by simp
      have hbel' : Below w0.heap.size w0 w' := (hbel.alloc hbel.size _).grown hg (Nat.le_trans hbel.size hsz0) (fun k hk => by cases hk)
      have hform : ∃ A' c', v' = .slice A' (c + 1) c' := by
        rcases hown.2 with ⟨hv, hn⟩ | ⟨g, cap, cur, hv, _⟩
        · exact ⟨none, 0, by rw [hv, hn]⟩
        · exact ⟨_, _, hv⟩
      obtain ⟨A', c', rfl⟩ := hform
      exact h A' c' w' ⟨less_row hown (Nat.le_trans hbel.size hsz0), hbel'⟩
end

/-- the letter of a run: the runs' letters change -/
def swL (i : Nat) : UInt8 := if i % 2 = 0 then 97 else 98
def sw : Nat → List UInt8
  | 0 => [97, 98, 98]
  | k + 1 => if (sw k ++ [swL (k + 2)])[k + 2]? = some 98 then sw k ++ [swL (k + 2)] ++ [swL (k + 2)] else sw k ++ [swL (k + 2)]
theorem sw_len : ∀ k, k + 3 ≤ (sw k).length ∧ (sw k).length ≤ 2 * k + 3
  | 0 => by simp [sw]
  | k + 1 => by
    have := sw_len k
    simp only [sw]
    split <;> simp <;> omega
theorem sw_last (k : Nat) : (sw k).getLast? = some (swL (k + 1)) := by
  cases k with
  | zero => rfl
  | succ k => simp only [sw]; split <;> simp
theorem sw_pre : ∀ k m, k ≤ m → sw k <+: sw m
  | k, 0, h => by obtain rfl : k = 0 := by omega
                  exact List.prefix_refl _
  | k, m + 1, h => by
    rcases Nat.lt_or_ge k (m + 1) with h1 | h1
    · refine (sw_pre k m (by omega)).trans ?_
      simp only [sw]
      split
      · rw [List.append_assoc]; exact List.prefix_append _ _
      · exact List.prefix_append _ _
    · obtain rfl : k = m + 1 := by omega
      exact List.prefix_refl _
theorem take_pre {α : Type} {l m : List α} {n : Nat} (h : l <+: m) (hn : n ≤ l.length) : m.take n = l.take n := by
  obtain ⟨r, rfl⟩ := h
  rw [List.take_append_of_le_length hn]
theorem sw_take {k n : Nat} (h : n ≤ (sw k).length) : (sw k).take n = (sw n).take n := by
  rcases Nat.le_total k n with h1 | h1
  · exact (take_pre (sw_pre k n h1) h).symm
  · exact take_pre (sw_pre n k h1) (by have := sw_len n; omega)
def selfWord (n : Int) : List UInt8 × Bool := if wi n 0 400 then ((sw n.toNat).take n.toNat, true) else ([], false)

theorem swL_nat (k : Nat) : ((swL (k + 2)).toNat : Int) = 97 + (k : Int) % 2 := by
  unfold swL
  split <;> simp <;> omega
theorem sw_get {k : Nat} (x : UInt8) : (sw k ++ [x])[k + 2]? = some ((sw k)[k + 2]'(by have := sw_len k; omega)) := by
  have := sw_len k
  rw [List.getElem?_append_left (by omega), List.getElem?_eq_getElem (by omega)]
theorem sw_yes {k : Nat} (h : (((sw k)[k + 2]'(by have := sw_len k; omega)).toNat : Int) = 98) : sw (k + 1) = sw k ++ [swL (k + 2)] ++ [swL (k + 2)] := by
  have h2 : (sw k)[k + 2]'(by have := sw_len k; omega) = 98 := UInt8.toNat_inj.1 (by rw [show (98 : UInt8).toNat = 98 from rfl]; omega)
  rw [sw, sw_get, h2]; simp
theorem sw_no {k : Nat} (h : (((sw k)[k + 2]'(by have := sw_len k; omega)).toNat : Int) ≠ 98) : sw (k + 1) = sw k ++ [swL (k + 2)] := by
  have h2 : (sw k)[k + 2]'(by have := sw_len k; omega) ≠ 98 := by
    intro e; rw [e] at h; exact h rfl
  rw [sw, sw_get, if_neg (by simpa using h2)]

theorem bvs_get {l : List UInt8} {k : Nat} (h : k < l.length) : (bvs l)[k]'(by simpa [bvs] using h) = .int .u8 (l[k].toNat : Nat) := by simp [bvs]
theorem bvs_len (l : List UInt8) : (bvs l).length = l.length := by simp [bvs]

/-- an element of a row, behind an append -/
theorem Own.before {w0 w : World} {e : TypeId} {g n c k : Nat} {l : List UInt8} {u : Value} (h : Own w0 w e (some ⟨g, 0, none⟩) n c (bvs l ++ [u])) (hk : k < l.length) :
    w.cell? ⟨g, k, none⟩ = some (.int .u8 (l[k].toNat : Nat)) := by
  have hc := h.cellAt (j := k) (by simp [bvs_len]; omega)
  rw [List.getElem_append_left (by rw [bvs_len]; exact hk), bvs_get hk] at hc
  exact hc

theorem abb_start (w : World) : Ext w (w.alloc (.cells #[.int .u8 97, .int .u8 98, .int .u8 98] 5 (3, 4))) 5 (some ⟨w.heap.size, 0, none⟩) 3 3 (bvs (sw 0)) := by
  refine Or.inr ⟨rfl, by omega, ⟨rfl, fun j v hj => ⟨_, rfl, by simp, ?_⟩⟩, (Below.refl _ _).alloc (Nat.le_refl _) _⟩
  have hadd : (⟨w.heap.size, 0, none⟩ : Addr).add j = ⟨w.heap.size, j, none⟩ := by unfold Addr.add; split <;> simp_all
  rw [hadd, cell_of_row _ w.heap.size j #[.int .u8 97, .int .u8 98, .int .u8 98] 5 (3, 4) (heap_alloc_new w _)]
  rw [← hj]
  simp [bvs, sw]

set_option maxHeartbeats 1000000 in
theorem iSelfWord_any (n : Int) (w : World) : Calls Try.prog 10 #[.int .i64 n] w fun e w' => e = .returned (.tuple #[.string ⟨(selfWord n).1.toArray⟩, .bool (selfWord n).2]) ∧ Below w.heap.size w w' := by
  cases h1 : wi n 0 400
  · have HR := Lib.hid (show ([], false) = selfWord n by simp [selfWord, h1])
    go_enter Try.func10, Try.ntmps10
    go_wp2_with (go_at_call 26; refine (within_any _ _ _ _).mono ?_; rintro e w' ⟨rfl, rfl⟩)
    go_ret2
    exact ⟨ret_sb HR.out, Below.refl _ _⟩
  · have hb := wi_yes h1
    obtain ⟨n, rfl⟩ := Int.eq_ofNat_of_zero_le (show 0 ≤ n by omega)
    have HR := Lib.hid (show ((sw n).take n, true) = selfWord n by simp [selfWord, h1])
    have kc := fun (w : World) (C : Array Value) (n c : Nat) => Lib.run_convert_bytes_const (P := Try.prog) w 35 5 C n c Try.underlying35 Try.underlying5
    go_enter Try.func10, Try.ntmps10
    go_wp2_with (go_at_call 26; refine (within_any _ _ _ _).mono ?_; rintro e w' ⟨rfl, rfl⟩)
    clear kc
    go_loopw [4, 5] (fun out i wr => ∃ (k : Nat) (A : Option Addr) (m c : Nat), k ≤ n ∧ i = .int .i64 ((k : Int) + 2) ∧ out = .slice A m c ∧ Ext w wr 5 A m c (bvs (sw k))) (fun _ i _ => n + 2 - (intOf i).toNat)
    case atStart => exact ⟨0, _, _, _, Nat.zero_le _, rfl, rfl, abb_start w⟩
    case round =>
      obtain ⟨k, A, m, c, hk, rfl, rfl, hext⟩ := hrel
      have hsl := sw_len k
      have HM := Lib.hid (show m = (sw k).length by have := hext.len; rw [bvs_len] at this; omega)
      have hm1 : k + 3 ≤ m := by have := HM.out; omega
      have hm2 : m ≤ 2 * k + 3 := by have := HM.out; omega
      by_cases hlt : m < n
      · have hcv := fun W => conv_u8 _ _ (swL_nat k) W
        have hk2 : k + 2 < (sw k).length := by omega
        by_cases h98 : (((sw k)[k + 2]'hk2).toNat : Int) = 98
        · have hq : ((((sw k)[k + 2]'hk2).toNat : Int) == 98) = true := by simp [h98]
          have HY := Lib.hid (sw_yes h98)
          clear h98
          go_wp2_with (first | (at_builtin; refine app_ext (.tmp 22) (.tmp 24) _ _ 1 rfl rfl Try.underlying35 infoB rfl rfl hext rfl rfl (by omega) (by omega) ?_; intro A1 c1 w1 hown1; obtain ⟨g, rfl⟩ := own_form hown1.1 (by omega); have hc1 := hown1.before hk2) | (at_builtin; refine app_one (.tmp 31) (.tmp 33) _ _ _ 1 rfl rfl Try.underlying35 infoB rfl rfl hown1 rfl rfl (by omega) (by omega) ?_; intro A2 c2 w2 hown2))
          exact ⟨⟨k + 1, _, m + 1 + 1, c2, by omega, by go_num, rfl, by rw [HY.out, bvs_snoc, bvs_snoc]; exact Or.inl hown2⟩, by simp [intOf]; omega⟩
        · have hq : ((((sw k)[k + 2]'hk2).toNat : Int) == 98) = false := by simpa using h98
          have HY := Lib.hid (sw_no h98)
          clear h98
          go_wp2_with (at_builtin; refine app_ext (.tmp 22) (.tmp 24) _ _ 1 rfl rfl Try.underlying35 infoB rfl rfl hext rfl rfl (by omega) (by omega) ?_; intro A1 c1 w1 hown1; obtain ⟨g, rfl⟩ := own_form hown1.1 (by omega); have hc1 := hown1.before hk2)
          exact ⟨⟨k + 1, _, m + 1, c1, by omega, by go_num, rfl, by rw [HY.out, bvs_snoc]; exact Or.inl hown1⟩, by simp [intOf]; omega⟩
      · have HE := Lib.hid (show ((sw k).take n, true) = selfWord n by rw [← HR.out, sw_take (by have := HM.out; omega)])
        have hrd := hext.rd.take (k := n) (by omega)
        have hcap := hext.cap
        have hconv := fun c => conv_bytes (P := Try.prog) (c := c) 35 9 5 Try.underlying35 Try.underlying5 Try.underlying9 (show Rd wr wr.heap.size A n (bvs ((sw k).take n)) by simpa [bvs, List.map_take] using hrd)
        go_wp2
        go_ret2
        exact ⟨ret_sb HE.out, hext.bel⟩

theorem sw_lastAt (k : Nat) : (sw k)[(sw k).length - 1]? = some (swL (k + 1)) := by rw [← List.getLast?_eq_getElem?]; exact sw_last k
theorem sw_at {k j : Nat} (hj : j < (sw k).length) (h : j + 1 = (sw k).length) : (sw k)[j] = swL (k + 1) := by
  have h1 := sw_lastAt k
  rw [show (sw k).length - 1 = j from by omega, List.getElem?_eq_getElem hj] at h1
  injection h1

set_option maxHeartbeats 1000000 in
theorem sSelfWord_any (n : Int) (w : World) : Calls Try.prog 9 #[.int .i64 n] w fun e w' => e = .returned (.tuple #[.string ⟨(selfWord n).1.toArray⟩, .bool (selfWord n).2]) ∧ Below w.heap.size w w' := by
  cases h1 : wi n 0 400
  · have HR := Lib.hid (show ([], false) = selfWord n by simp [selfWord, h1])
    go_enter Try.func9, Try.ntmps9
    go_wp2_with (go_at_call 25; refine (l01In_any _ _ _ _).mono ?_; rintro e w' ⟨rfl, rfl⟩)
    go_ret2
    exact ⟨ret_sb HR.out, Below.refl _ _⟩
  · have hb := wi_yes h1
    obtain ⟨n, rfl⟩ := Int.eq_ofNat_of_zero_le (show 0 ≤ n by omega)
    have HR := Lib.hid (show ((sw n).take n, true) = selfWord n by simp [selfWord, h1])
    have kc := fun (w : World) (C : Array Value) (n c : Nat) => Lib.run_convert_bytes_const (P := Try.prog) w 35 5 C n c Try.underlying35 Try.underlying5
    go_enter Try.func9, Try.ntmps9
    go_wp2_with (go_at_call 25; refine (l01In_any _ _ _ _).mono ?_; rintro e w' ⟨rfl, rfl⟩)
    clear kc
    go_loopw [4, 5] (fun out i wr => ∃ (k : Nat) (A : Option Addr) (m c : Nat), k ≤ n ∧ i = .int .i64 ((k : Int) + 2) ∧ out = .slice A m c ∧ Ext w wr 5 A m c (bvs (sw k))) (fun _ i _ => n + 2 - (intOf i).toNat)
    case atStart => exact ⟨0, _, _, _, Nat.zero_le _, rfl, rfl, abb_start w⟩
    case round =>
      obtain ⟨k, A, m, c, hk, rfl, rfl, hext⟩ := hrel
      have hsl := sw_len k
      have HM := Lib.hid (show m = (sw k).length by have := hext.len; rw [bvs_len] at this; omega)
      have hm1 : k + 3 ≤ m := by have := HM.out; omega
      have hm2 : m ≤ 2 * k + 3 := by have := HM.out; omega
      by_cases hlt : m < n
      · have hkm : m - 1 < (sw k).length := by have := HM.out; omega
        obtain ⟨a, rfl, _, hca⟩ := hext.rd.byte (k := m - 1) hkm
        by_cases hp : k % 2 = 0
        · have hv : ((sw k)[m - 1].toNat : Int) = 98 := by rw [sw_at hkm (by have := HM.out; omega), swL, if_neg (by omega)]; rfl
          have hL : swL (k + 2) = 97 := by rw [swL, if_pos (by omega)]
          rw [hv] at hca
          clear hv
          have hk2 : k + 2 < (sw k).length := by omega
          by_cases h98 : (((sw k)[k + 2]'hk2).toNat : Int) = 98
          · have hq : ((((sw k)[k + 2]'hk2).toNat : Int) == 98) = true := by simp [h98]
            have HY := Lib.hid (show sw (k + 1) = sw k ++ [97] ++ [97] by rw [sw_yes h98, hL])
            clear h98 hL
            go_wp2_with (first | (at_builtin; refine app_ext (.tmp 25) (.tmp 27) _ _ 1 rfl rfl Try.underlying35 infoB rfl rfl hext rfl rfl (by omega) (by omega) ?_; intro A1 c1 w1 hown1; obtain ⟨g, rfl⟩ := own_form hown1.1 (by omega); have hc1 := hown1.before hk2) | (at_builtin; refine app_one (.tmp 34) (.tmp 36) _ _ _ 1 rfl rfl Try.underlying35 infoB rfl rfl hown1 rfl rfl (by omega) (by omega) ?_; intro A2 c2 w2 hown2))
            exact ⟨⟨k + 1, _, m + 1 + 1, c2, by omega, by go_num, rfl, by rw [HY.out, bvs_snoc, bvs_snoc]; exact Or.inl hown2⟩, by simp [intOf]; omega⟩
          · have hq : ((((sw k)[k + 2]'hk2).toNat : Int) == 98) = false := by simpa using h98
            have HY := Lib.hid (show sw (k + 1) = sw k ++ [97] by rw [sw_no h98, hL])
            clear h98 hL
            go_wp2_with (at_builtin; refine app_ext (.tmp 25) (.tmp 27) _ _ 1 rfl rfl Try.underlying35 infoB rfl rfl hext rfl rfl (by omega) (by omega) ?_; intro A1 c1 w1 hown1; obtain ⟨g, rfl⟩ := own_form hown1.1 (by omega); have hc1 := hown1.before hk2)
            exact ⟨⟨k + 1, _, m + 1, c1, by omega, by go_num, rfl, by rw [HY.out, bvs_snoc]; exact Or.inl hown1⟩, by simp [intOf]; omega⟩
        · have hv : ((sw k)[m - 1].toNat : Int) = 97 := by rw [sw_at hkm (by have := HM.out; omega), swL, if_pos (by omega)]; rfl
          have hL : swL (k + 2) = 98 := by rw [swL, if_neg (by omega)]
          rw [hv] at hca
          clear hv
          have hk2 : k + 2 < (sw k).length := by omega
          by_cases h98 : (((sw k)[k + 2]'hk2).toNat : Int) = 98
          · have hq : ((((sw k)[k + 2]'hk2).toNat : Int) == 98) = true := by simp [h98]
            have HY := Lib.hid (show sw (k + 1) = sw k ++ [98] ++ [98] by rw [sw_yes h98, hL])
            clear h98 hL
            go_wp2_with (first | (at_builtin; refine app_ext (.tmp 25) (.tmp 27) _ _ 1 rfl rfl Try.underlying35 infoB rfl rfl hext rfl rfl (by omega) (by omega) ?_; intro A1 c1 w1 hown1; obtain ⟨g, rfl⟩ := own_form hown1.1 (by omega); have hc1 := hown1.before hk2) | (at_builtin; refine app_one (.tmp 34) (.tmp 36) _ _ _ 1 rfl rfl Try.underlying35 infoB rfl rfl hown1 rfl rfl (by omega) (by omega) ?_; intro A2 c2 w2 hown2))
            exact ⟨⟨k + 1, _, m + 1 + 1, c2, by omega, by go_num, rfl, by rw [HY.out, bvs_snoc, bvs_snoc]; exact Or.inl hown2⟩, by simp [intOf]; omega⟩
          · have hq : ((((sw k)[k + 2]'hk2).toNat : Int) == 98) = false := by simpa using h98
            have HY := Lib.hid (show sw (k + 1) = sw k ++ [98] by rw [sw_no h98, hL])
            clear h98 hL
            go_wp2_with (at_builtin; refine app_ext (.tmp 25) (.tmp 27) _ _ 1 rfl rfl Try.underlying35 infoB rfl rfl hext rfl rfl (by omega) (by omega) ?_; intro A1 c1 w1 hown1; obtain ⟨g, rfl⟩ := own_form hown1.1 (by omega); have hc1 := hown1.before hk2)
            exact ⟨⟨k + 1, _, m + 1, c1, by omega, by go_num, rfl, by rw [HY.out, bvs_snoc]; exact Or.inl hown1⟩, by simp [intOf]; omega⟩
      · have HE := Lib.hid (show ((sw k).take n, true) = selfWord n by rw [← HR.out, sw_take (by have := HM.out; omega)])
        have hrd := hext.rd.take (k := n) (by omega)
        have hcap := hext.cap
        have hconv := fun c => conv_bytes (P := Try.prog) (c := c) 35 9 5 Try.underlying35 Try.underlying5 Try.underlying9 (show Rd wr wr.heap.size A n (bvs ((sw k).take n)) by simpa [bvs, List.map_take] using hrd)
        go_wp2
        go_ret2
        exact ⟨ret_sb HE.out, hext.bel⟩

set_option maxHeartbeats 400000 in
theorem walk_FnExactSelfWord (n : Int) (w : World) (_hn : I64 n) : Calls Try.prog 3 #[.int .i64 n] w fun e w' => e = .returned (.bool true) ∧ Below w.heap.size w w' := by
  go_enter Try.func3, Try.ntmps3
  go_wp2_with (first | (go_at_call 9; refine (sSelfWord_any _ _).mono ?_; rintro e w1 ⟨rfl, hb1⟩) | (go_at_call 10; refine (iSelfWord_any _ _).mono ?_; rintro e w2 ⟨rfl, hb2⟩))
  go_ret
  exact ⟨rfl, hb1.trans (hb2.mono hb1.size)⟩
end Go.Proofs.Ytdnfkhfhhffaeaa
