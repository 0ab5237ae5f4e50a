/-
  The Go law 'FnExactSameLetters' returns true for every input, and each argument reads behind the call as it read before.
  Conditions: none beyond the row's own (every argument that can be read as data).
-/
import Derived.Test.YtdebdnglchkdaaaFrame
import Derived.Test.YtdebdnglchkdaaaASeW
namespace Go.Proofs.Ytdebdnglchkdaaa.lawFnExactSameLetters
open Go.ChangeShapes Go.WideShapes Go.ChangeAt Go.RowKit
open Go.ChangeMaps (open_string)
set_option linter.unusedVariables false

set_option maxRecDepth 100000 in
theorem lifted (os : Os) (started : os.Started) (H : Type) (enc : TypeId × Value → H) :
    ReturnsInHanded {} Try.checked os 5 .any (Rows.fnExactSameLettersSpec.pre6 enc Try.prog Try.f5 Rows.fnExactSameLettersRow.domain false) (Rows.fnExactSameLettersSpec.post enc Try.prog Try.f5 false true false false) := by
  refine returnsInHanded_of_change (C := Try.checked) ownKnobNone started (by kernel_rfl) Try.func5
    (ChangeSpec.witness6 (enc := enc) (C := Try.checked) false ⟨#[], #[.agg #[.int .i64 0, .slice none 0 0, .string ⟨#[]⟩], .agg #[.int .i64 0, .slice none 0 0, .string ⟨#[]⟩]], []⟩ 8 (by kernel_rfl) (by kernel_rfl) (by kernel_rfl) (by kernel_rfl)) ?_
  intro W base args ds gs before hval0 hW hcnd _
  have hval : ∀ (j : Nat) t v, Try.f5.params[j]? = some t → args[j]? = some v → Value.okWide Try.prog W .any base t v := hval0
  have hW' := hW
  obtain ⟨p, q, hA0, hV, rfl, hfz, hnd⟩ := hW
  have hA : DataW.TrodAll enc Try.prog W 0 (fun _ => true) true Try.f5.params.toList args.toList ds p := hA0
  rw [Try.params5] at hA hval
  obtain ⟨v0, vs0, d0, ds0, p0, q0, hargs, rfl, rfl, h0, r0⟩ := trodAll_cons hA
  obtain ⟨v1, vs1, d1, ds1, p1, q1, rfl, rfl, rfl, h1, r1⟩ := trodAll_cons r0
  obtain ⟨rfl, rfl, rfl⟩ := trodAll_nil r1
  obtain rfl : args = #[v0, v1] := by cases args; simp_all
  obtain ⟨b0, A0, n0, c0, x0, o0, rfl, g0, k0⟩ := arg_auto Try.underlying24 (by kernel_rfl) (by kernel_rfl) Try.underlying3 Try.underlying22 Try.underlying58 Try.underlying3 (by kernel_rfl) (by kernel_rfl) Try.underlying9 (hval 0 24 v0 rfl rfl) h0
  obtain ⟨b1, A1, n1, c1, x1, o1, rfl, g1, k1⟩ := arg_auto Try.underlying24 (by kernel_rfl) (by kernel_rfl) Try.underlying3 Try.underlying22 Try.underlying58 Try.underlying3 (by kernel_rfl) (by kernel_rfl) Try.underlying9 (hval 1 24 v1 rfl rfl) h1
  refine (walk_FnExactSameLetters b0 A0 n0 c0 x0 o0 b1 A1 n1 c1 x1 o1 W g0 k0 g1 k1).mono fun e W' ⟨he, hb⟩ => ?_
  subst he
  exact ⟨_, rfl, law_post (tb := 4) (by kernel_rfl) rfl rfl Try.underlying4 (fun ds hl => by match ds, hl with | [_, _], _ => rfl) hW' hb⟩

theorem over : Rows.fnExactSameLettersRow.holds Try.pinned (OpenSpec.ofChange Rows.fnExactSameLettersSpec) :=
  OpenClaim.holds_of_wide 5 Try.f5 rfl rfl rfl rfl rfl rfl rfl ⟨rfl, rfl, rfl, rfl, rfl⟩ rfl rfl rfl rfl rfl (by kernel_rfl) Try.func5 (by kernel_rfl)
    (of_decide_eq_true (by kernel_rfl)) (by unfold Func.isWrapper; first | (rw [if_pos (by decide +kernel)]; kernel_rfl) | (rw [if_neg (by decide +kernel)]; exact ⟨rfl, rfl⟩))
    (fun os started H enc _ => lifted os started H enc)

theorem proved : Rows.FnExactSameLettersSaid := over
end Go.Proofs.Ytdebdnglchkdaaa.lawFnExactSameLetters
