/-
  backflushlaw13.OptionsDivided: for every input the call returns true, and each argument reads afterwards as it read before. No condition.
-/
import Derived.Test.YtpbajggbinljiaaOptDivW
import Derived.Test.YtpbajggbinljiaaOptOpen
namespace Go.Proofs.Ytpbajggbinljiaa
set_option linter.unusedVariables false
set_option linter.unusedSimpArgs false
set_option linter.unnecessarySimpa false
set_option linter.unusedSectionVars false
open Go.ChangeShapes Go.WideShapes Go.ChangeAt Go.RowKit

set_option maxRecDepth 100000 in
theorem optionsDivided_lifted (os : Os) (started : os.Started) (H : Type) (enc : TypeId × Value → H) :
    ReturnsInHanded {} Try.checked os 7 .any (Rows.optionsDividedSpec.pre6 enc Try.prog Try.f7 Rows.optionsDividedRow.domain false) (Rows.optionsDividedSpec.post enc Try.prog Try.f7 false true false false) := by
  refine returnsInHanded_of_change (C := Try.checked) Try.own started (by kernel_rfl) Try.func7
    (ChangeSpec.witness6 (enc := enc) (C := Try.checked) false ⟨#[], #[.agg #[.slice none 0 0, .slice none 0 0, .slice none 0 0, .slice none 0 0, .slice none 0 0, .slice none 0 0, .slice none 0 0, .slice none 0 0], .int .u8 0, .int .i64 0, .int .i64 0, .int .i64 0, .int .i64 0, .slice none 0 0], []⟩ 8 (by kernel_rfl) (by kernel_rfl) (by kernel_rfl) (by kernel_rfl)) ?_
  intro W base args ds gs before hval0 hW hcnd _
  have hval : ∀ (j : Nat) t v, Try.f7.params[j]? = some t → args[j]? = some v → Value.okWide Try.prog W .any base t v := hval0
  have hW' : DataW.Whole enc Try.prog Try.f7.params.toList Rows.optionsDividedSpec.vars false W args.toList ds gs before := hW
  obtain ⟨p, q, hA0, hV, rfl, _, _⟩ := hW
  have hA : DataW.TrodAll enc Try.prog W 0 (fun _ => true) true Try.f7.params.toList args.toList ds p := hA0
  rw [Try.params7] at hA hval
  obtain ⟨v0, vs0, d0, ds0, p0, q0, ea, rfl, rfl, g0, hA1⟩ := trodAll_cons hA
  obtain ⟨v1, vs1, d1, ds1, p1, q1, rfl, rfl, rfl, g1, hA2⟩ := trodAll_cons hA1
  obtain ⟨v2, vs2, d2, ds2, p2, q2, rfl, rfl, rfl, g2, hA3⟩ := trodAll_cons hA2
  obtain ⟨v3, vs3, d3, ds3, p3, q3, rfl, rfl, rfl, g3, hA4⟩ := trodAll_cons hA3
  obtain ⟨v4, vs4, d4, ds4, p4, q4, rfl, rfl, rfl, g4, hA5⟩ := trodAll_cons hA4
  obtain ⟨v5, vs5, d5, ds5, p5, q5, rfl, rfl, rfl, g5, hA6⟩ := trodAll_cons hA5
  obtain ⟨v6, vs6, d6, ds6, p6, q6, rfl, rfl, rfl, g6, hA7⟩ := trodAll_cons hA6
  obtain ⟨rfl, rfl, rfl⟩ := trodAll_nil hA7
  obtain rfl : args = #[v0, v1, v2, v3, v4, v5, v6] := by cases args; simpa using ea
  obtain ⟨cs0, ⟨s, S⟩, rfl, hcs0, h0⟩ := arg_struct opens_src Try.underlying31 (hval 0 31 v0 rfl rfl) g0
  obtain rfl : cs0 = s.cells.toArray := by rw [← hcs0]
  obtain ⟨n1, rfl, h1⟩ := arg_int Try.underlying5 (hval 1 5 v1 rfl rfl) g1
  obtain ⟨n2, rfl, h2⟩ := arg_int Try.underlying3 (hval 2 3 v2 rfl rfl) g2
  obtain ⟨n3, rfl, h3⟩ := arg_int Try.underlying3 (hval 3 3 v3 rfl rfl) g3
  obtain ⟨n4, rfl, h4⟩ := arg_int Try.underlying3 (hval 4 3 v4 rfl rfl) g4
  obtain ⟨n5, rfl, h5⟩ := arg_int Try.underlying3 (hval 5 3 v5 rfl rfl) g5
  obtain ⟨q6, n6, cap6, l6, rfl, h6⟩ := arg_slice opens_ints Try.underlying32 (hval 6 32 v6 rfl rfl) g6
  refine (div_any h0 h6 (Nat.le_refl _) (Nat.le_refl _) (wf_u8 h1) (wf_i64' h2) (wf_i64' h3) (wf_i64' h4) (wf_i64' h5)).mono fun e W' ⟨he, hb⟩ => ?_
  subst he
  exact ⟨_, rfl, law_post Try.laid (by kernel_rfl) rfl Try.underlying4 rfl ⟨rfl, rfl, rfl⟩ hW' hb⟩

theorem optionsDivided_holds : Rows.OptionsDividedSaid :=
  OpenClaim.holds_of_wide 7 Try.f7 rfl rfl rfl rfl rfl rfl rfl ⟨rfl, rfl, rfl, rfl, rfl⟩ rfl rfl rfl rfl rfl (by kernel_rfl) Try.func7 (by kernel_rfl)
    (of_decide_eq_true (by kernel_rfl)) (by unfold Func.isWrapper; rw [if_neg (by decide +kernel)]; exact ⟨rfl, rfl⟩)
    (fun os started H enc _ => optionsDivided_lifted os started H enc)
#print axioms optionsDivided_holds
end Go.Proofs.Ytpbajggbinljiaa
