/-
  backflushlaw13.OptionsOne: for every input the call returns true, and each argument reads afterwards as it read before. No condition.
-/
import Derived.Test.YtpbajggbinljiaaOptOneW
import Derived.Test.YtpbajggbinljiaaOptOpen
namespace Go.Proofs.Ytpbajggbinljiaa
set_option linter.unusedVariables false
set_option linter.unusedSimpArgs false
set_option linter.unnecessarySimpa false
set_option linter.unusedSectionVars false
open Go.ChangeShapes Go.WideShapes Go.ChangeAt Go.RowKit

set_option maxRecDepth 100000 in
theorem optionsOne_lifted (os : Os) (started : os.Started) (H : Type) (enc : TypeId × Value → H) :
    ReturnsInHanded {} Try.checked os 6 .any (Rows.optionsOneSpec.pre6 enc Try.prog Try.f6 Rows.optionsOneRow.domain false) (Rows.optionsOneSpec.post enc Try.prog Try.f6 false true false false) := by
  refine returnsInHanded_of_change (C := Try.checked) Try.own started (by kernel_rfl) Try.func6
    (ChangeSpec.witness6 (enc := enc) (C := Try.checked) false ⟨#[], #[.agg #[.slice none 0 0, .slice none 0 0, .slice none 0 0, .slice none 0 0, .slice none 0 0, .slice none 0 0, .slice none 0 0, .slice none 0 0], .int .u64 0, .int .u64 0, .int .u64 0, .int .u8 0], []⟩ 8 (by kernel_rfl) (by kernel_rfl) (by kernel_rfl) (by kernel_rfl)) ?_
  intro W base args ds gs before hval0 hW hcnd _
  have hval : ∀ (j : Nat) t v, Try.f6.params[j]? = some t → args[j]? = some v → Value.okWide Try.prog W .any base t v := hval0
  have hW' : DataW.Whole enc Try.prog Try.f6.params.toList Rows.optionsOneSpec.vars false W args.toList ds gs before := hW
  obtain ⟨p, q, hA0, hV, rfl, _, _⟩ := hW
  have hA : DataW.TrodAll enc Try.prog W 0 (fun _ => true) true Try.f6.params.toList args.toList ds p := hA0
  rw [Try.params6] at hA hval
  obtain ⟨v0, vs0, d0, ds0, p0, q0, ea, rfl, rfl, g0, hA1⟩ := trodAll_cons hA
  obtain ⟨v1, vs1, d1, ds1, p1, q1, rfl, rfl, rfl, g1, hA2⟩ := trodAll_cons hA1
  obtain ⟨v2, vs2, d2, ds2, p2, q2, rfl, rfl, rfl, g2, hA3⟩ := trodAll_cons hA2
  obtain ⟨v3, vs3, d3, ds3, p3, q3, rfl, rfl, rfl, g3, hA4⟩ := trodAll_cons hA3
  obtain ⟨v4, vs4, d4, ds4, p4, q4, rfl, rfl, rfl, g4, hA5⟩ := trodAll_cons hA4
  obtain ⟨rfl, rfl, rfl⟩ := trodAll_nil hA5
  obtain rfl : args = #[v0, v1, v2, v3, v4] := by cases args; simpa using ea
  obtain ⟨cs0, ⟨s, S⟩, rfl, hcs0, h0⟩ := arg_struct opens_src Try.underlying31 (hval 0 31 v0 rfl rfl) g0
  obtain rfl : cs0 = s.cells.toArray := by rw [← hcs0]
  obtain ⟨n1, rfl, h1⟩ := arg_int Try.underlying54 (hval 1 54 v1 rfl rfl) g1
  obtain ⟨n2, rfl, h2⟩ := arg_int Try.underlying54 (hval 2 54 v2 rfl rfl) g2
  obtain ⟨n3, rfl, h3⟩ := arg_int Try.underlying54 (hval 3 54 v3 rfl rfl) g3
  obtain ⟨n4, rfl, h4⟩ := arg_int Try.underlying5 (hval 4 5 v4 rfl rfl) g4
  refine (one_any h0 (Nat.le_refl _) (wf_u64 h1).1 (wf_u64 h2).1 (wf_u64 h3).1 (wf_u8 h4)).mono fun e W' ⟨he, hb⟩ => ?_
  subst he
  exact ⟨_, rfl, law_post Try.laid (by kernel_rfl) rfl Try.underlying4 rfl ⟨rfl, rfl, rfl⟩ hW' hb⟩

theorem optionsOne_holds : Rows.OptionsOneSaid :=
  OpenClaim.holds_of_wide 6 Try.f6 rfl rfl rfl rfl rfl rfl rfl ⟨rfl, rfl, rfl, rfl, rfl⟩ rfl rfl rfl rfl rfl (by kernel_rfl) Try.func6 (by kernel_rfl)
    (of_decide_eq_true (by kernel_rfl)) (by unfold Func.isWrapper; rw [if_neg (by decide +kernel)]; exact ⟨rfl, rfl⟩)
    (fun os started H enc _ => optionsOne_lifted os started H enc)
#print axioms optionsOne_holds
end Go.Proofs.Ytpbajggbinljiaa
