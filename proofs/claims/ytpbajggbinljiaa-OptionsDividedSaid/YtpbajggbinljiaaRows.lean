/-
  No cell of these rows narrows 'for every input' (looked for: loops, veiled, ifaces, maps, wideKeys, modest, calm, conditions, laid).
  DERIVED. THE GIVEN ROWS OF THIS SEAT. 5 by the template 'for every input the law returns true; each argument reads behind the call as it read before'; 0 by the template 'total and deterministic' (their statements: YtpbajggbinljiaaTotals.lean).
  GIVEN WITH THE SEED: the statements are not yours to turn. If you find one false, say at which input.
  Laid BY PROGRAM, IN A SANDBOX (cutbox-rows.mjs): the forced cells as the released guide's own fill.sh prints them over the translation f78e7e7ab0ae81c3… (all of the seat's roots in one cut). By AI agents, Wed Nov 11 2026. No macro, syntax, notation, axiom, sorry.
-/
import Derived.Test.YtpbajggbinljiaaChecked
import GoSem.Claim
import GoSem.ClaimJoined
import GoSem.ClaimMapViews
import Derived.JoinedTies
import Derived.KernelRfl
namespace Go.Proofs.Ytpbajggbinljiaa
/- THE CELL 'sum', in the pinned program and in every row, IS THE sha256 OF THE DUMP (.gsa) THAT YtpbajggbinljiaaProg.lean LOADS. Nothing in Lean hashes anything: it is a label: what it is worth is what the hold of that sum in a sandbox is worth. -/
noncomputable def Try.pinned : Pinned := { name := "ytpbajggbinljiaa", sum := "f78e7e7ab0ae81c3e8af55566beee9c8993256aaec77fb7c26ca09013bdb14bd", checked := Try.checked }
namespace Rows
def none {H : Type} : Left H := { results := [], args := [] }

/-- 'backflushlaw13.OptionsSpec': WHATEVER THE INPUT: true; the input reads as it did. -/
def optionsSpecSpec : ChangeSpec := { name := "optionsSpec", fn := fun _ => fun
  | [d1, d2, d3] => { results := [.lit (.bool true)], args := [d1, d2, d3] }
  | _ => none }
def optionsSpecRow : OpenClaim := { program := "ytpbajggbinljiaa", sum := "f78e7e7ab0ae81c3e8af55566beee9c8993256aaec77fb7c26ca09013bdb14bd", func := "backflush/backflushlaw13.OptionsSpec", spec := "optionsSpec", unfollowed := true, recurses := true, plainKeys := false, apart := false }
def OptionsSpecSaid : Prop := optionsSpecRow.holds Try.pinned (OpenSpec.ofChange optionsSpecSpec)

/-- ITS FALSE NEIGHBOUR: 'it returns false'. Refute it at one input. -/
def optionsSpecWrong : ChangeSpec := { name := "optionsSpec", fn := fun _ => fun
  | [d1, d2, d3] => { results := [.lit (.bool false)], args := [d1, d2, d3] }
  | _ => none }
def OptionsSpecWrongFalsely : Prop := optionsSpecRow.holds Try.pinned (OpenSpec.ofChange optionsSpecWrong)

/-- 'backflushlaw13.OptionsCodes': WHATEVER THE INPUT: true; the input reads as it did. -/
def optionsCodesSpec : ChangeSpec := { name := "optionsCodes", fn := fun _ => fun
  | [d1, d2, d3] => { results := [.lit (.bool true)], args := [d1, d2, d3] }
  | _ => none }
def optionsCodesRow : OpenClaim := { program := "ytpbajggbinljiaa", sum := "f78e7e7ab0ae81c3e8af55566beee9c8993256aaec77fb7c26ca09013bdb14bd", func := "backflush/backflushlaw13.OptionsCodes", spec := "optionsCodes", unfollowed := true, recurses := true, plainKeys := false, apart := false }
def OptionsCodesSaid : Prop := optionsCodesRow.holds Try.pinned (OpenSpec.ofChange optionsCodesSpec)

/-- ITS FALSE NEIGHBOUR: 'it returns false'. Refute it at one input. -/
def optionsCodesWrong : ChangeSpec := { name := "optionsCodes", fn := fun _ => fun
  | [d1, d2, d3] => { results := [.lit (.bool false)], args := [d1, d2, d3] }
  | _ => none }
def OptionsCodesWrongFalsely : Prop := optionsCodesRow.holds Try.pinned (OpenSpec.ofChange optionsCodesWrong)

/-- 'backflushlaw13.OptionsForbid': WHATEVER THE INPUT: true; the input reads as it did. -/
def optionsForbidSpec : ChangeSpec := { name := "optionsForbid", fn := fun _ => fun
  | [d1, d2] => { results := [.lit (.bool true)], args := [d1, d2] }
  | _ => none }
def optionsForbidRow : OpenClaim := { program := "ytpbajggbinljiaa", sum := "f78e7e7ab0ae81c3e8af55566beee9c8993256aaec77fb7c26ca09013bdb14bd", func := "backflush/backflushlaw13.OptionsForbid", spec := "optionsForbid", unfollowed := true, recurses := true, plainKeys := false, apart := false }
def OptionsForbidSaid : Prop := optionsForbidRow.holds Try.pinned (OpenSpec.ofChange optionsForbidSpec)

/-- ITS FALSE NEIGHBOUR: 'it returns false'. Refute it at one input. -/
def optionsForbidWrong : ChangeSpec := { name := "optionsForbid", fn := fun _ => fun
  | [d1, d2] => { results := [.lit (.bool false)], args := [d1, d2] }
  | _ => none }
def OptionsForbidWrongFalsely : Prop := optionsForbidRow.holds Try.pinned (OpenSpec.ofChange optionsForbidWrong)

/-- 'backflushlaw13.OptionsOne': WHATEVER THE INPUT: true; the input reads as it did. -/
def optionsOneSpec : ChangeSpec := { name := "optionsOne", fn := fun _ => fun
  | [d1, d2, d3, d4, d5] => { results := [.lit (.bool true)], args := [d1, d2, d3, d4, d5] }
  | _ => none }
def optionsOneRow : OpenClaim := { program := "ytpbajggbinljiaa", sum := "f78e7e7ab0ae81c3e8af55566beee9c8993256aaec77fb7c26ca09013bdb14bd", func := "backflush/backflushlaw13.OptionsOne", spec := "optionsOne", unfollowed := true, recurses := true, plainKeys := false, apart := false }
def OptionsOneSaid : Prop := optionsOneRow.holds Try.pinned (OpenSpec.ofChange optionsOneSpec)

/-- ITS FALSE NEIGHBOUR: 'it returns false'. Refute it at one input. -/
def optionsOneWrong : ChangeSpec := { name := "optionsOne", fn := fun _ => fun
  | [d1, d2, d3, d4, d5] => { results := [.lit (.bool false)], args := [d1, d2, d3, d4, d5] }
  | _ => none }
def OptionsOneWrongFalsely : Prop := optionsOneRow.holds Try.pinned (OpenSpec.ofChange optionsOneWrong)

/-- 'backflushlaw13.OptionsDivided': WHATEVER THE INPUT: true; the input reads as it did. -/
def optionsDividedSpec : ChangeSpec := { name := "optionsDivided", fn := fun _ => fun
  | [d1, d2, d3, d4, d5, d6, d7] => { results := [.lit (.bool true)], args := [d1, d2, d3, d4, d5, d6, d7] }
  | _ => none }
def optionsDividedRow : OpenClaim := { program := "ytpbajggbinljiaa", sum := "f78e7e7ab0ae81c3e8af55566beee9c8993256aaec77fb7c26ca09013bdb14bd", func := "backflush/backflushlaw13.OptionsDivided", spec := "optionsDivided", unfollowed := true, recurses := true, plainKeys := false, apart := false }
def OptionsDividedSaid : Prop := optionsDividedRow.holds Try.pinned (OpenSpec.ofChange optionsDividedSpec)

/-- ITS FALSE NEIGHBOUR: 'it returns false'. Refute it at one input. -/
def optionsDividedWrong : ChangeSpec := { name := "optionsDivided", fn := fun _ => fun
  | [d1, d2, d3, d4, d5, d6, d7] => { results := [.lit (.bool false)], args := [d1, d2, d3, d4, d5, d6, d7] }
  | _ => none }
def OptionsDividedWrongFalsely : Prop := optionsDividedRow.holds Try.pinned (OpenSpec.ofChange optionsDividedWrong)

/- THE SECOND FORM. 'bulk': how many values and letters a reading holds, each counted each time it is reached (what is shared counts as often as it is met; a slice's spare places count too). A statement '..UptoSaid' is the law's where the arguments, and the package variables that the reading takes, are together of bulk at most 1048576: NARROWER than '..Said'. Prove '..Said' where nothing that the law and all that it calls make is longer than what came in: it says more and counts as full. Else prove '..UptoSaid'. A law counts once. -/
mutual
def uptoBulk {H : Type} : DataW H → Nat
  | .lit (.string bytes) => bytes.length + 1
  | .lit _ => 1
  | .nil => 1
  | .ptr d => uptoBulk d + 1
  | .slice elems spare => uptoBulkAll elems + uptoBulkAll spare + 1
  | .agg parts => uptoBulkAll parts + 1
  | .iface _ d => uptoBulk d + 1
  | .map entries => uptoBulkEntries entries + 1
  | .held _ => 1
def uptoBulkAll {H : Type} : List (DataW H) → Nat
  | [] => 0
  | d :: r => uptoBulk d + uptoBulkAll r
def uptoBulkEntries {H : Type} : List (Lit × DataW H) → Nat
  | [] => 0
  | x :: r => uptoBulkEntry x + uptoBulkEntries r
def uptoBulkEntry {H : Type} : Lit × DataW H → Nat
  | (.string bytes, d) => bytes.length + uptoBulk d + 1
  | (_, d) => uptoBulk d + 1
 end
def uptoSmall : (H : Type) → List (DataW H) → Bool := fun _ ds => decide (uptoBulkAll ds ≤ 1048576)
def OpenSpec.upto (s : _root_.Go.ChangeSpec) : _root_.Go.OpenSpec := { _root_.Go.OpenSpec.ofChange s with cond := some uptoSmall }

/-- 'backflushlaw13.OptionsSpec', WHERE WHAT IT READS IS OF BULK AT MOST 1048576: true; the input reads as it did. -/
def optionsSpecUptoRow : OpenClaim := { program := "ytpbajggbinljiaa", sum := "f78e7e7ab0ae81c3e8af55566beee9c8993256aaec77fb7c26ca09013bdb14bd", func := "backflush/backflushlaw13.OptionsSpec", spec := "optionsSpec", unfollowed := true, recurses := true, plainKeys := false, apart := false, narrowed := true }
def OptionsSpecUptoSaid : Prop := optionsSpecUptoRow.holds Try.pinned (OpenSpec.upto optionsSpecSpec)

/-- 'backflushlaw13.OptionsCodes', WHERE WHAT IT READS IS OF BULK AT MOST 1048576: true; the input reads as it did. -/
def optionsCodesUptoRow : OpenClaim := { program := "ytpbajggbinljiaa", sum := "f78e7e7ab0ae81c3e8af55566beee9c8993256aaec77fb7c26ca09013bdb14bd", func := "backflush/backflushlaw13.OptionsCodes", spec := "optionsCodes", unfollowed := true, recurses := true, plainKeys := false, apart := false, narrowed := true }
def OptionsCodesUptoSaid : Prop := optionsCodesUptoRow.holds Try.pinned (OpenSpec.upto optionsCodesSpec)

/-- 'backflushlaw13.OptionsForbid', WHERE WHAT IT READS IS OF BULK AT MOST 1048576: true; the input reads as it did. -/
def optionsForbidUptoRow : OpenClaim := { program := "ytpbajggbinljiaa", sum := "f78e7e7ab0ae81c3e8af55566beee9c8993256aaec77fb7c26ca09013bdb14bd", func := "backflush/backflushlaw13.OptionsForbid", spec := "optionsForbid", unfollowed := true, recurses := true, plainKeys := false, apart := false, narrowed := true }
def OptionsForbidUptoSaid : Prop := optionsForbidUptoRow.holds Try.pinned (OpenSpec.upto optionsForbidSpec)

/-- 'backflushlaw13.OptionsOne', WHERE WHAT IT READS IS OF BULK AT MOST 1048576: true; the input reads as it did. -/
def optionsOneUptoRow : OpenClaim := { program := "ytpbajggbinljiaa", sum := "f78e7e7ab0ae81c3e8af55566beee9c8993256aaec77fb7c26ca09013bdb14bd", func := "backflush/backflushlaw13.OptionsOne", spec := "optionsOne", unfollowed := true, recurses := true, plainKeys := false, apart := false, narrowed := true }
def OptionsOneUptoSaid : Prop := optionsOneUptoRow.holds Try.pinned (OpenSpec.upto optionsOneSpec)

/-- 'backflushlaw13.OptionsDivided', WHERE WHAT IT READS IS OF BULK AT MOST 1048576: true; the input reads as it did. -/
def optionsDividedUptoRow : OpenClaim := { program := "ytpbajggbinljiaa", sum := "f78e7e7ab0ae81c3e8af55566beee9c8993256aaec77fb7c26ca09013bdb14bd", func := "backflush/backflushlaw13.OptionsDivided", spec := "optionsDivided", unfollowed := true, recurses := true, plainKeys := false, apart := false, narrowed := true }
def OptionsDividedUptoSaid : Prop := optionsDividedUptoRow.holds Try.pinned (OpenSpec.upto optionsDividedSpec)

end Rows
end Go.Proofs.Ytpbajggbinljiaa
