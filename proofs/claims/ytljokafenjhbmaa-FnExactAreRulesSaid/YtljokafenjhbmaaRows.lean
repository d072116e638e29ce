/-
  No cell of these rows narrows 'for every input' (looked for: loops, veiled, ifaces, maps, wideKeys, modest, calm, conditions, laid).
  DERIVED. THE GIVEN ROWS OF THIS SEAT. 7 by the template 'for every input the law returns true; each argument reads behind the call as it read before'; 0 by the template 'total and deterministic' (their statements: YtljokafenjhbmaaTotals.lean).
  GIVEN WITH THE SEED: the statements are not yours to turn. If you find one false, say at which input.
  Laid BY PROGRAM, IN A SANDBOX (cutbox-rows.mjs): the forced cells as the released guide's own fill.sh prints them over the translation bc175deb8033b4c9… (all of the seat's roots in one cut). By AI agents, Wed Nov 11 2026. No macro, syntax, notation, axiom, sorry.
-/
import Derived.Test.YtljokafenjhbmaaChecked
import GoSem.Claim
import GoSem.ClaimJoined
import GoSem.ClaimMapViews
import Derived.JoinedTies
import Derived.KernelRfl
namespace Go.Proofs.Ytljokafenjhbmaa
/- THE CELL 'sum', in the pinned program and in every row, IS THE sha256 OF THE DUMP (.gsa) THAT YtljokafenjhbmaaProg.lean LOADS. Nothing in Lean hashes anything: it is a label: what it is worth is what the hold of that sum in a sandbox is worth. -/
noncomputable def Try.pinned : Pinned := { name := "ytljokafenjhbmaa", sum := "bc175deb8033b4c92a75bcc514afb3a4ce07b28bdcb5e46590ef5ae7dae23879", checked := Try.checked }
namespace Rows
def none {H : Type} : Left H := { results := [], args := [] }

/-- 'laws.FnExactIsPerson': WHATEVER THE INPUT: true; the input reads as it did. -/
def fnExactIsPersonSpec : ChangeSpec := { name := "fnExactIsPerson", fn := fun _ => fun
  | [d] => { results := [.lit (.bool true)], args := [d] }
  | _ => none }
def fnExactIsPersonRow : OpenClaim := { program := "ytljokafenjhbmaa", sum := "bc175deb8033b4c92a75bcc514afb3a4ce07b28bdcb5e46590ef5ae7dae23879", func := "loop.example/g01027/laws.FnExactIsPerson", spec := "fnExactIsPerson", apart := false }
def FnExactIsPersonSaid : Prop := fnExactIsPersonRow.holds Try.pinned (OpenSpec.ofChange fnExactIsPersonSpec)

/-- ITS FALSE NEIGHBOUR: 'it returns false'. Refute it at one input. -/
def fnExactIsPersonWrong : ChangeSpec := { name := "fnExactIsPerson", fn := fun _ => fun
  | [d] => { results := [.lit (.bool false)], args := [d] }
  | _ => none }
def FnExactIsPersonWrongFalsely : Prop := fnExactIsPersonRow.holds Try.pinned (OpenSpec.ofChange fnExactIsPersonWrong)

/-- 'laws.FnExactIsCandidate': WHATEVER THE INPUT: true; the input reads as it did. -/
def fnExactIsCandidateSpec : ChangeSpec := { name := "fnExactIsCandidate", fn := fun _ => fun
  | [d] => { results := [.lit (.bool true)], args := [d] }
  | _ => none }
def fnExactIsCandidateRow : OpenClaim := { program := "ytljokafenjhbmaa", sum := "bc175deb8033b4c92a75bcc514afb3a4ce07b28bdcb5e46590ef5ae7dae23879", func := "loop.example/g01027/laws.FnExactIsCandidate", spec := "fnExactIsCandidate", apart := false }
def FnExactIsCandidateSaid : Prop := fnExactIsCandidateRow.holds Try.pinned (OpenSpec.ofChange fnExactIsCandidateSpec)

/-- ITS FALSE NEIGHBOUR: 'it returns false'. Refute it at one input. -/
def fnExactIsCandidateWrong : ChangeSpec := { name := "fnExactIsCandidate", fn := fun _ => fun
  | [d] => { results := [.lit (.bool false)], args := [d] }
  | _ => none }
def FnExactIsCandidateWrongFalsely : Prop := fnExactIsCandidateRow.holds Try.pinned (OpenSpec.ofChange fnExactIsCandidateWrong)

/-- 'laws.FnExactAreRules': WHATEVER THE INPUT: true; the input reads as it did. -/
def fnExactAreRulesSpec : ChangeSpec := { name := "fnExactAreRules", fn := fun _ => fun
  | [d] => { results := [.lit (.bool true)], args := [d] }
  | _ => none }
def fnExactAreRulesRow : OpenClaim := { program := "ytljokafenjhbmaa", sum := "bc175deb8033b4c92a75bcc514afb3a4ce07b28bdcb5e46590ef5ae7dae23879", func := "loop.example/g01027/laws.FnExactAreRules", spec := "fnExactAreRules", apart := false }
def FnExactAreRulesSaid : Prop := fnExactAreRulesRow.holds Try.pinned (OpenSpec.ofChange fnExactAreRulesSpec)

/-- ITS FALSE NEIGHBOUR: 'it returns false'. Refute it at one input. -/
def fnExactAreRulesWrong : ChangeSpec := { name := "fnExactAreRules", fn := fun _ => fun
  | [d] => { results := [.lit (.bool false)], args := [d] }
  | _ => none }
def FnExactAreRulesWrongFalsely : Prop := fnExactAreRulesRow.holds Try.pinned (OpenSpec.ofChange fnExactAreRulesWrong)

/-- 'laws.FnExactReasonsAgainst': WHATEVER THE INPUT: true; the input reads as it did. -/
def fnExactReasonsAgainstSpec : ChangeSpec := { name := "fnExactReasonsAgainst", fn := fun _ => fun
  | [d1, d2] => { results := [.lit (.bool true)], args := [d1, d2] }
  | _ => none }
def fnExactReasonsAgainstRow : OpenClaim := { program := "ytljokafenjhbmaa", sum := "bc175deb8033b4c92a75bcc514afb3a4ce07b28bdcb5e46590ef5ae7dae23879", func := "loop.example/g01027/laws.FnExactReasonsAgainst", spec := "fnExactReasonsAgainst", apart := false }
def FnExactReasonsAgainstSaid : Prop := fnExactReasonsAgainstRow.holds Try.pinned (OpenSpec.ofChange fnExactReasonsAgainstSpec)

/-- ITS FALSE NEIGHBOUR: 'it returns false'. Refute it at one input. -/
def fnExactReasonsAgainstWrong : ChangeSpec := { name := "fnExactReasonsAgainst", fn := fun _ => fun
  | [d1, d2] => { results := [.lit (.bool false)], args := [d1, d2] }
  | _ => none }
def FnExactReasonsAgainstWrongFalsely : Prop := fnExactReasonsAgainstRow.holds Try.pinned (OpenSpec.ofChange fnExactReasonsAgainstWrong)

/-- 'laws.FnExactArePersons': WHATEVER THE INPUT: true; the input reads as it did. -/
def fnExactArePersonsSpec : ChangeSpec := { name := "fnExactArePersons", fn := fun _ => fun
  | [d] => { results := [.lit (.bool true)], args := [d] }
  | _ => none }
def fnExactArePersonsRow : OpenClaim := { program := "ytljokafenjhbmaa", sum := "bc175deb8033b4c92a75bcc514afb3a4ce07b28bdcb5e46590ef5ae7dae23879", func := "loop.example/g01027/laws.FnExactArePersons", spec := "fnExactArePersons", apart := false }
def FnExactArePersonsSaid : Prop := fnExactArePersonsRow.holds Try.pinned (OpenSpec.ofChange fnExactArePersonsSpec)

/-- ITS FALSE NEIGHBOUR: 'it returns false'. Refute it at one input. -/
def fnExactArePersonsWrong : ChangeSpec := { name := "fnExactArePersons", fn := fun _ => fun
  | [d] => { results := [.lit (.bool false)], args := [d] }
  | _ => none }
def FnExactArePersonsWrongFalsely : Prop := fnExactArePersonsRow.holds Try.pinned (OpenSpec.ofChange fnExactArePersonsWrong)

/-- 'laws.FnExactLikenessOf': WHATEVER THE INPUT: true; the input reads as it did. -/
def fnExactLikenessOfSpec : ChangeSpec := { name := "fnExactLikenessOf", fn := fun _ => fun
  | [d1, d2] => { results := [.lit (.bool true)], args := [d1, d2] }
  | _ => none }
def fnExactLikenessOfRow : OpenClaim := { program := "ytljokafenjhbmaa", sum := "bc175deb8033b4c92a75bcc514afb3a4ce07b28bdcb5e46590ef5ae7dae23879", func := "loop.example/g01027/laws.FnExactLikenessOf", spec := "fnExactLikenessOf", apart := false }
def FnExactLikenessOfSaid : Prop := fnExactLikenessOfRow.holds Try.pinned (OpenSpec.ofChange fnExactLikenessOfSpec)

/-- ITS FALSE NEIGHBOUR: 'it returns false'. Refute it at one input. -/
def fnExactLikenessOfWrong : ChangeSpec := { name := "fnExactLikenessOf", fn := fun _ => fun
  | [d1, d2] => { results := [.lit (.bool false)], args := [d1, d2] }
  | _ => none }
def FnExactLikenessOfWrongFalsely : Prop := fnExactLikenessOfRow.holds Try.pinned (OpenSpec.ofChange fnExactLikenessOfWrong)

/-- 'laws.FnExactAreAlike': WHATEVER THE INPUT: true; the input reads as it did. -/
def fnExactAreAlikeSpec : ChangeSpec := { name := "fnExactAreAlike", fn := fun _ => fun
  | [d1, d2, d3] => { results := [.lit (.bool true)], args := [d1, d2, d3] }
  | _ => none }
def fnExactAreAlikeRow : OpenClaim := { program := "ytljokafenjhbmaa", sum := "bc175deb8033b4c92a75bcc514afb3a4ce07b28bdcb5e46590ef5ae7dae23879", func := "loop.example/g01027/laws.FnExactAreAlike", spec := "fnExactAreAlike", apart := false }
def FnExactAreAlikeSaid : Prop := fnExactAreAlikeRow.holds Try.pinned (OpenSpec.ofChange fnExactAreAlikeSpec)

/-- ITS FALSE NEIGHBOUR: 'it returns false'. Refute it at one input. -/
def fnExactAreAlikeWrong : ChangeSpec := { name := "fnExactAreAlike", fn := fun _ => fun
  | [d1, d2, d3] => { results := [.lit (.bool false)], args := [d1, d2, d3] }
  | _ => none }
def FnExactAreAlikeWrongFalsely : Prop := fnExactAreAlikeRow.holds Try.pinned (OpenSpec.ofChange fnExactAreAlikeWrong)

/- THE SECOND FORM. 'bulk': how many values and letters a reading holds, each counted each time it is reached (what is shared counts as often as it is met; a slice's spare places count too). A statement '..UptoSaid' is the law's where the arguments, and the package variables that the reading takes, are together of bulk at most 1048576: NARROWER than '..Said'. Prove '..Said' where nothing that the law and all that it calls make is longer than what came in: it says more and counts as full. Else prove '..UptoSaid'. A law counts once. -/
mutual
def uptoBulk {H : Type} : DataW H → Nat
  | .lit (.string bytes) => bytes.length + 1
  | .lit _ => 1
  | .nil => 1
  | .ptr d => uptoBulk d + 1
  | .slice elems spare => uptoBulkAll elems + uptoBulkAll spare + 1
  | .agg parts => uptoBulkAll parts + 1
  | .iface _ d => uptoBulk d + 1
  | .map entries => uptoBulkEntries entries + 1
  | .held _ => 1
def uptoBulkAll {H : Type} : List (DataW H) → Nat
  | [] => 0
  | d :: r => uptoBulk d + uptoBulkAll r
def uptoBulkEntries {H : Type} : List (Lit × DataW H) → Nat
  | [] => 0
  | x :: r => uptoBulkEntry x + uptoBulkEntries r
def uptoBulkEntry {H : Type} : Lit × DataW H → Nat
  | (.string bytes, d) => bytes.length + uptoBulk d + 1
  | (_, d) => uptoBulk d + 1
 end
def uptoSmall : (H : Type) → List (DataW H) → Bool := fun _ ds => decide (uptoBulkAll ds ≤ 1048576)
def OpenSpec.upto (s : _root_.Go.ChangeSpec) : _root_.Go.OpenSpec := { _root_.Go.OpenSpec.ofChange s with cond := some uptoSmall }

/-- 'laws.FnExactIsPerson', WHERE WHAT IT READS IS OF BULK AT MOST 1048576: true; the input reads as it did. -/
def fnExactIsPersonUptoRow : OpenClaim := { program := "ytljokafenjhbmaa", sum := "bc175deb8033b4c92a75bcc514afb3a4ce07b28bdcb5e46590ef5ae7dae23879", func := "loop.example/g01027/laws.FnExactIsPerson", spec := "fnExactIsPerson", apart := false, narrowed := true }
def FnExactIsPersonUptoSaid : Prop := fnExactIsPersonUptoRow.holds Try.pinned (OpenSpec.upto fnExactIsPersonSpec)

/-- 'laws.FnExactIsCandidate', WHERE WHAT IT READS IS OF BULK AT MOST 1048576: true; the input reads as it did. -/
def fnExactIsCandidateUptoRow : OpenClaim := { program := "ytljokafenjhbmaa", sum := "bc175deb8033b4c92a75bcc514afb3a4ce07b28bdcb5e46590ef5ae7dae23879", func := "loop.example/g01027/laws.FnExactIsCandidate", spec := "fnExactIsCandidate", apart := false, narrowed := true }
def FnExactIsCandidateUptoSaid : Prop := fnExactIsCandidateUptoRow.holds Try.pinned (OpenSpec.upto fnExactIsCandidateSpec)

/-- 'laws.FnExactAreRules', WHERE WHAT IT READS IS OF BULK AT MOST 1048576: true; the input reads as it did. -/
def fnExactAreRulesUptoRow : OpenClaim := { program := "ytljokafenjhbmaa", sum := "bc175deb8033b4c92a75bcc514afb3a4ce07b28bdcb5e46590ef5ae7dae23879", func := "loop.example/g01027/laws.FnExactAreRules", spec := "fnExactAreRules", apart := false, narrowed := true }
def FnExactAreRulesUptoSaid : Prop := fnExactAreRulesUptoRow.holds Try.pinned (OpenSpec.upto fnExactAreRulesSpec)

/-- 'laws.FnExactReasonsAgainst', WHERE WHAT IT READS IS OF BULK AT MOST 1048576: true; the input reads as it did. -/
def fnExactReasonsAgainstUptoRow : OpenClaim := { program := "ytljokafenjhbmaa", sum := "bc175deb8033b4c92a75bcc514afb3a4ce07b28bdcb5e46590ef5ae7dae23879", func := "loop.example/g01027/laws.FnExactReasonsAgainst", spec := "fnExactReasonsAgainst", apart := false, narrowed := true }
def FnExactReasonsAgainstUptoSaid : Prop := fnExactReasonsAgainstUptoRow.holds Try.pinned (OpenSpec.upto fnExactReasonsAgainstSpec)

/-- 'laws.FnExactArePersons', WHERE WHAT IT READS IS OF BULK AT MOST 1048576: true; the input reads as it did. -/
def fnExactArePersonsUptoRow : OpenClaim := { program := "ytljokafenjhbmaa", sum := "bc175deb8033b4c92a75bcc514afb3a4ce07b28bdcb5e46590ef5ae7dae23879", func := "loop.example/g01027/laws.FnExactArePersons", spec := "fnExactArePersons", apart := false, narrowed := true }
def FnExactArePersonsUptoSaid : Prop := fnExactArePersonsUptoRow.holds Try.pinned (OpenSpec.upto fnExactArePersonsSpec)

/-- 'laws.FnExactLikenessOf', WHERE WHAT IT READS IS OF BULK AT MOST 1048576: true; the input reads as it did. -/
def fnExactLikenessOfUptoRow : OpenClaim := { program := "ytljokafenjhbmaa", sum := "bc175deb8033b4c92a75bcc514afb3a4ce07b28bdcb5e46590ef5ae7dae23879", func := "loop.example/g01027/laws.FnExactLikenessOf", spec := "fnExactLikenessOf", apart := false, narrowed := true }
def FnExactLikenessOfUptoSaid : Prop := fnExactLikenessOfUptoRow.holds Try.pinned (OpenSpec.upto fnExactLikenessOfSpec)

/-- 'laws.FnExactAreAlike', WHERE WHAT IT READS IS OF BULK AT MOST 1048576: true; the input reads as it did. -/
def fnExactAreAlikeUptoRow : OpenClaim := { program := "ytljokafenjhbmaa", sum := "bc175deb8033b4c92a75bcc514afb3a4ce07b28bdcb5e46590ef5ae7dae23879", func := "loop.example/g01027/laws.FnExactAreAlike", spec := "fnExactAreAlike", apart := false, narrowed := true }
def FnExactAreAlikeUptoSaid : Prop := fnExactAreAlikeUptoRow.holds Try.pinned (OpenSpec.upto fnExactAreAlikeSpec)

end Rows
end Go.Proofs.Ytljokafenjhbmaa
