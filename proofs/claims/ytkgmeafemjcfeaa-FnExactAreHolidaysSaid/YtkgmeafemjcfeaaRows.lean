/-
  No cell of these rows narrows 'for every input' (looked for: loops, veiled, ifaces, maps, wideKeys, modest, calm, conditions, laid).
  DERIVED. THE GIVEN ROWS OF THIS SEAT. 6 by the template 'for every input the law returns true; each argument reads behind the call as it read before'; 0 by the template 'total and deterministic' (their statements: YtkgmeafemjcfeaaTotals.lean).
  GIVEN WITH THE SEED: the statements are not yours to turn. If you find one false, say at which input.
  Laid BY PROGRAM, IN A SANDBOX (cutbox-rows.mjs): the forced cells as the released guide's own fill.sh prints them over the translation b9002a998a0ce648… (all of the seat's roots in one cut). By AI agents, Wed Nov 11 2026. No macro, syntax, notation, axiom, sorry.
-/
import Derived.Test.YtkgmeafemjcfeaaChecked
import GoSem.Claim
import GoSem.ClaimJoined
import GoSem.ClaimMapViews
import Derived.JoinedTies
import Derived.KernelRfl
namespace Go.Proofs.Ytkgmeafemjcfeaa
/- THE CELL 'sum', in the pinned program and in every row, IS THE sha256 OF THE DUMP (.gsa) THAT YtkgmeafemjcfeaaProg.lean LOADS. Nothing in Lean hashes anything: it is a label: what it is worth is what the hold of that sum in a sandbox is worth. -/
noncomputable def Try.pinned : Pinned := { name := "ytkgmeafemjcfeaa", sum := "b9002a998a0ce6486e0705f999c60469a1cada89182902c417a9b521dc16c0ce", checked := Try.checked }
namespace Rows
def none {H : Type} : Left H := { results := [], args := [] }

/-- 'laws.FnExactConstants': WHATEVER THE INPUT: true; the input reads as it did. -/
def fnExactConstantsSpec : ChangeSpec := { name := "fnExactConstants", fn := fun _ => fun
  | [] => { results := [.lit (.bool true)], args := [] }
  | _ => none }
def fnExactConstantsRow : OpenClaim := { program := "ytkgmeafemjcfeaa", sum := "b9002a998a0ce6486e0705f999c60469a1cada89182902c417a9b521dc16c0ce", func := "loop.example/g01027/laws.FnExactConstants", spec := "fnExactConstants", apart := false }
def FnExactConstantsSaid : Prop := fnExactConstantsRow.holds Try.pinned (OpenSpec.ofChange fnExactConstantsSpec)

/-- ITS FALSE NEIGHBOUR: 'it returns false'. Refute it at one input. -/
def fnExactConstantsWrong : ChangeSpec := { name := "fnExactConstants", fn := fun _ => fun
  | [] => { results := [.lit (.bool false)], args := [] }
  | _ => none }
def FnExactConstantsWrongFalsely : Prop := fnExactConstantsRow.holds Try.pinned (OpenSpec.ofChange fnExactConstantsWrong)

/-- 'laws.FnExactIsWord': WHATEVER THE INPUT: true; the input reads as it did. -/
def fnExactIsWordSpec : ChangeSpec := { name := "fnExactIsWord", fn := fun _ => fun
  | [d] => { results := [.lit (.bool true)], args := [d] }
  | _ => none }
def fnExactIsWordRow : OpenClaim := { program := "ytkgmeafemjcfeaa", sum := "b9002a998a0ce6486e0705f999c60469a1cada89182902c417a9b521dc16c0ce", func := "loop.example/g01027/laws.FnExactIsWord", spec := "fnExactIsWord", apart := false }
def FnExactIsWordSaid : Prop := fnExactIsWordRow.holds Try.pinned (OpenSpec.ofChange fnExactIsWordSpec)

/-- ITS FALSE NEIGHBOUR: 'it returns false'. Refute it at one input. -/
def fnExactIsWordWrong : ChangeSpec := { name := "fnExactIsWord", fn := fun _ => fun
  | [d] => { results := [.lit (.bool false)], args := [d] }
  | _ => none }
def FnExactIsWordWrongFalsely : Prop := fnExactIsWordRow.holds Try.pinned (OpenSpec.ofChange fnExactIsWordWrong)

/-- 'laws.FnExactNextState': WHATEVER THE INPUT: true; the input reads as it did. -/
def fnExactNextStateSpec : ChangeSpec := { name := "fnExactNextState", fn := fun _ => fun
  | [d] => { results := [.lit (.bool true)], args := [d] }
  | _ => none }
def fnExactNextStateRow : OpenClaim := { program := "ytkgmeafemjcfeaa", sum := "b9002a998a0ce6486e0705f999c60469a1cada89182902c417a9b521dc16c0ce", func := "loop.example/g01027/laws.FnExactNextState", spec := "fnExactNextState", apart := false }
def FnExactNextStateSaid : Prop := fnExactNextStateRow.holds Try.pinned (OpenSpec.ofChange fnExactNextStateSpec)

/-- ITS FALSE NEIGHBOUR: 'it returns false'. Refute it at one input. -/
def fnExactNextStateWrong : ChangeSpec := { name := "fnExactNextState", fn := fun _ => fun
  | [d] => { results := [.lit (.bool false)], args := [d] }
  | _ => none }
def FnExactNextStateWrongFalsely : Prop := fnExactNextStateRow.holds Try.pinned (OpenSpec.ofChange fnExactNextStateWrong)

/-- 'laws.FnExactCommitmentOf': WHATEVER THE INPUT: true; the input reads as it did. -/
def fnExactCommitmentOfSpec : ChangeSpec := { name := "fnExactCommitmentOf", fn := fun _ => fun
  | [d1, d2] => { results := [.lit (.bool true)], args := [d1, d2] }
  | _ => none }
def fnExactCommitmentOfRow : OpenClaim := { program := "ytkgmeafemjcfeaa", sum := "b9002a998a0ce6486e0705f999c60469a1cada89182902c417a9b521dc16c0ce", func := "loop.example/g01027/laws.FnExactCommitmentOf", spec := "fnExactCommitmentOf", apart := false }
def FnExactCommitmentOfSaid : Prop := fnExactCommitmentOfRow.holds Try.pinned (OpenSpec.ofChange fnExactCommitmentOfSpec)

/-- ITS FALSE NEIGHBOUR: 'it returns false'. Refute it at one input. -/
def fnExactCommitmentOfWrong : ChangeSpec := { name := "fnExactCommitmentOf", fn := fun _ => fun
  | [d1, d2] => { results := [.lit (.bool false)], args := [d1, d2] }
  | _ => none }
def FnExactCommitmentOfWrongFalsely : Prop := fnExactCommitmentOfRow.holds Try.pinned (OpenSpec.ofChange fnExactCommitmentOfWrong)

/-- 'laws.FnExactNumberBelow': WHATEVER THE INPUT: true; the input reads as it did. -/
def fnExactNumberBelowSpec : ChangeSpec := { name := "fnExactNumberBelow", fn := fun _ => fun
  | [d1, d2] => { results := [.lit (.bool true)], args := [d1, d2] }
  | _ => none }
def fnExactNumberBelowRow : OpenClaim := { program := "ytkgmeafemjcfeaa", sum := "b9002a998a0ce6486e0705f999c60469a1cada89182902c417a9b521dc16c0ce", func := "loop.example/g01027/laws.FnExactNumberBelow", spec := "fnExactNumberBelow", apart := false }
def FnExactNumberBelowSaid : Prop := fnExactNumberBelowRow.holds Try.pinned (OpenSpec.ofChange fnExactNumberBelowSpec)

/-- ITS FALSE NEIGHBOUR: 'it returns false'. Refute it at one input. -/
def fnExactNumberBelowWrong : ChangeSpec := { name := "fnExactNumberBelow", fn := fun _ => fun
  | [d1, d2] => { results := [.lit (.bool false)], args := [d1, d2] }
  | _ => none }
def FnExactNumberBelowWrongFalsely : Prop := fnExactNumberBelowRow.holds Try.pinned (OpenSpec.ofChange fnExactNumberBelowWrong)

/-- 'laws.FnExactAreHolidays': WHATEVER THE INPUT: true; the input reads as it did. -/
def fnExactAreHolidaysSpec : ChangeSpec := { name := "fnExactAreHolidays", fn := fun _ => fun
  | [d] => { results := [.lit (.bool true)], args := [d] }
  | _ => none }
def fnExactAreHolidaysRow : OpenClaim := { program := "ytkgmeafemjcfeaa", sum := "b9002a998a0ce6486e0705f999c60469a1cada89182902c417a9b521dc16c0ce", func := "loop.example/g01027/laws.FnExactAreHolidays", spec := "fnExactAreHolidays", apart := false }
def FnExactAreHolidaysSaid : Prop := fnExactAreHolidaysRow.holds Try.pinned (OpenSpec.ofChange fnExactAreHolidaysSpec)

/-- ITS FALSE NEIGHBOUR: 'it returns false'. Refute it at one input. -/
def fnExactAreHolidaysWrong : ChangeSpec := { name := "fnExactAreHolidays", fn := fun _ => fun
  | [d] => { results := [.lit (.bool false)], args := [d] }
  | _ => none }
def FnExactAreHolidaysWrongFalsely : Prop := fnExactAreHolidaysRow.holds Try.pinned (OpenSpec.ofChange fnExactAreHolidaysWrong)

/- THE SECOND FORM. 'bulk': how many values and letters a reading holds, each counted each time it is reached (what is shared counts as often as it is met; a slice's spare places count too). A statement '..UptoSaid' is the law's where the arguments, and the package variables that the reading takes, are together of bulk at most 1048576: NARROWER than '..Said'. Prove '..Said' where nothing that the law and all that it calls make is longer than what came in: it says more and counts as full. Else prove '..UptoSaid'. A law counts once. -/
mutual
def uptoBulk {H : Type} : DataW H → Nat
  | .lit (.string bytes) => bytes.length + 1
  | .lit _ => 1
  | .nil => 1
  | .ptr d => uptoBulk d + 1
  | .slice elems spare => uptoBulkAll elems + uptoBulkAll spare + 1
  | .agg parts => uptoBulkAll parts + 1
  | .iface _ d => uptoBulk d + 1
  | .map entries => uptoBulkEntries entries + 1
  | .held _ => 1
def uptoBulkAll {H : Type} : List (DataW H) → Nat
  | [] => 0
  | d :: r => uptoBulk d + uptoBulkAll r
def uptoBulkEntries {H : Type} : List (Lit × DataW H) → Nat
  | [] => 0
  | x :: r => uptoBulkEntry x + uptoBulkEntries r
def uptoBulkEntry {H : Type} : Lit × DataW H → Nat
  | (.string bytes, d) => bytes.length + uptoBulk d + 1
  | (_, d) => uptoBulk d + 1
 end
def uptoSmall : (H : Type) → List (DataW H) → Bool := fun _ ds => decide (uptoBulkAll ds ≤ 1048576)
def OpenSpec.upto (s : _root_.Go.ChangeSpec) : _root_.Go.OpenSpec := { _root_.Go.OpenSpec.ofChange s with cond := some uptoSmall }

/-- 'laws.FnExactConstants', WHERE WHAT IT READS IS OF BULK AT MOST 1048576: true; the input reads as it did. -/
def fnExactConstantsUptoRow : OpenClaim := { program := "ytkgmeafemjcfeaa", sum := "b9002a998a0ce6486e0705f999c60469a1cada89182902c417a9b521dc16c0ce", func := "loop.example/g01027/laws.FnExactConstants", spec := "fnExactConstants", apart := false, narrowed := true }
def FnExactConstantsUptoSaid : Prop := fnExactConstantsUptoRow.holds Try.pinned (OpenSpec.upto fnExactConstantsSpec)

/-- 'laws.FnExactIsWord', WHERE WHAT IT READS IS OF BULK AT MOST 1048576: true; the input reads as it did. -/
def fnExactIsWordUptoRow : OpenClaim := { program := "ytkgmeafemjcfeaa", sum := "b9002a998a0ce6486e0705f999c60469a1cada89182902c417a9b521dc16c0ce", func := "loop.example/g01027/laws.FnExactIsWord", spec := "fnExactIsWord", apart := false, narrowed := true }
def FnExactIsWordUptoSaid : Prop := fnExactIsWordUptoRow.holds Try.pinned (OpenSpec.upto fnExactIsWordSpec)

/-- 'laws.FnExactNextState', WHERE WHAT IT READS IS OF BULK AT MOST 1048576: true; the input reads as it did. -/
def fnExactNextStateUptoRow : OpenClaim := { program := "ytkgmeafemjcfeaa", sum := "b9002a998a0ce6486e0705f999c60469a1cada89182902c417a9b521dc16c0ce", func := "loop.example/g01027/laws.FnExactNextState", spec := "fnExactNextState", apart := false, narrowed := true }
def FnExactNextStateUptoSaid : Prop := fnExactNextStateUptoRow.holds Try.pinned (OpenSpec.upto fnExactNextStateSpec)

/-- 'laws.FnExactCommitmentOf', WHERE WHAT IT READS IS OF BULK AT MOST 1048576: true; the input reads as it did. -/
def fnExactCommitmentOfUptoRow : OpenClaim := { program := "ytkgmeafemjcfeaa", sum := "b9002a998a0ce6486e0705f999c60469a1cada89182902c417a9b521dc16c0ce", func := "loop.example/g01027/laws.FnExactCommitmentOf", spec := "fnExactCommitmentOf", apart := false, narrowed := true }
def FnExactCommitmentOfUptoSaid : Prop := fnExactCommitmentOfUptoRow.holds Try.pinned (OpenSpec.upto fnExactCommitmentOfSpec)

/-- 'laws.FnExactNumberBelow', WHERE WHAT IT READS IS OF BULK AT MOST 1048576: true; the input reads as it did. -/
def fnExactNumberBelowUptoRow : OpenClaim := { program := "ytkgmeafemjcfeaa", sum := "b9002a998a0ce6486e0705f999c60469a1cada89182902c417a9b521dc16c0ce", func := "loop.example/g01027/laws.FnExactNumberBelow", spec := "fnExactNumberBelow", apart := false, narrowed := true }
def FnExactNumberBelowUptoSaid : Prop := fnExactNumberBelowUptoRow.holds Try.pinned (OpenSpec.upto fnExactNumberBelowSpec)

/-- 'laws.FnExactAreHolidays', WHERE WHAT IT READS IS OF BULK AT MOST 1048576: true; the input reads as it did. -/
def fnExactAreHolidaysUptoRow : OpenClaim := { program := "ytkgmeafemjcfeaa", sum := "b9002a998a0ce6486e0705f999c60469a1cada89182902c417a9b521dc16c0ce", func := "loop.example/g01027/laws.FnExactAreHolidays", spec := "fnExactAreHolidays", apart := false, narrowed := true }
def FnExactAreHolidaysUptoSaid : Prop := fnExactAreHolidaysUptoRow.holds Try.pinned (OpenSpec.upto fnExactAreHolidaysSpec)

end Rows
end Go.Proofs.Ytkgmeafemjcfeaa
