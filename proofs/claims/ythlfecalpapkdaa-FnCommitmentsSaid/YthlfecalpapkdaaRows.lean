/-
  No cell of these rows narrows 'for every input' (looked for: loops, veiled, ifaces, maps, wideKeys, modest, calm, conditions, laid).
  DERIVED. THE GIVEN ROWS OF THIS SEAT. 8 by the template 'for every input the law returns true; each argument reads behind the call as it read before'; 0 by the template 'total and deterministic' (their statements: YthlfecalpapkdaaTotals.lean).
  GIVEN WITH THE SEED: the statements are not yours to turn. If you find one false, say at which input.
  Laid BY PROGRAM, IN A SANDBOX (cutbox-rows.mjs): the forced cells as the released guide's own fill.sh prints them over the translation 56eeceff8e5c62e5… (all of the seat's roots in one cut). By AI agents, Wed Nov 11 2026. No macro, syntax, notation, axiom, sorry.
-/
import Derived.Test.YthlfecalpapkdaaChecked
import GoSem.Claim
import GoSem.ClaimJoined
import GoSem.ClaimMapViews
import Derived.JoinedTies
import Derived.KernelRfl
namespace Go.Proofs.Ythlfecalpapkdaa
/- THE CELL 'sum', in the pinned program and in every row, IS THE sha256 OF THE DUMP (.gsa) THAT YthlfecalpapkdaaProg.lean LOADS. Nothing in Lean hashes anything: it is a label: what it is worth is what the hold of that sum in a sandbox is worth. -/
noncomputable def Try.pinned : Pinned := { name := "ythlfecalpapkdaa", sum := "56eeceff8e5c62e51741fdbe0ea76fe461d0735b129c4e5895566642a17d6e31", checked := Try.checked }
namespace Rows
def none {H : Type} : Left H := { results := [], args := [] }

/-- 'laws.FnExactStatesAfter': WHATEVER THE INPUT: true; the input reads as it did. -/
def fnExactStatesAfterSpec : ChangeSpec := { name := "fnExactStatesAfter", fn := fun _ => fun
  | [d1, d2] => { results := [.lit (.bool true)], args := [d1, d2] }
  | _ => none }
def fnExactStatesAfterRow : OpenClaim := { program := "ythlfecalpapkdaa", sum := "56eeceff8e5c62e51741fdbe0ea76fe461d0735b129c4e5895566642a17d6e31", func := "loop.example/g01027/laws.FnExactStatesAfter", spec := "fnExactStatesAfter", apart := false }
def FnExactStatesAfterSaid : Prop := fnExactStatesAfterRow.holds Try.pinned (OpenSpec.ofChange fnExactStatesAfterSpec)

/-- ITS FALSE NEIGHBOUR: 'it returns false'. Refute it at one input. -/
def fnExactStatesAfterWrong : ChangeSpec := { name := "fnExactStatesAfter", fn := fun _ => fun
  | [d1, d2] => { results := [.lit (.bool false)], args := [d1, d2] }
  | _ => none }
def FnExactStatesAfterWrongFalsely : Prop := fnExactStatesAfterRow.holds Try.pinned (OpenSpec.ofChange fnExactStatesAfterWrong)

/-- 'laws.FnExactPlaceInShuffle': WHATEVER THE INPUT: true; the input reads as it did. -/
def fnExactPlaceInShuffleSpec : ChangeSpec := { name := "fnExactPlaceInShuffle", fn := fun _ => fun
  | [d1, d2, d3] => { results := [.lit (.bool true)], args := [d1, d2, d3] }
  | _ => none }
def fnExactPlaceInShuffleRow : OpenClaim := { program := "ythlfecalpapkdaa", sum := "56eeceff8e5c62e51741fdbe0ea76fe461d0735b129c4e5895566642a17d6e31", func := "loop.example/g01027/laws.FnExactPlaceInShuffle", spec := "fnExactPlaceInShuffle", apart := false }
def FnExactPlaceInShuffleSaid : Prop := fnExactPlaceInShuffleRow.holds Try.pinned (OpenSpec.ofChange fnExactPlaceInShuffleSpec)

/-- ITS FALSE NEIGHBOUR: 'it returns false'. Refute it at one input. -/
def fnExactPlaceInShuffleWrong : ChangeSpec := { name := "fnExactPlaceInShuffle", fn := fun _ => fun
  | [d1, d2, d3] => { results := [.lit (.bool false)], args := [d1, d2, d3] }
  | _ => none }
def FnExactPlaceInShuffleWrongFalsely : Prop := fnExactPlaceInShuffleRow.holds Try.pinned (OpenSpec.ofChange fnExactPlaceInShuffleWrong)

/-- 'laws.FnExactShuffleNumbers': WHATEVER THE INPUT: true; the input reads as it did. -/
def fnExactShuffleNumbersSpec : ChangeSpec := { name := "fnExactShuffleNumbers", fn := fun _ => fun
  | [d1, d2] => { results := [.lit (.bool true)], args := [d1, d2] }
  | _ => none }
def fnExactShuffleNumbersRow : OpenClaim := { program := "ythlfecalpapkdaa", sum := "56eeceff8e5c62e51741fdbe0ea76fe461d0735b129c4e5895566642a17d6e31", func := "loop.example/g01027/laws.FnExactShuffleNumbers", spec := "fnExactShuffleNumbers", apart := false }
def FnExactShuffleNumbersSaid : Prop := fnExactShuffleNumbersRow.holds Try.pinned (OpenSpec.ofChange fnExactShuffleNumbersSpec)

/-- ITS FALSE NEIGHBOUR: 'it returns false'. Refute it at one input. -/
def fnExactShuffleNumbersWrong : ChangeSpec := { name := "fnExactShuffleNumbers", fn := fun _ => fun
  | [d1, d2] => { results := [.lit (.bool false)], args := [d1, d2] }
  | _ => none }
def FnExactShuffleNumbersWrongFalsely : Prop := fnExactShuffleNumbersRow.holds Try.pinned (OpenSpec.ofChange fnExactShuffleNumbersWrong)

/-- 'laws.FnExactSampleOf': WHATEVER THE INPUT: true; the input reads as it did. -/
def fnExactSampleOfSpec : ChangeSpec := { name := "fnExactSampleOf", fn := fun _ => fun
  | [d1, d2, d3] => { results := [.lit (.bool true)], args := [d1, d2, d3] }
  | _ => none }
def fnExactSampleOfRow : OpenClaim := { program := "ythlfecalpapkdaa", sum := "56eeceff8e5c62e51741fdbe0ea76fe461d0735b129c4e5895566642a17d6e31", func := "loop.example/g01027/laws.FnExactSampleOf", spec := "fnExactSampleOf", apart := false }
def FnExactSampleOfSaid : Prop := fnExactSampleOfRow.holds Try.pinned (OpenSpec.ofChange fnExactSampleOfSpec)

/-- ITS FALSE NEIGHBOUR: 'it returns false'. Refute it at one input. -/
def fnExactSampleOfWrong : ChangeSpec := { name := "fnExactSampleOf", fn := fun _ => fun
  | [d1, d2, d3] => { results := [.lit (.bool false)], args := [d1, d2, d3] }
  | _ => none }
def FnExactSampleOfWrongFalsely : Prop := fnExactSampleOfRow.holds Try.pinned (OpenSpec.ofChange fnExactSampleOfWrong)

/-- 'laws.FnExactIsRightDraw': WHATEVER THE INPUT: true; the input reads as it did. -/
def fnExactIsRightDrawSpec : ChangeSpec := { name := "fnExactIsRightDraw", fn := fun _ => fun
  | [d1, d2, d3, d4, d5] => { results := [.lit (.bool true)], args := [d1, d2, d3, d4, d5] }
  | _ => none }
def fnExactIsRightDrawRow : OpenClaim := { program := "ythlfecalpapkdaa", sum := "56eeceff8e5c62e51741fdbe0ea76fe461d0735b129c4e5895566642a17d6e31", func := "loop.example/g01027/laws.FnExactIsRightDraw", spec := "fnExactIsRightDraw", apart := false }
def FnExactIsRightDrawSaid : Prop := fnExactIsRightDrawRow.holds Try.pinned (OpenSpec.ofChange fnExactIsRightDrawSpec)

/-- ITS FALSE NEIGHBOUR: 'it returns false'. Refute it at one input. -/
def fnExactIsRightDrawWrong : ChangeSpec := { name := "fnExactIsRightDraw", fn := fun _ => fun
  | [d1, d2, d3, d4, d5] => { results := [.lit (.bool false)], args := [d1, d2, d3, d4, d5] }
  | _ => none }
def FnExactIsRightDrawWrongFalsely : Prop := fnExactIsRightDrawRow.holds Try.pinned (OpenSpec.ofChange fnExactIsRightDrawWrong)

/-- 'laws.FnStates': WHATEVER THE INPUT: true; the input reads as it did. -/
def fnStatesSpec : ChangeSpec := { name := "fnStates", fn := fun _ => fun
  | [d] => { results := [.lit (.bool true)], args := [d] }
  | _ => none }
def fnStatesRow : OpenClaim := { program := "ythlfecalpapkdaa", sum := "56eeceff8e5c62e51741fdbe0ea76fe461d0735b129c4e5895566642a17d6e31", func := "loop.example/g01027/laws.FnStates", spec := "fnStates", apart := false }
def FnStatesSaid : Prop := fnStatesRow.holds Try.pinned (OpenSpec.ofChange fnStatesSpec)

/-- ITS FALSE NEIGHBOUR: 'it returns false'. Refute it at one input. -/
def fnStatesWrong : ChangeSpec := { name := "fnStates", fn := fun _ => fun
  | [d] => { results := [.lit (.bool false)], args := [d] }
  | _ => none }
def FnStatesWrongFalsely : Prop := fnStatesRow.holds Try.pinned (OpenSpec.ofChange fnStatesWrong)

/-- 'laws.FnShuffles': WHATEVER THE INPUT: true; the input reads as it did. -/
def fnShufflesSpec : ChangeSpec := { name := "fnShuffles", fn := fun _ => fun
  | [d] => { results := [.lit (.bool true)], args := [d] }
  | _ => none }
def fnShufflesRow : OpenClaim := { program := "ythlfecalpapkdaa", sum := "56eeceff8e5c62e51741fdbe0ea76fe461d0735b129c4e5895566642a17d6e31", func := "loop.example/g01027/laws.FnShuffles", spec := "fnShuffles", apart := false }
def FnShufflesSaid : Prop := fnShufflesRow.holds Try.pinned (OpenSpec.ofChange fnShufflesSpec)

/-- ITS FALSE NEIGHBOUR: 'it returns false'. Refute it at one input. -/
def fnShufflesWrong : ChangeSpec := { name := "fnShuffles", fn := fun _ => fun
  | [d] => { results := [.lit (.bool false)], args := [d] }
  | _ => none }
def FnShufflesWrongFalsely : Prop := fnShufflesRow.holds Try.pinned (OpenSpec.ofChange fnShufflesWrong)

/-- 'laws.FnCommitments': WHATEVER THE INPUT: true; the input reads as it did. -/
def fnCommitmentsSpec : ChangeSpec := { name := "fnCommitments", fn := fun _ => fun
  | [d] => { results := [.lit (.bool true)], args := [d] }
  | _ => none }
def fnCommitmentsRow : OpenClaim := { program := "ythlfecalpapkdaa", sum := "56eeceff8e5c62e51741fdbe0ea76fe461d0735b129c4e5895566642a17d6e31", func := "loop.example/g01027/laws.FnCommitments", spec := "fnCommitments", apart := false }
def FnCommitmentsSaid : Prop := fnCommitmentsRow.holds Try.pinned (OpenSpec.ofChange fnCommitmentsSpec)

/-- ITS FALSE NEIGHBOUR: 'it returns false'. Refute it at one input. -/
def fnCommitmentsWrong : ChangeSpec := { name := "fnCommitments", fn := fun _ => fun
  | [d] => { results := [.lit (.bool false)], args := [d] }
  | _ => none }
def FnCommitmentsWrongFalsely : Prop := fnCommitmentsRow.holds Try.pinned (OpenSpec.ofChange fnCommitmentsWrong)

/- THE SECOND FORM. 'bulk': how many values and letters a reading holds, each counted each time it is reached (what is shared counts as often as it is met; a slice's spare places count too). A statement '..UptoSaid' is the law's where the arguments, and the package variables that the reading takes, are together of bulk at most 1048576: NARROWER than '..Said'. Prove '..Said' where nothing that the law and all that it calls make is longer than what came in: it says more and counts as full. Else prove '..UptoSaid'. A law counts once. -/
mutual
def uptoBulk {H : Type} : DataW H → Nat
  | .lit (.string bytes) => bytes.length + 1
  | .lit _ => 1
  | .nil => 1
  | .ptr d => uptoBulk d + 1
  | .slice elems spare => uptoBulkAll elems + uptoBulkAll spare + 1
  | .agg parts => uptoBulkAll parts + 1
  | .iface _ d => uptoBulk d + 1
  | .map entries => uptoBulkEntries entries + 1
  | .held _ => 1
def uptoBulkAll {H : Type} : List (DataW H) → Nat
  | [] => 0
  | d :: r => uptoBulk d + uptoBulkAll r
def uptoBulkEntries {H : Type} : List (Lit × DataW H) → Nat
  | [] => 0
  | x :: r => uptoBulkEntry x + uptoBulkEntries r
def uptoBulkEntry {H : Type} : Lit × DataW H → Nat
  | (.string bytes, d) => bytes.length + uptoBulk d + 1
  | (_, d) => uptoBulk d + 1
 end
def uptoSmall : (H : Type) → List (DataW H) → Bool := fun _ ds => decide (uptoBulkAll ds ≤ 1048576)
def OpenSpec.upto (s : _root_.Go.ChangeSpec) : _root_.Go.OpenSpec := { _root_.Go.OpenSpec.ofChange s with cond := some uptoSmall }

/-- 'laws.FnExactStatesAfter', WHERE WHAT IT READS IS OF BULK AT MOST 1048576: true; the input reads as it did. -/
def fnExactStatesAfterUptoRow : OpenClaim := { program := "ythlfecalpapkdaa", sum := "56eeceff8e5c62e51741fdbe0ea76fe461d0735b129c4e5895566642a17d6e31", func := "loop.example/g01027/laws.FnExactStatesAfter", spec := "fnExactStatesAfter", apart := false, narrowed := true }
def FnExactStatesAfterUptoSaid : Prop := fnExactStatesAfterUptoRow.holds Try.pinned (OpenSpec.upto fnExactStatesAfterSpec)

/-- 'laws.FnExactPlaceInShuffle', WHERE WHAT IT READS IS OF BULK AT MOST 1048576: true; the input reads as it did. -/
def fnExactPlaceInShuffleUptoRow : OpenClaim := { program := "ythlfecalpapkdaa", sum := "56eeceff8e5c62e51741fdbe0ea76fe461d0735b129c4e5895566642a17d6e31", func := "loop.example/g01027/laws.FnExactPlaceInShuffle", spec := "fnExactPlaceInShuffle", apart := false, narrowed := true }
def FnExactPlaceInShuffleUptoSaid : Prop := fnExactPlaceInShuffleUptoRow.holds Try.pinned (OpenSpec.upto fnExactPlaceInShuffleSpec)

/-- 'laws.FnExactShuffleNumbers', WHERE WHAT IT READS IS OF BULK AT MOST 1048576: true; the input reads as it did. -/
def fnExactShuffleNumbersUptoRow : OpenClaim := { program := "ythlfecalpapkdaa", sum := "56eeceff8e5c62e51741fdbe0ea76fe461d0735b129c4e5895566642a17d6e31", func := "loop.example/g01027/laws.FnExactShuffleNumbers", spec := "fnExactShuffleNumbers", apart := false, narrowed := true }
def FnExactShuffleNumbersUptoSaid : Prop := fnExactShuffleNumbersUptoRow.holds Try.pinned (OpenSpec.upto fnExactShuffleNumbersSpec)

/-- 'laws.FnExactSampleOf', WHERE WHAT IT READS IS OF BULK AT MOST 1048576: true; the input reads as it did. -/
def fnExactSampleOfUptoRow : OpenClaim := { program := "ythlfecalpapkdaa", sum := "56eeceff8e5c62e51741fdbe0ea76fe461d0735b129c4e5895566642a17d6e31", func := "loop.example/g01027/laws.FnExactSampleOf", spec := "fnExactSampleOf", apart := false, narrowed := true }
def FnExactSampleOfUptoSaid : Prop := fnExactSampleOfUptoRow.holds Try.pinned (OpenSpec.upto fnExactSampleOfSpec)

/-- 'laws.FnExactIsRightDraw', WHERE WHAT IT READS IS OF BULK AT MOST 1048576: true; the input reads as it did. -/
def fnExactIsRightDrawUptoRow : OpenClaim := { program := "ythlfecalpapkdaa", sum := "56eeceff8e5c62e51741fdbe0ea76fe461d0735b129c4e5895566642a17d6e31", func := "loop.example/g01027/laws.FnExactIsRightDraw", spec := "fnExactIsRightDraw", apart := false, narrowed := true }
def FnExactIsRightDrawUptoSaid : Prop := fnExactIsRightDrawUptoRow.holds Try.pinned (OpenSpec.upto fnExactIsRightDrawSpec)

/-- 'laws.FnStates', WHERE WHAT IT READS IS OF BULK AT MOST 1048576: true; the input reads as it did. -/
def fnStatesUptoRow : OpenClaim := { program := "ythlfecalpapkdaa", sum := "56eeceff8e5c62e51741fdbe0ea76fe461d0735b129c4e5895566642a17d6e31", func := "loop.example/g01027/laws.FnStates", spec := "fnStates", apart := false, narrowed := true }
def FnStatesUptoSaid : Prop := fnStatesUptoRow.holds Try.pinned (OpenSpec.upto fnStatesSpec)

/-- 'laws.FnShuffles', WHERE WHAT IT READS IS OF BULK AT MOST 1048576: true; the input reads as it did. -/
def fnShufflesUptoRow : OpenClaim := { program := "ythlfecalpapkdaa", sum := "56eeceff8e5c62e51741fdbe0ea76fe461d0735b129c4e5895566642a17d6e31", func := "loop.example/g01027/laws.FnShuffles", spec := "fnShuffles", apart := false, narrowed := true }
def FnShufflesUptoSaid : Prop := fnShufflesUptoRow.holds Try.pinned (OpenSpec.upto fnShufflesSpec)

/-- 'laws.FnCommitments', WHERE WHAT IT READS IS OF BULK AT MOST 1048576: true; the input reads as it did. -/
def fnCommitmentsUptoRow : OpenClaim := { program := "ythlfecalpapkdaa", sum := "56eeceff8e5c62e51741fdbe0ea76fe461d0735b129c4e5895566642a17d6e31", func := "loop.example/g01027/laws.FnCommitments", spec := "fnCommitments", apart := false, narrowed := true }
def FnCommitmentsUptoSaid : Prop := fnCommitmentsUptoRow.holds Try.pinned (OpenSpec.upto fnCommitmentsSpec)

end Rows
end Go.Proofs.Ythlfecalpapkdaa
