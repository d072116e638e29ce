/-
  No cell of these rows narrows 'for every input' (looked for: loops, veiled, ifaces, maps, wideKeys, modest, calm, conditions, laid).
  DERIVED. THE GIVEN ROWS OF THIS SEAT. 4 by the template 'for every input the law returns true; each argument reads behind the call as it read before'; 0 by the template 'total and deterministic' (their statements: YtjlifphieieoeaaTotals.lean).
  GIVEN WITH THE SEED: the statements are not yours to turn. If you find one false, say at which input.
  Laid BY PROGRAM, IN A SANDBOX (cutbox-rows.mjs): the forced cells as the released guide's own fill.sh prints them over the translation 242b22d3c99a8dc4… (all of the seat's roots in one cut). By AI agents, Wed Nov 11 2026. No macro, syntax, notation, axiom, sorry.
-/
import Derived.Test.YtjlifphieieoeaaChecked
import GoSem.Claim
import GoSem.ClaimJoined
import GoSem.ClaimMapViews
import Derived.JoinedTies
import Derived.KernelRfl
namespace Go.Proofs.Ytjlifphieieoeaa
/- THE CELL 'sum', in the pinned program and in every row, IS THE sha256 OF THE DUMP (.gsa) THAT YtjlifphieieoeaaProg.lean LOADS. Nothing in Lean hashes anything: it is a label: what it is worth is what the hold of that sum in a sandbox is worth. -/
noncomputable def Try.pinned : Pinned := { name := "ytjlifphieieoeaa", sum := "242b22d3c99a8dc4fa4bce011cc53b7a2ed2ad899b8151a4074225d3e743f4d6", checked := Try.checked }
namespace Rows
def none {H : Type} : Left H := { results := [], args := [] }

/-- 'laws.FnExactSumOf': WHATEVER THE INPUT: true; the input reads as it did. -/
def fnExactSumOfSpec : ChangeSpec := { name := "fnExactSumOf", fn := fun _ => fun
  | [d] => { results := [.lit (.bool true)], args := [d] }
  | _ => none }
def fnExactSumOfRow : OpenClaim := { program := "ytjlifphieieoeaa", sum := "242b22d3c99a8dc4fa4bce011cc53b7a2ed2ad899b8151a4074225d3e743f4d6", func := "loop.example/g01027/laws.FnExactSumOf", spec := "fnExactSumOf", apart := false }
def FnExactSumOfSaid : Prop := fnExactSumOfRow.holds Try.pinned (OpenSpec.ofChange fnExactSumOfSpec)

/-- ITS FALSE NEIGHBOUR: 'it returns false'. Refute it at one input. -/
def fnExactSumOfWrong : ChangeSpec := { name := "fnExactSumOf", fn := fun _ => fun
  | [d] => { results := [.lit (.bool false)], args := [d] }
  | _ => none }
def FnExactSumOfWrongFalsely : Prop := fnExactSumOfRow.holds Try.pinned (OpenSpec.ofChange fnExactSumOfWrong)

/-- 'laws.FnExactWordsText': WHATEVER THE INPUT: true; the input reads as it did. -/
def fnExactWordsTextSpec : ChangeSpec := { name := "fnExactWordsText", fn := fun _ => fun
  | [d] => { results := [.lit (.bool true)], args := [d] }
  | _ => none }
def fnExactWordsTextRow : OpenClaim := { program := "ytjlifphieieoeaa", sum := "242b22d3c99a8dc4fa4bce011cc53b7a2ed2ad899b8151a4074225d3e743f4d6", func := "loop.example/g01027/laws.FnExactWordsText", spec := "fnExactWordsText", inPlace := ["internal/abi.NoEscape", "internal/bytealg.MakeNoZero"], apart := false }
def FnExactWordsTextSaid : Prop := fnExactWordsTextRow.holds Try.pinned (OpenSpec.ofChange fnExactWordsTextSpec)

/-- ITS FALSE NEIGHBOUR: 'it returns false'. Refute it at one input. -/
def fnExactWordsTextWrong : ChangeSpec := { name := "fnExactWordsText", fn := fun _ => fun
  | [d] => { results := [.lit (.bool false)], args := [d] }
  | _ => none }
def FnExactWordsTextWrongFalsely : Prop := fnExactWordsTextRow.holds Try.pinned (OpenSpec.ofChange fnExactWordsTextWrong)

/-- 'laws.FnExactReasonsText': WHATEVER THE INPUT: true; the input reads as it did. -/
def fnExactReasonsTextSpec : ChangeSpec := { name := "fnExactReasonsText", fn := fun _ => fun
  | [d] => { results := [.lit (.bool true)], args := [d] }
  | _ => none }
def fnExactReasonsTextRow : OpenClaim := { program := "ytjlifphieieoeaa", sum := "242b22d3c99a8dc4fa4bce011cc53b7a2ed2ad899b8151a4074225d3e743f4d6", func := "loop.example/g01027/laws.FnExactReasonsText", spec := "fnExactReasonsText", inPlace := ["internal/abi.NoEscape", "internal/bytealg.MakeNoZero"], apart := false }
def FnExactReasonsTextSaid : Prop := fnExactReasonsTextRow.holds Try.pinned (OpenSpec.ofChange fnExactReasonsTextSpec)

/-- ITS FALSE NEIGHBOUR: 'it returns false'. Refute it at one input. -/
def fnExactReasonsTextWrong : ChangeSpec := { name := "fnExactReasonsText", fn := fun _ => fun
  | [d] => { results := [.lit (.bool false)], args := [d] }
  | _ => none }
def FnExactReasonsTextWrongFalsely : Prop := fnExactReasonsTextRow.holds Try.pinned (OpenSpec.ofChange fnExactReasonsTextWrong)

/-- 'laws.FnSums': WHATEVER THE INPUT: true; the input reads as it did. -/
def fnSumsSpec : ChangeSpec := { name := "fnSums", fn := fun _ => fun
  | [d] => { results := [.lit (.bool true)], args := [d] }
  | _ => none }
def fnSumsRow : OpenClaim := { program := "ytjlifphieieoeaa", sum := "242b22d3c99a8dc4fa4bce011cc53b7a2ed2ad899b8151a4074225d3e743f4d6", func := "loop.example/g01027/laws.FnSums", spec := "fnSums", apart := false }
def FnSumsSaid : Prop := fnSumsRow.holds Try.pinned (OpenSpec.ofChange fnSumsSpec)

/-- ITS FALSE NEIGHBOUR: 'it returns false'. Refute it at one input. -/
def fnSumsWrong : ChangeSpec := { name := "fnSums", fn := fun _ => fun
  | [d] => { results := [.lit (.bool false)], args := [d] }
  | _ => none }
def FnSumsWrongFalsely : Prop := fnSumsRow.holds Try.pinned (OpenSpec.ofChange fnSumsWrong)

/- THE SECOND FORM. 'bulk': how many values and letters a reading holds, each counted each time it is reached (what is shared counts as often as it is met; a slice's spare places count too). A statement '..UptoSaid' is the law's where the arguments, and the package variables that the reading takes, are together of bulk at most 1048576: NARROWER than '..Said'. Prove '..Said' where nothing that the law and all that it calls make is longer than what came in: it says more and counts as full. Else prove '..UptoSaid'. A law counts once. -/
mutual
def uptoBulk {H : Type} : DataW H → Nat
  | .lit (.string bytes) => bytes.length + 1
  | .lit _ => 1
  | .nil => 1
  | .ptr d => uptoBulk d + 1
  | .slice elems spare => uptoBulkAll elems + uptoBulkAll spare + 1
  | .agg parts => uptoBulkAll parts + 1
  | .iface _ d => uptoBulk d + 1
  | .map entries => uptoBulkEntries entries + 1
  | .held _ => 1
def uptoBulkAll {H : Type} : List (DataW H) → Nat
  | [] => 0
  | d :: r => uptoBulk d + uptoBulkAll r
def uptoBulkEntries {H : Type} : List (Lit × DataW H) → Nat
  | [] => 0
  | x :: r => uptoBulkEntry x + uptoBulkEntries r
def uptoBulkEntry {H : Type} : Lit × DataW H → Nat
  | (.string bytes, d) => bytes.length + uptoBulk d + 1
  | (_, d) => uptoBulk d + 1
 end
def uptoSmall : (H : Type) → List (DataW H) → Bool := fun _ ds => decide (uptoBulkAll ds ≤ 1048576)
def OpenSpec.upto (s : _root_.Go.ChangeSpec) : _root_.Go.OpenSpec := { _root_.Go.OpenSpec.ofChange s with cond := some uptoSmall }

/-- 'laws.FnExactSumOf', WHERE WHAT IT READS IS OF BULK AT MOST 1048576: true; the input reads as it did. -/
def fnExactSumOfUptoRow : OpenClaim := { program := "ytjlifphieieoeaa", sum := "242b22d3c99a8dc4fa4bce011cc53b7a2ed2ad899b8151a4074225d3e743f4d6", func := "loop.example/g01027/laws.FnExactSumOf", spec := "fnExactSumOf", apart := false, narrowed := true }
def FnExactSumOfUptoSaid : Prop := fnExactSumOfUptoRow.holds Try.pinned (OpenSpec.upto fnExactSumOfSpec)

/-- 'laws.FnExactWordsText', WHERE WHAT IT READS IS OF BULK AT MOST 1048576: true; the input reads as it did. -/
def fnExactWordsTextUptoRow : OpenClaim := { program := "ytjlifphieieoeaa", sum := "242b22d3c99a8dc4fa4bce011cc53b7a2ed2ad899b8151a4074225d3e743f4d6", func := "loop.example/g01027/laws.FnExactWordsText", spec := "fnExactWordsText", inPlace := ["internal/abi.NoEscape", "internal/bytealg.MakeNoZero"], apart := false, narrowed := true }
def FnExactWordsTextUptoSaid : Prop := fnExactWordsTextUptoRow.holds Try.pinned (OpenSpec.upto fnExactWordsTextSpec)

/-- 'laws.FnExactReasonsText', WHERE WHAT IT READS IS OF BULK AT MOST 1048576: true; the input reads as it did. -/
def fnExactReasonsTextUptoRow : OpenClaim := { program := "ytjlifphieieoeaa", sum := "242b22d3c99a8dc4fa4bce011cc53b7a2ed2ad899b8151a4074225d3e743f4d6", func := "loop.example/g01027/laws.FnExactReasonsText", spec := "fnExactReasonsText", inPlace := ["internal/abi.NoEscape", "internal/bytealg.MakeNoZero"], apart := false, narrowed := true }
def FnExactReasonsTextUptoSaid : Prop := fnExactReasonsTextUptoRow.holds Try.pinned (OpenSpec.upto fnExactReasonsTextSpec)

/-- 'laws.FnSums', WHERE WHAT IT READS IS OF BULK AT MOST 1048576: true; the input reads as it did. -/
def fnSumsUptoRow : OpenClaim := { program := "ytjlifphieieoeaa", sum := "242b22d3c99a8dc4fa4bce011cc53b7a2ed2ad899b8151a4074225d3e743f4d6", func := "loop.example/g01027/laws.FnSums", spec := "fnSums", apart := false, narrowed := true }
def FnSumsUptoSaid : Prop := fnSumsUptoRow.holds Try.pinned (OpenSpec.upto fnSumsSpec)

end Rows
end Go.Proofs.Ytjlifphieieoeaa
