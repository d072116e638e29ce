/-
  DERIVED. GIVEN WITH THE SEED: THE CARDS: each row of YtibfpajblcfobaaDoorRows.lean that lists a variable, with what it lists TIED to the program's text (the seventh form; the later family's looks); each row that meets fmt, with fmt's text TOLD by the authors' own Lean function (tested against real Go, not proved from fmt's source: count such statements apart). THE CARD IS WHAT COUNTS. Prove the row's statement (the work); the ties are given (YtibfpajblcfobaaDoorTie.lean); close each card by the builder's one call (the guide's Derived/Test/ToyasCard.lean, 'card_holds'). Laid BY PROGRAM, IN A SANDBOX (cutbox-door.mjs). By AI agents, Wed Nov 11 2026. No macro, syntax, notation, axiom, sorry.
-/
import Derived.Test.YtibfpajblcfobaaDoorRows
import GoSem.ClaimSeven
namespace Go.Proofs.YtibfpajblcfobaaDoor
namespace Rows

/-- THE TIED CARD OF 'laws.FnExactPersonText'. -/
def fnExactPersonTextCard : Claim7 := { stood := { row := fnExactPersonTextRow, standIns := [], harness := (true, "b7ae342458792ed513b5f57d8ca4b77e0c69ffcc75270dc32398245d88ca328b"), looks := true }, kinds := [], alts := [], laidByText := true, laidKinds := [.data, .data, .data], laidTests := true, laidLooks := .later }
def FnExactPersonTextCardSaid : Prop := Claim7.holds Tryd.pinned (.plain (OpenSpec.ofChange fnExactPersonTextSpec)) fnExactPersonTextCard

/-- THE TIED CARD OF 'laws.FnExactReadPerson'. -/
def fnExactReadPersonCard : Claim7 := { stood := { row := fnExactReadPersonRow, standIns := [], harness := (true, "b7ae342458792ed513b5f57d8ca4b77e0c69ffcc75270dc32398245d88ca328b"), looks := true }, kinds := [], alts := [], laidByText := true, laidKinds := [.data, .data, .data, .data, .sentinel, .sentinel, .pinned], laidTests := true, laidLooks := .later }
def FnExactReadPersonCardSaid : Prop := Claim7.holds Tryd.pinned (.plain (OpenSpec.ofChange fnExactReadPersonSpec)) fnExactReadPersonCard

/-- THE TIED CARD OF 'laws.FnPersonTexts'. -/
def fnPersonTextsCard : Claim7 := { stood := { row := fnPersonTextsRow, standIns := [], harness := (true, "b7ae342458792ed513b5f57d8ca4b77e0c69ffcc75270dc32398245d88ca328b"), looks := true }, kinds := [], alts := [], laidByText := true, laidKinds := [.data, .data, .data, .data, .sentinel, .sentinel, .pinned], laidTests := true, laidLooks := .later }
def FnPersonTextsCardSaid : Prop := Claim7.holds Tryd.pinned (.plain (OpenSpec.ofChange fnPersonTextsSpec)) fnPersonTextsCard

/-- THE SECOND FORM's CARD OF 'laws.FnExactPersonText'. -/
def fnExactPersonTextUptoCard : Claim7 := { stood := { row := fnExactPersonTextUptoRow, standIns := [], harness := (true, "b7ae342458792ed513b5f57d8ca4b77e0c69ffcc75270dc32398245d88ca328b"), looks := true }, kinds := [], alts := [], laidByText := true, laidKinds := [.data, .data, .data], laidTests := true, laidLooks := .later }
def FnExactPersonTextUptoCardSaid : Prop := Claim7.holds Tryd.pinned (.plain (OpenSpec.upto fnExactPersonTextSpec)) fnExactPersonTextUptoCard

/-- THE SECOND FORM's CARD OF 'laws.FnExactReadPerson'. -/
def fnExactReadPersonUptoCard : Claim7 := { stood := { row := fnExactReadPersonUptoRow, standIns := [], harness := (true, "b7ae342458792ed513b5f57d8ca4b77e0c69ffcc75270dc32398245d88ca328b"), looks := true }, kinds := [], alts := [], laidByText := true, laidKinds := [.data, .data, .data, .data, .sentinel, .sentinel, .pinned], laidTests := true, laidLooks := .later }
def FnExactReadPersonUptoCardSaid : Prop := Claim7.holds Tryd.pinned (.plain (OpenSpec.upto fnExactReadPersonSpec)) fnExactReadPersonUptoCard

/-- THE SECOND FORM's CARD OF 'laws.FnPersonTexts'. -/
def fnPersonTextsUptoCard : Claim7 := { stood := { row := fnPersonTextsUptoRow, standIns := [], harness := (true, "b7ae342458792ed513b5f57d8ca4b77e0c69ffcc75270dc32398245d88ca328b"), looks := true }, kinds := [], alts := [], laidByText := true, laidKinds := [.data, .data, .data, .data, .sentinel, .sentinel, .pinned], laidTests := true, laidLooks := .later }
def FnPersonTextsUptoCardSaid : Prop := Claim7.holds Tryd.pinned (.plain (OpenSpec.upto fnPersonTextsSpec)) fnPersonTextsUptoCard
end Rows
end Go.Proofs.YtibfpajblcfobaaDoor
