/-
  DERIVED. GIVEN WITH THE SEED: THE CARDS: each row of YtimjjednfhnbbaaDoorRows.lean that lists a variable, with what it lists TIED to the program's text (the seventh form; the later family's looks); each row that meets fmt, with fmt's text TOLD by the authors' own Lean function (tested against real Go, not proved from fmt's source: count such statements apart). THE CARD IS WHAT COUNTS. Prove the row's statement (the work); the ties are given (YtimjjednfhnbbaaDoorTie.lean); close each card by the builder's one call (the guide's Derived/Test/ToyasCard.lean, 'card_holds'). Laid BY PROGRAM, IN A SANDBOX (cutbox-door.mjs). By AI agents, Wed Nov 11 2026. No macro, syntax, notation, axiom, sorry.
-/
import Derived.Test.YtimjjednfhnbbaaDoorRows
import GoSem.ClaimSeven
namespace Go.Proofs.YtimjjednfhnbbaaDoor
namespace Rows

/-- THE TIED CARD OF 'laws.FnExactReadWords'. -/
def fnExactReadWordsCard : Claim7 := { stood := { row := fnExactReadWordsRow, standIns := [], harness := (true, "159273d10cb356e6fc47f3dcd1c111cea40b2ea9a76be1e093762c03b99e80a5"), looks := true }, kinds := [], alts := [], laidByText := true, laidKinds := [.data, .pinned], laidTests := true, laidLooks := .later }
def FnExactReadWordsCardSaid : Prop := Claim7.holds Tryd.pinned (.plain (OpenSpec.ofChange fnExactReadWordsSpec)) fnExactReadWordsCard

/-- THE TIED CARD OF 'laws.FnExactMoneyText'. -/
def fnExactMoneyTextCard : Claim7 := { stood := { row := fnExactMoneyTextRow, standIns := [], harness := (true, "159273d10cb356e6fc47f3dcd1c111cea40b2ea9a76be1e093762c03b99e80a5"), looks := true }, kinds := [], alts := [], laidByText := true, laidKinds := [.data, .data, .data], laidTests := true, laidLooks := .later }
def FnExactMoneyTextCardSaid : Prop := Claim7.holds Tryd.pinned (.plain (OpenSpec.ofChange fnExactMoneyTextSpec)) fnExactMoneyTextCard

/-- THE TIED CARD OF 'laws.FnExactReadMoney'. -/
def fnExactReadMoneyCard : Claim7 := { stood := { row := fnExactReadMoneyRow, standIns := [], harness := (true, "159273d10cb356e6fc47f3dcd1c111cea40b2ea9a76be1e093762c03b99e80a5"), looks := true }, kinds := [], alts := [], laidByText := true, laidKinds := [.data, .data, .data, .sentinel, .sentinel], laidTests := true, laidLooks := .later }
def FnExactReadMoneyCardSaid : Prop := Claim7.holds Tryd.pinned (.plain (OpenSpec.ofChange fnExactReadMoneySpec)) fnExactReadMoneyCard

/-- THE TIED CARD OF 'laws.FnExactListText'. -/
def fnExactListTextCard : Claim7 := { stood := { row := fnExactListTextRow, standIns := [], harness := (true, "159273d10cb356e6fc47f3dcd1c111cea40b2ea9a76be1e093762c03b99e80a5"), looks := true }, kinds := [], alts := [], laidByText := true, laidKinds := [.data, .data, .data], laidTests := true, laidLooks := .later }
def FnExactListTextCardSaid : Prop := Claim7.holds Tryd.pinned (.plain (OpenSpec.ofChange fnExactListTextSpec)) fnExactListTextCard

/-- THE TIED CARD OF 'laws.FnExactReadList'. -/
def fnExactReadListCard : Claim7 := { stood := { row := fnExactReadListRow, standIns := [], harness := (true, "159273d10cb356e6fc47f3dcd1c111cea40b2ea9a76be1e093762c03b99e80a5"), looks := true }, kinds := [], alts := [], laidByText := true, laidKinds := [.data, .data, .data, .data, .sentinel, .sentinel, .pinned], laidTests := true, laidLooks := .later }
def FnExactReadListCardSaid : Prop := Claim7.holds Tryd.pinned (.plain (OpenSpec.ofChange fnExactReadListSpec)) fnExactReadListCard

/-- THE TIED CARD OF 'laws.FnWords'. -/
def fnWordsCard : Claim7 := { stood := { row := fnWordsRow, standIns := [], harness := (true, "159273d10cb356e6fc47f3dcd1c111cea40b2ea9a76be1e093762c03b99e80a5"), looks := true }, kinds := [], alts := [], laidByText := true, laidKinds := [.data, .pinned], laidTests := true, laidLooks := .later }
def FnWordsCardSaid : Prop := Claim7.holds Tryd.pinned (.plain (OpenSpec.ofChange fnWordsSpec)) fnWordsCard

/-- THE TIED CARD OF 'laws.FnLists'. -/
def fnListsCard : Claim7 := { stood := { row := fnListsRow, standIns := [], harness := (true, "159273d10cb356e6fc47f3dcd1c111cea40b2ea9a76be1e093762c03b99e80a5"), looks := true }, kinds := [], alts := [], laidByText := true, laidKinds := [.data, .data, .data, .data, .sentinel, .sentinel, .pinned], laidTests := true, laidLooks := .later }
def FnListsCardSaid : Prop := Claim7.holds Tryd.pinned (.plain (OpenSpec.ofChange fnListsSpec)) fnListsCard

/-- THE TIED CARD OF 'laws.FnMoney'. -/
def fnMoneyCard : Claim7 := { stood := { row := fnMoneyRow, standIns := [], harness := (true, "159273d10cb356e6fc47f3dcd1c111cea40b2ea9a76be1e093762c03b99e80a5"), looks := true }, kinds := [], alts := [], laidByText := true, laidKinds := [.data, .data, .data, .sentinel, .sentinel], laidTests := true, laidLooks := .later }
def FnMoneyCardSaid : Prop := Claim7.holds Tryd.pinned (.plain (OpenSpec.ofChange fnMoneySpec)) fnMoneyCard

/-- THE SECOND FORM's CARD OF 'laws.FnExactReadWords'. -/
def fnExactReadWordsUptoCard : Claim7 := { stood := { row := fnExactReadWordsUptoRow, standIns := [], harness := (true, "159273d10cb356e6fc47f3dcd1c111cea40b2ea9a76be1e093762c03b99e80a5"), looks := true }, kinds := [], alts := [], laidByText := true, laidKinds := [.data, .pinned], laidTests := true, laidLooks := .later }
def FnExactReadWordsUptoCardSaid : Prop := Claim7.holds Tryd.pinned (.plain (OpenSpec.upto fnExactReadWordsSpec)) fnExactReadWordsUptoCard

/-- THE SECOND FORM's CARD OF 'laws.FnExactMoneyText'. -/
def fnExactMoneyTextUptoCard : Claim7 := { stood := { row := fnExactMoneyTextUptoRow, standIns := [], harness := (true, "159273d10cb356e6fc47f3dcd1c111cea40b2ea9a76be1e093762c03b99e80a5"), looks := true }, kinds := [], alts := [], laidByText := true, laidKinds := [.data, .data, .data], laidTests := true, laidLooks := .later }
def FnExactMoneyTextUptoCardSaid : Prop := Claim7.holds Tryd.pinned (.plain (OpenSpec.upto fnExactMoneyTextSpec)) fnExactMoneyTextUptoCard

/-- THE SECOND FORM's CARD OF 'laws.FnExactReadMoney'. -/
def fnExactReadMoneyUptoCard : Claim7 := { stood := { row := fnExactReadMoneyUptoRow, standIns := [], harness := (true, "159273d10cb356e6fc47f3dcd1c111cea40b2ea9a76be1e093762c03b99e80a5"), looks := true }, kinds := [], alts := [], laidByText := true, laidKinds := [.data, .data, .data, .sentinel, .sentinel], laidTests := true, laidLooks := .later }
def FnExactReadMoneyUptoCardSaid : Prop := Claim7.holds Tryd.pinned (.plain (OpenSpec.upto fnExactReadMoneySpec)) fnExactReadMoneyUptoCard

/-- THE SECOND FORM's CARD OF 'laws.FnExactListText'. -/
def fnExactListTextUptoCard : Claim7 := { stood := { row := fnExactListTextUptoRow, standIns := [], harness := (true, "159273d10cb356e6fc47f3dcd1c111cea40b2ea9a76be1e093762c03b99e80a5"), looks := true }, kinds := [], alts := [], laidByText := true, laidKinds := [.data, .data, .data], laidTests := true, laidLooks := .later }
def FnExactListTextUptoCardSaid : Prop := Claim7.holds Tryd.pinned (.plain (OpenSpec.upto fnExactListTextSpec)) fnExactListTextUptoCard

/-- THE SECOND FORM's CARD OF 'laws.FnExactReadList'. -/
def fnExactReadListUptoCard : Claim7 := { stood := { row := fnExactReadListUptoRow, standIns := [], harness := (true, "159273d10cb356e6fc47f3dcd1c111cea40b2ea9a76be1e093762c03b99e80a5"), looks := true }, kinds := [], alts := [], laidByText := true, laidKinds := [.data, .data, .data, .data, .sentinel, .sentinel, .pinned], laidTests := true, laidLooks := .later }
def FnExactReadListUptoCardSaid : Prop := Claim7.holds Tryd.pinned (.plain (OpenSpec.upto fnExactReadListSpec)) fnExactReadListUptoCard

/-- THE SECOND FORM's CARD OF 'laws.FnWords'. -/
def fnWordsUptoCard : Claim7 := { stood := { row := fnWordsUptoRow, standIns := [], harness := (true, "159273d10cb356e6fc47f3dcd1c111cea40b2ea9a76be1e093762c03b99e80a5"), looks := true }, kinds := [], alts := [], laidByText := true, laidKinds := [.data, .pinned], laidTests := true, laidLooks := .later }
def FnWordsUptoCardSaid : Prop := Claim7.holds Tryd.pinned (.plain (OpenSpec.upto fnWordsSpec)) fnWordsUptoCard

/-- THE SECOND FORM's CARD OF 'laws.FnLists'. -/
def fnListsUptoCard : Claim7 := { stood := { row := fnListsUptoRow, standIns := [], harness := (true, "159273d10cb356e6fc47f3dcd1c111cea40b2ea9a76be1e093762c03b99e80a5"), looks := true }, kinds := [], alts := [], laidByText := true, laidKinds := [.data, .data, .data, .data, .sentinel, .sentinel, .pinned], laidTests := true, laidLooks := .later }
def FnListsUptoCardSaid : Prop := Claim7.holds Tryd.pinned (.plain (OpenSpec.upto fnListsSpec)) fnListsUptoCard

/-- THE SECOND FORM's CARD OF 'laws.FnMoney'. -/
def fnMoneyUptoCard : Claim7 := { stood := { row := fnMoneyUptoRow, standIns := [], harness := (true, "159273d10cb356e6fc47f3dcd1c111cea40b2ea9a76be1e093762c03b99e80a5"), looks := true }, kinds := [], alts := [], laidByText := true, laidKinds := [.data, .data, .data, .sentinel, .sentinel], laidTests := true, laidLooks := .later }
def FnMoneyUptoCardSaid : Prop := Claim7.holds Tryd.pinned (.plain (OpenSpec.upto fnMoneySpec)) fnMoneyUptoCard
end Rows
end Go.Proofs.YtimjjednfhnbbaaDoor
