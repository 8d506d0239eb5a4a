/-
  DERIVED. GIVEN WITH THE SEED: THE CARDS: each row of YtnmkapaphbaomaaGreatDoorRows.lean that lists a variable, with what it lists TIED to the program's text (the seventh form; the later family's looks); each row that meets fmt, with fmt's text TOLD by the authors' own Lean function (tested against real Go, not proved from fmt's source: count such statements apart). THE CARD IS WHAT COUNTS. Prove the row's statement (the work); the ties are given (YtnmkapaphbaomaaGreatDoorTie.lean); close each card by the builder's one call (the guide's Derived/Test/ToyasCard.lean, 'card_holds'). Laid BY PROGRAM, IN A SANDBOX (cutbox-door.mjs). By AI agents, Wed Nov 11 2026. No macro, syntax, notation, axiom, sorry.
-/
import Derived.Test.YtnmkapaphbaomaaGreatDoorRows
import GoSem.ClaimSeven
namespace Go.Proofs.YtnmkapaphbaomaaGreatDoor
namespace Rows

/-- THE TIED CARD OF 'despatchlaw10.TokenParams'. -/
def tokenParamsCard : Claim7 := { stood := { row := tokenParamsRow, standIns := [], harness := (true, "c8845d752004c2473162278f91fd6c91f0770365709fe26e6a05e4de0356cb4c"), looks := true }, kinds := [], alts := [], laidByText := true, laidKinds := [.data, .pinned], laidTests := true, laidLooks := .later }
def TokenParamsCardSaid : Prop := Claim7.holds Tryz.pinned (.plain (OpenSpec.ofChange tokenParamsSpec)) tokenParamsCard

/-- THE TIED CARD OF 'despatchlaw10.TokenBack'. -/
def tokenBackCard : Claim7 := { stood := { row := tokenBackRow, standIns := [], harness := (true, "c8845d752004c2473162278f91fd6c91f0770365709fe26e6a05e4de0356cb4c"), looks := true }, kinds := [], alts := [], laidByText := true, laidKinds := [.data, .pinned], laidTests := true, laidLooks := .later }
def TokenBackCardSaid : Prop := Claim7.holds Tryz.pinned (.plain (OpenSpec.ofChange tokenBackSpec)) tokenBackCard

/-- THE TIED CARD OF 'despatchlaw10.TokenValues'. -/
def tokenValuesCard : Claim7 := { stood := { row := tokenValuesRow, standIns := [], harness := (true, "c8845d752004c2473162278f91fd6c91f0770365709fe26e6a05e4de0356cb4c"), looks := true }, kinds := [], alts := [], laidByText := true, laidKinds := [.data, .pinned], laidTests := true, laidLooks := .later }
def TokenValuesCardSaid : Prop := Claim7.holds Tryz.pinned (.plain (OpenSpec.ofChange tokenValuesSpec)) tokenValuesCard

/-- THE SECOND FORM's CARD OF 'despatchlaw10.TokenParams'. -/
def tokenParamsUptoCard : Claim7 := { stood := { row := tokenParamsUptoRow, standIns := [], harness := (true, "c8845d752004c2473162278f91fd6c91f0770365709fe26e6a05e4de0356cb4c"), looks := true }, kinds := [], alts := [], laidByText := true, laidKinds := [.data, .pinned], laidTests := true, laidLooks := .later }
def TokenParamsUptoCardSaid : Prop := Claim7.holds Tryz.pinned (.plain (OpenSpec.upto tokenParamsSpec)) tokenParamsUptoCard

/-- THE SECOND FORM's CARD OF 'despatchlaw10.TokenBack'. -/
def tokenBackUptoCard : Claim7 := { stood := { row := tokenBackUptoRow, standIns := [], harness := (true, "c8845d752004c2473162278f91fd6c91f0770365709fe26e6a05e4de0356cb4c"), looks := true }, kinds := [], alts := [], laidByText := true, laidKinds := [.data, .pinned], laidTests := true, laidLooks := .later }
def TokenBackUptoCardSaid : Prop := Claim7.holds Tryz.pinned (.plain (OpenSpec.upto tokenBackSpec)) tokenBackUptoCard

/-- THE SECOND FORM's CARD OF 'despatchlaw10.TokenValues'. -/
def tokenValuesUptoCard : Claim7 := { stood := { row := tokenValuesUptoRow, standIns := [], harness := (true, "c8845d752004c2473162278f91fd6c91f0770365709fe26e6a05e4de0356cb4c"), looks := true }, kinds := [], alts := [], laidByText := true, laidKinds := [.data, .pinned], laidTests := true, laidLooks := .later }
def TokenValuesUptoCardSaid : Prop := Claim7.holds Tryz.pinned (.plain (OpenSpec.upto tokenValuesSpec)) tokenValuesUptoCard
end Rows
end Go.Proofs.YtnmkapaphbaomaaGreatDoor
