/-
  DERIVED. GIVEN WITH THE SEED: THE CARDS: each row of YtgohdohkikkeeaaDoorRows.lean that lists a variable, with what it lists TIED to the program's text (the seventh form; the later family's looks); each row that meets fmt, with fmt's text TOLD by the authors' own Lean function (tested against real Go, not proved from fmt's source: count such statements apart). THE CARD IS WHAT COUNTS. Prove the row's statement (the work); the ties are given (YtgohdohkikkeeaaDoorTie.lean); close each card by the builder's one call (the guide's Derived/Test/ToyasCard.lean, 'card_holds'). Laid BY PROGRAM, IN A SANDBOX (cutbox-door.mjs). By AI agents, Wed Nov 11 2026. No macro, syntax, notation, axiom, sorry.
-/
import Derived.Test.YtgohdohkikkeeaaDoorRows
import GoSem.ClaimSeven
namespace Go.Proofs.YtgohdohkikkeeaaDoor
namespace Rows

/-- THE TIED CARD OF 'despatchlaw09.FieldBack'. -/
def fieldBackCard : Claim7 := { stood := { row := fieldBackRow, standIns := [], harness := (true, "15476ecc7661a8a42ba2ac7ccbea8a5a0444f915c5f8e1acb2e6dc34efc01bcc"), looks := false }, kinds := [], alts := [], laidByText := true, laidKinds := [.data, .pinned], laidTests := true, laidLooks := .later }
def FieldBackCardSaid : Prop := Claim7.holds Tryd.pinned (.plain (OpenSpec.ofChange fieldBackSpec)) fieldBackCard

/-- THE TIED CARD OF 'despatchlaw09.FieldWidth'. -/
def fieldWidthCard : Claim7 := { stood := { row := fieldWidthRow, standIns := [], harness := (true, "15476ecc7661a8a42ba2ac7ccbea8a5a0444f915c5f8e1acb2e6dc34efc01bcc"), looks := false }, kinds := [], alts := [], laidByText := true, laidKinds := [.data, .pinned], laidTests := true, laidLooks := .later }
def FieldWidthCardSaid : Prop := Claim7.holds Tryd.pinned (.plain (OpenSpec.ofChange fieldWidthSpec)) fieldWidthCard

/-- THE TIED CARD OF 'despatchlaw09.FieldFront'. -/
def fieldFrontCard : Claim7 := { stood := { row := fieldFrontRow, standIns := [], harness := (true, "15476ecc7661a8a42ba2ac7ccbea8a5a0444f915c5f8e1acb2e6dc34efc01bcc"), looks := false }, kinds := [], alts := [], laidByText := true, laidKinds := [.data, .pinned], laidTests := true, laidLooks := .later }
def FieldFrontCardSaid : Prop := Claim7.holds Tryd.pinned (.plain (OpenSpec.ofChange fieldFrontSpec)) fieldFrontCard

/-- THE TIED CARD OF 'despatchlaw11.LetterFields'. -/
def letterFieldsCard : Claim7 := { stood := { row := letterFieldsRow, standIns := [], harness := (true, "15476ecc7661a8a42ba2ac7ccbea8a5a0444f915c5f8e1acb2e6dc34efc01bcc"), looks := false }, kinds := [], alts := [], laidByText := true, laidKinds := [.data, .pinned], laidTests := true, laidLooks := .later }
def LetterFieldsCardSaid : Prop := Claim7.holds Tryd.pinned (.plain (OpenSpec.ofChange letterFieldsSpec)) letterFieldsCard

/-- THE TIED CARD OF 'despatchlaw11.LetterSets'. -/
def letterSetsCard : Claim7 := { stood := { row := letterSetsRow, standIns := [], harness := (true, "15476ecc7661a8a42ba2ac7ccbea8a5a0444f915c5f8e1acb2e6dc34efc01bcc"), looks := false }, kinds := [], alts := [], laidByText := true, laidKinds := [.data, .pinned], laidTests := true, laidLooks := .later }
def LetterSetsCardSaid : Prop := Claim7.holds Tryd.pinned (.plain (OpenSpec.ofChange letterSetsSpec)) letterSetsCard

/-- THE TIED CARD OF 'despatchlaw09.FieldNames'. -/
def fieldNamesCard : Claim7 := { stood := { row := fieldNamesRow, standIns := [], harness := (true, "15476ecc7661a8a42ba2ac7ccbea8a5a0444f915c5f8e1acb2e6dc34efc01bcc"), looks := false }, kinds := [], alts := [], laidByText := true, laidKinds := [.data, .pinned], laidTests := true, laidLooks := .later }
def FieldNamesCardSaid : Prop := Claim7.holds Tryd.pinned (.plain (OpenSpec.ofChange fieldNamesSpec)) fieldNamesCard

/-- THE TIED CARD OF 'despatchlaw09.FieldTold'. -/
def fieldToldCard : Claim7 := { stood := { row := fieldToldRow, standIns := [], harness := (true, "15476ecc7661a8a42ba2ac7ccbea8a5a0444f915c5f8e1acb2e6dc34efc01bcc"), looks := false }, kinds := [], alts := [], laidByText := true, laidKinds := [.data, .pinned], laidTests := true, laidLooks := .later }
def FieldToldCardSaid : Prop := Claim7.holds Tryd.pinned (.plain (OpenSpec.ofChange fieldToldSpec)) fieldToldCard

/-- THE SECOND FORM's CARD OF 'despatchlaw09.FieldBack'. -/
def fieldBackUptoCard : Claim7 := { stood := { row := fieldBackUptoRow, standIns := [], harness := (true, "15476ecc7661a8a42ba2ac7ccbea8a5a0444f915c5f8e1acb2e6dc34efc01bcc"), looks := false }, kinds := [], alts := [], laidByText := true, laidKinds := [.data, .pinned], laidTests := true, laidLooks := .later }
def FieldBackUptoCardSaid : Prop := Claim7.holds Tryd.pinned (.plain (OpenSpec.upto fieldBackSpec)) fieldBackUptoCard

/-- THE SECOND FORM's CARD OF 'despatchlaw09.FieldWidth'. -/
def fieldWidthUptoCard : Claim7 := { stood := { row := fieldWidthUptoRow, standIns := [], harness := (true, "15476ecc7661a8a42ba2ac7ccbea8a5a0444f915c5f8e1acb2e6dc34efc01bcc"), looks := false }, kinds := [], alts := [], laidByText := true, laidKinds := [.data, .pinned], laidTests := true, laidLooks := .later }
def FieldWidthUptoCardSaid : Prop := Claim7.holds Tryd.pinned (.plain (OpenSpec.upto fieldWidthSpec)) fieldWidthUptoCard

/-- THE SECOND FORM's CARD OF 'despatchlaw09.FieldFront'. -/
def fieldFrontUptoCard : Claim7 := { stood := { row := fieldFrontUptoRow, standIns := [], harness := (true, "15476ecc7661a8a42ba2ac7ccbea8a5a0444f915c5f8e1acb2e6dc34efc01bcc"), looks := false }, kinds := [], alts := [], laidByText := true, laidKinds := [.data, .pinned], laidTests := true, laidLooks := .later }
def FieldFrontUptoCardSaid : Prop := Claim7.holds Tryd.pinned (.plain (OpenSpec.upto fieldFrontSpec)) fieldFrontUptoCard

/-- THE SECOND FORM's CARD OF 'despatchlaw11.LetterFields'. -/
def letterFieldsUptoCard : Claim7 := { stood := { row := letterFieldsUptoRow, standIns := [], harness := (true, "15476ecc7661a8a42ba2ac7ccbea8a5a0444f915c5f8e1acb2e6dc34efc01bcc"), looks := false }, kinds := [], alts := [], laidByText := true, laidKinds := [.data, .pinned], laidTests := true, laidLooks := .later }
def LetterFieldsUptoCardSaid : Prop := Claim7.holds Tryd.pinned (.plain (OpenSpec.upto letterFieldsSpec)) letterFieldsUptoCard

/-- THE SECOND FORM's CARD OF 'despatchlaw11.LetterSets'. -/
def letterSetsUptoCard : Claim7 := { stood := { row := letterSetsUptoRow, standIns := [], harness := (true, "15476ecc7661a8a42ba2ac7ccbea8a5a0444f915c5f8e1acb2e6dc34efc01bcc"), looks := false }, kinds := [], alts := [], laidByText := true, laidKinds := [.data, .pinned], laidTests := true, laidLooks := .later }
def LetterSetsUptoCardSaid : Prop := Claim7.holds Tryd.pinned (.plain (OpenSpec.upto letterSetsSpec)) letterSetsUptoCard

/-- THE SECOND FORM's CARD OF 'despatchlaw09.FieldNames'. -/
def fieldNamesUptoCard : Claim7 := { stood := { row := fieldNamesUptoRow, standIns := [], harness := (true, "15476ecc7661a8a42ba2ac7ccbea8a5a0444f915c5f8e1acb2e6dc34efc01bcc"), looks := false }, kinds := [], alts := [], laidByText := true, laidKinds := [.data, .pinned], laidTests := true, laidLooks := .later }
def FieldNamesUptoCardSaid : Prop := Claim7.holds Tryd.pinned (.plain (OpenSpec.upto fieldNamesSpec)) fieldNamesUptoCard

/-- THE SECOND FORM's CARD OF 'despatchlaw09.FieldTold'. -/
def fieldToldUptoCard : Claim7 := { stood := { row := fieldToldUptoRow, standIns := [], harness := (true, "15476ecc7661a8a42ba2ac7ccbea8a5a0444f915c5f8e1acb2e6dc34efc01bcc"), looks := false }, kinds := [], alts := [], laidByText := true, laidKinds := [.data, .pinned], laidTests := true, laidLooks := .later }
def FieldToldUptoCardSaid : Prop := Claim7.holds Tryd.pinned (.plain (OpenSpec.upto fieldToldSpec)) fieldToldUptoCard
end Rows
end Go.Proofs.YtgohdohkikkeeaaDoor
