/-
  DERIVED. GIVEN WITH THE SEED: THE CARDS: each row of YtkllecicddfjpaaGreatDoorRows.lean that lists a variable, with what it lists TIED to the program's text (the seventh form; the later family's looks); each row that meets fmt, with fmt's text TOLD by the authors' own Lean function (tested against real Go, not proved from fmt's source: count such statements apart). THE CARD IS WHAT COUNTS. Prove the row's statement (the work); the ties are given (YtkllecicddfjpaaGreatDoorTie.lean); close each card by the builder's one call (the guide's Derived/Test/ToyasCard.lean, 'card_holds'). Laid BY PROGRAM, IN A SANDBOX (cutbox-door.mjs). By AI agents, Wed Nov 11 2026. No macro, syntax, notation, axiom, sorry.
-/
import Derived.Test.YtkllecicddfjpaaGreatDoorRows
import GoSem.ClaimSeven
namespace Go.Proofs.YtkllecicddfjpaaGreatDoor
namespace Rows

/-- THE TIED CARD OF 'despatchlaw13.PackBeside'. -/
def packBesideCard : Claim7 := { stood := { row := packBesideRow, standIns := [], harness := (true, "75cb939ef7a098ce7c6b2976763a8c48ddc45a99b199feab9f8b40e7edc8c868"), looks := true }, kinds := [], alts := [], laidByText := true, laidKinds := [.data, .data, .pinned], laidTests := true, laidLooks := .later }
def PackBesideCardSaid : Prop := Claim7.holds Tryz.pinned (.plain (OpenSpec.ofChange packBesideSpec)) packBesideCard

/-- THE TIED CARD OF 'despatchlaw12.MimeDeep'. -/
def mimeDeepCard : Claim7 := { stood := { row := mimeDeepRow, standIns := [], harness := (true, "75cb939ef7a098ce7c6b2976763a8c48ddc45a99b199feab9f8b40e7edc8c868"), looks := true }, kinds := [], alts := [], laidByText := true, laidKinds := [.data, .data, .pinned, .pinned], laidTests := true, laidLooks := .later }
def MimeDeepCardSaid : Prop := Claim7.holds Tryz.pinned (.plain (OpenSpec.ofChange mimeDeepSpec)) mimeDeepCard

/-- THE TIED CARD OF 'despatchlaw13.PackTurned'. -/
def packTurnedCard : Claim7 := { stood := { row := packTurnedRow, standIns := [], harness := (true, "75cb939ef7a098ce7c6b2976763a8c48ddc45a99b199feab9f8b40e7edc8c868"), looks := true }, kinds := [], alts := [], laidByText := true, laidKinds := [.data, .data, .pinned, .pinned], laidTests := true, laidLooks := .later }
def PackTurnedCardSaid : Prop := Claim7.holds Tryz.pinned (.plain (OpenSpec.ofChange packTurnedSpec)) packTurnedCard

/-- THE TIED CARD OF 'despatchlaw13.PackWrites'. -/
def packWritesCard : Claim7 := { stood := { row := packWritesRow, standIns := [], harness := (true, "75cb939ef7a098ce7c6b2976763a8c48ddc45a99b199feab9f8b40e7edc8c868"), looks := true }, kinds := [], alts := [], laidByText := true, laidKinds := [.data, .data, .pinned, .pinned], laidTests := true, laidLooks := .later }
def PackWritesCardSaid : Prop := Claim7.holds Tryz.pinned (.plain (OpenSpec.ofChange packWritesSpec)) packWritesCard

/-- THE SECOND FORM's CARD OF 'despatchlaw13.PackBeside'. -/
def packBesideUptoCard : Claim7 := { stood := { row := packBesideUptoRow, standIns := [], harness := (true, "75cb939ef7a098ce7c6b2976763a8c48ddc45a99b199feab9f8b40e7edc8c868"), looks := true }, kinds := [], alts := [], laidByText := true, laidKinds := [.data, .data, .pinned], laidTests := true, laidLooks := .later }
def PackBesideUptoCardSaid : Prop := Claim7.holds Tryz.pinned (.plain (OpenSpec.upto packBesideSpec)) packBesideUptoCard

/-- THE SECOND FORM's CARD OF 'despatchlaw12.MimeDeep'. -/
def mimeDeepUptoCard : Claim7 := { stood := { row := mimeDeepUptoRow, standIns := [], harness := (true, "75cb939ef7a098ce7c6b2976763a8c48ddc45a99b199feab9f8b40e7edc8c868"), looks := true }, kinds := [], alts := [], laidByText := true, laidKinds := [.data, .data, .pinned, .pinned], laidTests := true, laidLooks := .later }
def MimeDeepUptoCardSaid : Prop := Claim7.holds Tryz.pinned (.plain (OpenSpec.upto mimeDeepSpec)) mimeDeepUptoCard

/-- THE SECOND FORM's CARD OF 'despatchlaw13.PackTurned'. -/
def packTurnedUptoCard : Claim7 := { stood := { row := packTurnedUptoRow, standIns := [], harness := (true, "75cb939ef7a098ce7c6b2976763a8c48ddc45a99b199feab9f8b40e7edc8c868"), looks := true }, kinds := [], alts := [], laidByText := true, laidKinds := [.data, .data, .pinned, .pinned], laidTests := true, laidLooks := .later }
def PackTurnedUptoCardSaid : Prop := Claim7.holds Tryz.pinned (.plain (OpenSpec.upto packTurnedSpec)) packTurnedUptoCard

/-- THE SECOND FORM's CARD OF 'despatchlaw13.PackWrites'. -/
def packWritesUptoCard : Claim7 := { stood := { row := packWritesUptoRow, standIns := [], harness := (true, "75cb939ef7a098ce7c6b2976763a8c48ddc45a99b199feab9f8b40e7edc8c868"), looks := true }, kinds := [], alts := [], laidByText := true, laidKinds := [.data, .data, .pinned, .pinned], laidTests := true, laidLooks := .later }
def PackWritesUptoCardSaid : Prop := Claim7.holds Tryz.pinned (.plain (OpenSpec.upto packWritesSpec)) packWritesUptoCard
end Rows
end Go.Proofs.YtkllecicddfjpaaGreatDoor
