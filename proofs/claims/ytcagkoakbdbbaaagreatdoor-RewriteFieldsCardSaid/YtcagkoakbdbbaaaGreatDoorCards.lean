/-
  DERIVED. GIVEN WITH THE SEED: THE CARDS: each row of YtcagkoakbdbbaaaGreatDoorRows.lean that lists a variable, with what it lists TIED to the program's text (the seventh form; the later family's looks); each row that meets fmt, with fmt's text TOLD by the authors' own Lean function (tested against real Go, not proved from fmt's source: count such statements apart). THE CARD IS WHAT COUNTS. Prove the row's statement (the work); the ties are given (YtcagkoakbdbbaaaGreatDoorTie.lean); close each card by the builder's one call (the guide's Derived/Test/ToyasCard.lean, 'card_holds'). Laid BY PROGRAM, IN A SANDBOX (cutbox-door.mjs). By AI agents, Wed Nov 11 2026. No macro, syntax, notation, axiom, sorry.
-/
import Derived.Test.YtcagkoakbdbbaaaGreatDoorRows
import GoSem.ClaimSeven
namespace Go.Proofs.YtcagkoakbdbbaaaGreatDoor
namespace Rows

/-- THE TIED CARD OF 'despatchlaw20.RewriteEnds'. -/
def rewriteEndsCard : Claim7 := { stood := { row := rewriteEndsRow, standIns := [], harness := (true, "6c20600caf790822c78ddc483a87d08a652d17bb2606d068afce58161888185d"), looks := false }, kinds := [], alts := [], laidByText := true, laidKinds := [.data, .widerDeep, .data, .pinned, .pinned], laidTests := true, laidLooks := .later }
def RewriteEndsCardSaid : Prop := Claim7.holds Tryz.pinned (.plain (OpenSpec.ofChange rewriteEndsSpec)) rewriteEndsCard

/-- THE TIED CARD OF 'despatchlaw20.RewriteAgain'. -/
def rewriteAgainCard : Claim7 := { stood := { row := rewriteAgainRow, standIns := [], harness := (true, "6c20600caf790822c78ddc483a87d08a652d17bb2606d068afce58161888185d"), looks := false }, kinds := [], alts := [], laidByText := true, laidKinds := [.data, .widerDeep, .data, .pinned, .pinned], laidTests := true, laidLooks := .later }
def RewriteAgainCardSaid : Prop := Claim7.holds Tryz.pinned (.plain (OpenSpec.ofChange rewriteAgainSpec)) rewriteAgainCard

/-- THE TIED CARD OF 'despatchlaw20.RewriteFields'. -/
def rewriteFieldsCard : Claim7 := { stood := { row := rewriteFieldsRow, standIns := [], harness := (true, "6c20600caf790822c78ddc483a87d08a652d17bb2606d068afce58161888185d"), looks := false }, kinds := [], alts := [], laidByText := true, laidKinds := [.data, .widerDeep, .data, .pinned, .pinned], laidTests := true, laidLooks := .later }
def RewriteFieldsCardSaid : Prop := Claim7.holds Tryz.pinned (.plain (OpenSpec.ofChange rewriteFieldsSpec)) rewriteFieldsCard

/-- THE SECOND FORM's CARD OF 'despatchlaw20.RewriteEnds'. -/
def rewriteEndsUptoCard : Claim7 := { stood := { row := rewriteEndsUptoRow, standIns := [], harness := (true, "6c20600caf790822c78ddc483a87d08a652d17bb2606d068afce58161888185d"), looks := false }, kinds := [], alts := [], laidByText := true, laidKinds := [.data, .widerDeep, .data, .pinned, .pinned], laidTests := true, laidLooks := .later }
def RewriteEndsUptoCardSaid : Prop := Claim7.holds Tryz.pinned (.plain (OpenSpec.upto rewriteEndsSpec)) rewriteEndsUptoCard

/-- THE SECOND FORM's CARD OF 'despatchlaw20.RewriteAgain'. -/
def rewriteAgainUptoCard : Claim7 := { stood := { row := rewriteAgainUptoRow, standIns := [], harness := (true, "6c20600caf790822c78ddc483a87d08a652d17bb2606d068afce58161888185d"), looks := false }, kinds := [], alts := [], laidByText := true, laidKinds := [.data, .widerDeep, .data, .pinned, .pinned], laidTests := true, laidLooks := .later }
def RewriteAgainUptoCardSaid : Prop := Claim7.holds Tryz.pinned (.plain (OpenSpec.upto rewriteAgainSpec)) rewriteAgainUptoCard

/-- THE SECOND FORM's CARD OF 'despatchlaw20.RewriteFields'. -/
def rewriteFieldsUptoCard : Claim7 := { stood := { row := rewriteFieldsUptoRow, standIns := [], harness := (true, "6c20600caf790822c78ddc483a87d08a652d17bb2606d068afce58161888185d"), looks := false }, kinds := [], alts := [], laidByText := true, laidKinds := [.data, .widerDeep, .data, .pinned, .pinned], laidTests := true, laidLooks := .later }
def RewriteFieldsUptoCardSaid : Prop := Claim7.holds Tryz.pinned (.plain (OpenSpec.upto rewriteFieldsSpec)) rewriteFieldsUptoCard
end Rows
end Go.Proofs.YtcagkoakbdbbaaaGreatDoor
