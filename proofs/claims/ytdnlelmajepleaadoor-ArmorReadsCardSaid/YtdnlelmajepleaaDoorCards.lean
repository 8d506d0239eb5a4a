/-
  DERIVED. GIVEN WITH THE SEED: THE CARDS: each row of YtdnlelmajepleaaDoorRows.lean that lists a variable, with what it lists TIED to the program's text (the seventh form; the later family's looks); each row that meets fmt, with fmt's text TOLD by the authors' own Lean function (tested against real Go, not proved from fmt's source: count such statements apart). THE CARD IS WHAT COUNTS. Prove the row's statement (the work); the ties are given (YtdnlelmajepleaaDoorTie.lean); close each card by the builder's one call (the guide's Derived/Test/ToyasCard.lean, 'card_holds'). Laid BY PROGRAM, IN A SANDBOX (cutbox-door.mjs). By AI agents, Wed Nov 11 2026. No macro, syntax, notation, axiom, sorry.
-/
import Derived.Test.YtdnlelmajepleaaDoorRows
import GoSem.ClaimSeven
namespace Go.Proofs.YtdnlelmajepleaaDoor
namespace Rows

/-- THE TIED CARD OF 'despatchlaw06.ArmorReads'. -/
def armorReadsCard : Claim7 := { stood := { row := armorReadsRow, standIns := [], harness := (true, "7d22e37ba022a267b393eb3045a4b0861c892c11b693b287a75b18325fdce55e"), looks := false }, kinds := [], alts := [], laidByText := true, laidKinds := [.data, .pinned], laidTests := true, laidLooks := .later }
def ArmorReadsCardSaid : Prop := Claim7.holds Tryd.pinned (.plain (OpenSpec.ofChange armorReadsSpec)) armorReadsCard

/-- THE TIED CARD OF 'despatchlaw06.ArmorBack'. -/
def armorBackCard : Claim7 := { stood := { row := armorBackRow, standIns := [], harness := (true, "7d22e37ba022a267b393eb3045a4b0861c892c11b693b287a75b18325fdce55e"), looks := false }, kinds := [], alts := [], laidByText := true, laidKinds := [.data, .pinned], laidTests := true, laidLooks := .later }
def ArmorBackCardSaid : Prop := Claim7.holds Tryd.pinned (.plain (OpenSpec.ofChange armorBackSpec)) armorBackCard

/-- THE SECOND FORM's CARD OF 'despatchlaw06.ArmorReads'. -/
def armorReadsUptoCard : Claim7 := { stood := { row := armorReadsUptoRow, standIns := [], harness := (true, "7d22e37ba022a267b393eb3045a4b0861c892c11b693b287a75b18325fdce55e"), looks := false }, kinds := [], alts := [], laidByText := true, laidKinds := [.data, .pinned], laidTests := true, laidLooks := .later }
def ArmorReadsUptoCardSaid : Prop := Claim7.holds Tryd.pinned (.plain (OpenSpec.upto armorReadsSpec)) armorReadsUptoCard

/-- THE SECOND FORM's CARD OF 'despatchlaw06.ArmorBack'. -/
def armorBackUptoCard : Claim7 := { stood := { row := armorBackUptoRow, standIns := [], harness := (true, "7d22e37ba022a267b393eb3045a4b0861c892c11b693b287a75b18325fdce55e"), looks := false }, kinds := [], alts := [], laidByText := true, laidKinds := [.data, .pinned], laidTests := true, laidLooks := .later }
def ArmorBackUptoCardSaid : Prop := Claim7.holds Tryd.pinned (.plain (OpenSpec.upto armorBackSpec)) armorBackUptoCard
end Rows
end Go.Proofs.YtdnlelmajepleaaDoor
