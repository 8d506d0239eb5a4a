/-
  DERIVED. GIVEN WITH THE SEED: THE CARDS: each row of YtddjabjloplhiaaDoorRows.lean that lists a variable, with what it lists TIED to the program's text (the seventh form; the later family's looks); each row that meets fmt, with fmt's text TOLD by the authors' own Lean function (tested against real Go, not proved from fmt's source: count such statements apart). THE CARD IS WHAT COUNTS. Prove the row's statement (the work); the ties are given (YtddjabjloplhiaaDoorTie.lean); close each card by the builder's one call (the guide's Derived/Test/ToyasCard.lean, 'card_holds'). Laid BY PROGRAM, IN A SANDBOX (cutbox-door.mjs). By AI agents, Wed Nov 11 2026. No macro, syntax, notation, axiom, sorry.
-/
import Derived.Test.YtddjabjloplhiaaDoorRows
import GoSem.ClaimSeven
namespace Go.Proofs.YtddjabjloplhiaaDoor
namespace Rows

/-- THE TIED CARD OF 'despatchlaw21.TalkOrder'. -/
def talkOrderCard : Claim7 := { stood := { row := talkOrderRow, standIns := [], harness := (true, "09396147d7e14151e53d07d1669c50df3fd8cca3eb2a8bcb7ce8ca2f97bcc093"), looks := false }, kinds := [], alts := [], laidByText := true, laidKinds := [.data, .pinned], laidTests := true, laidLooks := .later }
def TalkOrderCardSaid : Prop := Claim7.holds Tryd.pinned (.plain (OpenSpec.ofChange talkOrderSpec)) talkOrderCard

/-- THE SECOND FORM's CARD OF 'despatchlaw21.TalkOrder'. -/
def talkOrderUptoCard : Claim7 := { stood := { row := talkOrderUptoRow, standIns := [], harness := (true, "09396147d7e14151e53d07d1669c50df3fd8cca3eb2a8bcb7ce8ca2f97bcc093"), looks := false }, kinds := [], alts := [], laidByText := true, laidKinds := [.data, .pinned], laidTests := true, laidLooks := .later }
def TalkOrderUptoCardSaid : Prop := Claim7.holds Tryd.pinned (.plain (OpenSpec.upto talkOrderSpec)) talkOrderUptoCard
end Rows
end Go.Proofs.YtddjabjloplhiaaDoor
