/-
  DERIVED. GIVEN WITH THE SEED: THE CARDS: each row of YtddjabjloplhiaaGreatDoorRows.lean that lists a variable, with what it lists TIED to the program's text (the seventh form; the later family's looks); each row that meets fmt, with fmt's text TOLD by the authors' own Lean function (tested against real Go, not proved from fmt's source: count such statements apart). THE CARD IS WHAT COUNTS. Prove the row's statement (the work); the ties are given (YtddjabjloplhiaaGreatDoorTie.lean); close each card by the builder's one call (the guide's Derived/Test/ToyasCard.lean, 'card_holds'). Laid BY PROGRAM, IN A SANDBOX (cutbox-door.mjs). By AI agents, Wed Nov 11 2026. No macro, syntax, notation, axiom, sorry.
-/
import Derived.Test.YtddjabjloplhiaaGreatDoorRows
import GoSem.ClaimSeven
namespace Go.Proofs.YtddjabjloplhiaaGreatDoor
namespace Rows

/-- THE TIED CARD OF 'despatchlaw21.TalkPosts'. -/
def talkPostsCard : Claim7 := { stood := { row := talkPostsRow, standIns := [], harness := (true, "387447ca3f017118a37fc8aa5222b58d24c584de0f7d0d1d784e20ef645de6c7"), looks := false }, kinds := [], alts := [], laidByText := true, laidKinds := [.data, .pinned], laidTests := true, laidLooks := .later }
def TalkPostsCardSaid : Prop := Claim7.holds Tryz.pinned (.plain (OpenSpec.ofChange talkPostsSpec)) talkPostsCard

/-- THE TIED CARD OF 'despatchlaw21.TalkSends'. -/
def talkSendsCard : Claim7 := { stood := { row := talkSendsRow, standIns := [], harness := (true, "387447ca3f017118a37fc8aa5222b58d24c584de0f7d0d1d784e20ef645de6c7"), looks := false }, kinds := [], alts := [], laidByText := true, laidKinds := [.data, .pinned], laidTests := true, laidLooks := .later }
def TalkSendsCardSaid : Prop := Claim7.holds Tryz.pinned (.plain (OpenSpec.ofChange talkSendsSpec)) talkSendsCard

/-- THE SECOND FORM's CARD OF 'despatchlaw21.TalkPosts'. -/
def talkPostsUptoCard : Claim7 := { stood := { row := talkPostsUptoRow, standIns := [], harness := (true, "387447ca3f017118a37fc8aa5222b58d24c584de0f7d0d1d784e20ef645de6c7"), looks := false }, kinds := [], alts := [], laidByText := true, laidKinds := [.data, .pinned], laidTests := true, laidLooks := .later }
def TalkPostsUptoCardSaid : Prop := Claim7.holds Tryz.pinned (.plain (OpenSpec.upto talkPostsSpec)) talkPostsUptoCard

/-- THE SECOND FORM's CARD OF 'despatchlaw21.TalkSends'. -/
def talkSendsUptoCard : Claim7 := { stood := { row := talkSendsUptoRow, standIns := [], harness := (true, "387447ca3f017118a37fc8aa5222b58d24c584de0f7d0d1d784e20ef645de6c7"), looks := false }, kinds := [], alts := [], laidByText := true, laidKinds := [.data, .pinned], laidTests := true, laidLooks := .later }
def TalkSendsUptoCardSaid : Prop := Claim7.holds Tryz.pinned (.plain (OpenSpec.upto talkSendsSpec)) talkSendsUptoCard
end Rows
end Go.Proofs.YtddjabjloplhiaaGreatDoor
