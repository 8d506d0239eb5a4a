/-
  DERIVED. GIVEN WITH THE SEED: THE CARDS: each row of YtnmkapaphbaomaaDoorRows.lean that lists a variable, with what it lists TIED to the program's text (the seventh form; the later family's looks); each row that meets fmt, with fmt's text TOLD by the authors' own Lean function (tested against real Go, not proved from fmt's source: count such statements apart). THE CARD IS WHAT COUNTS. Prove the row's statement (the work); the ties are given (YtnmkapaphbaomaaDoorTie.lean); close each card by the builder's one call (the guide's Derived/Test/ToyasCard.lean, 'card_holds'). Laid BY PROGRAM, IN A SANDBOX (cutbox-door.mjs). By AI agents, Wed Nov 11 2026. No macro, syntax, notation, axiom, sorry.
-/
import Derived.Test.YtnmkapaphbaomaaDoorRows
import GoSem.ClaimSeven
namespace Go.Proofs.YtnmkapaphbaomaaDoor
namespace Rows

/-- THE TIED CARD OF 'despatchlaw10.TokenBare'. -/
def tokenBareCard : Claim7 := { stood := { row := tokenBareRow, standIns := [], harness := (true, "414f1ee57018b5c2484df46de408107bba756a5453ff2cf6c61f87a9e5d961a7"), looks := false }, kinds := [], alts := [], laidByText := true, laidKinds := [.data, .pinned], laidTests := true, laidLooks := .later }
def TokenBareCardSaid : Prop := Claim7.holds Tryd.pinned (.plain (OpenSpec.ofChange tokenBareSpec)) tokenBareCard

/-- THE TIED CARD OF 'despatchlaw10.TokenAddress'. -/
def tokenAddressCard : Claim7 := { stood := { row := tokenAddressRow, standIns := [], harness := (true, "414f1ee57018b5c2484df46de408107bba756a5453ff2cf6c61f87a9e5d961a7"), looks := false }, kinds := [], alts := [], laidByText := true, laidKinds := [.data, .pinned], laidTests := true, laidLooks := .later }
def TokenAddressCardSaid : Prop := Claim7.holds Tryd.pinned (.plain (OpenSpec.ofChange tokenAddressSpec)) tokenAddressCard

/-- THE TIED CARD OF 'despatchlaw10.TokenLists'. -/
def tokenListsCard : Claim7 := { stood := { row := tokenListsRow, standIns := [], harness := (true, "414f1ee57018b5c2484df46de408107bba756a5453ff2cf6c61f87a9e5d961a7"), looks := false }, kinds := [], alts := [], laidByText := true, laidKinds := [.data, .pinned], laidTests := true, laidLooks := .later }
def TokenListsCardSaid : Prop := Claim7.holds Tryd.pinned (.plain (OpenSpec.ofChange tokenListsSpec)) tokenListsCard

/-- THE SECOND FORM's CARD OF 'despatchlaw10.TokenBare'. -/
def tokenBareUptoCard : Claim7 := { stood := { row := tokenBareUptoRow, standIns := [], harness := (true, "414f1ee57018b5c2484df46de408107bba756a5453ff2cf6c61f87a9e5d961a7"), looks := false }, kinds := [], alts := [], laidByText := true, laidKinds := [.data, .pinned], laidTests := true, laidLooks := .later }
def TokenBareUptoCardSaid : Prop := Claim7.holds Tryd.pinned (.plain (OpenSpec.upto tokenBareSpec)) tokenBareUptoCard

/-- THE SECOND FORM's CARD OF 'despatchlaw10.TokenAddress'. -/
def tokenAddressUptoCard : Claim7 := { stood := { row := tokenAddressUptoRow, standIns := [], harness := (true, "414f1ee57018b5c2484df46de408107bba756a5453ff2cf6c61f87a9e5d961a7"), looks := false }, kinds := [], alts := [], laidByText := true, laidKinds := [.data, .pinned], laidTests := true, laidLooks := .later }
def TokenAddressUptoCardSaid : Prop := Claim7.holds Tryd.pinned (.plain (OpenSpec.upto tokenAddressSpec)) tokenAddressUptoCard

/-- THE SECOND FORM's CARD OF 'despatchlaw10.TokenLists'. -/
def tokenListsUptoCard : Claim7 := { stood := { row := tokenListsUptoRow, standIns := [], harness := (true, "414f1ee57018b5c2484df46de408107bba756a5453ff2cf6c61f87a9e5d961a7"), looks := false }, kinds := [], alts := [], laidByText := true, laidKinds := [.data, .pinned], laidTests := true, laidLooks := .later }
def TokenListsUptoCardSaid : Prop := Claim7.holds Tryd.pinned (.plain (OpenSpec.upto tokenListsSpec)) tokenListsUptoCard
end Rows
end Go.Proofs.YtnmkapaphbaomaaDoor
