/-
  NARROWER THAN 'FOR EVERY INPUT', by the rows' own cells (each row's printed sentence says how): FieldBack: laid · FieldWidth: laid · FieldFront: laid · LetterFields: laid · LetterSets: laid · FieldNames: laid · FieldTold: laid.
  DERIVED. THE GIVEN ROWS OF THIS SEAT. 7 by the template 'for every input the law returns true; each argument reads behind the call as it read before'; 0 by the template 'total and deterministic' (their statements: YtgohdohkikkeeaaDoorTotals.lean).
  GIVEN WITH THE SEED: the statements are not yours to turn. If you find one false, say at which input.
  Laid BY PROGRAM, IN A SANDBOX (cutbox-rows.mjs): the forced cells as the released guide's own fill.sh prints them over the translation 44e955017cc7ea32… (all of the seat's roots in one cut). By AI agents, Wed Nov 11 2026. No macro, syntax, notation, axiom, sorry.
-/
import Derived.Test.YtgohdohkikkeeaaDoorChecked
import GoSem.PinnedTables
import GoSem.Claim
import GoSem.ClaimJoined
import GoSem.ClaimMapViews
import Derived.JoinedTies
import Derived.KernelRfl
namespace Go.Proofs.YtgohdohkikkeeaaDoor
/- THE CELL 'sum', in the pinned program and in every row, IS THE sha256 OF THE DUMP (.gsa) THAT YtgohdohkikkeeaaDoorProg.lean LOADS. Nothing in Lean hashes anything: it is a label: what it is worth is what the hold of that sum in a sandbox is worth. -/
noncomputable def Tryd.pinned : Pinned := { name := "ytgohdohkikkeeaadoor", sum := "44e955017cc7ea32233e73aae7eda6c1c778303f8b067b34d4a121ac3bad10e6", checked := Tryd.checked }
namespace Rows
def none {H : Type} : Left H := { results := [], args := [] }

/- WHAT THE LISTED PACKAGE-LEVEL VARIABLES READ AS WHEN THE CALL BEGINS. Each datum BY PROGRAM (the guide's laid-datum.mjs) off the statement by which the dump's own 'gosem.cut.vars' lays the variable. In a bare row this is a premise. The card (YtgohdohkikkeeaaDoorCards.lean) ties it to the program's text. -/
def laid_unicode_utf8_acceptRanges {H : Type} : DataW H := .agg [.agg [.lit (.int .u8 128), .lit (.int .u8 191)], .agg [.lit (.int .u8 160), .lit (.int .u8 191)], .agg [.lit (.int .u8 128), .lit (.int .u8 159)], .agg [.lit (.int .u8 144), .lit (.int .u8 191)], .agg [.lit (.int .u8 128), .lit (.int .u8 143)], .agg [.lit (.int .u8 0), .lit (.int .u8 0)], .agg [.lit (.int .u8 0), .lit (.int .u8 0)], .agg [.lit (.int .u8 0), .lit (.int .u8 0)], .agg [.lit (.int .u8 0), .lit (.int .u8 0)], .agg [.lit (.int .u8 0), .lit (.int .u8 0)], .agg [.lit (.int .u8 0), .lit (.int .u8 0)], .agg [.lit (.int .u8 0), .lit (.int .u8 0)], .agg [.lit (.int .u8 0), .lit (.int .u8 0)], .agg [.lit (.int .u8 0), .lit (.int .u8 0)], .agg [.lit (.int .u8 0), .lit (.int .u8 0)], .agg [.lit (.int .u8 0), .lit (.int .u8 0)]]
/-- One of Go's own tables, pinned by name: the form's constant. -/
def laid_unicode_utf8_first : DataW Unit := Go.Pinned.utf8First

/-- 'despatchlaw09.FieldBack': WHATEVER THE INPUT: true; the input reads as it did. -/
def fieldBackSpec : ChangeSpec := { name := "fieldBack", fn := fun _ => fun
  | [d1, d2, d3] => { results := [.lit (.bool true)], args := [d1, d2, d3] }
  | _ => none }
def fieldBackRow : OpenClaim := { program := "ytgohdohkikkeeaadoor", sum := "44e955017cc7ea32233e73aae7eda6c1c778303f8b067b34d4a121ac3bad10e6", func := "despatch/despatchlaw09.FieldBack", spec := "fieldBack", inPlace := ["internal/bytealg.IndexByte", "internal/bytealg.Index", "internal/bytealg.IndexByteString", "internal/bytealg.IndexString"], unfollowed := true, recurses := true, named := ["internal/bytealg.MaxLen", "unicode/utf8.first", "unicode/utf8.acceptRanges"], apart := false, laid := [("unicode/utf8.acceptRanges", laid_unicode_utf8_acceptRanges), ("unicode/utf8.first", laid_unicode_utf8_first)] }
def FieldBackSaid : Prop := fieldBackRow.holds Tryd.pinned (OpenSpec.ofChange fieldBackSpec)

/-- ITS FALSE NEIGHBOUR: 'it returns false'. Refute it at one input. -/
def fieldBackWrong : ChangeSpec := { name := "fieldBack", fn := fun _ => fun
  | [d1, d2, d3] => { results := [.lit (.bool false)], args := [d1, d2, d3] }
  | _ => none }
def FieldBackWrongFalsely : Prop := fieldBackRow.holds Tryd.pinned (OpenSpec.ofChange fieldBackWrong)

/-- 'despatchlaw09.FieldWidth': WHATEVER THE INPUT: true; the input reads as it did. -/
def fieldWidthSpec : ChangeSpec := { name := "fieldWidth", fn := fun _ => fun
  | [d] => { results := [.lit (.bool true)], args := [d] }
  | _ => none }
def fieldWidthRow : OpenClaim := { program := "ytgohdohkikkeeaadoor", sum := "44e955017cc7ea32233e73aae7eda6c1c778303f8b067b34d4a121ac3bad10e6", func := "despatch/despatchlaw09.FieldWidth", spec := "fieldWidth", inPlace := ["internal/bytealg.IndexByte", "internal/bytealg.Index", "internal/bytealg.IndexByteString", "internal/bytealg.IndexString"], unfollowed := true, recurses := true, named := ["internal/bytealg.MaxLen", "unicode/utf8.first", "unicode/utf8.acceptRanges"], apart := false, laid := [("unicode/utf8.acceptRanges", laid_unicode_utf8_acceptRanges), ("unicode/utf8.first", laid_unicode_utf8_first)] }
def FieldWidthSaid : Prop := fieldWidthRow.holds Tryd.pinned (OpenSpec.ofChange fieldWidthSpec)

/-- ITS FALSE NEIGHBOUR: 'it returns false'. Refute it at one input. -/
def fieldWidthWrong : ChangeSpec := { name := "fieldWidth", fn := fun _ => fun
  | [d] => { results := [.lit (.bool false)], args := [d] }
  | _ => none }
def FieldWidthWrongFalsely : Prop := fieldWidthRow.holds Tryd.pinned (OpenSpec.ofChange fieldWidthWrong)

/-- 'despatchlaw09.FieldFront': WHATEVER THE INPUT: true; the input reads as it did. -/
def fieldFrontSpec : ChangeSpec := { name := "fieldFront", fn := fun _ => fun
  | [d1, d2, d3] => { results := [.lit (.bool true)], args := [d1, d2, d3] }
  | _ => none }
def fieldFrontRow : OpenClaim := { program := "ytgohdohkikkeeaadoor", sum := "44e955017cc7ea32233e73aae7eda6c1c778303f8b067b34d4a121ac3bad10e6", func := "despatch/despatchlaw09.FieldFront", spec := "fieldFront", inPlace := ["internal/bytealg.IndexByte", "internal/bytealg.Index", "internal/bytealg.IndexByteString", "internal/bytealg.IndexString"], unfollowed := true, recurses := true, named := ["internal/bytealg.MaxLen", "unicode/utf8.first", "unicode/utf8.acceptRanges"], apart := false, laid := [("unicode/utf8.acceptRanges", laid_unicode_utf8_acceptRanges), ("unicode/utf8.first", laid_unicode_utf8_first)] }
def FieldFrontSaid : Prop := fieldFrontRow.holds Tryd.pinned (OpenSpec.ofChange fieldFrontSpec)

/-- ITS FALSE NEIGHBOUR: 'it returns false'. Refute it at one input. -/
def fieldFrontWrong : ChangeSpec := { name := "fieldFront", fn := fun _ => fun
  | [d1, d2, d3] => { results := [.lit (.bool false)], args := [d1, d2, d3] }
  | _ => none }
def FieldFrontWrongFalsely : Prop := fieldFrontRow.holds Tryd.pinned (OpenSpec.ofChange fieldFrontWrong)

/-- 'despatchlaw11.LetterFields': WHATEVER THE INPUT: true; the input reads as it did. -/
def letterFieldsSpec : ChangeSpec := { name := "letterFields", fn := fun _ => fun
  | [d1, d2, d3] => { results := [.lit (.bool true)], args := [d1, d2, d3] }
  | _ => none }
def letterFieldsRow : OpenClaim := { program := "ytgohdohkikkeeaadoor", sum := "44e955017cc7ea32233e73aae7eda6c1c778303f8b067b34d4a121ac3bad10e6", func := "despatch/despatchlaw11.LetterFields", spec := "letterFields", inPlace := ["internal/bytealg.IndexByteString", "internal/bytealg.IndexString", "internal/abi.NoEscape", "internal/bytealg.MakeNoZero"], unfollowed := true, recurses := true, named := ["unicode/utf8.first", "unicode/utf8.acceptRanges", "internal/bytealg.MaxLen"], apart := false, laid := [("unicode/utf8.acceptRanges", laid_unicode_utf8_acceptRanges), ("unicode/utf8.first", laid_unicode_utf8_first)] }
def LetterFieldsSaid : Prop := letterFieldsRow.holds Tryd.pinned (OpenSpec.ofChange letterFieldsSpec)

/-- ITS FALSE NEIGHBOUR: 'it returns false'. Refute it at one input. -/
def letterFieldsWrong : ChangeSpec := { name := "letterFields", fn := fun _ => fun
  | [d1, d2, d3] => { results := [.lit (.bool false)], args := [d1, d2, d3] }
  | _ => none }
def LetterFieldsWrongFalsely : Prop := letterFieldsRow.holds Tryd.pinned (OpenSpec.ofChange letterFieldsWrong)

/-- 'despatchlaw11.LetterSets': WHATEVER THE INPUT: true; the input reads as it did. -/
def letterSetsSpec : ChangeSpec := { name := "letterSets", fn := fun _ => fun
  | [d1, d2, d3, d4] => { results := [.lit (.bool true)], args := [d1, d2, d3, d4] }
  | _ => none }
def letterSetsRow : OpenClaim := { program := "ytgohdohkikkeeaadoor", sum := "44e955017cc7ea32233e73aae7eda6c1c778303f8b067b34d4a121ac3bad10e6", func := "despatch/despatchlaw11.LetterSets", spec := "letterSets", inPlace := ["internal/bytealg.IndexByteString", "internal/bytealg.IndexString", "internal/abi.NoEscape", "internal/bytealg.MakeNoZero"], unfollowed := true, recurses := true, named := ["unicode/utf8.first", "unicode/utf8.acceptRanges", "internal/bytealg.MaxLen"], apart := false, laid := [("unicode/utf8.acceptRanges", laid_unicode_utf8_acceptRanges), ("unicode/utf8.first", laid_unicode_utf8_first)] }
def LetterSetsSaid : Prop := letterSetsRow.holds Tryd.pinned (OpenSpec.ofChange letterSetsSpec)

/-- ITS FALSE NEIGHBOUR: 'it returns false'. Refute it at one input. -/
def letterSetsWrong : ChangeSpec := { name := "letterSets", fn := fun _ => fun
  | [d1, d2, d3, d4] => { results := [.lit (.bool false)], args := [d1, d2, d3, d4] }
  | _ => none }
def LetterSetsWrongFalsely : Prop := letterSetsRow.holds Tryd.pinned (OpenSpec.ofChange letterSetsWrong)

/-- 'despatchlaw09.FieldNames': WHATEVER THE INPUT: true; the input reads as it did. -/
def fieldNamesSpec : ChangeSpec := { name := "fieldNames", fn := fun _ => fun
  | [d1, d2, d3] => { results := [.lit (.bool true)], args := [d1, d2, d3] }
  | _ => none }
def fieldNamesRow : OpenClaim := { program := "ytgohdohkikkeeaadoor", sum := "44e955017cc7ea32233e73aae7eda6c1c778303f8b067b34d4a121ac3bad10e6", func := "despatch/despatchlaw09.FieldNames", spec := "fieldNames", inPlace := ["internal/bytealg.IndexByte", "internal/bytealg.Index", "internal/bytealg.IndexByteString", "internal/bytealg.IndexString", "internal/abi.NoEscape", "internal/bytealg.MakeNoZero"], unfollowed := true, recurses := true, named := ["internal/bytealg.MaxLen", "unicode/utf8.first", "unicode/utf8.acceptRanges"], apart := false, laid := [("unicode/utf8.acceptRanges", laid_unicode_utf8_acceptRanges), ("unicode/utf8.first", laid_unicode_utf8_first)] }
def FieldNamesSaid : Prop := fieldNamesRow.holds Tryd.pinned (OpenSpec.ofChange fieldNamesSpec)

/-- ITS FALSE NEIGHBOUR: 'it returns false'. Refute it at one input. -/
def fieldNamesWrong : ChangeSpec := { name := "fieldNames", fn := fun _ => fun
  | [d1, d2, d3] => { results := [.lit (.bool false)], args := [d1, d2, d3] }
  | _ => none }
def FieldNamesWrongFalsely : Prop := fieldNamesRow.holds Tryd.pinned (OpenSpec.ofChange fieldNamesWrong)

/-- 'despatchlaw09.FieldTold': WHATEVER THE INPUT: true; the input reads as it did. -/
def fieldToldSpec : ChangeSpec := { name := "fieldTold", fn := fun _ => fun
  | [d1, d2, d3] => { results := [.lit (.bool true)], args := [d1, d2, d3] }
  | _ => none }
def fieldToldRow : OpenClaim := { program := "ytgohdohkikkeeaadoor", sum := "44e955017cc7ea32233e73aae7eda6c1c778303f8b067b34d4a121ac3bad10e6", func := "despatch/despatchlaw09.FieldTold", spec := "fieldTold", inPlace := ["internal/bytealg.IndexByte", "internal/bytealg.Index", "internal/bytealg.IndexByteString", "internal/bytealg.IndexString", "internal/abi.NoEscape", "internal/bytealg.MakeNoZero"], unfollowed := true, recurses := true, named := ["internal/bytealg.MaxLen", "unicode/utf8.first", "unicode/utf8.acceptRanges"], apart := false, laid := [("unicode/utf8.acceptRanges", laid_unicode_utf8_acceptRanges), ("unicode/utf8.first", laid_unicode_utf8_first)] }
def FieldToldSaid : Prop := fieldToldRow.holds Tryd.pinned (OpenSpec.ofChange fieldToldSpec)

/-- ITS FALSE NEIGHBOUR: 'it returns false'. Refute it at one input. -/
def fieldToldWrong : ChangeSpec := { name := "fieldTold", fn := fun _ => fun
  | [d1, d2, d3] => { results := [.lit (.bool false)], args := [d1, d2, d3] }
  | _ => none }
def FieldToldWrongFalsely : Prop := fieldToldRow.holds Tryd.pinned (OpenSpec.ofChange fieldToldWrong)

/- THE SECOND FORM. 'bulk': how many values and letters a reading holds, each counted each time it is reached (what is shared counts as often as it is met; a slice's spare places count too). A statement '..UptoSaid' is the law's where the arguments, and the package variables that the reading takes, are together of bulk at most 1048576: NARROWER than '..Said'. Prove '..Said' where nothing that the law and all that it calls make is longer than what came in: it says more and counts as full. Else prove '..UptoSaid'. A law counts once. -/
mutual
def uptoBulk {H : Type} : DataW H → Nat
  | .lit (.string bytes) => bytes.length + 1
  | .lit _ => 1
  | .nil => 1
  | .ptr d => uptoBulk d + 1
  | .slice elems spare => uptoBulkAll elems + uptoBulkAll spare + 1
  | .agg parts => uptoBulkAll parts + 1
  | .iface _ d => uptoBulk d + 1
  | .map entries => uptoBulkEntries entries + 1
  | .held _ => 1
def uptoBulkAll {H : Type} : List (DataW H) → Nat
  | [] => 0
  | d :: r => uptoBulk d + uptoBulkAll r
def uptoBulkEntries {H : Type} : List (Lit × DataW H) → Nat
  | [] => 0
  | x :: r => uptoBulkEntry x + uptoBulkEntries r
def uptoBulkEntry {H : Type} : Lit × DataW H → Nat
  | (.string bytes, d) => bytes.length + uptoBulk d + 1
  | (_, d) => uptoBulk d + 1
 end
def uptoSmall : (H : Type) → List (DataW H) → Bool := fun _ ds => decide (uptoBulkAll ds ≤ 1048576)
def OpenSpec.upto (s : _root_.Go.ChangeSpec) : _root_.Go.OpenSpec := { _root_.Go.OpenSpec.ofChange s with cond := some uptoSmall }

/-- 'despatchlaw09.FieldBack', WHERE WHAT IT READS IS OF BULK AT MOST 1048576: true; the input reads as it did. -/
def fieldBackUptoRow : OpenClaim := { program := "ytgohdohkikkeeaadoor", sum := "44e955017cc7ea32233e73aae7eda6c1c778303f8b067b34d4a121ac3bad10e6", func := "despatch/despatchlaw09.FieldBack", spec := "fieldBack", inPlace := ["internal/bytealg.IndexByte", "internal/bytealg.Index", "internal/bytealg.IndexByteString", "internal/bytealg.IndexString"], unfollowed := true, recurses := true, named := ["internal/bytealg.MaxLen", "unicode/utf8.first", "unicode/utf8.acceptRanges"], apart := false, laid := [("unicode/utf8.acceptRanges", laid_unicode_utf8_acceptRanges), ("unicode/utf8.first", laid_unicode_utf8_first)], narrowed := true }
def FieldBackUptoSaid : Prop := fieldBackUptoRow.holds Tryd.pinned (OpenSpec.upto fieldBackSpec)

/-- 'despatchlaw09.FieldWidth', WHERE WHAT IT READS IS OF BULK AT MOST 1048576: true; the input reads as it did. -/
def fieldWidthUptoRow : OpenClaim := { program := "ytgohdohkikkeeaadoor", sum := "44e955017cc7ea32233e73aae7eda6c1c778303f8b067b34d4a121ac3bad10e6", func := "despatch/despatchlaw09.FieldWidth", spec := "fieldWidth", inPlace := ["internal/bytealg.IndexByte", "internal/bytealg.Index", "internal/bytealg.IndexByteString", "internal/bytealg.IndexString"], unfollowed := true, recurses := true, named := ["internal/bytealg.MaxLen", "unicode/utf8.first", "unicode/utf8.acceptRanges"], apart := false, laid := [("unicode/utf8.acceptRanges", laid_unicode_utf8_acceptRanges), ("unicode/utf8.first", laid_unicode_utf8_first)], narrowed := true }
def FieldWidthUptoSaid : Prop := fieldWidthUptoRow.holds Tryd.pinned (OpenSpec.upto fieldWidthSpec)

/-- 'despatchlaw09.FieldFront', WHERE WHAT IT READS IS OF BULK AT MOST 1048576: true; the input reads as it did. -/
def fieldFrontUptoRow : OpenClaim := { program := "ytgohdohkikkeeaadoor", sum := "44e955017cc7ea32233e73aae7eda6c1c778303f8b067b34d4a121ac3bad10e6", func := "despatch/despatchlaw09.FieldFront", spec := "fieldFront", inPlace := ["internal/bytealg.IndexByte", "internal/bytealg.Index", "internal/bytealg.IndexByteString", "internal/bytealg.IndexString"], unfollowed := true, recurses := true, named := ["internal/bytealg.MaxLen", "unicode/utf8.first", "unicode/utf8.acceptRanges"], apart := false, laid := [("unicode/utf8.acceptRanges", laid_unicode_utf8_acceptRanges), ("unicode/utf8.first", laid_unicode_utf8_first)], narrowed := true }
def FieldFrontUptoSaid : Prop := fieldFrontUptoRow.holds Tryd.pinned (OpenSpec.upto fieldFrontSpec)

/-- 'despatchlaw11.LetterFields', WHERE WHAT IT READS IS OF BULK AT MOST 1048576: true; the input reads as it did. -/
def letterFieldsUptoRow : OpenClaim := { program := "ytgohdohkikkeeaadoor", sum := "44e955017cc7ea32233e73aae7eda6c1c778303f8b067b34d4a121ac3bad10e6", func := "despatch/despatchlaw11.LetterFields", spec := "letterFields", inPlace := ["internal/bytealg.IndexByteString", "internal/bytealg.IndexString", "internal/abi.NoEscape", "internal/bytealg.MakeNoZero"], unfollowed := true, recurses := true, named := ["unicode/utf8.first", "unicode/utf8.acceptRanges", "internal/bytealg.MaxLen"], apart := false, laid := [("unicode/utf8.acceptRanges", laid_unicode_utf8_acceptRanges), ("unicode/utf8.first", laid_unicode_utf8_first)], narrowed := true }
def LetterFieldsUptoSaid : Prop := letterFieldsUptoRow.holds Tryd.pinned (OpenSpec.upto letterFieldsSpec)

/-- 'despatchlaw11.LetterSets', WHERE WHAT IT READS IS OF BULK AT MOST 1048576: true; the input reads as it did. -/
def letterSetsUptoRow : OpenClaim := { program := "ytgohdohkikkeeaadoor", sum := "44e955017cc7ea32233e73aae7eda6c1c778303f8b067b34d4a121ac3bad10e6", func := "despatch/despatchlaw11.LetterSets", spec := "letterSets", inPlace := ["internal/bytealg.IndexByteString", "internal/bytealg.IndexString", "internal/abi.NoEscape", "internal/bytealg.MakeNoZero"], unfollowed := true, recurses := true, named := ["unicode/utf8.first", "unicode/utf8.acceptRanges", "internal/bytealg.MaxLen"], apart := false, laid := [("unicode/utf8.acceptRanges", laid_unicode_utf8_acceptRanges), ("unicode/utf8.first", laid_unicode_utf8_first)], narrowed := true }
def LetterSetsUptoSaid : Prop := letterSetsUptoRow.holds Tryd.pinned (OpenSpec.upto letterSetsSpec)

/-- 'despatchlaw09.FieldNames', WHERE WHAT IT READS IS OF BULK AT MOST 1048576: true; the input reads as it did. -/
def fieldNamesUptoRow : OpenClaim := { program := "ytgohdohkikkeeaadoor", sum := "44e955017cc7ea32233e73aae7eda6c1c778303f8b067b34d4a121ac3bad10e6", func := "despatch/despatchlaw09.FieldNames", spec := "fieldNames", inPlace := ["internal/bytealg.IndexByte", "internal/bytealg.Index", "internal/bytealg.IndexByteString", "internal/bytealg.IndexString", "internal/abi.NoEscape", "internal/bytealg.MakeNoZero"], unfollowed := true, recurses := true, named := ["internal/bytealg.MaxLen", "unicode/utf8.first", "unicode/utf8.acceptRanges"], apart := false, laid := [("unicode/utf8.acceptRanges", laid_unicode_utf8_acceptRanges), ("unicode/utf8.first", laid_unicode_utf8_first)], narrowed := true }
def FieldNamesUptoSaid : Prop := fieldNamesUptoRow.holds Tryd.pinned (OpenSpec.upto fieldNamesSpec)

/-- 'despatchlaw09.FieldTold', WHERE WHAT IT READS IS OF BULK AT MOST 1048576: true; the input reads as it did. -/
def fieldToldUptoRow : OpenClaim := { program := "ytgohdohkikkeeaadoor", sum := "44e955017cc7ea32233e73aae7eda6c1c778303f8b067b34d4a121ac3bad10e6", func := "despatch/despatchlaw09.FieldTold", spec := "fieldTold", inPlace := ["internal/bytealg.IndexByte", "internal/bytealg.Index", "internal/bytealg.IndexByteString", "internal/bytealg.IndexString", "internal/abi.NoEscape", "internal/bytealg.MakeNoZero"], unfollowed := true, recurses := true, named := ["internal/bytealg.MaxLen", "unicode/utf8.first", "unicode/utf8.acceptRanges"], apart := false, laid := [("unicode/utf8.acceptRanges", laid_unicode_utf8_acceptRanges), ("unicode/utf8.first", laid_unicode_utf8_first)], narrowed := true }
def FieldToldUptoSaid : Prop := fieldToldUptoRow.holds Tryd.pinned (OpenSpec.upto fieldToldSpec)

end Rows
end Go.Proofs.YtgohdohkikkeeaaDoor
