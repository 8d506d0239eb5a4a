/- Signs of an atom: the document's in, Plain, Atom. -/
import Derived.Test.YtddjabjloplhiaaDoorP21
import Derived.Test.YtddjabjloplhiaaDoorChecked
namespace Go.Proofs.YtddjabjloplhiaaDoor
set_option linter.unusedVariables false
set_option linter.unusedSimpArgs false
open Go.RowKit

end Go.Proofs.YtddjabjloplhiaaDoor
