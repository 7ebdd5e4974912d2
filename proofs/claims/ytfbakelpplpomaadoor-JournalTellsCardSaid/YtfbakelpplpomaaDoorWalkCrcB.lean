/-
  The walk of the document's Open.
-/
import Derived.Test.YtfbakelpplpomaaDoorWalkCrc
namespace Go.Proofs.YtfbakelpplpomaaDoor.WalkCrc
open Go.RowKit
set_option linter.unusedVariables false
set_option linter.unusedSimpArgs false

end Go.Proofs.YtfbakelpplpomaaDoor.WalkCrc
