/-
  Texts of this proof, one behind the other (part 8).
-/
import Derived.Test.YtblnhcafobifgaaGreatDoorPls7


section

set_option linter.unusedVariables false
set_option linter.unusedSimpArgs false
namespace Go.Proofs.YtblnhcafobifgaaGreatDoor.lex
open Go.Abs Go.RowKit
set_option maxRecDepth 100000
set_option maxHeartbeats 8000000
variable {gl : Glob}
end Go.Proofs.YtblnhcafobifgaaGreatDoor.lex
end

