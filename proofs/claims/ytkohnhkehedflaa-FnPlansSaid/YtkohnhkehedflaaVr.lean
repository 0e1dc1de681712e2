/- The best plan: the law. -/
import Derived.Test.YtkohnhkehedflaaVq
set_option linter.unusedVariables false
set_option linter.unusedSimpArgs false
set_option linter.unusedSectionVars false
set_option maxRecDepth 100000
namespace Go.RR
open Go Go.Proofs
end Go.RR
