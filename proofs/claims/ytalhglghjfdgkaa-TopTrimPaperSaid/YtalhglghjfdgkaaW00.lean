/- Helpers of a proof. -/
import Derived.ProofKit
set_option linter.unusedVariables false
set_option linter.unusedSimpArgs false
section
namespace Go.Dw
def loudCalls : List Nat := [18, 21, 78, 79, 87]
end Go.Dw
end
