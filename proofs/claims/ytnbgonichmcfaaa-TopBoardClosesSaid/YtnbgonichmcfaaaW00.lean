/- Helpers of a proof. -/
import Derived.ProofKit
set_option linter.unusedVariables false
set_option linter.unusedSimpArgs false
section
namespace Go.Dw
def loudCalls : List Nat := [28, 75]
end Go.Dw
end
