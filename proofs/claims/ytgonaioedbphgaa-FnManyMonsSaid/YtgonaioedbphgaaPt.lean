/- Stores into parts of the elements of owned lists. No program is named here. -/
import Derived.Test.YtgonaioedbphgaaMk
namespace Go.Proofs.Ytgonaioedbphgaa
open Go
set_option linter.unusedVariables false
section
variable {w0 : World} {M : Bl} {u : World} {N : Bl}
end
end Go.Proofs.Ytgonaioedbphgaa
