/- The built-in copy on runs. No program is named here. -/
import Derived.Test.YtgonaioedbphgaaRun2
import Derived.Test.YtgonaioedbphgaaCopy
namespace Go.Proofs.Ytgonaioedbphgaa
open Go
set_option linter.unusedVariables false
section
variable {P : Program} {n : Nat} {w0 : World} {M : Bl} {u : World} {N : Bl} {β : Nat → Nat} {a : Act} {w : World} {Q : Exit → Act → World → Prop}
end
end Go.Proofs.Ytgonaioedbphgaa
