/- Stores into parts of the elements of owned lists. No program is named here. -/
import Derived.Test.YtdnjbneoaejcgaaMk
namespace Go.Proofs.Ytdnjbneoaejcgaa
open Go
set_option linter.unusedVariables false
section
variable {w0 : World} {M : Bl} {u : World} {N : Bl}
end
end Go.Proofs.Ytdnjbneoaejcgaa
