/- Parts of slices. No program is named here. -/
import Derived.Test.YtacgkoohinlhjaaCore9
namespace Go.Proofs.Ytacgkoohinlhjaa
open Go
set_option linter.unusedSimpArgs false
def SP.sl (p : SP) (a w : Nat) : SP := ⟨p.nil, p.b, bif p.cap == a then p.off else p.off + a * w, p.cap - a, p.ad⟩
section
variable {P : Program} {u : World} {N : Bl} {α : Type} [GT α] {xs : List α} {p : GT.Ptr (List α)}
end
end Go.Proofs.Ytacgkoohinlhjaa
