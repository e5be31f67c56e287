/- The length of a number in bits, in the form of the walks. -/
import Derived.Test.YtpjhamcanhnfjaaBits
import Derived.Test.YtpjhamcanhnfjaaTop
namespace Go.Proofs.Ytpjhamcanhnfjaa
open Go
theorem c_math_bits_Len (w0 : World) (x : Int) (pre0 : 0 ≤ x) (pre1 : x ≤ 9223372036854775807) : Calls Try.prog 159 [.int .u64 x].toArray w0 (fun e w' => e = .returned (I (f_bitLen x)) ∧ Chg NoB w0 w') :=
  (Go.Proofs.YtpjhamcanhnfjaaBits.bits_Len x w0 pre0 (by omega)).mono fun e w' ⟨h1, h2⟩ => ⟨h1, h2 ▸ Chg.refl _ _⟩
end Go.Proofs.Ytpjhamcanhnfjaa
