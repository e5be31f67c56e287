/- The length of a number in bits, in the form of the walks. -/
import Derived.Test.YtkbcponpcghjpaaGreatBits
import Derived.Test.YtkbcponpcghjpaaGreatTop
namespace Go.Proofs.YtkbcponpcghjpaaGreat
open Go
theorem c_math_bits_Len (w0 : World) (x : Int) (pre0 : 0 ≤ x) (pre1 : x ≤ 9223372036854775807) : Calls Tryz.prog 187 [.int .u64 x].toArray w0 (fun e w' => e = .returned (I (f_bitLen x)) ∧ Chg NoB w0 w') :=
  (Go.Proofs.YtkbcponpcghjpaaGreatBits.bits_Len x w0 pre0 (by omega)).mono fun e w' ⟨h1, h2⟩ => ⟨h1, h2 ▸ Chg.refl _ _⟩
end Go.Proofs.YtkbcponpcghjpaaGreat
