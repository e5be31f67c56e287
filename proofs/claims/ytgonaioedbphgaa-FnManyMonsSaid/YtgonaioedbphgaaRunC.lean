/- The built-in copy on runs. No program is named here. -/
import Derived.Test.YtgonaioedbphgaaRun2
import Derived.Test.YtgonaioedbphgaaCopy
namespace Go.Proofs.Ytgonaioedbphgaa
open Go
set_option linter.unusedVariables false
section
variable {P : Program} {n : Nat} {w0 : World} {M : Bl} {u : World} {N : Bl} {β : Nat → Nat} {a : Act} {w : World} {Q : Exit → Act → World → Prop}
theorem St.C0 {ρ : Rs} {α : Type} [GT α] {xs ys : List α} {p q : LP α} {F : Bl} {d : Tmp} (S : St P n w0 M u N β ρ.σ a w) (hx : Ow w0 M u N F xs p) (hy : Rn u N ys q) (hfl : ∀ (x : α) (r : GT.Ptr α) (B : Bl) (v v' : World), GT.rd KK B v x r → GT.own KK NoB v' x r) (ld ls : Nat) (hld : ld = xs.length) (hls : ls = ys.length) (K : ∀ a2 w' N' p2, St P n w0 M w' N' β (ρ.put d (I ((min ls ld : Nat) : Int))).σ a2 w' → (∀ b, N b → ¬ F b → N' b ∧ w'.heap[b]? = u.heap[b]?) → Ow w0 M w' N' F (xs.take 0 ++ ys.take (min ls ld) ++ xs.drop (0 + min ls ld)) ((p.1, p2) : LP α) → Gl P Q (ρ.put d (I ((min ls ld : Nat) : Int))) a2 w') (hop : copyAc P n ρ.cf.opsOf ρ.cf.idx ρ.σ = some (slv ld p.1, slv ls q.1, GT.width α, d) := by kernel_rfl) (hB : ρ.cf.isOp = true := by kernel_rfl) : Gl P Q ρ a w :=
  ⟨lo (St.copy0 S (hx := hx) (hy := hy) (hfl := hfl) (ld := ld) (ls := ls) (hld := hld) (hls := hls) (hop := hop) (K := fun _ _ _ _ h0 h1 h2 => (K _ _ _ _ h0 h1 h2).ok)) hB⟩
end
end Go.Proofs.Ytgonaioedbphgaa
