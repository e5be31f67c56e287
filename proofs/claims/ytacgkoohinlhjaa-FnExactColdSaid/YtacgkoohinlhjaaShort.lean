/- The steps in short: what only the kernel reckons is left out. No program is named here. -/
import Derived.Test.YtacgkoohinlhjaaCore9
import Derived.KernelRfl
namespace Go.Proofs.Ytacgkoohinlhjaa
open Go
set_option linter.unusedVariables false
variable {P : Program} {n : Nat} {w0 : World} {M : Bl} {u : World} {N : Bl} {β : Nat → Nat} {σ : Sy} {a : Act} {w : World} {ops : Array Oper} {Q : Exit → Act → World → Prop}
theorem St.q (S : St P n w0 M u N β σ a w) {i : Nat} (k : Nat) (keep : List Nat) (m : Nat) (σ' : Sy) {claims : List (Ask × Value)} (hq : AllQ P u N claims) (K : ∀ a' w' β', St P n w0 M u N β' σ' a' w' → RG P ops Q (i + k) a' w')
    (hev : evK P n ops i k σ (claims.map (·.2)) keep m = some (σ', claims) := by kernel_rfl) : RG P ops Q i a w := S.quiet hq hev K
theorem St.c (S : St P n w0 M u N β σ a w) {c : Operand} {x y : Code} (e : Bool) (ht : e = true → x.wp P Q a w) (hf : e = false → y.wp P Q a w) (he : σ.get c = some (.v (.bool e)) := by kernel_rfl) : (Code.cond c x y).wp P Q a w := S.cond he ht hf
theorem St.r (S : St P n w0 M u N β σ a w) {fn : Func} {R : Ending → World → Prop} (vs : List Value) (h : R (.returned (packed vs)) w) (hv : resVals P σ fn.results.toList = some vs := by kernel_rfl) : bodyPost P fn R .ret a w := S.ret hv h
theorem St.f (S : St P n w0 M u N β σ a w) {fn : Func} {R : Ending → World → Prop} (vs : List Value) (h : R (.returned (packed vs)) w) (hv : resVals P σ fn.results.toList = some vs := by kernel_rfl) : bodyPost P fn R .normal a w := S.fall hv h
theorem St.p (S : St P n w0 M u N β σ a w) (keep : List Nat) (m : Nat) (σ' : Sy) (h : pruneK σ keep m = some σ' := by kernel_rfl) : St P n w0 M u N β σ' a w := S.prune h
abbrev w1 (x : Int) : Int := IntKind.i64.wrap (x + 1)
end Go.Proofs.Ytacgkoohinlhjaa
