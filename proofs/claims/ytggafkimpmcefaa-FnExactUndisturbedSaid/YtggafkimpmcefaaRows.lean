/-
  No cell of these rows narrows 'for every input' (looked for: loops, veiled, ifaces, maps, wideKeys, modest, calm, conditions, laid).
  DERIVED. THE GIVEN ROWS OF THIS SEAT. 6 by the template 'for every input the law returns true; each argument reads behind the call as it read before'; 0 by the template 'total and deterministic' (their statements: YtggafkimpmcefaaTotals.lean).
  GIVEN WITH THE SEED: the statements are not yours to turn. If you find one false, say at which input.
  Laid BY PROGRAM, IN A SANDBOX (cutbox-rows.mjs): the forced cells as the released guide's own fill.sh prints them over the translation f5a945099ccbce6e… (all of the seat's roots in one cut). By AI agents, Wed Nov 11 2026. No macro, syntax, notation, axiom, sorry.
-/
import Derived.Test.YtggafkimpmcefaaChecked
import GoSem.Claim
import GoSem.ClaimJoined
import GoSem.ClaimMapViews
import Derived.JoinedTies
import Derived.KernelRfl
namespace Go.Proofs.Ytggafkimpmcefaa
/- THE CELL 'sum', in the pinned program and in every row, IS THE sha256 OF THE DUMP (.gsa) THAT YtggafkimpmcefaaProg.lean LOADS. Nothing in Lean hashes anything: it is a label: what it is worth is what the hold of that sum in a sandbox is worth. -/
noncomputable def Try.pinned : Pinned := { name := "ytggafkimpmcefaa", sum := "f5a945099ccbce6e5b4452c2909e453936c33f3ba33d09cc04778085af9b79c8", checked := Try.checked }
namespace Rows
def none {H : Type} : Left H := { results := [], args := [] }

/-- 'laws.FnExactIsOuter': WHATEVER THE INPUT: true; the input reads as it did. -/
def fnExactIsOuterSpec : ChangeSpec := { name := "fnExactIsOuter", fn := fun _ => fun
  | [d] => { results := [.lit (.bool true)], args := [d] }
  | _ => none }
def fnExactIsOuterRow : OpenClaim := { program := "ytggafkimpmcefaa", sum := "f5a945099ccbce6e5b4452c2909e453936c33f3ba33d09cc04778085af9b79c8", func := "loop.example/g00975/laws.FnExactIsOuter", spec := "fnExactIsOuter", apart := false }
def FnExactIsOuterSaid : Prop := fnExactIsOuterRow.holds Try.pinned (OpenSpec.ofChange fnExactIsOuterSpec)

/-- ITS FALSE NEIGHBOUR: 'it returns false'. Refute it at one input. -/
def fnExactIsOuterWrong : ChangeSpec := { name := "fnExactIsOuter", fn := fun _ => fun
  | [d] => { results := [.lit (.bool false)], args := [d] }
  | _ => none }
def FnExactIsOuterWrongFalsely : Prop := fnExactIsOuterRow.holds Try.pinned (OpenSpec.ofChange fnExactIsOuterWrong)

/-- 'laws.FnExactActOk': WHATEVER THE INPUT: true; the input reads as it did. -/
def fnExactActOkSpec : ChangeSpec := { name := "fnExactActOk", fn := fun _ => fun
  | [d] => { results := [.lit (.bool true)], args := [d] }
  | _ => none }
def fnExactActOkRow : OpenClaim := { program := "ytggafkimpmcefaa", sum := "f5a945099ccbce6e5b4452c2909e453936c33f3ba33d09cc04778085af9b79c8", func := "loop.example/g00975/laws.FnExactActOk", spec := "fnExactActOk", apart := false }
def FnExactActOkSaid : Prop := fnExactActOkRow.holds Try.pinned (OpenSpec.ofChange fnExactActOkSpec)

/-- ITS FALSE NEIGHBOUR: 'it returns false'. Refute it at one input. -/
def fnExactActOkWrong : ChangeSpec := { name := "fnExactActOk", fn := fun _ => fun
  | [d] => { results := [.lit (.bool false)], args := [d] }
  | _ => none }
def FnExactActOkWrongFalsely : Prop := fnExactActOkRow.holds Try.pinned (OpenSpec.ofChange fnExactActOkWrong)

/-- 'laws.FnExactCtlOf': WHATEVER THE INPUT: true; the input reads as it did. -/
def fnExactCtlOfSpec : ChangeSpec := { name := "fnExactCtlOf", fn := fun _ => fun
  | [d] => { results := [.lit (.bool true)], args := [d] }
  | _ => none }
def fnExactCtlOfRow : OpenClaim := { program := "ytggafkimpmcefaa", sum := "f5a945099ccbce6e5b4452c2909e453936c33f3ba33d09cc04778085af9b79c8", func := "loop.example/g00975/laws.FnExactCtlOf", spec := "fnExactCtlOf", apart := false }
def FnExactCtlOfSaid : Prop := fnExactCtlOfRow.holds Try.pinned (OpenSpec.ofChange fnExactCtlOfSpec)

/-- ITS FALSE NEIGHBOUR: 'it returns false'. Refute it at one input. -/
def fnExactCtlOfWrong : ChangeSpec := { name := "fnExactCtlOf", fn := fun _ => fun
  | [d] => { results := [.lit (.bool false)], args := [d] }
  | _ => none }
def FnExactCtlOfWrongFalsely : Prop := fnExactCtlOfRow.holds Try.pinned (OpenSpec.ofChange fnExactCtlOfWrong)

/-- 'laws.FnExactSameTold': WHATEVER THE INPUT: true; the input reads as it did. -/
def fnExactSameToldSpec : ChangeSpec := { name := "fnExactSameTold", fn := fun _ => fun
  | [d1, d2] => { results := [.lit (.bool true)], args := [d1, d2] }
  | _ => none }
def fnExactSameToldRow : OpenClaim := { program := "ytggafkimpmcefaa", sum := "f5a945099ccbce6e5b4452c2909e453936c33f3ba33d09cc04778085af9b79c8", func := "loop.example/g00975/laws.FnExactSameTold", spec := "fnExactSameTold", apart := false }
def FnExactSameToldSaid : Prop := fnExactSameToldRow.holds Try.pinned (OpenSpec.ofChange fnExactSameToldSpec)

/-- ITS FALSE NEIGHBOUR: 'it returns false'. Refute it at one input. -/
def fnExactSameToldWrong : ChangeSpec := { name := "fnExactSameTold", fn := fun _ => fun
  | [d1, d2] => { results := [.lit (.bool false)], args := [d1, d2] }
  | _ => none }
def FnExactSameToldWrongFalsely : Prop := fnExactSameToldRow.holds Try.pinned (OpenSpec.ofChange fnExactSameToldWrong)

/-- 'laws.FnExactUndisturbed': WHATEVER THE INPUT: true; the input reads as it did. -/
def fnExactUndisturbedSpec : ChangeSpec := { name := "fnExactUndisturbed", fn := fun _ => fun
  | [d] => { results := [.lit (.bool true)], args := [d] }
  | _ => none }
def fnExactUndisturbedRow : OpenClaim := { program := "ytggafkimpmcefaa", sum := "f5a945099ccbce6e5b4452c2909e453936c33f3ba33d09cc04778085af9b79c8", func := "loop.example/g00975/laws.FnExactUndisturbed", spec := "fnExactUndisturbed", apart := false }
def FnExactUndisturbedSaid : Prop := fnExactUndisturbedRow.holds Try.pinned (OpenSpec.ofChange fnExactUndisturbedSpec)

/-- ITS FALSE NEIGHBOUR: 'it returns false'. Refute it at one input. -/
def fnExactUndisturbedWrong : ChangeSpec := { name := "fnExactUndisturbed", fn := fun _ => fun
  | [d] => { results := [.lit (.bool false)], args := [d] }
  | _ => none }
def FnExactUndisturbedWrongFalsely : Prop := fnExactUndisturbedRow.holds Try.pinned (OpenSpec.ofChange fnExactUndisturbedWrong)

/-- 'laws.FnExactInnerTold': WHATEVER THE INPUT: true; the input reads as it did. -/
def fnExactInnerToldSpec : ChangeSpec := { name := "fnExactInnerTold", fn := fun _ => fun
  | [d1, d2] => { results := [.lit (.bool true)], args := [d1, d2] }
  | _ => none }
def fnExactInnerToldRow : OpenClaim := { program := "ytggafkimpmcefaa", sum := "f5a945099ccbce6e5b4452c2909e453936c33f3ba33d09cc04778085af9b79c8", func := "loop.example/g00975/laws.FnExactInnerTold", spec := "fnExactInnerTold", apart := false }
def FnExactInnerToldSaid : Prop := fnExactInnerToldRow.holds Try.pinned (OpenSpec.ofChange fnExactInnerToldSpec)

/-- ITS FALSE NEIGHBOUR: 'it returns false'. Refute it at one input. -/
def fnExactInnerToldWrong : ChangeSpec := { name := "fnExactInnerTold", fn := fun _ => fun
  | [d1, d2] => { results := [.lit (.bool false)], args := [d1, d2] }
  | _ => none }
def FnExactInnerToldWrongFalsely : Prop := fnExactInnerToldRow.holds Try.pinned (OpenSpec.ofChange fnExactInnerToldWrong)

/- THE SECOND FORM. 'bulk': how many values and letters a reading holds, each counted each time it is reached (what is shared counts as often as it is met; a slice's spare places count too). A statement '..UptoSaid' is the law's where the arguments, and the package variables that the reading takes, are together of bulk at most 1048576: NARROWER than '..Said'. Prove '..Said' where nothing that the law and all that it calls make is longer than what came in: it says more and counts as full. Else prove '..UptoSaid'. A law counts once. -/
mutual
def uptoBulk {H : Type} : DataW H → Nat
  | .lit (.string bytes) => bytes.length + 1
  | .lit _ => 1
  | .nil => 1
  | .ptr d => uptoBulk d + 1
  | .slice elems spare => uptoBulkAll elems + uptoBulkAll spare + 1
  | .agg parts => uptoBulkAll parts + 1
  | .iface _ d => uptoBulk d + 1
  | .map entries => uptoBulkEntries entries + 1
  | .held _ => 1
def uptoBulkAll {H : Type} : List (DataW H) → Nat
  | [] => 0
  | d :: r => uptoBulk d + uptoBulkAll r
def uptoBulkEntries {H : Type} : List (Lit × DataW H) → Nat
  | [] => 0
  | x :: r => uptoBulkEntry x + uptoBulkEntries r
def uptoBulkEntry {H : Type} : Lit × DataW H → Nat
  | (.string bytes, d) => bytes.length + uptoBulk d + 1
  | (_, d) => uptoBulk d + 1
 end
def uptoSmall : (H : Type) → List (DataW H) → Bool := fun _ ds => decide (uptoBulkAll ds ≤ 1048576)
def OpenSpec.upto (s : _root_.Go.ChangeSpec) : _root_.Go.OpenSpec := { _root_.Go.OpenSpec.ofChange s with cond := some uptoSmall }

/-- 'laws.FnExactIsOuter', WHERE WHAT IT READS IS OF BULK AT MOST 1048576: true; the input reads as it did. -/
def fnExactIsOuterUptoRow : OpenClaim := { program := "ytggafkimpmcefaa", sum := "f5a945099ccbce6e5b4452c2909e453936c33f3ba33d09cc04778085af9b79c8", func := "loop.example/g00975/laws.FnExactIsOuter", spec := "fnExactIsOuter", apart := false, narrowed := true }
def FnExactIsOuterUptoSaid : Prop := fnExactIsOuterUptoRow.holds Try.pinned (OpenSpec.upto fnExactIsOuterSpec)

/-- 'laws.FnExactActOk', WHERE WHAT IT READS IS OF BULK AT MOST 1048576: true; the input reads as it did. -/
def fnExactActOkUptoRow : OpenClaim := { program := "ytggafkimpmcefaa", sum := "f5a945099ccbce6e5b4452c2909e453936c33f3ba33d09cc04778085af9b79c8", func := "loop.example/g00975/laws.FnExactActOk", spec := "fnExactActOk", apart := false, narrowed := true }
def FnExactActOkUptoSaid : Prop := fnExactActOkUptoRow.holds Try.pinned (OpenSpec.upto fnExactActOkSpec)

/-- 'laws.FnExactCtlOf', WHERE WHAT IT READS IS OF BULK AT MOST 1048576: true; the input reads as it did. -/
def fnExactCtlOfUptoRow : OpenClaim := { program := "ytggafkimpmcefaa", sum := "f5a945099ccbce6e5b4452c2909e453936c33f3ba33d09cc04778085af9b79c8", func := "loop.example/g00975/laws.FnExactCtlOf", spec := "fnExactCtlOf", apart := false, narrowed := true }
def FnExactCtlOfUptoSaid : Prop := fnExactCtlOfUptoRow.holds Try.pinned (OpenSpec.upto fnExactCtlOfSpec)

/-- 'laws.FnExactSameTold', WHERE WHAT IT READS IS OF BULK AT MOST 1048576: true; the input reads as it did. -/
def fnExactSameToldUptoRow : OpenClaim := { program := "ytggafkimpmcefaa", sum := "f5a945099ccbce6e5b4452c2909e453936c33f3ba33d09cc04778085af9b79c8", func := "loop.example/g00975/laws.FnExactSameTold", spec := "fnExactSameTold", apart := false, narrowed := true }
def FnExactSameToldUptoSaid : Prop := fnExactSameToldUptoRow.holds Try.pinned (OpenSpec.upto fnExactSameToldSpec)

/-- 'laws.FnExactUndisturbed', WHERE WHAT IT READS IS OF BULK AT MOST 1048576: true; the input reads as it did. -/
def fnExactUndisturbedUptoRow : OpenClaim := { program := "ytggafkimpmcefaa", sum := "f5a945099ccbce6e5b4452c2909e453936c33f3ba33d09cc04778085af9b79c8", func := "loop.example/g00975/laws.FnExactUndisturbed", spec := "fnExactUndisturbed", apart := false, narrowed := true }
def FnExactUndisturbedUptoSaid : Prop := fnExactUndisturbedUptoRow.holds Try.pinned (OpenSpec.upto fnExactUndisturbedSpec)

/-- 'laws.FnExactInnerTold', WHERE WHAT IT READS IS OF BULK AT MOST 1048576: true; the input reads as it did. -/
def fnExactInnerToldUptoRow : OpenClaim := { program := "ytggafkimpmcefaa", sum := "f5a945099ccbce6e5b4452c2909e453936c33f3ba33d09cc04778085af9b79c8", func := "loop.example/g00975/laws.FnExactInnerTold", spec := "fnExactInnerTold", apart := false, narrowed := true }
def FnExactInnerToldUptoSaid : Prop := fnExactInnerToldUptoRow.holds Try.pinned (OpenSpec.upto fnExactInnerToldSpec)

end Rows
end Go.Proofs.Ytggafkimpmcefaa
