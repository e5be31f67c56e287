/-
  No cell of these rows narrows 'for every input' (looked for: loops, veiled, ifaces, maps, wideKeys, modest, calm, conditions, laid).
  DERIVED. THE GIVEN ROWS OF THIS SEAT. 3 by the template 'for every input the law returns true; each argument reads behind the call as it read before'; 0 by the template 'total and deterministic' (their statements: YtjlocpdfcanlhaaGreatTotals.lean).
  GIVEN WITH THE SEED: the statements are not yours to turn. If you find one false, say at which input.
  Laid BY PROGRAM, IN A SANDBOX (cutbox-rows.mjs): the forced cells as the released guide's own fill.sh prints them over the translation bbba19ed5a439dcc… (all of the seat's roots in one cut). By AI agents, Wed Nov 11 2026. No macro, syntax, notation, axiom, sorry.
-/
import Derived.Test.YtjlocpdfcanlhaaGreatChecked
import GoSem.Claim
import GoSem.ClaimJoined
import GoSem.ClaimMapViews
import Derived.JoinedTies
import Derived.KernelRfl
namespace Go.Proofs.YtjlocpdfcanlhaaGreat
/- THE CELL 'sum', in the pinned program and in every row, IS THE sha256 OF THE DUMP (.gsa) THAT YtjlocpdfcanlhaaGreatProg.lean LOADS. Nothing in Lean hashes anything: it is a label: what it is worth is what the hold of that sum in a sandbox is worth. -/
noncomputable def Tryz.pinned : Pinned := { name := "ytjlocpdfcanlhaagreat", sum := "bbba19ed5a439dcc2454250c01cfed4c7f43f3153b8a7721da0b26e4f2f1c3c2", checked := Tryz.checked }
namespace Rows
def none {H : Type} : Left H := { results := [], args := [] }

/-- 'laws.FnExactHostStep': WHATEVER THE INPUT: true; the input reads as it did. -/
def fnExactHostStepSpec : ChangeSpec := { name := "fnExactHostStep", fn := fun _ => fun
  | [d1, d2, d3] => { results := [.lit (.bool true)], args := [d1, d2, d3] }
  | _ => none }
def fnExactHostStepRow : OpenClaim := { program := "ytjlocpdfcanlhaagreat", sum := "bbba19ed5a439dcc2454250c01cfed4c7f43f3153b8a7721da0b26e4f2f1c3c2", func := "loop.example/g00975/laws.FnExactHostStep", spec := "fnExactHostStep", unfollowed := true, recurses := true, apart := false }
def FnExactHostStepSaid : Prop := fnExactHostStepRow.holds Tryz.pinned (OpenSpec.ofChange fnExactHostStepSpec)

/-- ITS FALSE NEIGHBOUR: 'it returns false'. Refute it at one input. -/
def fnExactHostStepWrong : ChangeSpec := { name := "fnExactHostStep", fn := fun _ => fun
  | [d1, d2, d3] => { results := [.lit (.bool false)], args := [d1, d2, d3] }
  | _ => none }
def FnExactHostStepWrongFalsely : Prop := fnExactHostStepRow.holds Tryz.pinned (OpenSpec.ofChange fnExactHostStepWrong)

/-- 'laws.FnExactHostSteps': WHATEVER THE INPUT: true; the input reads as it did. -/
def fnExactHostStepsSpec : ChangeSpec := { name := "fnExactHostSteps", fn := fun _ => fun
  | [d1, d2, d3] => { results := [.lit (.bool true)], args := [d1, d2, d3] }
  | _ => none }
def fnExactHostStepsRow : OpenClaim := { program := "ytjlocpdfcanlhaagreat", sum := "bbba19ed5a439dcc2454250c01cfed4c7f43f3153b8a7721da0b26e4f2f1c3c2", func := "loop.example/g00975/laws.FnExactHostSteps", spec := "fnExactHostSteps", unfollowed := true, recurses := true, apart := false }
def FnExactHostStepsSaid : Prop := fnExactHostStepsRow.holds Tryz.pinned (OpenSpec.ofChange fnExactHostStepsSpec)

/-- ITS FALSE NEIGHBOUR: 'it returns false'. Refute it at one input. -/
def fnExactHostStepsWrong : ChangeSpec := { name := "fnExactHostSteps", fn := fun _ => fun
  | [d1, d2, d3] => { results := [.lit (.bool false)], args := [d1, d2, d3] }
  | _ => none }
def FnExactHostStepsWrongFalsely : Prop := fnExactHostStepsRow.holds Tryz.pinned (OpenSpec.ofChange fnExactHostStepsWrong)

/-- 'laws.FnExactHostAct': WHATEVER THE INPUT: true; the input reads as it did. -/
def fnExactHostActSpec : ChangeSpec := { name := "fnExactHostAct", fn := fun _ => fun
  | [d1, d2] => { results := [.lit (.bool true)], args := [d1, d2] }
  | _ => none }
def fnExactHostActRow : OpenClaim := { program := "ytjlocpdfcanlhaagreat", sum := "bbba19ed5a439dcc2454250c01cfed4c7f43f3153b8a7721da0b26e4f2f1c3c2", func := "loop.example/g00975/laws.FnExactHostAct", spec := "fnExactHostAct", unfollowed := true, recurses := true, apart := false }
def FnExactHostActSaid : Prop := fnExactHostActRow.holds Tryz.pinned (OpenSpec.ofChange fnExactHostActSpec)

/-- ITS FALSE NEIGHBOUR: 'it returns false'. Refute it at one input. -/
def fnExactHostActWrong : ChangeSpec := { name := "fnExactHostAct", fn := fun _ => fun
  | [d1, d2] => { results := [.lit (.bool false)], args := [d1, d2] }
  | _ => none }
def FnExactHostActWrongFalsely : Prop := fnExactHostActRow.holds Tryz.pinned (OpenSpec.ofChange fnExactHostActWrong)

/- THE SECOND FORM. 'bulk': how many values and letters a reading holds, each counted each time it is reached (what is shared counts as often as it is met; a slice's spare places count too). A statement '..UptoSaid' is the law's where the arguments, and the package variables that the reading takes, are together of bulk at most 1048576: NARROWER than '..Said'. Prove '..Said' where nothing that the law and all that it calls make is longer than what came in: it says more and counts as full. Else prove '..UptoSaid'. A law counts once. -/
mutual
def uptoBulk {H : Type} : DataW H → Nat
  | .lit (.string bytes) => bytes.length + 1
  | .lit _ => 1
  | .nil => 1
  | .ptr d => uptoBulk d + 1
  | .slice elems spare => uptoBulkAll elems + uptoBulkAll spare + 1
  | .agg parts => uptoBulkAll parts + 1
  | .iface _ d => uptoBulk d + 1
  | .map entries => uptoBulkEntries entries + 1
  | .held _ => 1
def uptoBulkAll {H : Type} : List (DataW H) → Nat
  | [] => 0
  | d :: r => uptoBulk d + uptoBulkAll r
def uptoBulkEntries {H : Type} : List (Lit × DataW H) → Nat
  | [] => 0
  | x :: r => uptoBulkEntry x + uptoBulkEntries r
def uptoBulkEntry {H : Type} : Lit × DataW H → Nat
  | (.string bytes, d) => bytes.length + uptoBulk d + 1
  | (_, d) => uptoBulk d + 1
 end
def uptoSmall : (H : Type) → List (DataW H) → Bool := fun _ ds => decide (uptoBulkAll ds ≤ 1048576)
def OpenSpec.upto (s : _root_.Go.ChangeSpec) : _root_.Go.OpenSpec := { _root_.Go.OpenSpec.ofChange s with cond := some uptoSmall }

/-- 'laws.FnExactHostStep', WHERE WHAT IT READS IS OF BULK AT MOST 1048576: true; the input reads as it did. -/
def fnExactHostStepUptoRow : OpenClaim := { program := "ytjlocpdfcanlhaagreat", sum := "bbba19ed5a439dcc2454250c01cfed4c7f43f3153b8a7721da0b26e4f2f1c3c2", func := "loop.example/g00975/laws.FnExactHostStep", spec := "fnExactHostStep", unfollowed := true, recurses := true, apart := false, narrowed := true }
def FnExactHostStepUptoSaid : Prop := fnExactHostStepUptoRow.holds Tryz.pinned (OpenSpec.upto fnExactHostStepSpec)

/-- 'laws.FnExactHostSteps', WHERE WHAT IT READS IS OF BULK AT MOST 1048576: true; the input reads as it did. -/
def fnExactHostStepsUptoRow : OpenClaim := { program := "ytjlocpdfcanlhaagreat", sum := "bbba19ed5a439dcc2454250c01cfed4c7f43f3153b8a7721da0b26e4f2f1c3c2", func := "loop.example/g00975/laws.FnExactHostSteps", spec := "fnExactHostSteps", unfollowed := true, recurses := true, apart := false, narrowed := true }
def FnExactHostStepsUptoSaid : Prop := fnExactHostStepsUptoRow.holds Tryz.pinned (OpenSpec.upto fnExactHostStepsSpec)

/-- 'laws.FnExactHostAct', WHERE WHAT IT READS IS OF BULK AT MOST 1048576: true; the input reads as it did. -/
def fnExactHostActUptoRow : OpenClaim := { program := "ytjlocpdfcanlhaagreat", sum := "bbba19ed5a439dcc2454250c01cfed4c7f43f3153b8a7721da0b26e4f2f1c3c2", func := "loop.example/g00975/laws.FnExactHostAct", spec := "fnExactHostAct", unfollowed := true, recurses := true, apart := false, narrowed := true }
def FnExactHostActUptoSaid : Prop := fnExactHostActUptoRow.holds Tryz.pinned (OpenSpec.upto fnExactHostActSpec)

end Rows
end Go.Proofs.YtjlocpdfcanlhaaGreat
