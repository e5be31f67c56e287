/-
  No cell of these rows narrows 'for every input' (looked for: loops, veiled, ifaces, maps, wideKeys, modest, calm, conditions, laid).
  DERIVED. THE GIVEN ROWS OF THIS SEAT. 4 by the template 'for every input the law returns true; each argument reads behind the call as it read before'; 0 by the template 'total and deterministic' (their statements: YtpjhamcanhnfjaaTotals.lean).
  GIVEN WITH THE SEED: the statements are not yours to turn. If you find one false, say at which input.
  Laid BY PROGRAM, IN A SANDBOX (cutbox-rows.mjs): the forced cells as the released guide's own fill.sh prints them over the translation 76bbdb8391471c70… (all of the seat's roots in one cut). By AI agents, Wed Nov 11 2026. No macro, syntax, notation, axiom, sorry.
-/
import Derived.Test.YtpjhamcanhnfjaaChecked
import GoSem.Claim
import GoSem.ClaimJoined
import GoSem.ClaimMapViews
import Derived.JoinedTies
import Derived.KernelRfl
namespace Go.Proofs.Ytpjhamcanhnfjaa
/- THE CELL 'sum', in the pinned program and in every row, IS THE sha256 OF THE DUMP (.gsa) THAT YtpjhamcanhnfjaaProg.lean LOADS. Nothing in Lean hashes anything: it is a label: what it is worth is what the hold of that sum in a sandbox is worth. -/
noncomputable def Try.pinned : Pinned := { name := "ytpjhamcanhnfjaa", sum := "76bbdb8391471c70d7dd2a063b6c75e92327956ceaede4545a43772ede84c7f9", checked := Try.checked }
namespace Rows
def none {H : Type} : Left H := { results := [], args := [] }

/-- 'laws.FnManyMons': WHATEVER THE INPUT: true; the input reads as it did. -/
def fnManyMonsSpec : ChangeSpec := { name := "fnManyMons", fn := fun _ => fun
  | [d] => { results := [.lit (.bool true)], args := [d] }
  | _ => none }
def fnManyMonsRow : OpenClaim := { program := "ytpjhamcanhnfjaa", sum := "76bbdb8391471c70d7dd2a063b6c75e92327956ceaede4545a43772ede84c7f9", func := "loop.example/g00975/laws.FnManyMons", spec := "fnManyMons", apart := false }
def FnManyMonsSaid : Prop := fnManyMonsRow.holds Try.pinned (OpenSpec.ofChange fnManyMonsSpec)

/-- ITS FALSE NEIGHBOUR: 'it returns false'. Refute it at one input. -/
def fnManyMonsWrong : ChangeSpec := { name := "fnManyMons", fn := fun _ => fun
  | [d] => { results := [.lit (.bool false)], args := [d] }
  | _ => none }
def FnManyMonsWrongFalsely : Prop := fnManyMonsRow.holds Try.pinned (OpenSpec.ofChange fnManyMonsWrong)

/-- 'laws.FnKept': WHATEVER THE INPUT: true; the input reads as it did. -/
def fnKeptSpec : ChangeSpec := { name := "fnKept", fn := fun _ => fun
  | [d] => { results := [.lit (.bool true)], args := [d] }
  | _ => none }
def fnKeptRow : OpenClaim := { program := "ytpjhamcanhnfjaa", sum := "76bbdb8391471c70d7dd2a063b6c75e92327956ceaede4545a43772ede84c7f9", func := "loop.example/g00975/laws.FnKept", spec := "fnKept", apart := false }
def FnKeptSaid : Prop := fnKeptRow.holds Try.pinned (OpenSpec.ofChange fnKeptSpec)

/-- ITS FALSE NEIGHBOUR: 'it returns false'. Refute it at one input. -/
def fnKeptWrong : ChangeSpec := { name := "fnKept", fn := fun _ => fun
  | [d] => { results := [.lit (.bool false)], args := [d] }
  | _ => none }
def FnKeptWrongFalsely : Prop := fnKeptRow.holds Try.pinned (OpenSpec.ofChange fnKeptWrong)

/-- 'laws.FnExactBarePost': WHATEVER THE INPUT: true; the input reads as it did. -/
def fnExactBarePostSpec : ChangeSpec := { name := "fnExactBarePost", fn := fun _ => fun
  | [d1, d2] => { results := [.lit (.bool true)], args := [d1, d2] }
  | _ => none }
def fnExactBarePostRow : OpenClaim := { program := "ytpjhamcanhnfjaa", sum := "76bbdb8391471c70d7dd2a063b6c75e92327956ceaede4545a43772ede84c7f9", func := "loop.example/g00975/laws.FnExactBarePost", spec := "fnExactBarePost", apart := false }
def FnExactBarePostSaid : Prop := fnExactBarePostRow.holds Try.pinned (OpenSpec.ofChange fnExactBarePostSpec)

/-- ITS FALSE NEIGHBOUR: 'it returns false'. Refute it at one input. -/
def fnExactBarePostWrong : ChangeSpec := { name := "fnExactBarePost", fn := fun _ => fun
  | [d1, d2] => { results := [.lit (.bool false)], args := [d1, d2] }
  | _ => none }
def FnExactBarePostWrongFalsely : Prop := fnExactBarePostRow.holds Try.pinned (OpenSpec.ofChange fnExactBarePostWrong)

/-- 'laws.FnExactBareAck': WHATEVER THE INPUT: true; the input reads as it did. -/
def fnExactBareAckSpec : ChangeSpec := { name := "fnExactBareAck", fn := fun _ => fun
  | [d] => { results := [.lit (.bool true)], args := [d] }
  | _ => none }
def fnExactBareAckRow : OpenClaim := { program := "ytpjhamcanhnfjaa", sum := "76bbdb8391471c70d7dd2a063b6c75e92327956ceaede4545a43772ede84c7f9", func := "loop.example/g00975/laws.FnExactBareAck", spec := "fnExactBareAck", apart := false }
def FnExactBareAckSaid : Prop := fnExactBareAckRow.holds Try.pinned (OpenSpec.ofChange fnExactBareAckSpec)

/-- ITS FALSE NEIGHBOUR: 'it returns false'. Refute it at one input. -/
def fnExactBareAckWrong : ChangeSpec := { name := "fnExactBareAck", fn := fun _ => fun
  | [d] => { results := [.lit (.bool false)], args := [d] }
  | _ => none }
def FnExactBareAckWrongFalsely : Prop := fnExactBareAckRow.holds Try.pinned (OpenSpec.ofChange fnExactBareAckWrong)

/- THE SECOND FORM. 'bulk': how many values and letters a reading holds, each counted each time it is reached (what is shared counts as often as it is met; a slice's spare places count too). A statement '..UptoSaid' is the law's where the arguments, and the package variables that the reading takes, are together of bulk at most 1048576: NARROWER than '..Said'. Prove '..Said' where nothing that the law and all that it calls make is longer than what came in: it says more and counts as full. Else prove '..UptoSaid'. A law counts once. -/
mutual
def uptoBulk {H : Type} : DataW H → Nat
  | .lit (.string bytes) => bytes.length + 1
  | .lit _ => 1
  | .nil => 1
  | .ptr d => uptoBulk d + 1
  | .slice elems spare => uptoBulkAll elems + uptoBulkAll spare + 1
  | .agg parts => uptoBulkAll parts + 1
  | .iface _ d => uptoBulk d + 1
  | .map entries => uptoBulkEntries entries + 1
  | .held _ => 1
def uptoBulkAll {H : Type} : List (DataW H) → Nat
  | [] => 0
  | d :: r => uptoBulk d + uptoBulkAll r
def uptoBulkEntries {H : Type} : List (Lit × DataW H) → Nat
  | [] => 0
  | x :: r => uptoBulkEntry x + uptoBulkEntries r
def uptoBulkEntry {H : Type} : Lit × DataW H → Nat
  | (.string bytes, d) => bytes.length + uptoBulk d + 1
  | (_, d) => uptoBulk d + 1
 end
def uptoSmall : (H : Type) → List (DataW H) → Bool := fun _ ds => decide (uptoBulkAll ds ≤ 1048576)
def OpenSpec.upto (s : _root_.Go.ChangeSpec) : _root_.Go.OpenSpec := { _root_.Go.OpenSpec.ofChange s with cond := some uptoSmall }

/-- 'laws.FnManyMons', WHERE WHAT IT READS IS OF BULK AT MOST 1048576: true; the input reads as it did. -/
def fnManyMonsUptoRow : OpenClaim := { program := "ytpjhamcanhnfjaa", sum := "76bbdb8391471c70d7dd2a063b6c75e92327956ceaede4545a43772ede84c7f9", func := "loop.example/g00975/laws.FnManyMons", spec := "fnManyMons", apart := false, narrowed := true }
def FnManyMonsUptoSaid : Prop := fnManyMonsUptoRow.holds Try.pinned (OpenSpec.upto fnManyMonsSpec)

/-- 'laws.FnKept', WHERE WHAT IT READS IS OF BULK AT MOST 1048576: true; the input reads as it did. -/
def fnKeptUptoRow : OpenClaim := { program := "ytpjhamcanhnfjaa", sum := "76bbdb8391471c70d7dd2a063b6c75e92327956ceaede4545a43772ede84c7f9", func := "loop.example/g00975/laws.FnKept", spec := "fnKept", apart := false, narrowed := true }
def FnKeptUptoSaid : Prop := fnKeptUptoRow.holds Try.pinned (OpenSpec.upto fnKeptSpec)

/-- 'laws.FnExactBarePost', WHERE WHAT IT READS IS OF BULK AT MOST 1048576: true; the input reads as it did. -/
def fnExactBarePostUptoRow : OpenClaim := { program := "ytpjhamcanhnfjaa", sum := "76bbdb8391471c70d7dd2a063b6c75e92327956ceaede4545a43772ede84c7f9", func := "loop.example/g00975/laws.FnExactBarePost", spec := "fnExactBarePost", apart := false, narrowed := true }
def FnExactBarePostUptoSaid : Prop := fnExactBarePostUptoRow.holds Try.pinned (OpenSpec.upto fnExactBarePostSpec)

/-- 'laws.FnExactBareAck', WHERE WHAT IT READS IS OF BULK AT MOST 1048576: true; the input reads as it did. -/
def fnExactBareAckUptoRow : OpenClaim := { program := "ytpjhamcanhnfjaa", sum := "76bbdb8391471c70d7dd2a063b6c75e92327956ceaede4545a43772ede84c7f9", func := "loop.example/g00975/laws.FnExactBareAck", spec := "fnExactBareAck", apart := false, narrowed := true }
def FnExactBareAckUptoSaid : Prop := fnExactBareAckUptoRow.holds Try.pinned (OpenSpec.upto fnExactBareAckSpec)

end Rows
end Go.Proofs.Ytpjhamcanhnfjaa
