/-
  No cell of these rows narrows 'for every input' (looked for: loops, veiled, ifaces, maps, wideKeys, modest, calm, conditions, laid).
  DERIVED. THE GIVEN ROWS OF THIS SEAT. 6 by the template 'for every input the law returns true; each argument reads behind the call as it read before'; 0 by the template 'total and deterministic' (their statements: YtkbcponpcghjpaaGreatTotals.lean).
  GIVEN WITH THE SEED: the statements are not yours to turn. If you find one false, say at which input.
  Laid BY PROGRAM, IN A SANDBOX (cutbox-rows.mjs): the forced cells as the released guide's own fill.sh prints them over the translation 5c48d9734a75c79b… (all of the seat's roots in one cut). By AI agents, Wed Nov 11 2026. No macro, syntax, notation, axiom, sorry.
-/
import Derived.Test.YtkbcponpcghjpaaGreatChecked
import GoSem.Claim
import GoSem.ClaimJoined
import GoSem.ClaimMapViews
import Derived.JoinedTies
import Derived.KernelRfl
namespace Go.Proofs.YtkbcponpcghjpaaGreat
/- THE CELL 'sum', in the pinned program and in every row, IS THE sha256 OF THE DUMP (.gsa) THAT YtkbcponpcghjpaaGreatProg.lean LOADS. Nothing in Lean hashes anything: it is a label: what it is worth is what the hold of that sum in a sandbox is worth. -/
noncomputable def Tryz.pinned : Pinned := { name := "ytkbcponpcghjpaagreat", sum := "5c48d9734a75c79b80ad4eaae2b64b1b888ccd5333b96e4dcc1604929f4c560d", checked := Tryz.checked }
namespace Rows
def none {H : Type} : Left H := { results := [], args := [] }

/-- 'laws.FnExactHostSet': WHATEVER THE INPUT: true; the input reads as it did. -/
def fnExactHostSetSpec : ChangeSpec := { name := "fnExactHostSet", fn := fun _ => fun
  | [d1, d2, d3, d4, d5] => { results := [.lit (.bool true)], args := [d1, d2, d3, d4, d5] }
  | _ => none }
def fnExactHostSetRow : OpenClaim := { program := "ytkbcponpcghjpaagreat", sum := "5c48d9734a75c79b80ad4eaae2b64b1b888ccd5333b96e4dcc1604929f4c560d", func := "loop.example/g00975/laws.FnExactHostSet", spec := "fnExactHostSet", unfollowed := true, recurses := true, apart := false }
def FnExactHostSetSaid : Prop := fnExactHostSetRow.holds Tryz.pinned (OpenSpec.ofChange fnExactHostSetSpec)

/-- ITS FALSE NEIGHBOUR: 'it returns false'. Refute it at one input. -/
def fnExactHostSetWrong : ChangeSpec := { name := "fnExactHostSet", fn := fun _ => fun
  | [d1, d2, d3, d4, d5] => { results := [.lit (.bool false)], args := [d1, d2, d3, d4, d5] }
  | _ => none }
def FnExactHostSetWrongFalsely : Prop := fnExactHostSetRow.holds Tryz.pinned (OpenSpec.ofChange fnExactHostSetWrong)

/-- 'laws.FnExactHostInject': WHATEVER THE INPUT: true; the input reads as it did. -/
def fnExactHostInjectSpec : ChangeSpec := { name := "fnExactHostInject", fn := fun _ => fun
  | [d1, d2, d3, d4] => { results := [.lit (.bool true)], args := [d1, d2, d3, d4] }
  | _ => none }
def fnExactHostInjectRow : OpenClaim := { program := "ytkbcponpcghjpaagreat", sum := "5c48d9734a75c79b80ad4eaae2b64b1b888ccd5333b96e4dcc1604929f4c560d", func := "loop.example/g00975/laws.FnExactHostInject", spec := "fnExactHostInject", unfollowed := true, recurses := true, apart := false }
def FnExactHostInjectSaid : Prop := fnExactHostInjectRow.holds Tryz.pinned (OpenSpec.ofChange fnExactHostInjectSpec)

/-- ITS FALSE NEIGHBOUR: 'it returns false'. Refute it at one input. -/
def fnExactHostInjectWrong : ChangeSpec := { name := "fnExactHostInject", fn := fun _ => fun
  | [d1, d2, d3, d4] => { results := [.lit (.bool false)], args := [d1, d2, d3, d4] }
  | _ => none }
def FnExactHostInjectWrongFalsely : Prop := fnExactHostInjectRow.holds Tryz.pinned (OpenSpec.ofChange fnExactHostInjectWrong)

/-- 'laws.FnExactHostPost': WHATEVER THE INPUT: true; the input reads as it did. -/
def fnExactHostPostSpec : ChangeSpec := { name := "fnExactHostPost", fn := fun _ => fun
  | [d1, d2, d3] => { results := [.lit (.bool true)], args := [d1, d2, d3] }
  | _ => none }
def fnExactHostPostRow : OpenClaim := { program := "ytkbcponpcghjpaagreat", sum := "5c48d9734a75c79b80ad4eaae2b64b1b888ccd5333b96e4dcc1604929f4c560d", func := "loop.example/g00975/laws.FnExactHostPost", spec := "fnExactHostPost", unfollowed := true, recurses := true, apart := false }
def FnExactHostPostSaid : Prop := fnExactHostPostRow.holds Tryz.pinned (OpenSpec.ofChange fnExactHostPostSpec)

/-- ITS FALSE NEIGHBOUR: 'it returns false'. Refute it at one input. -/
def fnExactHostPostWrong : ChangeSpec := { name := "fnExactHostPost", fn := fun _ => fun
  | [d1, d2, d3] => { results := [.lit (.bool false)], args := [d1, d2, d3] }
  | _ => none }
def FnExactHostPostWrongFalsely : Prop := fnExactHostPostRow.holds Tryz.pinned (OpenSpec.ofChange fnExactHostPostWrong)

/-- 'laws.FnExactHostAnswer': WHATEVER THE INPUT: true; the input reads as it did. -/
def fnExactHostAnswerSpec : ChangeSpec := { name := "fnExactHostAnswer", fn := fun _ => fun
  | [d1, d2, d3, d4] => { results := [.lit (.bool true)], args := [d1, d2, d3, d4] }
  | _ => none }
def fnExactHostAnswerRow : OpenClaim := { program := "ytkbcponpcghjpaagreat", sum := "5c48d9734a75c79b80ad4eaae2b64b1b888ccd5333b96e4dcc1604929f4c560d", func := "loop.example/g00975/laws.FnExactHostAnswer", spec := "fnExactHostAnswer", unfollowed := true, recurses := true, apart := false }
def FnExactHostAnswerSaid : Prop := fnExactHostAnswerRow.holds Tryz.pinned (OpenSpec.ofChange fnExactHostAnswerSpec)

/-- ITS FALSE NEIGHBOUR: 'it returns false'. Refute it at one input. -/
def fnExactHostAnswerWrong : ChangeSpec := { name := "fnExactHostAnswer", fn := fun _ => fun
  | [d1, d2, d3, d4] => { results := [.lit (.bool false)], args := [d1, d2, d3, d4] }
  | _ => none }
def FnExactHostAnswerWrongFalsely : Prop := fnExactHostAnswerRow.holds Tryz.pinned (OpenSpec.ofChange fnExactHostAnswerWrong)

/-- 'laws.FnExactHostResume': WHATEVER THE INPUT: true; the input reads as it did. -/
def fnExactHostResumeSpec : ChangeSpec := { name := "fnExactHostResume", fn := fun _ => fun
  | [d1, d2, d3] => { results := [.lit (.bool true)], args := [d1, d2, d3] }
  | _ => none }
def fnExactHostResumeRow : OpenClaim := { program := "ytkbcponpcghjpaagreat", sum := "5c48d9734a75c79b80ad4eaae2b64b1b888ccd5333b96e4dcc1604929f4c560d", func := "loop.example/g00975/laws.FnExactHostResume", spec := "fnExactHostResume", unfollowed := true, recurses := true, apart := false }
def FnExactHostResumeSaid : Prop := fnExactHostResumeRow.holds Tryz.pinned (OpenSpec.ofChange fnExactHostResumeSpec)

/-- ITS FALSE NEIGHBOUR: 'it returns false'. Refute it at one input. -/
def fnExactHostResumeWrong : ChangeSpec := { name := "fnExactHostResume", fn := fun _ => fun
  | [d1, d2, d3] => { results := [.lit (.bool false)], args := [d1, d2, d3] }
  | _ => none }
def FnExactHostResumeWrongFalsely : Prop := fnExactHostResumeRow.holds Tryz.pinned (OpenSpec.ofChange fnExactHostResumeWrong)

/-- 'laws.FnExactHostAck': WHATEVER THE INPUT: true; the input reads as it did. -/
def fnExactHostAckSpec : ChangeSpec := { name := "fnExactHostAck", fn := fun _ => fun
  | [d1, d2] => { results := [.lit (.bool true)], args := [d1, d2] }
  | _ => none }
def fnExactHostAckRow : OpenClaim := { program := "ytkbcponpcghjpaagreat", sum := "5c48d9734a75c79b80ad4eaae2b64b1b888ccd5333b96e4dcc1604929f4c560d", func := "loop.example/g00975/laws.FnExactHostAck", spec := "fnExactHostAck", unfollowed := true, recurses := true, apart := false }
def FnExactHostAckSaid : Prop := fnExactHostAckRow.holds Tryz.pinned (OpenSpec.ofChange fnExactHostAckSpec)

/-- ITS FALSE NEIGHBOUR: 'it returns false'. Refute it at one input. -/
def fnExactHostAckWrong : ChangeSpec := { name := "fnExactHostAck", fn := fun _ => fun
  | [d1, d2] => { results := [.lit (.bool false)], args := [d1, d2] }
  | _ => none }
def FnExactHostAckWrongFalsely : Prop := fnExactHostAckRow.holds Tryz.pinned (OpenSpec.ofChange fnExactHostAckWrong)

/- THE SECOND FORM. 'bulk': how many values and letters a reading holds, each counted each time it is reached (what is shared counts as often as it is met; a slice's spare places count too). A statement '..UptoSaid' is the law's where the arguments, and the package variables that the reading takes, are together of bulk at most 1048576: NARROWER than '..Said'. Prove '..Said' where nothing that the law and all that it calls make is longer than what came in: it says more and counts as full. Else prove '..UptoSaid'. A law counts once. -/
mutual
def uptoBulk {H : Type} : DataW H → Nat
  | .lit (.string bytes) => bytes.length + 1
  | .lit _ => 1
  | .nil => 1
  | .ptr d => uptoBulk d + 1
  | .slice elems spare => uptoBulkAll elems + uptoBulkAll spare + 1
  | .agg parts => uptoBulkAll parts + 1
  | .iface _ d => uptoBulk d + 1
  | .map entries => uptoBulkEntries entries + 1
  | .held _ => 1
def uptoBulkAll {H : Type} : List (DataW H) → Nat
  | [] => 0
  | d :: r => uptoBulk d + uptoBulkAll r
def uptoBulkEntries {H : Type} : List (Lit × DataW H) → Nat
  | [] => 0
  | x :: r => uptoBulkEntry x + uptoBulkEntries r
def uptoBulkEntry {H : Type} : Lit × DataW H → Nat
  | (.string bytes, d) => bytes.length + uptoBulk d + 1
  | (_, d) => uptoBulk d + 1
 end
def uptoSmall : (H : Type) → List (DataW H) → Bool := fun _ ds => decide (uptoBulkAll ds ≤ 1048576)
def OpenSpec.upto (s : _root_.Go.ChangeSpec) : _root_.Go.OpenSpec := { _root_.Go.OpenSpec.ofChange s with cond := some uptoSmall }

/-- 'laws.FnExactHostSet', WHERE WHAT IT READS IS OF BULK AT MOST 1048576: true; the input reads as it did. -/
def fnExactHostSetUptoRow : OpenClaim := { program := "ytkbcponpcghjpaagreat", sum := "5c48d9734a75c79b80ad4eaae2b64b1b888ccd5333b96e4dcc1604929f4c560d", func := "loop.example/g00975/laws.FnExactHostSet", spec := "fnExactHostSet", unfollowed := true, recurses := true, apart := false, narrowed := true }
def FnExactHostSetUptoSaid : Prop := fnExactHostSetUptoRow.holds Tryz.pinned (OpenSpec.upto fnExactHostSetSpec)

/-- 'laws.FnExactHostInject', WHERE WHAT IT READS IS OF BULK AT MOST 1048576: true; the input reads as it did. -/
def fnExactHostInjectUptoRow : OpenClaim := { program := "ytkbcponpcghjpaagreat", sum := "5c48d9734a75c79b80ad4eaae2b64b1b888ccd5333b96e4dcc1604929f4c560d", func := "loop.example/g00975/laws.FnExactHostInject", spec := "fnExactHostInject", unfollowed := true, recurses := true, apart := false, narrowed := true }
def FnExactHostInjectUptoSaid : Prop := fnExactHostInjectUptoRow.holds Tryz.pinned (OpenSpec.upto fnExactHostInjectSpec)

/-- 'laws.FnExactHostPost', WHERE WHAT IT READS IS OF BULK AT MOST 1048576: true; the input reads as it did. -/
def fnExactHostPostUptoRow : OpenClaim := { program := "ytkbcponpcghjpaagreat", sum := "5c48d9734a75c79b80ad4eaae2b64b1b888ccd5333b96e4dcc1604929f4c560d", func := "loop.example/g00975/laws.FnExactHostPost", spec := "fnExactHostPost", unfollowed := true, recurses := true, apart := false, narrowed := true }
def FnExactHostPostUptoSaid : Prop := fnExactHostPostUptoRow.holds Tryz.pinned (OpenSpec.upto fnExactHostPostSpec)

/-- 'laws.FnExactHostAnswer', WHERE WHAT IT READS IS OF BULK AT MOST 1048576: true; the input reads as it did. -/
def fnExactHostAnswerUptoRow : OpenClaim := { program := "ytkbcponpcghjpaagreat", sum := "5c48d9734a75c79b80ad4eaae2b64b1b888ccd5333b96e4dcc1604929f4c560d", func := "loop.example/g00975/laws.FnExactHostAnswer", spec := "fnExactHostAnswer", unfollowed := true, recurses := true, apart := false, narrowed := true }
def FnExactHostAnswerUptoSaid : Prop := fnExactHostAnswerUptoRow.holds Tryz.pinned (OpenSpec.upto fnExactHostAnswerSpec)

/-- 'laws.FnExactHostResume', WHERE WHAT IT READS IS OF BULK AT MOST 1048576: true; the input reads as it did. -/
def fnExactHostResumeUptoRow : OpenClaim := { program := "ytkbcponpcghjpaagreat", sum := "5c48d9734a75c79b80ad4eaae2b64b1b888ccd5333b96e4dcc1604929f4c560d", func := "loop.example/g00975/laws.FnExactHostResume", spec := "fnExactHostResume", unfollowed := true, recurses := true, apart := false, narrowed := true }
def FnExactHostResumeUptoSaid : Prop := fnExactHostResumeUptoRow.holds Tryz.pinned (OpenSpec.upto fnExactHostResumeSpec)

/-- 'laws.FnExactHostAck', WHERE WHAT IT READS IS OF BULK AT MOST 1048576: true; the input reads as it did. -/
def fnExactHostAckUptoRow : OpenClaim := { program := "ytkbcponpcghjpaagreat", sum := "5c48d9734a75c79b80ad4eaae2b64b1b888ccd5333b96e4dcc1604929f4c560d", func := "loop.example/g00975/laws.FnExactHostAck", spec := "fnExactHostAck", unfollowed := true, recurses := true, apart := false, narrowed := true }
def FnExactHostAckUptoSaid : Prop := fnExactHostAckUptoRow.holds Tryz.pinned (OpenSpec.upto fnExactHostAckSpec)

end Rows
end Go.Proofs.YtkbcponpcghjpaaGreat
