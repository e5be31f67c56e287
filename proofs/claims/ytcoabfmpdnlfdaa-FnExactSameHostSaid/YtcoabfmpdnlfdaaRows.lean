/-
  No cell of these rows narrows 'for every input' (looked for: loops, veiled, ifaces, maps, wideKeys, modest, calm, conditions, laid).
  DERIVED. THE GIVEN ROWS OF THIS SEAT. 6 by the template 'for every input the law returns true; each argument reads behind the call as it read before'; 0 by the template 'total and deterministic' (their statements: YtcoabfmpdnlfdaaTotals.lean).
  GIVEN WITH THE SEED: the statements are not yours to turn. If you find one false, say at which input.
  Laid BY PROGRAM, IN A SANDBOX (cutbox-rows.mjs): the forced cells as the released guide's own fill.sh prints them over the translation 2652c932697fac94… (all of the seat's roots in one cut). By AI agents, Wed Nov 11 2026. No macro, syntax, notation, axiom, sorry.
-/
import Derived.Test.YtcoabfmpdnlfdaaChecked
import GoSem.Claim
import GoSem.ClaimJoined
import GoSem.ClaimMapViews
import Derived.JoinedTies
import Derived.KernelRfl
namespace Go.Proofs.Ytcoabfmpdnlfdaa
/- THE CELL 'sum', in the pinned program and in every row, IS THE sha256 OF THE DUMP (.gsa) THAT YtcoabfmpdnlfdaaProg.lean LOADS. Nothing in Lean hashes anything: it is a label: what it is worth is what the hold of that sum in a sandbox is worth. -/
noncomputable def Try.pinned : Pinned := { name := "ytcoabfmpdnlfdaa", sum := "2652c932697fac943239875141dd1ba12b28b63934f00abd5b3cbd230559173e", checked := Try.checked }
namespace Rows
def none {H : Type} : Left H := { results := [], args := [] }

/-- 'laws.FnExactSameHost': WHATEVER THE INPUT: true; the input reads as it did. -/
def fnExactSameHostSpec : ChangeSpec := { name := "fnExactSameHost", fn := fun _ => fun
  | [d1, d2] => { results := [.lit (.bool true)], args := [d1, d2] }
  | _ => none }
def fnExactSameHostRow : OpenClaim := { program := "ytcoabfmpdnlfdaa", sum := "2652c932697fac943239875141dd1ba12b28b63934f00abd5b3cbd230559173e", func := "loop.example/g00975/laws.FnExactSameHost", spec := "fnExactSameHost", unfollowed := true, recurses := true, apart := false }
def FnExactSameHostSaid : Prop := fnExactSameHostRow.holds Try.pinned (OpenSpec.ofChange fnExactSameHostSpec)

/-- ITS FALSE NEIGHBOUR: 'it returns false'. Refute it at one input. -/
def fnExactSameHostWrong : ChangeSpec := { name := "fnExactSameHost", fn := fun _ => fun
  | [d1, d2] => { results := [.lit (.bool false)], args := [d1, d2] }
  | _ => none }
def FnExactSameHostWrongFalsely : Prop := fnExactSameHostRow.holds Try.pinned (OpenSpec.ofChange fnExactSameHostWrong)

/-- 'laws.FnExactHostOk': WHATEVER THE INPUT: true; the input reads as it did. -/
def fnExactHostOkSpec : ChangeSpec := { name := "fnExactHostOk", fn := fun _ => fun
  | [d] => { results := [.lit (.bool true)], args := [d] }
  | _ => none }
def fnExactHostOkRow : OpenClaim := { program := "ytcoabfmpdnlfdaa", sum := "2652c932697fac943239875141dd1ba12b28b63934f00abd5b3cbd230559173e", func := "loop.example/g00975/laws.FnExactHostOk", spec := "fnExactHostOk", apart := false }
def FnExactHostOkSaid : Prop := fnExactHostOkRow.holds Try.pinned (OpenSpec.ofChange fnExactHostOkSpec)

/-- ITS FALSE NEIGHBOUR: 'it returns false'. Refute it at one input. -/
def fnExactHostOkWrong : ChangeSpec := { name := "fnExactHostOk", fn := fun _ => fun
  | [d] => { results := [.lit (.bool false)], args := [d] }
  | _ => none }
def FnExactHostOkWrongFalsely : Prop := fnExactHostOkRow.holds Try.pinned (OpenSpec.ofChange fnExactHostOkWrong)

/-- 'laws.FnExactPageOf': WHATEVER THE INPUT: true; the input reads as it did. -/
def fnExactPageOfSpec : ChangeSpec := { name := "fnExactPageOf", fn := fun _ => fun
  | [d1, d2, d3] => { results := [.lit (.bool true)], args := [d1, d2, d3] }
  | _ => none }
def fnExactPageOfRow : OpenClaim := { program := "ytcoabfmpdnlfdaa", sum := "2652c932697fac943239875141dd1ba12b28b63934f00abd5b3cbd230559173e", func := "loop.example/g00975/laws.FnExactPageOf", spec := "fnExactPageOf", apart := false }
def FnExactPageOfSaid : Prop := fnExactPageOfRow.holds Try.pinned (OpenSpec.ofChange fnExactPageOfSpec)

/-- ITS FALSE NEIGHBOUR: 'it returns false'. Refute it at one input. -/
def fnExactPageOfWrong : ChangeSpec := { name := "fnExactPageOf", fn := fun _ => fun
  | [d1, d2, d3] => { results := [.lit (.bool false)], args := [d1, d2, d3] }
  | _ => none }
def FnExactPageOfWrongFalsely : Prop := fnExactPageOfRow.holds Try.pinned (OpenSpec.ofChange fnExactPageOfWrong)

/-- 'laws.FnExactMonNew': WHATEVER THE INPUT: true; the input reads as it did. -/
def fnExactMonNewSpec : ChangeSpec := { name := "fnExactMonNew", fn := fun _ => fun
  | [d] => { results := [.lit (.bool true)], args := [d] }
  | _ => none }
def fnExactMonNewRow : OpenClaim := { program := "ytcoabfmpdnlfdaa", sum := "2652c932697fac943239875141dd1ba12b28b63934f00abd5b3cbd230559173e", func := "loop.example/g00975/laws.FnExactMonNew", spec := "fnExactMonNew", apart := false }
def FnExactMonNewSaid : Prop := fnExactMonNewRow.holds Try.pinned (OpenSpec.ofChange fnExactMonNewSpec)

/-- ITS FALSE NEIGHBOUR: 'it returns false'. Refute it at one input. -/
def fnExactMonNewWrong : ChangeSpec := { name := "fnExactMonNew", fn := fun _ => fun
  | [d] => { results := [.lit (.bool false)], args := [d] }
  | _ => none }
def FnExactMonNewWrongFalsely : Prop := fnExactMonNewRow.holds Try.pinned (OpenSpec.ofChange fnExactMonNewWrong)

/-- 'laws.FnExactHostNew': WHATEVER THE INPUT: true; the input reads as it did. -/
def fnExactHostNewSpec : ChangeSpec := { name := "fnExactHostNew", fn := fun _ => fun
  | [d] => { results := [.lit (.bool true)], args := [d] }
  | _ => none }
def fnExactHostNewRow : OpenClaim := { program := "ytcoabfmpdnlfdaa", sum := "2652c932697fac943239875141dd1ba12b28b63934f00abd5b3cbd230559173e", func := "loop.example/g00975/laws.FnExactHostNew", spec := "fnExactHostNew", apart := false }
def FnExactHostNewSaid : Prop := fnExactHostNewRow.holds Try.pinned (OpenSpec.ofChange fnExactHostNewSpec)

/-- ITS FALSE NEIGHBOUR: 'it returns false'. Refute it at one input. -/
def fnExactHostNewWrong : ChangeSpec := { name := "fnExactHostNew", fn := fun _ => fun
  | [d] => { results := [.lit (.bool false)], args := [d] }
  | _ => none }
def FnExactHostNewWrongFalsely : Prop := fnExactHostNewRow.holds Try.pinned (OpenSpec.ofChange fnExactHostNewWrong)

/-- 'laws.FnExactMonAt': WHATEVER THE INPUT: true; the input reads as it did. -/
def fnExactMonAtSpec : ChangeSpec := { name := "fnExactMonAt", fn := fun _ => fun
  | [d1, d2] => { results := [.lit (.bool true)], args := [d1, d2] }
  | _ => none }
def fnExactMonAtRow : OpenClaim := { program := "ytcoabfmpdnlfdaa", sum := "2652c932697fac943239875141dd1ba12b28b63934f00abd5b3cbd230559173e", func := "loop.example/g00975/laws.FnExactMonAt", spec := "fnExactMonAt", apart := false }
def FnExactMonAtSaid : Prop := fnExactMonAtRow.holds Try.pinned (OpenSpec.ofChange fnExactMonAtSpec)

/-- ITS FALSE NEIGHBOUR: 'it returns false'. Refute it at one input. -/
def fnExactMonAtWrong : ChangeSpec := { name := "fnExactMonAt", fn := fun _ => fun
  | [d1, d2] => { results := [.lit (.bool false)], args := [d1, d2] }
  | _ => none }
def FnExactMonAtWrongFalsely : Prop := fnExactMonAtRow.holds Try.pinned (OpenSpec.ofChange fnExactMonAtWrong)

/- THE SECOND FORM. 'bulk': how many values and letters a reading holds, each counted each time it is reached (what is shared counts as often as it is met; a slice's spare places count too). A statement '..UptoSaid' is the law's where the arguments, and the package variables that the reading takes, are together of bulk at most 1048576: NARROWER than '..Said'. Prove '..Said' where nothing that the law and all that it calls make is longer than what came in: it says more and counts as full. Else prove '..UptoSaid'. A law counts once. -/
mutual
def uptoBulk {H : Type} : DataW H → Nat
  | .lit (.string bytes) => bytes.length + 1
  | .lit _ => 1
  | .nil => 1
  | .ptr d => uptoBulk d + 1
  | .slice elems spare => uptoBulkAll elems + uptoBulkAll spare + 1
  | .agg parts => uptoBulkAll parts + 1
  | .iface _ d => uptoBulk d + 1
  | .map entries => uptoBulkEntries entries + 1
  | .held _ => 1
def uptoBulkAll {H : Type} : List (DataW H) → Nat
  | [] => 0
  | d :: r => uptoBulk d + uptoBulkAll r
def uptoBulkEntries {H : Type} : List (Lit × DataW H) → Nat
  | [] => 0
  | x :: r => uptoBulkEntry x + uptoBulkEntries r
def uptoBulkEntry {H : Type} : Lit × DataW H → Nat
  | (.string bytes, d) => bytes.length + uptoBulk d + 1
  | (_, d) => uptoBulk d + 1
 end
def uptoSmall : (H : Type) → List (DataW H) → Bool := fun _ ds => decide (uptoBulkAll ds ≤ 1048576)
def OpenSpec.upto (s : _root_.Go.ChangeSpec) : _root_.Go.OpenSpec := { _root_.Go.OpenSpec.ofChange s with cond := some uptoSmall }

/-- 'laws.FnExactSameHost', WHERE WHAT IT READS IS OF BULK AT MOST 1048576: true; the input reads as it did. -/
def fnExactSameHostUptoRow : OpenClaim := { program := "ytcoabfmpdnlfdaa", sum := "2652c932697fac943239875141dd1ba12b28b63934f00abd5b3cbd230559173e", func := "loop.example/g00975/laws.FnExactSameHost", spec := "fnExactSameHost", unfollowed := true, recurses := true, apart := false, narrowed := true }
def FnExactSameHostUptoSaid : Prop := fnExactSameHostUptoRow.holds Try.pinned (OpenSpec.upto fnExactSameHostSpec)

/-- 'laws.FnExactHostOk', WHERE WHAT IT READS IS OF BULK AT MOST 1048576: true; the input reads as it did. -/
def fnExactHostOkUptoRow : OpenClaim := { program := "ytcoabfmpdnlfdaa", sum := "2652c932697fac943239875141dd1ba12b28b63934f00abd5b3cbd230559173e", func := "loop.example/g00975/laws.FnExactHostOk", spec := "fnExactHostOk", apart := false, narrowed := true }
def FnExactHostOkUptoSaid : Prop := fnExactHostOkUptoRow.holds Try.pinned (OpenSpec.upto fnExactHostOkSpec)

/-- 'laws.FnExactPageOf', WHERE WHAT IT READS IS OF BULK AT MOST 1048576: true; the input reads as it did. -/
def fnExactPageOfUptoRow : OpenClaim := { program := "ytcoabfmpdnlfdaa", sum := "2652c932697fac943239875141dd1ba12b28b63934f00abd5b3cbd230559173e", func := "loop.example/g00975/laws.FnExactPageOf", spec := "fnExactPageOf", apart := false, narrowed := true }
def FnExactPageOfUptoSaid : Prop := fnExactPageOfUptoRow.holds Try.pinned (OpenSpec.upto fnExactPageOfSpec)

/-- 'laws.FnExactMonNew', WHERE WHAT IT READS IS OF BULK AT MOST 1048576: true; the input reads as it did. -/
def fnExactMonNewUptoRow : OpenClaim := { program := "ytcoabfmpdnlfdaa", sum := "2652c932697fac943239875141dd1ba12b28b63934f00abd5b3cbd230559173e", func := "loop.example/g00975/laws.FnExactMonNew", spec := "fnExactMonNew", apart := false, narrowed := true }
def FnExactMonNewUptoSaid : Prop := fnExactMonNewUptoRow.holds Try.pinned (OpenSpec.upto fnExactMonNewSpec)

/-- 'laws.FnExactHostNew', WHERE WHAT IT READS IS OF BULK AT MOST 1048576: true; the input reads as it did. -/
def fnExactHostNewUptoRow : OpenClaim := { program := "ytcoabfmpdnlfdaa", sum := "2652c932697fac943239875141dd1ba12b28b63934f00abd5b3cbd230559173e", func := "loop.example/g00975/laws.FnExactHostNew", spec := "fnExactHostNew", apart := false, narrowed := true }
def FnExactHostNewUptoSaid : Prop := fnExactHostNewUptoRow.holds Try.pinned (OpenSpec.upto fnExactHostNewSpec)

/-- 'laws.FnExactMonAt', WHERE WHAT IT READS IS OF BULK AT MOST 1048576: true; the input reads as it did. -/
def fnExactMonAtUptoRow : OpenClaim := { program := "ytcoabfmpdnlfdaa", sum := "2652c932697fac943239875141dd1ba12b28b63934f00abd5b3cbd230559173e", func := "loop.example/g00975/laws.FnExactMonAt", spec := "fnExactMonAt", apart := false, narrowed := true }
def FnExactMonAtUptoSaid : Prop := fnExactMonAtUptoRow.holds Try.pinned (OpenSpec.upto fnExactMonAtSpec)

end Rows
end Go.Proofs.Ytcoabfmpdnlfdaa
