/-
  No cell of these rows narrows 'for every input' (looked for: loops, veiled, ifaces, maps, wideKeys, modest, calm, conditions, laid).
  DERIVED. THE GIVEN ROWS OF THIS SEAT. 4 by the template 'for every input the law returns true; each argument reads behind the call as it read before'; 0 by the template 'total and deterministic' (their statements: YtacgkoohinlhjaaTotals.lean).
  GIVEN WITH THE SEED: the statements are not yours to turn. If you find one false, say at which input.
  Laid BY PROGRAM, IN A SANDBOX (cutbox-rows.mjs): the forced cells as the released guide's own fill.sh prints them over the translation e81eb08504f69235… (all of the seat's roots in one cut). By AI agents, Wed Nov 11 2026. No macro, syntax, notation, axiom, sorry.
-/
import Derived.Test.YtacgkoohinlhjaaChecked
import GoSem.Claim
import GoSem.ClaimJoined
import GoSem.ClaimMapViews
import Derived.JoinedTies
import Derived.KernelRfl
namespace Go.Proofs.Ytacgkoohinlhjaa
/- THE CELL 'sum', in the pinned program and in every row, IS THE sha256 OF THE DUMP (.gsa) THAT YtacgkoohinlhjaaProg.lean LOADS. Nothing in Lean hashes anything: it is a label: what it is worth is what the hold of that sum in a sandbox is worth. -/
noncomputable def Try.pinned : Pinned := { name := "ytacgkoohinlhjaa", sum := "e81eb08504f69235f03cc18c513c677f9a2ffdb18338ff53b76ae036997eacd5", checked := Try.checked }
namespace Rows
def none {H : Type} : Left H := { results := [], args := [] }

/-- 'laws.FnExactWithMon': WHATEVER THE INPUT: true; the input reads as it did. -/
def fnExactWithMonSpec : ChangeSpec := { name := "fnExactWithMon", fn := fun _ => fun
  | [d1, d2, d3] => { results := [.lit (.bool true)], args := [d1, d2, d3] }
  | _ => none }
def fnExactWithMonRow : OpenClaim := { program := "ytacgkoohinlhjaa", sum := "e81eb08504f69235f03cc18c513c677f9a2ffdb18338ff53b76ae036997eacd5", func := "loop.example/g00975/laws.FnExactWithMon", spec := "fnExactWithMon", apart := false }
def FnExactWithMonSaid : Prop := fnExactWithMonRow.holds Try.pinned (OpenSpec.ofChange fnExactWithMonSpec)

/-- ITS FALSE NEIGHBOUR: 'it returns false'. Refute it at one input. -/
def fnExactWithMonWrong : ChangeSpec := { name := "fnExactWithMon", fn := fun _ => fun
  | [d1, d2, d3] => { results := [.lit (.bool false)], args := [d1, d2, d3] }
  | _ => none }
def FnExactWithMonWrongFalsely : Prop := fnExactWithMonRow.holds Try.pinned (OpenSpec.ofChange fnExactWithMonWrong)

/-- 'laws.FnExactSeenAs': WHATEVER THE INPUT: true; the input reads as it did. -/
def fnExactSeenAsSpec : ChangeSpec := { name := "fnExactSeenAs", fn := fun _ => fun
  | [d1, d2] => { results := [.lit (.bool true)], args := [d1, d2] }
  | _ => none }
def fnExactSeenAsRow : OpenClaim := { program := "ytacgkoohinlhjaa", sum := "e81eb08504f69235f03cc18c513c677f9a2ffdb18338ff53b76ae036997eacd5", func := "loop.example/g00975/laws.FnExactSeenAs", spec := "fnExactSeenAs", apart := false }
def FnExactSeenAsSaid : Prop := fnExactSeenAsRow.holds Try.pinned (OpenSpec.ofChange fnExactSeenAsSpec)

/-- ITS FALSE NEIGHBOUR: 'it returns false'. Refute it at one input. -/
def fnExactSeenAsWrong : ChangeSpec := { name := "fnExactSeenAs", fn := fun _ => fun
  | [d1, d2] => { results := [.lit (.bool false)], args := [d1, d2] }
  | _ => none }
def FnExactSeenAsWrongFalsely : Prop := fnExactSeenAsRow.holds Try.pinned (OpenSpec.ofChange fnExactSeenAsWrong)

/-- 'laws.FnExactAllSeenAs': WHATEVER THE INPUT: true; the input reads as it did. -/
def fnExactAllSeenAsSpec : ChangeSpec := { name := "fnExactAllSeenAs", fn := fun _ => fun
  | [d] => { results := [.lit (.bool true)], args := [d] }
  | _ => none }
def fnExactAllSeenAsRow : OpenClaim := { program := "ytacgkoohinlhjaa", sum := "e81eb08504f69235f03cc18c513c677f9a2ffdb18338ff53b76ae036997eacd5", func := "loop.example/g00975/laws.FnExactAllSeenAs", spec := "fnExactAllSeenAs", apart := false }
def FnExactAllSeenAsSaid : Prop := fnExactAllSeenAsRow.holds Try.pinned (OpenSpec.ofChange fnExactAllSeenAsSpec)

/-- ITS FALSE NEIGHBOUR: 'it returns false'. Refute it at one input. -/
def fnExactAllSeenAsWrong : ChangeSpec := { name := "fnExactAllSeenAs", fn := fun _ => fun
  | [d] => { results := [.lit (.bool false)], args := [d] }
  | _ => none }
def FnExactAllSeenAsWrongFalsely : Prop := fnExactAllSeenAsRow.holds Try.pinned (OpenSpec.ofChange fnExactAllSeenAsWrong)

/-- 'laws.FnExactCold': WHATEVER THE INPUT: true; the input reads as it did. -/
def fnExactColdSpec : ChangeSpec := { name := "fnExactCold", fn := fun _ => fun
  | [d] => { results := [.lit (.bool true)], args := [d] }
  | _ => none }
def fnExactColdRow : OpenClaim := { program := "ytacgkoohinlhjaa", sum := "e81eb08504f69235f03cc18c513c677f9a2ffdb18338ff53b76ae036997eacd5", func := "loop.example/g00975/laws.FnExactCold", spec := "fnExactCold", apart := false }
def FnExactColdSaid : Prop := fnExactColdRow.holds Try.pinned (OpenSpec.ofChange fnExactColdSpec)

/-- ITS FALSE NEIGHBOUR: 'it returns false'. Refute it at one input. -/
def fnExactColdWrong : ChangeSpec := { name := "fnExactCold", fn := fun _ => fun
  | [d] => { results := [.lit (.bool false)], args := [d] }
  | _ => none }
def FnExactColdWrongFalsely : Prop := fnExactColdRow.holds Try.pinned (OpenSpec.ofChange fnExactColdWrong)

/- THE SECOND FORM. 'bulk': how many values and letters a reading holds, each counted each time it is reached (what is shared counts as often as it is met; a slice's spare places count too). A statement '..UptoSaid' is the law's where the arguments, and the package variables that the reading takes, are together of bulk at most 1048576: NARROWER than '..Said'. Prove '..Said' where nothing that the law and all that it calls make is longer than what came in: it says more and counts as full. Else prove '..UptoSaid'. A law counts once. -/
mutual
def uptoBulk {H : Type} : DataW H → Nat
  | .lit (.string bytes) => bytes.length + 1
  | .lit _ => 1
  | .nil => 1
  | .ptr d => uptoBulk d + 1
  | .slice elems spare => uptoBulkAll elems + uptoBulkAll spare + 1
  | .agg parts => uptoBulkAll parts + 1
  | .iface _ d => uptoBulk d + 1
  | .map entries => uptoBulkEntries entries + 1
  | .held _ => 1
def uptoBulkAll {H : Type} : List (DataW H) → Nat
  | [] => 0
  | d :: r => uptoBulk d + uptoBulkAll r
def uptoBulkEntries {H : Type} : List (Lit × DataW H) → Nat
  | [] => 0
  | x :: r => uptoBulkEntry x + uptoBulkEntries r
def uptoBulkEntry {H : Type} : Lit × DataW H → Nat
  | (.string bytes, d) => bytes.length + uptoBulk d + 1
  | (_, d) => uptoBulk d + 1
 end
def uptoSmall : (H : Type) → List (DataW H) → Bool := fun _ ds => decide (uptoBulkAll ds ≤ 1048576)
def OpenSpec.upto (s : _root_.Go.ChangeSpec) : _root_.Go.OpenSpec := { _root_.Go.OpenSpec.ofChange s with cond := some uptoSmall }

/-- 'laws.FnExactWithMon', WHERE WHAT IT READS IS OF BULK AT MOST 1048576: true; the input reads as it did. -/
def fnExactWithMonUptoRow : OpenClaim := { program := "ytacgkoohinlhjaa", sum := "e81eb08504f69235f03cc18c513c677f9a2ffdb18338ff53b76ae036997eacd5", func := "loop.example/g00975/laws.FnExactWithMon", spec := "fnExactWithMon", apart := false, narrowed := true }
def FnExactWithMonUptoSaid : Prop := fnExactWithMonUptoRow.holds Try.pinned (OpenSpec.upto fnExactWithMonSpec)

/-- 'laws.FnExactSeenAs', WHERE WHAT IT READS IS OF BULK AT MOST 1048576: true; the input reads as it did. -/
def fnExactSeenAsUptoRow : OpenClaim := { program := "ytacgkoohinlhjaa", sum := "e81eb08504f69235f03cc18c513c677f9a2ffdb18338ff53b76ae036997eacd5", func := "loop.example/g00975/laws.FnExactSeenAs", spec := "fnExactSeenAs", apart := false, narrowed := true }
def FnExactSeenAsUptoSaid : Prop := fnExactSeenAsUptoRow.holds Try.pinned (OpenSpec.upto fnExactSeenAsSpec)

/-- 'laws.FnExactAllSeenAs', WHERE WHAT IT READS IS OF BULK AT MOST 1048576: true; the input reads as it did. -/
def fnExactAllSeenAsUptoRow : OpenClaim := { program := "ytacgkoohinlhjaa", sum := "e81eb08504f69235f03cc18c513c677f9a2ffdb18338ff53b76ae036997eacd5", func := "loop.example/g00975/laws.FnExactAllSeenAs", spec := "fnExactAllSeenAs", apart := false, narrowed := true }
def FnExactAllSeenAsUptoSaid : Prop := fnExactAllSeenAsUptoRow.holds Try.pinned (OpenSpec.upto fnExactAllSeenAsSpec)

/-- 'laws.FnExactCold', WHERE WHAT IT READS IS OF BULK AT MOST 1048576: true; the input reads as it did. -/
def fnExactColdUptoRow : OpenClaim := { program := "ytacgkoohinlhjaa", sum := "e81eb08504f69235f03cc18c513c677f9a2ffdb18338ff53b76ae036997eacd5", func := "loop.example/g00975/laws.FnExactCold", spec := "fnExactCold", apart := false, narrowed := true }
def FnExactColdUptoSaid : Prop := fnExactColdUptoRow.holds Try.pinned (OpenSpec.upto fnExactColdSpec)

end Rows
end Go.Proofs.Ytacgkoohinlhjaa
