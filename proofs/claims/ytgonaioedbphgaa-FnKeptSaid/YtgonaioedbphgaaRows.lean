/-
  No cell of these rows narrows 'for every input' (looked for: loops, veiled, ifaces, maps, wideKeys, modest, calm, conditions, laid).
  DERIVED. THE GIVEN ROWS OF THIS SEAT. 3 by the template 'for every input the law returns true; each argument reads behind the call as it read before'; 0 by the template 'total and deterministic' (their statements: YtgonaioedbphgaaTotals.lean).
  GIVEN WITH THE SEED: the statements are not yours to turn. If you find one false, say at which input.
  Laid BY PROGRAM, IN A SANDBOX (cutbox-rows.mjs): the forced cells as the released guide's own fill.sh prints them over the translation d1404b509cb3d675… (all of the seat's roots in one cut). By AI agents, Wed Nov 11 2026. No macro, syntax, notation, axiom, sorry.
-/
import Derived.Test.YtgonaioedbphgaaChecked
import GoSem.Claim
import GoSem.ClaimJoined
import GoSem.ClaimMapViews
import Derived.JoinedTies
import Derived.KernelRfl
namespace Go.Proofs.Ytgonaioedbphgaa
/- THE CELL 'sum', in the pinned program and in every row, IS THE sha256 OF THE DUMP (.gsa) THAT YtgonaioedbphgaaProg.lean LOADS. Nothing in Lean hashes anything: it is a label: what it is worth is what the hold of that sum in a sandbox is worth. -/
noncomputable def Try.pinned : Pinned := { name := "ytgonaioedbphgaa", sum := "d1404b509cb3d67552b621c6319aa94cd7c6a22821ee3c87dfdd67daa62132e4", checked := Try.checked }
namespace Rows
def none {H : Type} : Left H := { results := [], args := [] }

/-- 'laws.FnManyMons': WHATEVER THE INPUT: true; the input reads as it did. -/
def fnManyMonsSpec : ChangeSpec := { name := "fnManyMons", fn := fun _ => fun
  | [d] => { results := [.lit (.bool true)], args := [d] }
  | _ => none }
def fnManyMonsRow : OpenClaim := { program := "ytgonaioedbphgaa", sum := "d1404b509cb3d67552b621c6319aa94cd7c6a22821ee3c87dfdd67daa62132e4", func := "loop.example/g00975/laws.FnManyMons", spec := "fnManyMons", apart := false }
def FnManyMonsSaid : Prop := fnManyMonsRow.holds Try.pinned (OpenSpec.ofChange fnManyMonsSpec)

/-- ITS FALSE NEIGHBOUR: 'it returns false'. Refute it at one input. -/
def fnManyMonsWrong : ChangeSpec := { name := "fnManyMons", fn := fun _ => fun
  | [d] => { results := [.lit (.bool false)], args := [d] }
  | _ => none }
def FnManyMonsWrongFalsely : Prop := fnManyMonsRow.holds Try.pinned (OpenSpec.ofChange fnManyMonsWrong)

/-- 'laws.FnKept': WHATEVER THE INPUT: true; the input reads as it did. -/
def fnKeptSpec : ChangeSpec := { name := "fnKept", fn := fun _ => fun
  | [d] => { results := [.lit (.bool true)], args := [d] }
  | _ => none }
def fnKeptRow : OpenClaim := { program := "ytgonaioedbphgaa", sum := "d1404b509cb3d67552b621c6319aa94cd7c6a22821ee3c87dfdd67daa62132e4", func := "loop.example/g00975/laws.FnKept", spec := "fnKept", apart := false }
def FnKeptSaid : Prop := fnKeptRow.holds Try.pinned (OpenSpec.ofChange fnKeptSpec)

/-- ITS FALSE NEIGHBOUR: 'it returns false'. Refute it at one input. -/
def fnKeptWrong : ChangeSpec := { name := "fnKept", fn := fun _ => fun
  | [d] => { results := [.lit (.bool false)], args := [d] }
  | _ => none }
def FnKeptWrongFalsely : Prop := fnKeptRow.holds Try.pinned (OpenSpec.ofChange fnKeptWrong)

/-- 'laws.FnTakenBack': WHATEVER THE INPUT: true; the input reads as it did. -/
def fnTakenBackSpec : ChangeSpec := { name := "fnTakenBack", fn := fun _ => fun
  | [d] => { results := [.lit (.bool true)], args := [d] }
  | _ => none }
def fnTakenBackRow : OpenClaim := { program := "ytgonaioedbphgaa", sum := "d1404b509cb3d67552b621c6319aa94cd7c6a22821ee3c87dfdd67daa62132e4", func := "loop.example/g00975/laws.FnTakenBack", spec := "fnTakenBack", unfollowed := true, recurses := true, apart := false }
def FnTakenBackSaid : Prop := fnTakenBackRow.holds Try.pinned (OpenSpec.ofChange fnTakenBackSpec)

/-- ITS FALSE NEIGHBOUR: 'it returns false'. Refute it at one input. -/
def fnTakenBackWrong : ChangeSpec := { name := "fnTakenBack", fn := fun _ => fun
  | [d] => { results := [.lit (.bool false)], args := [d] }
  | _ => none }
def FnTakenBackWrongFalsely : Prop := fnTakenBackRow.holds Try.pinned (OpenSpec.ofChange fnTakenBackWrong)

/- THE SECOND FORM. 'bulk': how many values and letters a reading holds, each counted each time it is reached (what is shared counts as often as it is met; a slice's spare places count too). A statement '..UptoSaid' is the law's where the arguments, and the package variables that the reading takes, are together of bulk at most 1048576: NARROWER than '..Said'. Prove '..Said' where nothing that the law and all that it calls make is longer than what came in: it says more and counts as full. Else prove '..UptoSaid'. A law counts once. -/
mutual
def uptoBulk {H : Type} : DataW H → Nat
  | .lit (.string bytes) => bytes.length + 1
  | .lit _ => 1
  | .nil => 1
  | .ptr d => uptoBulk d + 1
  | .slice elems spare => uptoBulkAll elems + uptoBulkAll spare + 1
  | .agg parts => uptoBulkAll parts + 1
  | .iface _ d => uptoBulk d + 1
  | .map entries => uptoBulkEntries entries + 1
  | .held _ => 1
def uptoBulkAll {H : Type} : List (DataW H) → Nat
  | [] => 0
  | d :: r => uptoBulk d + uptoBulkAll r
def uptoBulkEntries {H : Type} : List (Lit × DataW H) → Nat
  | [] => 0
  | x :: r => uptoBulkEntry x + uptoBulkEntries r
def uptoBulkEntry {H : Type} : Lit × DataW H → Nat
  | (.string bytes, d) => bytes.length + uptoBulk d + 1
  | (_, d) => uptoBulk d + 1
 end
def uptoSmall : (H : Type) → List (DataW H) → Bool := fun _ ds => decide (uptoBulkAll ds ≤ 1048576)
def OpenSpec.upto (s : _root_.Go.ChangeSpec) : _root_.Go.OpenSpec := { _root_.Go.OpenSpec.ofChange s with cond := some uptoSmall }

/-- 'laws.FnManyMons', WHERE WHAT IT READS IS OF BULK AT MOST 1048576: true; the input reads as it did. -/
def fnManyMonsUptoRow : OpenClaim := { program := "ytgonaioedbphgaa", sum := "d1404b509cb3d67552b621c6319aa94cd7c6a22821ee3c87dfdd67daa62132e4", func := "loop.example/g00975/laws.FnManyMons", spec := "fnManyMons", apart := false, narrowed := true }
def FnManyMonsUptoSaid : Prop := fnManyMonsUptoRow.holds Try.pinned (OpenSpec.upto fnManyMonsSpec)

/-- 'laws.FnKept', WHERE WHAT IT READS IS OF BULK AT MOST 1048576: true; the input reads as it did. -/
def fnKeptUptoRow : OpenClaim := { program := "ytgonaioedbphgaa", sum := "d1404b509cb3d67552b621c6319aa94cd7c6a22821ee3c87dfdd67daa62132e4", func := "loop.example/g00975/laws.FnKept", spec := "fnKept", apart := false, narrowed := true }
def FnKeptUptoSaid : Prop := fnKeptUptoRow.holds Try.pinned (OpenSpec.upto fnKeptSpec)

/-- 'laws.FnTakenBack', WHERE WHAT IT READS IS OF BULK AT MOST 1048576: true; the input reads as it did. -/
def fnTakenBackUptoRow : OpenClaim := { program := "ytgonaioedbphgaa", sum := "d1404b509cb3d67552b621c6319aa94cd7c6a22821ee3c87dfdd67daa62132e4", func := "loop.example/g00975/laws.FnTakenBack", spec := "fnTakenBack", unfollowed := true, recurses := true, apart := false, narrowed := true }
def FnTakenBackUptoSaid : Prop := fnTakenBackUptoRow.holds Try.pinned (OpenSpec.upto fnTakenBackSpec)

end Rows
end Go.Proofs.Ytgonaioedbphgaa
