/-
  No cell of these rows narrows 'for every input' (looked for: loops, veiled, ifaces, maps, wideKeys, modest, calm, conditions, laid).
  DERIVED. THE GIVEN ROWS OF THIS SEAT. 4 by the template 'for every input the law returns true; each argument reads behind the call as it read before'; 0 by the template 'total and deterministic' (their statements: YtomgmpbipaldaaaGreatTotals.lean).
  GIVEN WITH THE SEED: the statements are not yours to turn. If you find one false, say at which input.
  Laid BY PROGRAM, IN A SANDBOX (cutbox-rows.mjs): the forced cells as the released guide's own fill.sh prints them over the translation 2d0b68d00d4d64ca… (all of the seat's roots in one cut). By AI agents, Wed Nov 11 2026. No macro, syntax, notation, axiom, sorry.
-/
import Derived.Test.YtomgmpbipaldaaaGreatChecked
import GoSem.Claim
import GoSem.ClaimJoined
import GoSem.ClaimMapViews
import Derived.JoinedTies
import Derived.KernelRfl
namespace Go.Proofs.YtomgmpbipaldaaaGreat
/- THE CELL 'sum', in the pinned program and in every row, IS THE sha256 OF THE DUMP (.gsa) THAT YtomgmpbipaldaaaGreatProg.lean LOADS. Nothing in Lean hashes anything: it is a label: what it is worth is what the hold of that sum in a sandbox is worth. -/
noncomputable def Tryz.pinned : Pinned := { name := "ytomgmpbipaldaaagreat", sum := "2d0b68d00d4d64ca9111e368314f9d6f0e817d3d244fa4789549d636373ceeb9", checked := Tryz.checked }
namespace Rows
def none {H : Type} : Left H := { results := [], args := [] }

/-- 'laws.FnExactIoLookup': WHATEVER THE INPUT: true; the input reads as it did. -/
def fnExactIoLookupSpec : ChangeSpec := { name := "fnExactIoLookup", fn := fun _ => fun
  | [d1, d2, d3, d4, d5] => { results := [.lit (.bool true)], args := [d1, d2, d3, d4, d5] }
  | _ => none }
def fnExactIoLookupRow : OpenClaim := { program := "ytomgmpbipaldaaagreat", sum := "2d0b68d00d4d64ca9111e368314f9d6f0e817d3d244fa4789549d636373ceeb9", func := "loop.example/g00975/laws.FnExactIoLookup", spec := "fnExactIoLookup", unfollowed := true, recurses := true, apart := false }
def FnExactIoLookupSaid : Prop := fnExactIoLookupRow.holds Tryz.pinned (OpenSpec.ofChange fnExactIoLookupSpec)

/-- ITS FALSE NEIGHBOUR: 'it returns false'. Refute it at one input. -/
def fnExactIoLookupWrong : ChangeSpec := { name := "fnExactIoLookup", fn := fun _ => fun
  | [d1, d2, d3, d4, d5] => { results := [.lit (.bool false)], args := [d1, d2, d3, d4, d5] }
  | _ => none }
def FnExactIoLookupWrongFalsely : Prop := fnExactIoLookupRow.holds Tryz.pinned (OpenSpec.ofChange fnExactIoLookupWrong)

/-- 'laws.FnExactLookup': WHATEVER THE INPUT: true; the input reads as it did. -/
def fnExactLookupSpec : ChangeSpec := { name := "fnExactLookup", fn := fun _ => fun
  | [d1, d2, d3, d4, d5] => { results := [.lit (.bool true)], args := [d1, d2, d3, d4, d5] }
  | _ => none }
def fnExactLookupRow : OpenClaim := { program := "ytomgmpbipaldaaagreat", sum := "2d0b68d00d4d64ca9111e368314f9d6f0e817d3d244fa4789549d636373ceeb9", func := "loop.example/g00975/laws.FnExactLookup", spec := "fnExactLookup", unfollowed := true, recurses := true, apart := false }
def FnExactLookupSaid : Prop := fnExactLookupRow.holds Tryz.pinned (OpenSpec.ofChange fnExactLookupSpec)

/-- ITS FALSE NEIGHBOUR: 'it returns false'. Refute it at one input. -/
def fnExactLookupWrong : ChangeSpec := { name := "fnExactLookup", fn := fun _ => fun
  | [d1, d2, d3, d4, d5] => { results := [.lit (.bool false)], args := [d1, d2, d3, d4, d5] }
  | _ => none }
def FnExactLookupWrongFalsely : Prop := fnExactLookupRow.holds Tryz.pinned (OpenSpec.ofChange fnExactLookupWrong)

/-- 'laws.FnExactHostRead': WHATEVER THE INPUT: true; the input reads as it did. -/
def fnExactHostReadSpec : ChangeSpec := { name := "fnExactHostRead", fn := fun _ => fun
  | [d1, d2, d3, d4] => { results := [.lit (.bool true)], args := [d1, d2, d3, d4] }
  | _ => none }
def fnExactHostReadRow : OpenClaim := { program := "ytomgmpbipaldaaagreat", sum := "2d0b68d00d4d64ca9111e368314f9d6f0e817d3d244fa4789549d636373ceeb9", func := "loop.example/g00975/laws.FnExactHostRead", spec := "fnExactHostRead", unfollowed := true, recurses := true, apart := false }
def FnExactHostReadSaid : Prop := fnExactHostReadRow.holds Tryz.pinned (OpenSpec.ofChange fnExactHostReadSpec)

/-- ITS FALSE NEIGHBOUR: 'it returns false'. Refute it at one input. -/
def fnExactHostReadWrong : ChangeSpec := { name := "fnExactHostRead", fn := fun _ => fun
  | [d1, d2, d3, d4] => { results := [.lit (.bool false)], args := [d1, d2, d3, d4] }
  | _ => none }
def FnExactHostReadWrongFalsely : Prop := fnExactHostReadRow.holds Tryz.pinned (OpenSpec.ofChange fnExactHostReadWrong)

/-- 'laws.FnExactHostDma': WHATEVER THE INPUT: true; the input reads as it did. -/
def fnExactHostDmaSpec : ChangeSpec := { name := "fnExactHostDma", fn := fun _ => fun
  | [d1, d2, d3, d4, d5] => { results := [.lit (.bool true)], args := [d1, d2, d3, d4, d5] }
  | _ => none }
def fnExactHostDmaRow : OpenClaim := { program := "ytomgmpbipaldaaagreat", sum := "2d0b68d00d4d64ca9111e368314f9d6f0e817d3d244fa4789549d636373ceeb9", func := "loop.example/g00975/laws.FnExactHostDma", spec := "fnExactHostDma", unfollowed := true, recurses := true, apart := false }
def FnExactHostDmaSaid : Prop := fnExactHostDmaRow.holds Tryz.pinned (OpenSpec.ofChange fnExactHostDmaSpec)

/-- ITS FALSE NEIGHBOUR: 'it returns false'. Refute it at one input. -/
def fnExactHostDmaWrong : ChangeSpec := { name := "fnExactHostDma", fn := fun _ => fun
  | [d1, d2, d3, d4, d5] => { results := [.lit (.bool false)], args := [d1, d2, d3, d4, d5] }
  | _ => none }
def FnExactHostDmaWrongFalsely : Prop := fnExactHostDmaRow.holds Tryz.pinned (OpenSpec.ofChange fnExactHostDmaWrong)

/- THE SECOND FORM. 'bulk': how many values and letters a reading holds, each counted each time it is reached (what is shared counts as often as it is met; a slice's spare places count too). A statement '..UptoSaid' is the law's where the arguments, and the package variables that the reading takes, are together of bulk at most 1048576: NARROWER than '..Said'. Prove '..Said' where nothing that the law and all that it calls make is longer than what came in: it says more and counts as full. Else prove '..UptoSaid'. A law counts once. -/
mutual
def uptoBulk {H : Type} : DataW H → Nat
  | .lit (.string bytes) => bytes.length + 1
  | .lit _ => 1
  | .nil => 1
  | .ptr d => uptoBulk d + 1
  | .slice elems spare => uptoBulkAll elems + uptoBulkAll spare + 1
  | .agg parts => uptoBulkAll parts + 1
  | .iface _ d => uptoBulk d + 1
  | .map entries => uptoBulkEntries entries + 1
  | .held _ => 1
def uptoBulkAll {H : Type} : List (DataW H) → Nat
  | [] => 0
  | d :: r => uptoBulk d + uptoBulkAll r
def uptoBulkEntries {H : Type} : List (Lit × DataW H) → Nat
  | [] => 0
  | x :: r => uptoBulkEntry x + uptoBulkEntries r
def uptoBulkEntry {H : Type} : Lit × DataW H → Nat
  | (.string bytes, d) => bytes.length + uptoBulk d + 1
  | (_, d) => uptoBulk d + 1
 end
def uptoSmall : (H : Type) → List (DataW H) → Bool := fun _ ds => decide (uptoBulkAll ds ≤ 1048576)
def OpenSpec.upto (s : _root_.Go.ChangeSpec) : _root_.Go.OpenSpec := { _root_.Go.OpenSpec.ofChange s with cond := some uptoSmall }

/-- 'laws.FnExactIoLookup', WHERE WHAT IT READS IS OF BULK AT MOST 1048576: true; the input reads as it did. -/
def fnExactIoLookupUptoRow : OpenClaim := { program := "ytomgmpbipaldaaagreat", sum := "2d0b68d00d4d64ca9111e368314f9d6f0e817d3d244fa4789549d636373ceeb9", func := "loop.example/g00975/laws.FnExactIoLookup", spec := "fnExactIoLookup", unfollowed := true, recurses := true, apart := false, narrowed := true }
def FnExactIoLookupUptoSaid : Prop := fnExactIoLookupUptoRow.holds Tryz.pinned (OpenSpec.upto fnExactIoLookupSpec)

/-- 'laws.FnExactLookup', WHERE WHAT IT READS IS OF BULK AT MOST 1048576: true; the input reads as it did. -/
def fnExactLookupUptoRow : OpenClaim := { program := "ytomgmpbipaldaaagreat", sum := "2d0b68d00d4d64ca9111e368314f9d6f0e817d3d244fa4789549d636373ceeb9", func := "loop.example/g00975/laws.FnExactLookup", spec := "fnExactLookup", unfollowed := true, recurses := true, apart := false, narrowed := true }
def FnExactLookupUptoSaid : Prop := fnExactLookupUptoRow.holds Tryz.pinned (OpenSpec.upto fnExactLookupSpec)

/-- 'laws.FnExactHostRead', WHERE WHAT IT READS IS OF BULK AT MOST 1048576: true; the input reads as it did. -/
def fnExactHostReadUptoRow : OpenClaim := { program := "ytomgmpbipaldaaagreat", sum := "2d0b68d00d4d64ca9111e368314f9d6f0e817d3d244fa4789549d636373ceeb9", func := "loop.example/g00975/laws.FnExactHostRead", spec := "fnExactHostRead", unfollowed := true, recurses := true, apart := false, narrowed := true }
def FnExactHostReadUptoSaid : Prop := fnExactHostReadUptoRow.holds Tryz.pinned (OpenSpec.upto fnExactHostReadSpec)

/-- 'laws.FnExactHostDma', WHERE WHAT IT READS IS OF BULK AT MOST 1048576: true; the input reads as it did. -/
def fnExactHostDmaUptoRow : OpenClaim := { program := "ytomgmpbipaldaaagreat", sum := "2d0b68d00d4d64ca9111e368314f9d6f0e817d3d244fa4789549d636373ceeb9", func := "loop.example/g00975/laws.FnExactHostDma", spec := "fnExactHostDma", unfollowed := true, recurses := true, apart := false, narrowed := true }
def FnExactHostDmaUptoSaid : Prop := fnExactHostDmaUptoRow.holds Tryz.pinned (OpenSpec.upto fnExactHostDmaSpec)

end Rows
end Go.Proofs.YtomgmpbipaldaaaGreat
