/-
  No cell of these rows narrows 'for every input' (looked for: loops, veiled, ifaces, maps, wideKeys, modest, calm, conditions, laid).
  DERIVED. THE GIVEN ROWS OF THIS SEAT. 6 by the template 'for every input the law returns true; each argument reads behind the call as it read before'; 0 by the template 'total and deterministic' (their statements: YtollkfjcmiloiaaTotals.lean).
  GIVEN WITH THE SEED: the statements are not yours to turn. If you find one false, say at which input.
  Laid BY PROGRAM, IN A SANDBOX (cutbox-rows.mjs): the forced cells as the released guide's own fill.sh prints them over the translation f3e6d40cff1ef827… (all of the seat's roots in one cut). By AI agents, Wed Nov 11 2026. No macro, syntax, notation, axiom, sorry.
-/
import Derived.Test.YtollkfjcmiloiaaChecked
import GoSem.Claim
import GoSem.ClaimJoined
import GoSem.ClaimMapViews
import Derived.JoinedTies
import Derived.KernelRfl
namespace Go.Proofs.Ytollkfjcmiloiaa
/- THE CELL 'sum', in the pinned program and in every row, IS THE sha256 OF THE DUMP (.gsa) THAT YtollkfjcmiloiaaProg.lean LOADS. Nothing in Lean hashes anything: it is a label: what it is worth is what the hold of that sum in a sandbox is worth. -/
noncomputable def Try.pinned : Pinned := { name := "ytollkfjcmiloiaa", sum := "f3e6d40cff1ef827cbfee7afc248534fcde65c23bd440c852c228461b1ce97e9", checked := Try.checked }
namespace Rows
def none {H : Type} : Left H := { results := [], args := [] }

/-- 'laws.FnExactOwnerOfPage': WHATEVER THE INPUT: true; the input reads as it did. -/
def fnExactOwnerOfPageSpec : ChangeSpec := { name := "fnExactOwnerOfPage", fn := fun _ => fun
  | [d1, d2] => { results := [.lit (.bool true)], args := [d1, d2] }
  | _ => none }
def fnExactOwnerOfPageRow : OpenClaim := { program := "ytollkfjcmiloiaa", sum := "f3e6d40cff1ef827cbfee7afc248534fcde65c23bd440c852c228461b1ce97e9", func := "loop.example/g00975/laws.FnExactOwnerOfPage", spec := "fnExactOwnerOfPage", apart := false }
def FnExactOwnerOfPageSaid : Prop := fnExactOwnerOfPageRow.holds Try.pinned (OpenSpec.ofChange fnExactOwnerOfPageSpec)

/-- ITS FALSE NEIGHBOUR: 'it returns false'. Refute it at one input. -/
def fnExactOwnerOfPageWrong : ChangeSpec := { name := "fnExactOwnerOfPage", fn := fun _ => fun
  | [d1, d2] => { results := [.lit (.bool false)], args := [d1, d2] }
  | _ => none }
def FnExactOwnerOfPageWrongFalsely : Prop := fnExactOwnerOfPageRow.holds Try.pinned (OpenSpec.ofChange fnExactOwnerOfPageWrong)

/-- 'laws.FnExactKnownOf': WHATEVER THE INPUT: true; the input reads as it did. -/
def fnExactKnownOfSpec : ChangeSpec := { name := "fnExactKnownOf", fn := fun _ => fun
  | [d] => { results := [.lit (.bool true)], args := [d] }
  | _ => none }
def fnExactKnownOfRow : OpenClaim := { program := "ytollkfjcmiloiaa", sum := "f3e6d40cff1ef827cbfee7afc248534fcde65c23bd440c852c228461b1ce97e9", func := "loop.example/g00975/laws.FnExactKnownOf", spec := "fnExactKnownOf", apart := false }
def FnExactKnownOfSaid : Prop := fnExactKnownOfRow.holds Try.pinned (OpenSpec.ofChange fnExactKnownOfSpec)

/-- ITS FALSE NEIGHBOUR: 'it returns false'. Refute it at one input. -/
def fnExactKnownOfWrong : ChangeSpec := { name := "fnExactKnownOf", fn := fun _ => fun
  | [d] => { results := [.lit (.bool false)], args := [d] }
  | _ => none }
def FnExactKnownOfWrongFalsely : Prop := fnExactKnownOfRow.holds Try.pinned (OpenSpec.ofChange fnExactKnownOfWrong)

/-- 'laws.FnExactMonOk': WHATEVER THE INPUT: true; the input reads as it did. -/
def fnExactMonOkSpec : ChangeSpec := { name := "fnExactMonOk", fn := fun _ => fun
  | [d] => { results := [.lit (.bool true)], args := [d] }
  | _ => none }
def fnExactMonOkRow : OpenClaim := { program := "ytollkfjcmiloiaa", sum := "f3e6d40cff1ef827cbfee7afc248534fcde65c23bd440c852c228461b1ce97e9", func := "loop.example/g00975/laws.FnExactMonOk", spec := "fnExactMonOk", apart := false }
def FnExactMonOkSaid : Prop := fnExactMonOkRow.holds Try.pinned (OpenSpec.ofChange fnExactMonOkSpec)

/-- ITS FALSE NEIGHBOUR: 'it returns false'. Refute it at one input. -/
def fnExactMonOkWrong : ChangeSpec := { name := "fnExactMonOk", fn := fun _ => fun
  | [d] => { results := [.lit (.bool false)], args := [d] }
  | _ => none }
def FnExactMonOkWrongFalsely : Prop := fnExactMonOkRow.holds Try.pinned (OpenSpec.ofChange fnExactMonOkWrong)

/-- 'laws.FnExactOwnOf': WHATEVER THE INPUT: true; the input reads as it did. -/
def fnExactOwnOfSpec : ChangeSpec := { name := "fnExactOwnOf", fn := fun _ => fun
  | [d1, d2] => { results := [.lit (.bool true)], args := [d1, d2] }
  | _ => none }
def fnExactOwnOfRow : OpenClaim := { program := "ytollkfjcmiloiaa", sum := "f3e6d40cff1ef827cbfee7afc248534fcde65c23bd440c852c228461b1ce97e9", func := "loop.example/g00975/laws.FnExactOwnOf", spec := "fnExactOwnOf", apart := false }
def FnExactOwnOfSaid : Prop := fnExactOwnOfRow.holds Try.pinned (OpenSpec.ofChange fnExactOwnOfSpec)

/-- ITS FALSE NEIGHBOUR: 'it returns false'. Refute it at one input. -/
def fnExactOwnOfWrong : ChangeSpec := { name := "fnExactOwnOf", fn := fun _ => fun
  | [d1, d2] => { results := [.lit (.bool false)], args := [d1, d2] }
  | _ => none }
def FnExactOwnOfWrongFalsely : Prop := fnExactOwnOfRow.holds Try.pinned (OpenSpec.ofChange fnExactOwnOfWrong)

/-- 'laws.FnExactFreeIn': WHATEVER THE INPUT: true; the input reads as it did. -/
def fnExactFreeInSpec : ChangeSpec := { name := "fnExactFreeIn", fn := fun _ => fun
  | [d] => { results := [.lit (.bool true)], args := [d] }
  | _ => none }
def fnExactFreeInRow : OpenClaim := { program := "ytollkfjcmiloiaa", sum := "f3e6d40cff1ef827cbfee7afc248534fcde65c23bd440c852c228461b1ce97e9", func := "loop.example/g00975/laws.FnExactFreeIn", spec := "fnExactFreeIn", apart := false }
def FnExactFreeInSaid : Prop := fnExactFreeInRow.holds Try.pinned (OpenSpec.ofChange fnExactFreeInSpec)

/-- ITS FALSE NEIGHBOUR: 'it returns false'. Refute it at one input. -/
def fnExactFreeInWrong : ChangeSpec := { name := "fnExactFreeIn", fn := fun _ => fun
  | [d] => { results := [.lit (.bool false)], args := [d] }
  | _ => none }
def FnExactFreeInWrongFalsely : Prop := fnExactFreeInRow.holds Try.pinned (OpenSpec.ofChange fnExactFreeInWrong)

/-- 'laws.FnExactRunnableIn': WHATEVER THE INPUT: true; the input reads as it did. -/
def fnExactRunnableInSpec : ChangeSpec := { name := "fnExactRunnableIn", fn := fun _ => fun
  | [d] => { results := [.lit (.bool true)], args := [d] }
  | _ => none }
def fnExactRunnableInRow : OpenClaim := { program := "ytollkfjcmiloiaa", sum := "f3e6d40cff1ef827cbfee7afc248534fcde65c23bd440c852c228461b1ce97e9", func := "loop.example/g00975/laws.FnExactRunnableIn", spec := "fnExactRunnableIn", apart := false }
def FnExactRunnableInSaid : Prop := fnExactRunnableInRow.holds Try.pinned (OpenSpec.ofChange fnExactRunnableInSpec)

/-- ITS FALSE NEIGHBOUR: 'it returns false'. Refute it at one input. -/
def fnExactRunnableInWrong : ChangeSpec := { name := "fnExactRunnableIn", fn := fun _ => fun
  | [d] => { results := [.lit (.bool false)], args := [d] }
  | _ => none }
def FnExactRunnableInWrongFalsely : Prop := fnExactRunnableInRow.holds Try.pinned (OpenSpec.ofChange fnExactRunnableInWrong)

/- THE SECOND FORM. 'bulk': how many values and letters a reading holds, each counted each time it is reached (what is shared counts as often as it is met; a slice's spare places count too). A statement '..UptoSaid' is the law's where the arguments, and the package variables that the reading takes, are together of bulk at most 1048576: NARROWER than '..Said'. Prove '..Said' where nothing that the law and all that it calls make is longer than what came in: it says more and counts as full. Else prove '..UptoSaid'. A law counts once. -/
mutual
def uptoBulk {H : Type} : DataW H → Nat
  | .lit (.string bytes) => bytes.length + 1
  | .lit _ => 1
  | .nil => 1
  | .ptr d => uptoBulk d + 1
  | .slice elems spare => uptoBulkAll elems + uptoBulkAll spare + 1
  | .agg parts => uptoBulkAll parts + 1
  | .iface _ d => uptoBulk d + 1
  | .map entries => uptoBulkEntries entries + 1
  | .held _ => 1
def uptoBulkAll {H : Type} : List (DataW H) → Nat
  | [] => 0
  | d :: r => uptoBulk d + uptoBulkAll r
def uptoBulkEntries {H : Type} : List (Lit × DataW H) → Nat
  | [] => 0
  | x :: r => uptoBulkEntry x + uptoBulkEntries r
def uptoBulkEntry {H : Type} : Lit × DataW H → Nat
  | (.string bytes, d) => bytes.length + uptoBulk d + 1
  | (_, d) => uptoBulk d + 1
 end
def uptoSmall : (H : Type) → List (DataW H) → Bool := fun _ ds => decide (uptoBulkAll ds ≤ 1048576)
def OpenSpec.upto (s : _root_.Go.ChangeSpec) : _root_.Go.OpenSpec := { _root_.Go.OpenSpec.ofChange s with cond := some uptoSmall }

/-- 'laws.FnExactOwnerOfPage', WHERE WHAT IT READS IS OF BULK AT MOST 1048576: true; the input reads as it did. -/
def fnExactOwnerOfPageUptoRow : OpenClaim := { program := "ytollkfjcmiloiaa", sum := "f3e6d40cff1ef827cbfee7afc248534fcde65c23bd440c852c228461b1ce97e9", func := "loop.example/g00975/laws.FnExactOwnerOfPage", spec := "fnExactOwnerOfPage", apart := false, narrowed := true }
def FnExactOwnerOfPageUptoSaid : Prop := fnExactOwnerOfPageUptoRow.holds Try.pinned (OpenSpec.upto fnExactOwnerOfPageSpec)

/-- 'laws.FnExactKnownOf', WHERE WHAT IT READS IS OF BULK AT MOST 1048576: true; the input reads as it did. -/
def fnExactKnownOfUptoRow : OpenClaim := { program := "ytollkfjcmiloiaa", sum := "f3e6d40cff1ef827cbfee7afc248534fcde65c23bd440c852c228461b1ce97e9", func := "loop.example/g00975/laws.FnExactKnownOf", spec := "fnExactKnownOf", apart := false, narrowed := true }
def FnExactKnownOfUptoSaid : Prop := fnExactKnownOfUptoRow.holds Try.pinned (OpenSpec.upto fnExactKnownOfSpec)

/-- 'laws.FnExactMonOk', WHERE WHAT IT READS IS OF BULK AT MOST 1048576: true; the input reads as it did. -/
def fnExactMonOkUptoRow : OpenClaim := { program := "ytollkfjcmiloiaa", sum := "f3e6d40cff1ef827cbfee7afc248534fcde65c23bd440c852c228461b1ce97e9", func := "loop.example/g00975/laws.FnExactMonOk", spec := "fnExactMonOk", apart := false, narrowed := true }
def FnExactMonOkUptoSaid : Prop := fnExactMonOkUptoRow.holds Try.pinned (OpenSpec.upto fnExactMonOkSpec)

/-- 'laws.FnExactOwnOf', WHERE WHAT IT READS IS OF BULK AT MOST 1048576: true; the input reads as it did. -/
def fnExactOwnOfUptoRow : OpenClaim := { program := "ytollkfjcmiloiaa", sum := "f3e6d40cff1ef827cbfee7afc248534fcde65c23bd440c852c228461b1ce97e9", func := "loop.example/g00975/laws.FnExactOwnOf", spec := "fnExactOwnOf", apart := false, narrowed := true }
def FnExactOwnOfUptoSaid : Prop := fnExactOwnOfUptoRow.holds Try.pinned (OpenSpec.upto fnExactOwnOfSpec)

/-- 'laws.FnExactFreeIn', WHERE WHAT IT READS IS OF BULK AT MOST 1048576: true; the input reads as it did. -/
def fnExactFreeInUptoRow : OpenClaim := { program := "ytollkfjcmiloiaa", sum := "f3e6d40cff1ef827cbfee7afc248534fcde65c23bd440c852c228461b1ce97e9", func := "loop.example/g00975/laws.FnExactFreeIn", spec := "fnExactFreeIn", apart := false, narrowed := true }
def FnExactFreeInUptoSaid : Prop := fnExactFreeInUptoRow.holds Try.pinned (OpenSpec.upto fnExactFreeInSpec)

/-- 'laws.FnExactRunnableIn', WHERE WHAT IT READS IS OF BULK AT MOST 1048576: true; the input reads as it did. -/
def fnExactRunnableInUptoRow : OpenClaim := { program := "ytollkfjcmiloiaa", sum := "f3e6d40cff1ef827cbfee7afc248534fcde65c23bd440c852c228461b1ce97e9", func := "loop.example/g00975/laws.FnExactRunnableIn", spec := "fnExactRunnableIn", apart := false, narrowed := true }
def FnExactRunnableInUptoSaid : Prop := fnExactRunnableInUptoRow.holds Try.pinned (OpenSpec.upto fnExactRunnableInSpec)

end Rows
end Go.Proofs.Ytollkfjcmiloiaa
