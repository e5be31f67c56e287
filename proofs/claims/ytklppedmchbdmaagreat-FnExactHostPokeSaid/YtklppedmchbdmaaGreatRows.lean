/-
  No cell of these rows narrows 'for every input' (looked for: loops, veiled, ifaces, maps, wideKeys, modest, calm, conditions, laid).
  DERIVED. THE GIVEN ROWS OF THIS SEAT. 5 by the template 'for every input the law returns true; each argument reads behind the call as it read before'; 0 by the template 'total and deterministic' (their statements: YtklppedmchbdmaaGreatTotals.lean).
  GIVEN WITH THE SEED: the statements are not yours to turn. If you find one false, say at which input.
  Laid BY PROGRAM, IN A SANDBOX (cutbox-rows.mjs): the forced cells as the released guide's own fill.sh prints them over the translation d6bd5100c29bcbf2… (all of the seat's roots in one cut). By AI agents, Wed Nov 11 2026. No macro, syntax, notation, axiom, sorry.
-/
import Derived.Test.YtklppedmchbdmaaGreatChecked
import GoSem.Claim
import GoSem.ClaimJoined
import GoSem.ClaimMapViews
import Derived.JoinedTies
import Derived.KernelRfl
namespace Go.Proofs.YtklppedmchbdmaaGreat
/- THE CELL 'sum', in the pinned program and in every row, IS THE sha256 OF THE DUMP (.gsa) THAT YtklppedmchbdmaaGreatProg.lean LOADS. Nothing in Lean hashes anything: it is a label: what it is worth is what the hold of that sum in a sandbox is worth. -/
noncomputable def Tryz.pinned : Pinned := { name := "ytklppedmchbdmaagreat", sum := "d6bd5100c29bcbf251b16ce19d6331e30595129da05957c5266a30cb88e7abc0", checked := Tryz.checked }
namespace Rows
def none {H : Type} : Left H := { results := [], args := [] }

/-- 'laws.FnExactGuard': WHATEVER THE INPUT: true; the input reads as it did. -/
def fnExactGuardSpec : ChangeSpec := { name := "fnExactGuard", fn := fun _ => fun
  | [d1, d2, d3] => { results := [.lit (.bool true)], args := [d1, d2, d3] }
  | _ => none }
def fnExactGuardRow : OpenClaim := { program := "ytklppedmchbdmaagreat", sum := "d6bd5100c29bcbf251b16ce19d6331e30595129da05957c5266a30cb88e7abc0", func := "loop.example/g00975/laws.FnExactGuard", spec := "fnExactGuard", unfollowed := true, recurses := true, apart := false }
def FnExactGuardSaid : Prop := fnExactGuardRow.holds Tryz.pinned (OpenSpec.ofChange fnExactGuardSpec)

/-- ITS FALSE NEIGHBOUR: 'it returns false'. Refute it at one input. -/
def fnExactGuardWrong : ChangeSpec := { name := "fnExactGuard", fn := fun _ => fun
  | [d1, d2, d3] => { results := [.lit (.bool false)], args := [d1, d2, d3] }
  | _ => none }
def FnExactGuardWrongFalsely : Prop := fnExactGuardRow.holds Tryz.pinned (OpenSpec.ofChange fnExactGuardWrong)

/-- 'laws.FnExactPageOut': WHATEVER THE INPUT: true; the input reads as it did. -/
def fnExactPageOutSpec : ChangeSpec := { name := "fnExactPageOut", fn := fun _ => fun
  | [d1, d2, d3] => { results := [.lit (.bool true)], args := [d1, d2, d3] }
  | _ => none }
def fnExactPageOutRow : OpenClaim := { program := "ytklppedmchbdmaagreat", sum := "d6bd5100c29bcbf251b16ce19d6331e30595129da05957c5266a30cb88e7abc0", func := "loop.example/g00975/laws.FnExactPageOut", spec := "fnExactPageOut", unfollowed := true, recurses := true, apart := false }
def FnExactPageOutSaid : Prop := fnExactPageOutRow.holds Tryz.pinned (OpenSpec.ofChange fnExactPageOutSpec)

/-- ITS FALSE NEIGHBOUR: 'it returns false'. Refute it at one input. -/
def fnExactPageOutWrong : ChangeSpec := { name := "fnExactPageOut", fn := fun _ => fun
  | [d1, d2, d3] => { results := [.lit (.bool false)], args := [d1, d2, d3] }
  | _ => none }
def FnExactPageOutWrongFalsely : Prop := fnExactPageOutRow.holds Tryz.pinned (OpenSpec.ofChange fnExactPageOutWrong)

/-- 'laws.FnExactPageIn': WHATEVER THE INPUT: true; the input reads as it did. -/
def fnExactPageInSpec : ChangeSpec := { name := "fnExactPageIn", fn := fun _ => fun
  | [d1, d2, d3] => { results := [.lit (.bool true)], args := [d1, d2, d3] }
  | _ => none }
def fnExactPageInRow : OpenClaim := { program := "ytklppedmchbdmaagreat", sum := "d6bd5100c29bcbf251b16ce19d6331e30595129da05957c5266a30cb88e7abc0", func := "loop.example/g00975/laws.FnExactPageIn", spec := "fnExactPageIn", unfollowed := true, recurses := true, apart := false }
def FnExactPageInSaid : Prop := fnExactPageInRow.holds Tryz.pinned (OpenSpec.ofChange fnExactPageInSpec)

/-- ITS FALSE NEIGHBOUR: 'it returns false'. Refute it at one input. -/
def fnExactPageInWrong : ChangeSpec := { name := "fnExactPageIn", fn := fun _ => fun
  | [d1, d2, d3] => { results := [.lit (.bool false)], args := [d1, d2, d3] }
  | _ => none }
def FnExactPageInWrongFalsely : Prop := fnExactPageInRow.holds Tryz.pinned (OpenSpec.ofChange fnExactPageInWrong)

/-- 'laws.FnExactMend': WHATEVER THE INPUT: true; the input reads as it did. -/
def fnExactMendSpec : ChangeSpec := { name := "fnExactMend", fn := fun _ => fun
  | [d1, d2, d3, d4] => { results := [.lit (.bool true)], args := [d1, d2, d3, d4] }
  | _ => none }
def fnExactMendRow : OpenClaim := { program := "ytklppedmchbdmaagreat", sum := "d6bd5100c29bcbf251b16ce19d6331e30595129da05957c5266a30cb88e7abc0", func := "loop.example/g00975/laws.FnExactMend", spec := "fnExactMend", unfollowed := true, recurses := true, apart := false }
def FnExactMendSaid : Prop := fnExactMendRow.holds Tryz.pinned (OpenSpec.ofChange fnExactMendSpec)

/-- ITS FALSE NEIGHBOUR: 'it returns false'. Refute it at one input. -/
def fnExactMendWrong : ChangeSpec := { name := "fnExactMend", fn := fun _ => fun
  | [d1, d2, d3, d4] => { results := [.lit (.bool false)], args := [d1, d2, d3, d4] }
  | _ => none }
def FnExactMendWrongFalsely : Prop := fnExactMendRow.holds Tryz.pinned (OpenSpec.ofChange fnExactMendWrong)

/-- 'laws.FnExactHostPoke': WHATEVER THE INPUT: true; the input reads as it did. -/
def fnExactHostPokeSpec : ChangeSpec := { name := "fnExactHostPoke", fn := fun _ => fun
  | [d1, d2, d3, d4, d5] => { results := [.lit (.bool true)], args := [d1, d2, d3, d4, d5] }
  | _ => none }
def fnExactHostPokeRow : OpenClaim := { program := "ytklppedmchbdmaagreat", sum := "d6bd5100c29bcbf251b16ce19d6331e30595129da05957c5266a30cb88e7abc0", func := "loop.example/g00975/laws.FnExactHostPoke", spec := "fnExactHostPoke", unfollowed := true, recurses := true, apart := false }
def FnExactHostPokeSaid : Prop := fnExactHostPokeRow.holds Tryz.pinned (OpenSpec.ofChange fnExactHostPokeSpec)

/-- ITS FALSE NEIGHBOUR: 'it returns false'. Refute it at one input. -/
def fnExactHostPokeWrong : ChangeSpec := { name := "fnExactHostPoke", fn := fun _ => fun
  | [d1, d2, d3, d4, d5] => { results := [.lit (.bool false)], args := [d1, d2, d3, d4, d5] }
  | _ => none }
def FnExactHostPokeWrongFalsely : Prop := fnExactHostPokeRow.holds Tryz.pinned (OpenSpec.ofChange fnExactHostPokeWrong)

/- THE SECOND FORM. 'bulk': how many values and letters a reading holds, each counted each time it is reached (what is shared counts as often as it is met; a slice's spare places count too). A statement '..UptoSaid' is the law's where the arguments, and the package variables that the reading takes, are together of bulk at most 1048576: NARROWER than '..Said'. Prove '..Said' where nothing that the law and all that it calls make is longer than what came in: it says more and counts as full. Else prove '..UptoSaid'. A law counts once. -/
mutual
def uptoBulk {H : Type} : DataW H → Nat
  | .lit (.string bytes) => bytes.length + 1
  | .lit _ => 1
  | .nil => 1
  | .ptr d => uptoBulk d + 1
  | .slice elems spare => uptoBulkAll elems + uptoBulkAll spare + 1
  | .agg parts => uptoBulkAll parts + 1
  | .iface _ d => uptoBulk d + 1
  | .map entries => uptoBulkEntries entries + 1
  | .held _ => 1
def uptoBulkAll {H : Type} : List (DataW H) → Nat
  | [] => 0
  | d :: r => uptoBulk d + uptoBulkAll r
def uptoBulkEntries {H : Type} : List (Lit × DataW H) → Nat
  | [] => 0
  | x :: r => uptoBulkEntry x + uptoBulkEntries r
def uptoBulkEntry {H : Type} : Lit × DataW H → Nat
  | (.string bytes, d) => bytes.length + uptoBulk d + 1
  | (_, d) => uptoBulk d + 1
 end
def uptoSmall : (H : Type) → List (DataW H) → Bool := fun _ ds => decide (uptoBulkAll ds ≤ 1048576)
def OpenSpec.upto (s : _root_.Go.ChangeSpec) : _root_.Go.OpenSpec := { _root_.Go.OpenSpec.ofChange s with cond := some uptoSmall }

/-- 'laws.FnExactGuard', WHERE WHAT IT READS IS OF BULK AT MOST 1048576: true; the input reads as it did. -/
def fnExactGuardUptoRow : OpenClaim := { program := "ytklppedmchbdmaagreat", sum := "d6bd5100c29bcbf251b16ce19d6331e30595129da05957c5266a30cb88e7abc0", func := "loop.example/g00975/laws.FnExactGuard", spec := "fnExactGuard", unfollowed := true, recurses := true, apart := false, narrowed := true }
def FnExactGuardUptoSaid : Prop := fnExactGuardUptoRow.holds Tryz.pinned (OpenSpec.upto fnExactGuardSpec)

/-- 'laws.FnExactPageOut', WHERE WHAT IT READS IS OF BULK AT MOST 1048576: true; the input reads as it did. -/
def fnExactPageOutUptoRow : OpenClaim := { program := "ytklppedmchbdmaagreat", sum := "d6bd5100c29bcbf251b16ce19d6331e30595129da05957c5266a30cb88e7abc0", func := "loop.example/g00975/laws.FnExactPageOut", spec := "fnExactPageOut", unfollowed := true, recurses := true, apart := false, narrowed := true }
def FnExactPageOutUptoSaid : Prop := fnExactPageOutUptoRow.holds Tryz.pinned (OpenSpec.upto fnExactPageOutSpec)

/-- 'laws.FnExactPageIn', WHERE WHAT IT READS IS OF BULK AT MOST 1048576: true; the input reads as it did. -/
def fnExactPageInUptoRow : OpenClaim := { program := "ytklppedmchbdmaagreat", sum := "d6bd5100c29bcbf251b16ce19d6331e30595129da05957c5266a30cb88e7abc0", func := "loop.example/g00975/laws.FnExactPageIn", spec := "fnExactPageIn", unfollowed := true, recurses := true, apart := false, narrowed := true }
def FnExactPageInUptoSaid : Prop := fnExactPageInUptoRow.holds Tryz.pinned (OpenSpec.upto fnExactPageInSpec)

/-- 'laws.FnExactMend', WHERE WHAT IT READS IS OF BULK AT MOST 1048576: true; the input reads as it did. -/
def fnExactMendUptoRow : OpenClaim := { program := "ytklppedmchbdmaagreat", sum := "d6bd5100c29bcbf251b16ce19d6331e30595129da05957c5266a30cb88e7abc0", func := "loop.example/g00975/laws.FnExactMend", spec := "fnExactMend", unfollowed := true, recurses := true, apart := false, narrowed := true }
def FnExactMendUptoSaid : Prop := fnExactMendUptoRow.holds Tryz.pinned (OpenSpec.upto fnExactMendSpec)

/-- 'laws.FnExactHostPoke', WHERE WHAT IT READS IS OF BULK AT MOST 1048576: true; the input reads as it did. -/
def fnExactHostPokeUptoRow : OpenClaim := { program := "ytklppedmchbdmaagreat", sum := "d6bd5100c29bcbf251b16ce19d6331e30595129da05957c5266a30cb88e7abc0", func := "loop.example/g00975/laws.FnExactHostPoke", spec := "fnExactHostPoke", unfollowed := true, recurses := true, apart := false, narrowed := true }
def FnExactHostPokeUptoSaid : Prop := fnExactHostPokeUptoRow.holds Tryz.pinned (OpenSpec.upto fnExactHostPokeSpec)

end Rows
end Go.Proofs.YtklppedmchbdmaaGreat
