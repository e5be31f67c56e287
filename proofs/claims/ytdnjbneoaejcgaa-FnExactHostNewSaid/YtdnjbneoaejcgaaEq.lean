/- Equality of flat structs. No program is named here. -/
import Derived.Test.YtdnjbneoaejcgaaTypes
import Derived.Laws.StructEq
namespace Go.Proofs.Ytdnjbneoaejcgaa
open Go
def flatFields (P : Program) : Nat → List Field → Option (List Bool)
  | _, [] => some []
  | i, f :: fs =>
    bif (f.name == "_") || !Nat.beq f.offset i then none else
    match P.underlying f.type with
    | some (.int .i64) => (flatFields P (i + 1) fs).map fun l => true :: l
    | some .bool => (flatFields P (i + 1) fs).map fun l => false :: l
    | _ => none
def flatK (P : Program) (t : TypeId) : Option (List Bool) :=
  match P.underlying t with
  | some (.struct fs) => bif P.stoodInHeld t then none else flatFields P 0 fs.toList
  | _ => none
def okL : List Bool → List Value → Prop
  | [], _ => True
  | true :: ks, .int .i64 _ :: xs => okL ks xs
  | false :: ks, .bool _ :: xs => okL ks xs
  | _, _ => False
def eqL : List Bool → List Value → List Value → Bool
  | [], _, _ => true
  | true :: ks, .int .i64 a :: xs, .int .i64 b :: ys => (a == b) && eqL ks xs ys
  | false :: ks, .bool a :: xs, .bool b :: ys => (a == b) && eqL ks xs ys
  | _, _, _ => false
section
variable {P : Program} {u : World} {N : Bl}
end
end Go.Proofs.Ytdnjbneoaejcgaa
