/- A region that draws its order, only asks, and guards operations by tests whose outcome is known: one walk in the text's order. No program is named here. -/
import Derived.Test.YtdnjbneoaejcgaaDraw
namespace Go.Proofs.Ytdnjbneoaejcgaa
open Go
def lookB : List (Nat × Bool) → Nat → Option Bool
  | [], _ => none
  | (s, x) :: r, t => bif Nat.beq s t then some x else lookB r t
def ovr (ov : List (Nat × Bool)) (i : Nat) (x : SV) : SV × List (Bool × Bool) :=
  match lookB ov i, x with
  | some b, .v (.bool c) => (.v (.bool b), [(c, b)])
  | _, x => (x, [])
def AllB : List (Bool × Bool) → Prop
  | [] => True
  | p :: r => p.1 = p.2 ∧ AllB r
theorem AllB.nil : AllB [] := trivial
theorem AllB.cons {c b : Bool} {l : List (Bool × Bool)} (h : c = b) (t : AllB l) : AllB ((c, b) :: l) := ⟨h, t⟩
theorem AllB.left : ∀ {l r : List (Bool × Bool)}, AllB (l ++ r) → AllB l
  | [], _, _ => trivial
  | _ :: _, _, h => ⟨h.1, AllB.left h.2⟩
theorem AllB.right : ∀ {l r : List (Bool × Bool)}, AllB (l ++ r) → AllB r
  | [], _, h => h
  | _ :: _, _, h => AllB.right (l := _) h.2
def evDO (P : Program) (n : Nat) (ops : Array Oper) (ov : List (Nat × Bool)) : Nat → List Oper → Sy → List Value → Option (Sy × List (Ask × Value) × List (Bool × Bool))
  | _, [], σ, _ => some (σ, [], [])
  | i, o :: r, σ, orc =>
    match guardv ops σ o with
    | none => none
    | some false => (σ.put n o.dst (.v undef)).bind fun σ' => evDO P n ops ov (i + 1) r σ' orc
    | some true =>
      match opAc P σ o with
      | some (.val x) => (σ.put n o.dst (ovr ov i x).1).bind fun σ' => (evDO P n ops ov (i + 1) r σ' orc).map fun z => (z.1, z.2.1, (ovr ov i x).2 ++ z.2.2)
      | some (.ask q) =>
        match orc with
        | [] => none
        | v :: orc' => (σ.put n o.dst (ovr ov i (.v v)).1).bind fun σ' => (evDO P n ops ov (i + 1) r σ' orc').map fun z => (z.1, (q, v) :: z.2.1, (ovr ov i (.v v)).2 ++ z.2.2)
      | _ => none
def evDOK (P : Program) (n : Nat) (ops : Array Oper) (ov : List (Nat × Bool)) (σ : Sy) (orc : List Value) (keep : List Nat) (m : Nat) : Option (Sy × List (Ask × Value) × List (Bool × Bool)) :=
  (evDO P n ops ov 0 ops.toList σ orc).map fun x => (⟨x.1.keep m keep, x.1.bx.take m⟩, x.2)
variable {P : Program} {n : Nat} {w0 : World} {M : Bl} {u : World} {N : Bl} {β : Nat → Nat} {σ σ' : Sy} {a : Act} {w : World} {ops : Array Oper} {Q : Exit → Act → World → Prop}
end Go.Proofs.Ytdnjbneoaejcgaa
