/- A region that draws its order, only asks, and guards operations by tests whose outcome is known: one walk in the text's order. No program is named here. -/
import Derived.Test.YtgonaioedbphgaaDraw
namespace Go.Proofs.Ytgonaioedbphgaa
open Go
def lookB : List (Nat × Bool) → Nat → Option Bool
  | [], _ => none
  | (s, x) :: r, t => bif Nat.beq s t then some x else lookB r t
def ovr (ov : List (Nat × Bool)) (i : Nat) (x : SV) : SV × List (Bool × Bool) :=
  match lookB ov i, x with
  | some b, .v (.bool c) => (.v (.bool b), [(c, b)])
  | _, x => (x, [])
def AllB : List (Bool × Bool) → Prop
  | [] => True
  | p :: r => p.1 = p.2 ∧ AllB r
theorem AllB.nil : AllB [] := trivial
theorem AllB.cons {c b : Bool} {l : List (Bool × Bool)} (h : c = b) (t : AllB l) : AllB ((c, b) :: l) := ⟨h, t⟩
theorem AllB.left : ∀ {l r : List (Bool × Bool)}, AllB (l ++ r) → AllB l
  | [], _, _ => trivial
  | _ :: _, _, h => ⟨h.1, AllB.left h.2⟩
theorem AllB.right : ∀ {l r : List (Bool × Bool)}, AllB (l ++ r) → AllB r
  | [], _, h => h
  | _ :: _, _, h => AllB.right (l := _) h.2
theorem ovr_eq {ov : List (Nat × Bool)} {i : Nat} {x : SV} (h : AllB (ovr ov i x).2) : (ovr ov i x).1 = x := by
  unfold ovr at h ⊢
  split
  · rename_i b c hb
    simp only [hb] at h
    have := h.1
    simp only at this
    rw [this]
  · rfl
def evDO (P : Program) (n : Nat) (ops : Array Oper) (ov : List (Nat × Bool)) : Nat → List Oper → Sy → List Value → Option (Sy × List (Ask × Value) × List (Bool × Bool))
  | _, [], σ, _ => some (σ, [], [])
  | i, o :: r, σ, orc =>
    match guardv ops σ o with
    | none => none
    | some false => (σ.put n o.dst (.v undef)).bind fun σ' => evDO P n ops ov (i + 1) r σ' orc
    | some true =>
      match opAc P σ o with
      | some (.val x) => (σ.put n o.dst (ovr ov i x).1).bind fun σ' => (evDO P n ops ov (i + 1) r σ' orc).map fun z => (z.1, z.2.1, (ovr ov i x).2 ++ z.2.2)
      | some (.ask q) =>
        match orc with
        | [] => none
        | v :: orc' => (σ.put n o.dst (ovr ov i (.v v)).1).bind fun σ' => (evDO P n ops ov (i + 1) r σ' orc').map fun z => (z.1, (q, v) :: z.2.1, (ovr ov i (.v v)).2 ++ z.2.2)
      | _ => none
theorem evDO_evD (P : Program) (n : Nat) (ops : Array Oper) (ov : List (Nat × Bool)) : ∀ (l : List Oper) (i : Nat) (σ : Sy) (orc : List Value) (z : Sy × List (Ask × Value) × List (Bool × Bool)),
    evDO P n ops ov i l σ orc = some z → AllB z.2.2 → evD P n ops l σ orc = some (z.1, z.2.1)
  | [], i, σ, orc, z, h, hb => by
    simp only [evDO, Option.some.injEq] at h
    subst h
    rfl
  | o :: l, i, σ, orc, z, h, hb => by
    simp only [evDO] at h
    simp only [evD]
    split at h
    · cases h
    · rename_i hg
      rw [hg]
      simp only
      cases hp : σ.put n o.dst (.v undef) with
      | none => rw [hp] at h; cases h
      | some σ1 =>
        rw [hp] at h
        exact evDO_evD P n ops ov l (i + 1) σ1 orc z h hb
    · rename_i hg
      rw [hg]
      simp only
      split at h
      · rename_i x hx
        rw [hx]
        simp only
        cases hp : σ.put n o.dst (ovr ov i x).1 with
        | none => rw [hp] at h; cases h
        | some σ1 =>
          rw [hp] at h
          simp only [Option.bind_some] at h
          cases hr : evDO P n ops ov (i + 1) l σ1 orc with
          | none => rw [hr] at h; cases h
          | some r =>
            rw [hr] at h
            simp only [Option.map_some, Option.some.injEq] at h
            subst h
            rw [ovr_eq hb.left] at hp
            rw [hp]
            exact evDO_evD P n ops ov l (i + 1) σ1 orc r hr hb.right
      · rename_i q hx
        rw [hx]
        simp only
        split at h
        · cases h
        · rename_i v orc'
          cases hp : σ.put n o.dst (ovr ov i (.v v)).1 with
          | none => rw [hp] at h; cases h
          | some σ1 =>
            rw [hp] at h
            simp only [Option.bind_some] at h
            cases hr : evDO P n ops ov (i + 1) l σ1 orc' with
            | none => rw [hr] at h; cases h
            | some r =>
              rw [hr] at h
              simp only [Option.map_some, Option.some.injEq] at h
              subst h
              rw [ovr_eq hb.left] at hp
              have := evDO_evD P n ops ov l (i + 1) σ1 orc' r hr hb.right
              simp only [hp, Option.bind_some, this, Option.map_some]
      · cases h
def evDOK (P : Program) (n : Nat) (ops : Array Oper) (ov : List (Nat × Bool)) (σ : Sy) (orc : List Value) (keep : List Nat) (m : Nat) : Option (Sy × List (Ask × Value) × List (Bool × Bool)) :=
  (evDO P n ops ov 0 ops.toList σ orc).map fun x => (⟨x.1.keep m keep, x.1.bx.take m⟩, x.2)
variable {P : Program} {n : Nat} {w0 : World} {M : Bl} {u : World} {N : Bl} {β : Nat → Nat} {σ σ' : Sy} {a : Act} {w : World} {ops : Array Oper} {Q : Exit → Act → World → Prop}
theorem St.drawnO (S : St P n w0 M u N β σ a w) {id : Nat} (ov : List (Nat × Bool)) {claims : List (Ask × Value)} {obl : List (Bool × Bool)} {keep : List Nat} {m : Nat} (hq : AllQ P u N claims)
    (hm : P.follows .mixedOrders = true) (hB : Region.lexB .any ops = true)
    (hev : evDOK P n ops ov σ (claims.map (·.2)) keep m = some (σ', claims, obl)) (hob : AllB obl) (K : ∀ a' w', St P n w0 M u N β σ' a' w' → Q .normal a' w') : (Code.region id ops true).wp P Q a w := by
  unfold evDOK at hev
  cases hr : evDO P n ops ov 0 ops.toList σ (claims.map (·.2)) with
  | none => rw [hr] at hev; cases hev
  | some r =>
    rw [hr] at hev
    simp only [Option.map_some, Option.some.injEq, Prod.mk.injEq] at hev
    obtain ⟨e1, e2⟩ := hev
    have h2 : r.2.2 = obl := by rw [e2]
    have h1 : r.2.1 = claims := by rw [e2]
    have hd := evDO_evD P n ops ov _ _ _ _ _ hr (by rw [h2]; exact hob)
    refine S.drawn (claims := claims) (keep := keep) (m := m) hq hm hB ?_ K
    unfold evDK
    rw [hd, h1, ← e1]
    rfl
end Go.Proofs.Ytgonaioedbphgaa
