/- A region that draws its order, only asks, and guards operations by tests whose outcome is known: one walk in the text's order. No program is named here. -/
import Derived.Test.YtlpaefknpmdaoaaGreatA1
import Derived.KernelRfl
import Derived.Lib.BitFns
import Derived.Test.YtlpaefknpmdaoaaGreatBits
namespace Go.Proofs.YtlpaefknpmdaoaaGreat
open Go
def lookB : List (Nat × Bool) → Nat → Option Bool
  | [], _ => none
  | (s, x) :: r, t => bif Nat.beq s t then some x else lookB r t
def ovr (ov : List (Nat × Bool)) (i : Nat) (x : SV) : SV × List (Bool × Bool) :=
  match lookB ov i, x with
  | some b, .v (.bool c) => (.v (.bool b), [(c, b)])
  | _, x => (x, [])
def AllB : List (Bool × Bool) → Prop
  | [] => True
  | p :: r => p.1 = p.2 ∧ AllB r
theorem AllB.nil : AllB [] := trivial
theorem AllB.cons {c b : Bool} {l : List (Bool × Bool)} (h : c = b) (t : AllB l) : AllB ((c, b) :: l) := ⟨h, t⟩
theorem AllB.left : ∀ {l r : List (Bool × Bool)}, AllB (l ++ r) → AllB l
  | [], _, _ => trivial
  | _ :: _, _, h => ⟨h.1, AllB.left h.2⟩
theorem AllB.right : ∀ {l r : List (Bool × Bool)}, AllB (l ++ r) → AllB r
  | [], _, h => h
  | _ :: _, _, h => AllB.right (l := _) h.2
theorem ovr_eq {ov : List (Nat × Bool)} {i : Nat} {x : SV} (h : AllB (ovr ov i x).2) : (ovr ov i x).1 = x := by
  unfold ovr at h ⊢
  split
  · rename_i b c hb
    simp only [hb] at h
    have := h.1
    simp only at this
    rw [this]
  · rfl
def evDO (P : Program) (n : Nat) (ops : Array Oper) (ov : List (Nat × Bool)) : Nat → List Oper → Sy → List Value → Option (Sy × List (Ask × Value) × List (Bool × Bool))
  | _, [], σ, _ => some (σ, [], [])
  | i, o :: r, σ, orc =>
    match guardv ops σ o with
    | none => none
    | some false => (σ.put n o.dst (.v undef)).bind fun σ' => evDO P n ops ov (i + 1) r σ' orc
    | some true =>
      match opAc P σ o with
      | some (.val x) => (σ.put n o.dst (ovr ov i x).1).bind fun σ' => (evDO P n ops ov (i + 1) r σ' orc).map fun z => (z.1, z.2.1, (ovr ov i x).2 ++ z.2.2)
      | some (.ask q) =>
        match orc with
        | [] => none
        | v :: orc' => (σ.put n o.dst (ovr ov i (.v v)).1).bind fun σ' => (evDO P n ops ov (i + 1) r σ' orc').map fun z => (z.1, (q, v) :: z.2.1, (ovr ov i (.v v)).2 ++ z.2.2)
      | _ => none
theorem evDO_evD (P : Program) (n : Nat) (ops : Array Oper) (ov : List (Nat × Bool)) : ∀ (l : List Oper) (i : Nat) (σ : Sy) (orc : List Value) (z : Sy × List (Ask × Value) × List (Bool × Bool)),
    evDO P n ops ov i l σ orc = some z → AllB z.2.2 → evD P n ops l σ orc = some (z.1, z.2.1)
  | [], i, σ, orc, z, h, hb => by
    simp only [evDO, Option.some.injEq] at h
    subst h
    rfl
  | o :: l, i, σ, orc, z, h, hb => by
    simp only [evDO] at h
    simp only [evD]
    split at h
    · cases h
    · rename_i hg
      try rw [hg]
      try simp only
      cases hp : σ.put n o.dst (.v undef) with
      | none => rw [hp] at h; cases h
      | some σ1 =>
        rw [hp] at h
        exact evDO_evD P n ops ov l (i + 1) σ1 orc z h hb
    · rename_i hg
      try rw [hg]
      try simp only
      split at h
      · rename_i x hx
        rw [hx]
        simp only
        cases hp : σ.put n o.dst (ovr ov i x).1 with
        | none => rw [hp] at h; cases h
        | some σ1 =>
          rw [hp] at h
          simp only [Option.bind_some] at h
          cases hr : evDO P n ops ov (i + 1) l σ1 orc with
          | none => rw [hr] at h; cases h
          | some r =>
            rw [hr] at h
            simp only [Option.map_some, Option.some.injEq] at h
            subst h
            rw [ovr_eq hb.left] at hp
            rw [hp]
            exact evDO_evD P n ops ov l (i + 1) σ1 orc r hr hb.right
      · rename_i q hx
        rw [hx]
        simp only
        split at h
        · cases h
        · rename_i v orc'
          cases hp : σ.put n o.dst (ovr ov i (.v v)).1 with
          | none => rw [hp] at h; cases h
          | some σ1 =>
            rw [hp] at h
            simp only [Option.bind_some] at h
            cases hr : evDO P n ops ov (i + 1) l σ1 orc' with
            | none => rw [hr] at h; cases h
            | some r =>
              rw [hr] at h
              simp only [Option.map_some, Option.some.injEq] at h
              subst h
              rw [ovr_eq hb.left] at hp
              have := evDO_evD P n ops ov l (i + 1) σ1 orc' r hr hb.right
              simp only [hp, Option.bind_some, this, Option.map_some]
      · cases h
def evDOK (P : Program) (n : Nat) (ops : Array Oper) (ov : List (Nat × Bool)) (σ : Sy) (orc : List Value) (keep : List Nat) (m : Nat) : Option (Sy × List (Ask × Value) × List (Bool × Bool)) :=
  (evDO P n ops ov 0 ops.toList σ orc).map fun x => (⟨x.1.keep m keep, x.1.bx.take m⟩, x.2)
variable {P : Program} {n : Nat} {w0 : World} {M : Bl} {u : World} {N : Bl} {β : Nat → Nat} {σ σ' : Sy} {a : Act} {w : World} {ops : Array Oper} {Q : Exit → Act → World → Prop}
theorem St.drawnO (S : St P n w0 M u N β σ a w) {id : Nat} (ov : List (Nat × Bool)) {claims : List (Ask × Value)} {obl : List (Bool × Bool)} {keep : List Nat} {m : Nat} (hq : AllQ P u N claims)
    (hm : P.follows .mixedOrders = true) (hB : Region.lexB .any ops = true)
    (hev : evDOK P n ops ov σ (claims.map (·.2)) keep m = some (σ', claims, obl)) (hob : AllB obl) (K : ∀ a' w', St P n w0 M u N β σ' a' w' → Q .normal a' w') : (Code.region id ops true).wp P Q a w := by
  unfold evDOK at hev
  cases hr : evDO P n ops ov 0 ops.toList σ (claims.map (·.2)) with
  | none => rw [hr] at hev; cases hev
  | some r =>
    rw [hr] at hev
    simp only [Option.map_some, Option.some.injEq, Prod.mk.injEq] at hev
    obtain ⟨e1, e2⟩ := hev
    have h2 : r.2.2 = obl := by rw [e2]
    have h1 : r.2.1 = claims := by rw [e2]
    have hd := evDO_evD P n ops ov _ _ _ _ _ hr (by rw [h2]; exact hob)
    refine S.drawn (claims := claims) (keep := keep) (m := m) hq hm hB ?_ K
    unfold evDK
    rw [hd, h1, ← e1]
    rfl
end Go.Proofs.YtlpaefknpmdaoaaGreat
namespace Go.Proofs.YtlpaefknpmdaoaaGreat
open Go
set_option linter.unusedSimpArgs false
set_option linter.unusedVariables false
def hdi (x : Int) (k : Int) (f : Int → Int) : Int := if x = k then f (IntKind.i64.wrap (k + 1)) else -1
def hdb (x : Bool) (k : Int) (f : Int → Int) : Int := if x = (Int.tmod k 3 == 0) then f (IntKind.i64.wrap (k + 1)) else -1
def hdc (k : Int) (f : Int → Int) : Int := if k < 0 then -1 else f k
theorem hdi_eq {x k : Int} {f : Int → Int} (h : x = k) (h1 : -9223372036854775808 ≤ k + 1) (h2 : k + 1 ≤ 9223372036854775807) : hdi x k f = f (k + 1) := by
  unfold hdi; rw [if_pos h, wrap_in ⟨h1, h2⟩]
theorem hdb_eq {x : Bool} {k : Int} {f : Int → Int} (h : x = (Int.tmod k 3 == 0)) (h1 : -9223372036854775808 ≤ k + 1) (h2 : k + 1 ≤ 9223372036854775807) : hdb x k f = f (k + 1) := by
  unfold hdb; rw [if_pos h, wrap_in ⟨h1, h2⟩]
theorem hdc_pos {k : Int} {f : Int → Int} (h : 0 ≤ k) : hdc k f = f k := by unfold hdc; rw [if_neg (by omega)]
theorem drop_el {α : Type} [GT α] {a : List α} {i : Nat} (h : i < a.length) : a.drop i = el a i :: a.drop (i + 1) := by
  rw [el_lt h, List.drop_eq_getElem_cons h]
theorem el_set_ne {α : Type} [GT α] {xs : List α} {i k : Nat} {y : α} (e : ¬ i = k) : el (xs.set k y) i = el xs i := by
  unfold el
  rw [List.getD_eq_getElem?_getD, List.getD_eq_getElem?_getD, List.getElem?_set_ne (fun h => e h.symm)]
class HE (α : Type) where
  he : α → Int → (Int → Int) → Int
section
variable {α : Type} [HE α]
def hdlc : List α → Int → (Int → Int) → Int
  | [], k, f => f k
  | x :: r, k, f => HE.he x k fun k => hdlc r k f
def hdl (xs : List α) (k : Int) : Int := hdlc xs k id
instance : HE Int := ⟨hdi⟩
instance : HE Bool := ⟨hdb⟩
instance : HE (List α) := ⟨fun x k f => hdc (hdl x k) f⟩
theorem he_list (x : List α) (k : Int) (f : Int → Int) : HE.he x k f = hdc (hdl x k) f := rfl
theorem he_Int (x k : Int) (f : Int → Int) : HE.he x k f = hdi x k f := rfl
theorem hdlc_append (xs ys : List α) (k : Int) (f : Int → Int) : hdlc (xs ++ ys) k f = hdlc xs k fun k => hdlc ys k f := by
  induction xs generalizing k with
  | nil => rfl
  | cons x r ih => simp only [List.cons_append, hdlc, ih]
theorem hd_step [GT α] {a : List α} {i : Nat} {j : Int} {f : Int → Int} (h : i < a.length) : hdlc (a.drop i) j f = HE.he (el a i) j fun k => hdlc (a.drop (i + 1)) k f := by
  rw [drop_el h]; rfl
theorem hd_end {a : List α} {i : Nat} {j : Int} (h : a.length ≤ i) : hdlc (a.drop i) j id = j := by
  rw [List.drop_of_length_le h]; rfl
theorem mk_step [GT α] {acc : List α} {i : Nat} {k j j' : Int} (h : i < acc.length) (hM : ∀ f, hdlc (acc.take i) k f = f j) (he : ∀ f, HE.he (el acc i) j f = f j') : ∀ f, hdlc (acc.take (i + 1)) k f = f j' := by
  intro f
  rw [take_el h, hdlc_append, hM]
  exact he f
theorem mk_end {acc : List α} {i : Nat} {k j : Int} (h : acc.length ≤ i) (hM : ∀ f, hdlc (acc.take i) k f = f j) : hdl acc k = j := by
  have := hM id
  rwa [take_all h] at this
end
theorem take_set_self {α : Type} {xs : List α} {k : Nat} {y : α} : (xs.set k y).take k = xs.take k := by
  rw [List.take_set_of_le (Nat.le_refl _)]
theorem drop_set_self {α : Type} {xs : List α} {k : Nat} {y : α} : (xs.set k y).drop (k + 1) = xs.drop (k + 1) := by
  rw [List.drop_set_of_lt (Nat.lt_succ_self _)]
theorem drop_more {α : Type} {xs ys : List α} {k : Nat} (h : xs.drop k = ys.drop k) : xs.drop (k + 1) = ys.drop (k + 1) := by
  rw [← List.drop_drop, ← List.drop_drop, h]
theorem el_of_drop {α : Type} [GT α] {xs ys : List α} {k : Nat} (h : xs.drop k = ys.drop k) : el xs k = el ys k := by
  have e : (xs.drop k)[0]? = (ys.drop k)[0]? := by rw [h]
  rw [List.getElem?_drop, List.getElem?_drop, Nat.add_zero] at e
  unfold el
  rw [List.getD_eq_getElem?_getD, List.getD_eq_getElem?_getD, e]
instance : HE TSlot := ⟨fun x k f => hdi x.page k fun k => hdi x.rights k fun k => f k⟩
theorem he_Slot (x : TSlot) (k : Int) (f : Int → Int) : HE.he x k f = hdi x.page k fun k => hdi x.rights k fun k => f k := rfl
instance : HE TEntry := ⟨fun x k f => hdi x.tag k fun k => hdi x.page k fun k => hdi x.host k fun k => hdi x.rights k fun k => f k⟩
instance : HE TIns := ⟨fun x k f => hdi x.opc k fun k => hdi x.x k fun k => f k⟩
theorem he_Ins (x : TIns) (k : Int) (f : Int → Int) : HE.he x k f = hdi x.opc k fun k => hdi x.x k fun k => f k := rfl
instance : HE TCtl := ⟨fun x k f => hdi x.traps k fun k => hdi x.post k fun k => hdb x.opn k fun k => f k⟩
instance : HE TExit := ⟨fun x k f => hdi x.kind k fun k => hdi x.page k fun k => hdb x.wr k fun k => hdi x.n k fun k => f k⟩
instance : HE TAct := ⟨fun x k f => hdi x.kind k fun k => hdi x.m k fun k => hdi x.g k fun k => hdi x.x k fun k => hdi x.y k fun k => hdi x.z k fun k => f k⟩
instance : HE TTold := ⟨fun x k f => hdb x.ok k fun k => hdi x.n k fun k => f k⟩
instance : HE TKept := ⟨fun x k f => hdc (hdl x.known k) fun k => hdc (hdl x.slots k) fun k => f k⟩
def hdT_Kept (x : TKept) (k : Int) : Int := hdc (hdl x.known k) fun k => hdc (hdl x.slots k) fun k => k
instance : HE TGuest := ⟨fun x k f => hdc (hdl x.prog k) fun k => hdi x.acc k fun k => hdi x.pc k fun k => hdc (hdl x.written k) fun k => hdc (hdl x.live k) fun k => hdi x.ctl.traps k fun k => hdi x.ctl.post k fun k => hdb x.ctl.opn k fun k => hdi x.pend k fun k => hdi x.exit.kind k fun k => hdi x.exit.page k fun k => hdb x.exit.wr k fun k => hdi x.exit.n k fun k => hdb x.halted k fun k => hdc (hdl x.seen k) fun k => f k⟩
theorem he_Guest (x : TGuest) (k : Int) (f : Int → Int) : HE.he x k f = hdc (hdl x.prog k) fun k => hdi x.acc k fun k => hdi x.pc k fun k => hdc (hdl x.written k) fun k => hdc (hdl x.live k) fun k => hdi x.ctl.traps k fun k => hdi x.ctl.post k fun k => hdb x.ctl.opn k fun k => hdi x.pend k fun k => hdi x.exit.kind k fun k => hdi x.exit.page k fun k => hdb x.exit.wr k fun k => hdi x.exit.n k fun k => hdb x.halted k fun k => hdc (hdl x.seen k) fun k => f k := rfl
def hdT_Guest (x : TGuest) (k : Int) : Int := hdc (hdl x.prog k) fun k => hdc (hdl x.written k) fun k => hdc (hdl x.live k) fun k => hdc (hdl x.seen k) fun k => k
instance : HE TMon := ⟨fun x k f => hdc (hdl x.outer k) fun k => hdc (hdl x.out k) fun k => hdc (hdl x.dirty k) fun k => hdc (hdl x.guests k) fun k => hdc (hdl x.outs k) fun k => hdi x.pend k fun k => hdi x.traps k fun k => hdc (hdl x.tables k) fun k => hdi x.owned k fun k => f k⟩
def hdT_Mon (x : TMon) (k : Int) : Int := hdc (hdl x.outer k) fun k => hdc (hdl x.out k) fun k => hdc (hdl x.dirty k) fun k => hdc (hdl x.guests k) fun k => hdc (hdl x.outs k) fun k => hdc (hdl x.tables k) fun k => k
instance : HE TBare := ⟨fun x k f => hdc (hdl x.mem k) fun k => hdc (hdl x.guests k) fun k => hdc (hdl x.outs k) fun k => hdi x.pend k fun k => f k⟩
theorem he_Bare (x : TBare) (k : Int) (f : Int → Int) : HE.he x k f = hdc (hdl x.mem k) fun k => hdc (hdl x.guests k) fun k => hdc (hdl x.outs k) fun k => hdi x.pend k fun k => f k := rfl
def hdT_Bare (x : TBare) (k : Int) : Int := hdc (hdl x.mem k) fun k => hdc (hdl x.guests k) fun k => hdc (hdl x.outs k) fun k => k
instance : HE THost := ⟨fun x k f => hdc (hdl x.mem k) fun k => hdc (hdl x.mons k) fun k => hdc (hdl x.buf k) fun k => hdc (hdl x.iobuf k) fun k => f k⟩
def hdT_Host (x : THost) (k : Int) : Int := hdc (hdl x.mem k) fun k => hdc (hdl x.mons k) fun k => hdc (hdl x.buf k) fun k => hdc (hdl x.iobuf k) fun k => k
theorem hd_marksInt (k : Int) (h0 : 0 ≤ k) : ∀ n : Nat, k + 1 * (n : Int) ≤ 4611686018427387904 → ∀ f, hdlc (f_marksInt n k) k f = f (k + 1 * (n : Int))
  | 0, _, f => by
    show f k = _
    congr 1; omega
  | n + 1, h, f => by
    have e : f_marksInt (n + 1) k = f_marksInt n k ++ [g_markInt (k + 1 * (n : Int))] := by
      unfold f_marksInt; rw [List.range_succ, List.map_append]; rfl
    rw [e, hdlc_append, hd_marksInt k h0 n (by omega)]
    show HE.he (g_markInt (k + 1 * (n : Int))) (k + 1 * (n : Int)) f = _
    generalize hj : k + 1 * (n : Int) = j
    simp (disch := first | omega | rfl) only [he_Int, g_markInt, hdi_eq, hdb_eq, Int.add_assoc, Int.reduceAdd]
    congr 1; omega
theorem hd_marksSlot (k : Int) (h0 : 0 ≤ k) : ∀ n : Nat, k + 2 * (n : Int) ≤ 4611686018427387904 → ∀ f, hdlc (f_marksSlot n k) k f = f (k + 2 * (n : Int))
  | 0, _, f => by
    show f k = _
    congr 1; omega
  | n + 1, h, f => by
    have e : f_marksSlot (n + 1) k = f_marksSlot n k ++ [g_markSlot (k + 2 * (n : Int))] := by
      unfold f_marksSlot; rw [List.range_succ, List.map_append]; rfl
    rw [e, hdlc_append, hd_marksSlot k h0 n (by omega)]
    show HE.he (g_markSlot (k + 2 * (n : Int))) (k + 2 * (n : Int)) f = _
    generalize hj : k + 2 * (n : Int) = j
    simp (disch := first | omega | rfl) only [he_Slot, g_markSlot, hdi_eq, hdb_eq, Int.add_assoc, Int.reduceAdd]
    congr 1; omega
theorem hd_marksIns (k : Int) (h0 : 0 ≤ k) : ∀ n : Nat, k + 2 * (n : Int) ≤ 4611686018427387904 → ∀ f, hdlc (f_marksIns n k) k f = f (k + 2 * (n : Int))
  | 0, _, f => by
    show f k = _
    congr 1; omega
  | n + 1, h, f => by
    have e : f_marksIns (n + 1) k = f_marksIns n k ++ [g_markIns (k + 2 * (n : Int))] := by
      unfold f_marksIns; rw [List.range_succ, List.map_append]; rfl
    rw [e, hdlc_append, hd_marksIns k h0 n (by omega)]
    show HE.he (g_markIns (k + 2 * (n : Int))) (k + 2 * (n : Int)) f = _
    generalize hj : k + 2 * (n : Int) = j
    simp (disch := first | omega | rfl) only [he_Ins, g_markIns, hdi_eq, hdb_eq, Int.add_assoc, Int.reduceAdd]
    congr 1; omega
section
variable {w0 : World} {M : Bl} {u : World} {N : Bl}
theorem Ow.focus {α β : Type} [GT α] [GT β] {xs : List α} {p : LP α} {F : Bl} (o : Ow w0 M u N F xs p) {k : Nat} (hk : k < xs.length) (get : α → β) (pget : GT.Ptr α → GT.Ptr β) (set : α → β → α) (pset : GT.Ptr α → GT.Ptr β → GT.Ptr α)
    (hP : ∀ (G : Bl) (u : World) (x : α) (r : GT.Ptr α), GT.own KK G u x r → ∃ H : Bl, GT.own KK H u (get x) (pget r) ∧ (∀ b, H b → G b) ∧ ∀ (u' : World) (y : β) (q : GT.Ptr β), GT.own KK H u' y q → (∀ b, G b → ¬ H b → u'.heap[b]? = u.heap[b]?) → GT.cells y q = GT.cells (get x) (pget r) → GT.own KK G u' (set x y) (pset r q) ∧ GT.cells (set x y) (pset r q) = GT.cells x r) :
    ∃ H : Bl, Ow w0 M u N H (get (el xs k)) (pget (p.2 k)) ∧ (∀ b, H b → F b) ∧ ∀ (u' : World) (N' : Bl) (y : β) (q : GT.Ptr β), (∀ b, N b → ¬ H b → N' b ∧ u'.heap[b]? = u.heap[b]?) → Ow w0 M u' N' H y q → GT.cells y q = GT.cells (get (el xs k)) (pget (p.2 k)) →
      ∃ p2, Ow w0 M u' N' F (xs.set k (set (el xs k) y)) (p.1, p2) := by
  have ho : LOwn KK F u xs p := o.own
  obtain ⟨G, g1, g2, g3⟩ := ho.el
  obtain ⟨H, h1, h2, h3⟩ := hP (G k) u (el xs k) (p.2 k) (g1 k hk)
  have hHF : ∀ b, H b → F b := fun b hb => (g2 k hk b (h2 b hb)).1
  refine ⟨H, ⟨h1, fun b hb => o.sub b (hHF b hb), fun b hb => o.young b (hHF b hb)⟩, hHF, fun u' N' y q up oy hc => ?_⟩
  have keep : ∀ b, F b → ¬ H b → u'.heap[b]? = u.heap[b]? := fun b hb hn => (up b (o.sub b hb) hn).2
  have hcap := ho.cap
  have hnn : p.1.nil = false := ho.nonil (by omega)
  have hrowb : ¬ H p.1.b := fun hb => (g2 k hk _ (h2 _ hb)).2 rfl
  have hrowF : F p.1.b := (ho.row hnn).1
  obtain ⟨b1, b2⟩ := h3 u' y q oy.own (fun b hb hn => keep b (g2 k hk b hb).1 hn) hc
  refine ⟨fun i => if i = k then pset (p.2 k) q else p.2 i, ⟨?_, ?_, o.young⟩⟩
  · show LOwn KK F u' _ _
    refine ⟨by rw [List.length_set]; exact ho.le, by rw [List.length_set]; exact ho.cap, ho.capm, ho.null, fun z => ⟨(ho.row z).1, ?_⟩, fun i hi => ?_, G, fun i hi => ?_, ?_, ?_⟩
    · rw [keep _ hrowF hrowb]; exact (ho.row z).2
    · rw [List.length_set] at hi
      have hcell : CellsAt u' p.1.b (p.1.off + i * GT.width α) (GT.cells (el xs i) (p.2 i)) := (ho.cell i hi).agree (keep _ hrowF hrowb)
      by_cases e : i = k
      · subst e
        rw [el_set_self hi]
        simp only [if_true]
        rw [b2]; exact hcell
      · rw [el_set_ne e]
        simp only [if_neg e]
        exact hcell
    · rw [List.length_set] at hi
      by_cases e : i = k
      · subst e
        rw [el_set_self hi]
        simp only [if_true]
        exact b1
      · rw [el_set_ne e]
        simp only [if_neg e]
        exact GT.own_agree (g1 i hi) fun b hb _ => keep b (g2 i hi b hb).1 fun hH => g3 i k hi hk e b hb (h2 b hH)
    · intro i hi; rw [List.length_set] at hi; exact g2 i hi
    · intro i j hi hj; rw [List.length_set] at hi hj; exact g3 i j hi hj
  · intro b hb
    by_cases hH : H b
    · exact oy.sub b hH
    · exact (up b (o.sub b hb) hH).1
theorem foc_id {β : Type} [GT β] {xs : List β} {p : LP β} {F : Bl} (o : Ow w0 M u N F xs p) {k : Nat} (hk : k < xs.length) :
    ∃ H : Bl, Ow w0 M u N H (el xs k) (p.2 k) ∧ (∀ b, H b → F b) ∧ ∀ (u' : World) (N' : Bl) (y : β) (q : GT.Ptr β), (∀ b, N b → ¬ H b → N' b ∧ u'.heap[b]? = u.heap[b]?) → Ow w0 M u' N' H y q → GT.cells y q = GT.cells (el xs k) (p.2 k) →
      ∃ p2, Ow w0 M u' N' F (xs.set k y) (p.1, p2) :=
  o.focus hk (fun x => x) (fun r => r) (fun _ y => y) (fun _ q => q) fun G u x r h => ⟨G, h, fun _ z => z, fun _ _ _ h' _ hc => ⟨h', hc⟩⟩
theorem foc_Guest_prog {xs : List TGuest} {p : LP TGuest} {F : Bl} (o : Ow w0 M u N F xs p) {k : Nat} (hk : k < xs.length) :
    ∃ H : Bl, Ow w0 M u N H (el xs k).prog (p.2 k).prog ∧ (∀ b, H b → F b) ∧ ∀ (u' : World) (N' : Bl) (y : List TIns) (q : GT.Ptr (List TIns)), (∀ b, N b → ¬ H b → N' b ∧ u'.heap[b]? = u.heap[b]?) → Ow w0 M u' N' H y q → GT.cells y q = GT.cells (el xs k).prog (p.2 k).prog →
      ∃ p2, Ow w0 M u' N' F (xs.set k { el xs k with prog := y }) (p.1, p2) :=
  o.focus hk (fun x => x.prog) (fun r => r.prog) (fun x y => { x with prog := y }) (fun r q => { r with prog := q }) fun G u x r h => by
    obtain ⟨G0, G1, G2, G3, g0, g1, g2, g3, s, f0, f1, f2, f3, f4⟩ := h
    refine ⟨G0, g0, s.sub _ (by simp), fun u' y q h' hw hc => ⟨⟨G0, G1, G2, G3, h', GT.own_agree g1 fun b hb _ => hw b (s.sub _ (by simp) b hb) fun hH => (pw s.dis (i := 0) (j := 1) (by decide) rfl rfl) b hH hb, GT.own_agree g2 fun b hb _ => hw b (s.sub _ (by simp) b hb) fun hH => (pw s.dis (i := 0) (j := 2) (by decide) rfl rfl) b hH hb, GT.own_agree g3 fun b hb _ => hw b (s.sub _ (by simp) b hb) fun hH => (pw s.dis (i := 0) (j := 3) (by decide) rfl rfl) b hH hb, s, f0, f1, f2, f3, f4⟩, ?_⟩⟩
    have e := (List.cons.inj hc).1
    show [slv y.length q.1, I x.acc, I x.pc, slv x.written.length r.written.1, slv x.live.length r.live.1, I x.ctl.traps, I x.ctl.post, B x.ctl.opn, I x.pend, I x.exit.kind, I x.exit.page, B x.exit.wr, I x.exit.n, B x.halted, slv x.seen.length r.seen.1] = [slv x.prog.length r.prog.1, I x.acc, I x.pc, slv x.written.length r.written.1, slv x.live.length r.live.1, I x.ctl.traps, I x.ctl.post, B x.ctl.opn, I x.pend, I x.exit.kind, I x.exit.page, B x.exit.wr, I x.exit.n, B x.halted, slv x.seen.length r.seen.1]
    rw [e]
theorem foc_Guest_written {xs : List TGuest} {p : LP TGuest} {F : Bl} (o : Ow w0 M u N F xs p) {k : Nat} (hk : k < xs.length) :
    ∃ H : Bl, Ow w0 M u N H (el xs k).written (p.2 k).written ∧ (∀ b, H b → F b) ∧ ∀ (u' : World) (N' : Bl) (y : List TSlot) (q : GT.Ptr (List TSlot)), (∀ b, N b → ¬ H b → N' b ∧ u'.heap[b]? = u.heap[b]?) → Ow w0 M u' N' H y q → GT.cells y q = GT.cells (el xs k).written (p.2 k).written →
      ∃ p2, Ow w0 M u' N' F (xs.set k { el xs k with written := y }) (p.1, p2) :=
  o.focus hk (fun x => x.written) (fun r => r.written) (fun x y => { x with written := y }) (fun r q => { r with written := q }) fun G u x r h => by
    obtain ⟨G0, G1, G2, G3, g0, g1, g2, g3, s, f0, f1, f2, f3, f4⟩ := h
    refine ⟨G1, g1, s.sub _ (by simp), fun u' y q h' hw hc => ⟨⟨G0, G1, G2, G3, GT.own_agree g0 fun b hb _ => hw b (s.sub _ (by simp) b hb) fun hH => (pw s.dis (i := 0) (j := 1) (by decide) rfl rfl) b hb hH, h', GT.own_agree g2 fun b hb _ => hw b (s.sub _ (by simp) b hb) fun hH => (pw s.dis (i := 1) (j := 2) (by decide) rfl rfl) b hH hb, GT.own_agree g3 fun b hb _ => hw b (s.sub _ (by simp) b hb) fun hH => (pw s.dis (i := 1) (j := 3) (by decide) rfl rfl) b hH hb, s, f0, f1, f2, f3, f4⟩, ?_⟩⟩
    have e := (List.cons.inj hc).1
    show [slv x.prog.length r.prog.1, I x.acc, I x.pc, slv y.length q.1, slv x.live.length r.live.1, I x.ctl.traps, I x.ctl.post, B x.ctl.opn, I x.pend, I x.exit.kind, I x.exit.page, B x.exit.wr, I x.exit.n, B x.halted, slv x.seen.length r.seen.1] = [slv x.prog.length r.prog.1, I x.acc, I x.pc, slv x.written.length r.written.1, slv x.live.length r.live.1, I x.ctl.traps, I x.ctl.post, B x.ctl.opn, I x.pend, I x.exit.kind, I x.exit.page, B x.exit.wr, I x.exit.n, B x.halted, slv x.seen.length r.seen.1]
    rw [e]
theorem foc_Guest_live {xs : List TGuest} {p : LP TGuest} {F : Bl} (o : Ow w0 M u N F xs p) {k : Nat} (hk : k < xs.length) :
    ∃ H : Bl, Ow w0 M u N H (el xs k).live (p.2 k).live ∧ (∀ b, H b → F b) ∧ ∀ (u' : World) (N' : Bl) (y : List TSlot) (q : GT.Ptr (List TSlot)), (∀ b, N b → ¬ H b → N' b ∧ u'.heap[b]? = u.heap[b]?) → Ow w0 M u' N' H y q → GT.cells y q = GT.cells (el xs k).live (p.2 k).live →
      ∃ p2, Ow w0 M u' N' F (xs.set k { el xs k with live := y }) (p.1, p2) :=
  o.focus hk (fun x => x.live) (fun r => r.live) (fun x y => { x with live := y }) (fun r q => { r with live := q }) fun G u x r h => by
    obtain ⟨G0, G1, G2, G3, g0, g1, g2, g3, s, f0, f1, f2, f3, f4⟩ := h
    refine ⟨G2, g2, s.sub _ (by simp), fun u' y q h' hw hc => ⟨⟨G0, G1, G2, G3, GT.own_agree g0 fun b hb _ => hw b (s.sub _ (by simp) b hb) fun hH => (pw s.dis (i := 0) (j := 2) (by decide) rfl rfl) b hb hH, GT.own_agree g1 fun b hb _ => hw b (s.sub _ (by simp) b hb) fun hH => (pw s.dis (i := 1) (j := 2) (by decide) rfl rfl) b hb hH, h', GT.own_agree g3 fun b hb _ => hw b (s.sub _ (by simp) b hb) fun hH => (pw s.dis (i := 2) (j := 3) (by decide) rfl rfl) b hH hb, s, f0, f1, f2, f3, f4⟩, ?_⟩⟩
    have e := (List.cons.inj hc).1
    show [slv x.prog.length r.prog.1, I x.acc, I x.pc, slv x.written.length r.written.1, slv y.length q.1, I x.ctl.traps, I x.ctl.post, B x.ctl.opn, I x.pend, I x.exit.kind, I x.exit.page, B x.exit.wr, I x.exit.n, B x.halted, slv x.seen.length r.seen.1] = [slv x.prog.length r.prog.1, I x.acc, I x.pc, slv x.written.length r.written.1, slv x.live.length r.live.1, I x.ctl.traps, I x.ctl.post, B x.ctl.opn, I x.pend, I x.exit.kind, I x.exit.page, B x.exit.wr, I x.exit.n, B x.halted, slv x.seen.length r.seen.1]
    rw [e]
theorem foc_Guest_seen {xs : List TGuest} {p : LP TGuest} {F : Bl} (o : Ow w0 M u N F xs p) {k : Nat} (hk : k < xs.length) :
    ∃ H : Bl, Ow w0 M u N H (el xs k).seen (p.2 k).seen ∧ (∀ b, H b → F b) ∧ ∀ (u' : World) (N' : Bl) (y : List Int) (q : GT.Ptr (List Int)), (∀ b, N b → ¬ H b → N' b ∧ u'.heap[b]? = u.heap[b]?) → Ow w0 M u' N' H y q → GT.cells y q = GT.cells (el xs k).seen (p.2 k).seen →
      ∃ p2, Ow w0 M u' N' F (xs.set k { el xs k with seen := y }) (p.1, p2) :=
  o.focus hk (fun x => x.seen) (fun r => r.seen) (fun x y => { x with seen := y }) (fun r q => { r with seen := q }) fun G u x r h => by
    obtain ⟨G0, G1, G2, G3, g0, g1, g2, g3, s, f0, f1, f2, f3, f4⟩ := h
    refine ⟨G3, g3, s.sub _ (by simp), fun u' y q h' hw hc => ⟨⟨G0, G1, G2, G3, GT.own_agree g0 fun b hb _ => hw b (s.sub _ (by simp) b hb) fun hH => (pw s.dis (i := 0) (j := 3) (by decide) rfl rfl) b hb hH, GT.own_agree g1 fun b hb _ => hw b (s.sub _ (by simp) b hb) fun hH => (pw s.dis (i := 1) (j := 3) (by decide) rfl rfl) b hb hH, GT.own_agree g2 fun b hb _ => hw b (s.sub _ (by simp) b hb) fun hH => (pw s.dis (i := 2) (j := 3) (by decide) rfl rfl) b hb hH, h', s, f0, f1, f2, f3, f4⟩, ?_⟩⟩
    have e := (List.cons.inj hc).1
    show [slv x.prog.length r.prog.1, I x.acc, I x.pc, slv x.written.length r.written.1, slv x.live.length r.live.1, I x.ctl.traps, I x.ctl.post, B x.ctl.opn, I x.pend, I x.exit.kind, I x.exit.page, B x.exit.wr, I x.exit.n, B x.halted, slv y.length q.1] = [slv x.prog.length r.prog.1, I x.acc, I x.pc, slv x.written.length r.written.1, slv x.live.length r.live.1, I x.ctl.traps, I x.ctl.post, B x.ctl.opn, I x.pend, I x.exit.kind, I x.exit.page, B x.exit.wr, I x.exit.n, B x.halted, slv x.seen.length r.seen.1]
    rw [e]
theorem ows_Guest_acc {K : Nat} {G : Bl} {u : World} {x : TGuest} {p : PGuest} {v : Int} (h : GT.own K G u x p) (hv : In64 v) : GT.own K G u ({ x with acc := v } : TGuest) p := by
  obtain ⟨G0, G1, G2, G3, g0, g1, g2, g3, s, f0, f1, f2, f3, f4⟩ := h
  exact ⟨G0, G1, G2, G3, g0, g1, g2, g3, s, hv, f1, f2, f3, f4⟩
theorem ows_Guest_pc {K : Nat} {G : Bl} {u : World} {x : TGuest} {p : PGuest} {v : Int} (h : GT.own K G u x p) (hv : In64 v) : GT.own K G u ({ x with pc := v } : TGuest) p := by
  obtain ⟨G0, G1, G2, G3, g0, g1, g2, g3, s, f0, f1, f2, f3, f4⟩ := h
  exact ⟨G0, G1, G2, G3, g0, g1, g2, g3, s, f0, hv, f2, f3, f4⟩
theorem ows_Guest_ctl {K : Nat} {G : Bl} {u : World} {x : TGuest} {p : PGuest} {v : TCtl} (h : GT.own K G u x p) (hv : RCtl v) : GT.own K G u ({ x with ctl := v } : TGuest) p := by
  obtain ⟨G0, G1, G2, G3, g0, g1, g2, g3, s, f0, f1, f2, f3, f4⟩ := h
  exact ⟨G0, G1, G2, G3, g0, g1, g2, g3, s, f0, f1, hv, f3, f4⟩
theorem ows_Guest_pend {K : Nat} {G : Bl} {u : World} {x : TGuest} {p : PGuest} {v : Int} (h : GT.own K G u x p) (hv : In64 v) : GT.own K G u ({ x with pend := v } : TGuest) p := by
  obtain ⟨G0, G1, G2, G3, g0, g1, g2, g3, s, f0, f1, f2, f3, f4⟩ := h
  exact ⟨G0, G1, G2, G3, g0, g1, g2, g3, s, f0, f1, f2, hv, f4⟩
theorem ows_Guest_exit {K : Nat} {G : Bl} {u : World} {x : TGuest} {p : PGuest} {v : TExit} (h : GT.own K G u x p) (hv : RExit v) : GT.own K G u ({ x with exit := v } : TGuest) p := by
  obtain ⟨G0, G1, G2, G3, g0, g1, g2, g3, s, f0, f1, f2, f3, f4⟩ := h
  exact ⟨G0, G1, G2, G3, g0, g1, g2, g3, s, f0, f1, f2, f3, hv⟩
theorem ows_Guest_halted {K : Nat} {G : Bl} {u : World} {x : TGuest} {p : PGuest} {v : Bool} (h : GT.own K G u x p) : GT.own K G u ({ x with halted := v } : TGuest) p := by
  obtain ⟨G0, G1, G2, G3, g0, g1, g2, g3, s, f0, f1, f2, f3, f4⟩ := h
  exact ⟨G0, G1, G2, G3, g0, g1, g2, g3, s, f0, f1, f2, f3, f4⟩
theorem foc_Bare_mem {xs : List TBare} {p : LP TBare} {F : Bl} (o : Ow w0 M u N F xs p) {k : Nat} (hk : k < xs.length) :
    ∃ H : Bl, Ow w0 M u N H (el xs k).mem (p.2 k).mem ∧ (∀ b, H b → F b) ∧ ∀ (u' : World) (N' : Bl) (y : List (List Int)) (q : GT.Ptr (List (List Int))), (∀ b, N b → ¬ H b → N' b ∧ u'.heap[b]? = u.heap[b]?) → Ow w0 M u' N' H y q → GT.cells y q = GT.cells (el xs k).mem (p.2 k).mem →
      ∃ p2, Ow w0 M u' N' F (xs.set k { el xs k with mem := y }) (p.1, p2) :=
  o.focus hk (fun x => x.mem) (fun r => r.mem) (fun x y => { x with mem := y }) (fun r q => { r with mem := q }) fun G u x r h => by
    obtain ⟨G0, G1, G2, g0, g1, g2, s, f0⟩ := h
    refine ⟨G0, g0, s.sub _ (by simp), fun u' y q h' hw hc => ⟨⟨G0, G1, G2, h', GT.own_agree g1 fun b hb _ => hw b (s.sub _ (by simp) b hb) fun hH => (pw s.dis (i := 0) (j := 1) (by decide) rfl rfl) b hH hb, GT.own_agree g2 fun b hb _ => hw b (s.sub _ (by simp) b hb) fun hH => (pw s.dis (i := 0) (j := 2) (by decide) rfl rfl) b hH hb, s, f0⟩, ?_⟩⟩
    have e := (List.cons.inj hc).1
    show [slv y.length q.1, slv x.guests.length r.guests.1, slv x.outs.length r.outs.1, I x.pend] = [slv x.mem.length r.mem.1, slv x.guests.length r.guests.1, slv x.outs.length r.outs.1, I x.pend]
    rw [e]
theorem foc_Bare_guests {xs : List TBare} {p : LP TBare} {F : Bl} (o : Ow w0 M u N F xs p) {k : Nat} (hk : k < xs.length) :
    ∃ H : Bl, Ow w0 M u N H (el xs k).guests (p.2 k).guests ∧ (∀ b, H b → F b) ∧ ∀ (u' : World) (N' : Bl) (y : List TGuest) (q : GT.Ptr (List TGuest)), (∀ b, N b → ¬ H b → N' b ∧ u'.heap[b]? = u.heap[b]?) → Ow w0 M u' N' H y q → GT.cells y q = GT.cells (el xs k).guests (p.2 k).guests →
      ∃ p2, Ow w0 M u' N' F (xs.set k { el xs k with guests := y }) (p.1, p2) :=
  o.focus hk (fun x => x.guests) (fun r => r.guests) (fun x y => { x with guests := y }) (fun r q => { r with guests := q }) fun G u x r h => by
    obtain ⟨G0, G1, G2, g0, g1, g2, s, f0⟩ := h
    refine ⟨G1, g1, s.sub _ (by simp), fun u' y q h' hw hc => ⟨⟨G0, G1, G2, GT.own_agree g0 fun b hb _ => hw b (s.sub _ (by simp) b hb) fun hH => (pw s.dis (i := 0) (j := 1) (by decide) rfl rfl) b hb hH, h', GT.own_agree g2 fun b hb _ => hw b (s.sub _ (by simp) b hb) fun hH => (pw s.dis (i := 1) (j := 2) (by decide) rfl rfl) b hH hb, s, f0⟩, ?_⟩⟩
    have e := (List.cons.inj hc).1
    show [slv x.mem.length r.mem.1, slv y.length q.1, slv x.outs.length r.outs.1, I x.pend] = [slv x.mem.length r.mem.1, slv x.guests.length r.guests.1, slv x.outs.length r.outs.1, I x.pend]
    rw [e]
theorem foc_Bare_outs {xs : List TBare} {p : LP TBare} {F : Bl} (o : Ow w0 M u N F xs p) {k : Nat} (hk : k < xs.length) :
    ∃ H : Bl, Ow w0 M u N H (el xs k).outs (p.2 k).outs ∧ (∀ b, H b → F b) ∧ ∀ (u' : World) (N' : Bl) (y : List Int) (q : GT.Ptr (List Int)), (∀ b, N b → ¬ H b → N' b ∧ u'.heap[b]? = u.heap[b]?) → Ow w0 M u' N' H y q → GT.cells y q = GT.cells (el xs k).outs (p.2 k).outs →
      ∃ p2, Ow w0 M u' N' F (xs.set k { el xs k with outs := y }) (p.1, p2) :=
  o.focus hk (fun x => x.outs) (fun r => r.outs) (fun x y => { x with outs := y }) (fun r q => { r with outs := q }) fun G u x r h => by
    obtain ⟨G0, G1, G2, g0, g1, g2, s, f0⟩ := h
    refine ⟨G2, g2, s.sub _ (by simp), fun u' y q h' hw hc => ⟨⟨G0, G1, G2, GT.own_agree g0 fun b hb _ => hw b (s.sub _ (by simp) b hb) fun hH => (pw s.dis (i := 0) (j := 2) (by decide) rfl rfl) b hb hH, GT.own_agree g1 fun b hb _ => hw b (s.sub _ (by simp) b hb) fun hH => (pw s.dis (i := 1) (j := 2) (by decide) rfl rfl) b hb hH, h', s, f0⟩, ?_⟩⟩
    have e := (List.cons.inj hc).1
    show [slv x.mem.length r.mem.1, slv x.guests.length r.guests.1, slv y.length q.1, I x.pend] = [slv x.mem.length r.mem.1, slv x.guests.length r.guests.1, slv x.outs.length r.outs.1, I x.pend]
    rw [e]
theorem ows_Bare_pend {K : Nat} {G : Bl} {u : World} {x : TBare} {p : PBare} {v : Int} (h : GT.own K G u x p) (hv : In64 v) : GT.own K G u ({ x with pend := v } : TBare) p := by
  obtain ⟨G0, G1, G2, g0, g1, g2, s, f0⟩ := h
  exact ⟨G0, G1, G2, g0, g1, g2, s, hv⟩
end
def RetX {α : Type} [GT α] [SZ α] (hd : α → Int → Int) (F : Bl) (w : World) (p : GT.Ptr α) (x : α) (k : Int) (e : Ending) (w' : World) : Prop :=
  ∃ (y : α) (k' : Int), e = .returned (I k') ∧ Chg F w w' ∧ (∃ p', GT.cells y p' = GT.cells x p ∧ GT.own KK F w' y p') ∧ hd y k = k' ∧ k ≤ k' ∧ k' ≤ k + 16 * (SZ.sz x : Nat)
section
variable {P : Program} {n : Nat} {w0 : World} {M : Bl} {u : World} {N : Bl} {β : Nat → Nat} {σ : Sy} {a : Act} {w : World} {ops : Array Oper} {K' : Act → World → Prop} {Q : Exit → Act → World → Prop}
theorem St.callX {α : Type} [GT α] [SZ α] {hd : α → Int → Int} {F : Bl} {x : α} {p : GT.Ptr α} {k : Int} (S : St P n w0 M u N β σ a w) (o : Ow w0 M u N F x p) {i : Nat} {f : FuncId} {vals : List Value} {d : Tmp} (hc : Calls P f vals.toArray w (RetX hd F w p x k)) (hcall : callAc P n ops i σ = some (f, vals, d)) (hd' : Nat.blt d n = true)
    (K : ∀ a' w' N' p' y k', St P n w0 M w' N' β ⟨(d, .v (I k')) :: σ.env, σ.bx⟩ a' w' → (∀ b, N b → ¬ F b → N' b ∧ w'.heap[b]? = u.heap[b]?) → Ow w0 M w' N' F y p' → GT.cells y p' = GT.cells x p → hd y k = k' → k ≤ k' → k' ≤ k + 16 * (SZ.sz x : Nat) → K' a' w') : wpOp P ops Q i K' a w :=
  S.call hcall hc fun _ w' ⟨y, k', he, hch, ⟨p', hp, ho⟩, h1, h2, h3⟩ => ⟨_, he, K _ w' _ p' y k' ((S.afterF hch o.sub o.young).put (look_put hd') (fun _ _ e => by cases e)) (S.upF hch) ⟨ho, fun b hb => .inl (o.sub b hb), o.young⟩ hp h1 h2 h3⟩
theorem retX_of {α : Type} [GT α] [SZ α] {hd : α → Int → Int} {F F' : Bl} {x y : α} {p p' : GT.Ptr α} {k k' : Int} (S : St P n w0 F u N β σ a w) (h : hd y k = k') (h1 : k ≤ k') (h2 : k' ≤ k + 16 * (SZ.sz x : Nat)) (hc : GT.cells y p' = GT.cells x p) (o : Ow w0 F u N F' y p') (hs : ∀ b, F' b → F b) :
    RetX hd F w0 p x k (.returned (packed [I k'])) w :=
  ⟨y, k', rfl, S.chg, ⟨p', hc, GT.own_mono (GT.own_agree o.own (fun b hb _ => (S.sep b (o.sub b hb)).2.1)) (Nat.le_refl _) hs⟩, h, h1, h2⟩
end
class SB (α : Type) [GT α] [SZ α] where
  B : Nat
  bd : ∀ {F : Bl} {w : World} {x : α} {p : GT.Ptr α}, GT.rd KK F w x p → SZ.sz x ≤ B
instance : SB Int := ⟨0, fun _ => Nat.le_refl _⟩
instance : SB Bool := ⟨0, fun _ => Nat.le_refl _⟩
theorem szsum_bd {α : Type} [GT α] [SZ α] {m : Nat} : ∀ (xs : List α), (∀ x, x ∈ xs → SZ.sz x ≤ m) → (xs.map SZ.sz).sum ≤ xs.length * m
  | [], _ => by simp
  | x :: r, h => by
    have := szsum_bd r fun y hy => h y (List.mem_cons_of_mem _ hy)
    have := h x List.mem_cons_self
    simp only [List.map_cons, List.sum_cons, List.length_cons, Nat.add_mul]
    omega
instance {α : Type} [GT α] [SZ α] [b : SB α] : SB (List α) := ⟨4194304 + 4194304 * b.B, fun {F w x p} h => by
  have h1 : x.length ≤ 4194304 := LRd.le h
  have h2 := szsum_bd (m := b.B) x fun y hy => by
    obtain ⟨i, hi, rfl⟩ := List.getElem_of_mem hy
    have := LRd.el h i hi
    rw [el_lt hi] at this
    exact b.bd this
  have h3 : x.length * b.B ≤ 4194304 * b.B := Nat.mul_le_mul_right _ h1
  rw [sz_list]
  unfold szsum
  omega⟩
instance : SB TSlot := ⟨0, fun _ => Nat.le_refl _⟩
instance : SB TEntry := ⟨0, fun _ => Nat.le_refl _⟩
instance : SB TIns := ⟨0, fun _ => Nat.le_refl _⟩
instance : SB TCtl := ⟨0, fun _ => Nat.le_refl _⟩
instance : SB TExit := ⟨0, fun _ => Nat.le_refl _⟩
instance : SB TAct := ⟨0, fun _ => Nat.le_refl _⟩
instance : SB TTold := ⟨0, fun _ => Nat.le_refl _⟩
instance : SB TKept := ⟨SB.B (List Bool) + SB.B (List TSlot), fun {F w x p} h => by
  have e := sz_Kept x
  have h0 := SB.bd (RKept.known (d := x) h)
  have h1 := SB.bd (RKept.slots (d := x) h)
  omega⟩
instance : SB TGuest := ⟨SB.B (List TIns) + SB.B (List TSlot) + SB.B (List TSlot) + SB.B (List Int), fun {F w x p} h => by
  have e := sz_Guest x
  have h0 := SB.bd (RGuest.prog (d := x) h)
  have h1 := SB.bd (RGuest.written (d := x) h)
  have h2 := SB.bd (RGuest.live (d := x) h)
  have h3 := SB.bd (RGuest.seen (d := x) h)
  omega⟩
instance : SB TMon := ⟨SB.B (List TSlot) + SB.B (List (List Int)) + SB.B (List Bool) + SB.B (List TGuest) + SB.B (List Int) + SB.B (List TKept), fun {F w x p} h => by
  have e := sz_Mon x
  have h0 := SB.bd (RMon.outer (d := x) h)
  have h1 := SB.bd (RMon.out (d := x) h)
  have h2 := SB.bd (RMon.dirty (d := x) h)
  have h3 := SB.bd (RMon.guests (d := x) h)
  have h4 := SB.bd (RMon.outs (d := x) h)
  have h5 := SB.bd (RMon.tables (d := x) h)
  omega⟩
instance : SB TBare := ⟨SB.B (List (List Int)) + SB.B (List TGuest) + SB.B (List Int), fun {F w x p} h => by
  have e := sz_Bare x
  have h0 := SB.bd (RBare.mem (d := x) h)
  have h1 := SB.bd (RBare.guests (d := x) h)
  have h2 := SB.bd (RBare.outs (d := x) h)
  omega⟩
instance : SB THost := ⟨SB.B (List (List Int)) + SB.B (List TMon) + SB.B (List TEntry) + SB.B (List TEntry), fun {F w x p} h => by
  have e := sz_Host x
  have h0 := SB.bd (RHost.mem (d := x) h)
  have h1 := SB.bd (RHost.mons (d := x) h)
  have h2 := SB.bd (RHost.buf (d := x) h)
  have h3 := SB.bd (RHost.iobuf (d := x) h)
  omega⟩
end Go.Proofs.YtlpaefknpmdaoaaGreat
namespace Go.Proofs.YtlpaefknpmdaoaaGreat
open Go
set_option linter.unusedSimpArgs false
def SP.sl (p : SP) (a w : Nat) : SP := ⟨p.nil, p.b, bif p.cap == a then p.off else p.off + a * w, p.cap - a, p.ad⟩
section
variable {P : Program} {u : World} {N : Bl} {α : Type} [GT α] {xs : List α} {p : GT.Ptr (List α)}
end
end Go.Proofs.YtlpaefknpmdaoaaGreat
namespace Go.Proofs.YtlpaefknpmdaoaaGreat
open Go
set_option linter.unusedVariables false
theorem sepd_set {F H H' Fy : Bl} {l : List Bl} (s : Sepd F l) {i : Nat} (hi : l[i]? = some H) (h1 : ∀ b, H' b → H b ∨ Fy b) (hd : Disj F Fy) : Sepd (Or F H') (l.set i H') := by
  have hH : ∀ b, H b → F b := s.sub H (List.mem_of_getElem? hi)
  obtain ⟨hil, hie⟩ := List.getElem?_eq_some_iff.1 hi
  refine ⟨fun G hG b hb => ?_, ?_⟩
  · rcases List.mem_or_eq_of_mem_set hG with h | rfl
    · exact Or.inl (s.sub G h b hb)
    · exact Or.inr hb
  · have key : ∀ j (hj : j < l.length), j ≠ i → Disj (l[j]) H' := fun j hj hne b hb hb' => by
      rcases h1 b hb' with h | h
      · rcases Nat.lt_or_gt_of_ne hne with hlt | hgt
        · exact List.pairwise_iff_getElem.1 s.dis j i hj hil hlt b hb (hie ▸ h)
        · exact List.pairwise_iff_getElem.1 s.dis i j hil hj hgt b (hie ▸ h) hb
      · exact hd b (s.sub _ (List.getElem_mem hj) b hb) h
    rw [List.pairwise_iff_getElem]
    intro a c ha hc hac
    rw [List.length_set] at ha hc
    rw [List.getElem_set, List.getElem_set]
    by_cases e1 : i = a
    · rw [if_pos e1, if_neg (by omega)]
      exact (key c hc (by omega)).symm
    · rw [if_neg e1]
      by_cases e2 : i = c
      · rw [if_pos e2]; exact key a ha (fun h => e1 h.symm)
      · rw [if_neg e2]; exact List.pairwise_iff_getElem.1 s.dis a c ha hc hac
section
variable {w0 : World} {M : Bl} {u : World} {N : Bl}
theorem Ow.focus3 {α β : Type} [GT α] [GT β] {xs : List α} {p : LP α} {F : Bl} (o : Ow w0 M u N F xs p) {k : Nat} (hk : k < xs.length) (get : α → β) (pget : GT.Ptr α → GT.Ptr β) (set : α → β → α) (pset : GT.Ptr α → GT.Ptr β → GT.Ptr α)
    (hP : ∀ (G : Bl) (u : World) (x : α) (r : GT.Ptr α), GT.own KK G u x r → ∃ H : Bl, GT.own KK H u (get x) (pget r) ∧ (∀ b, H b → G b) ∧ ∀ (u' : World) (y : β) (q : GT.Ptr β) (H' Fy : Bl), GT.own KK H' u' y q → (∀ b, H' b → H b ∨ Fy b) → Disj G Fy → (∀ b, G b → ¬ H b → u'.heap[b]? = u.heap[b]?) → GT.cells y q = GT.cells (get x) (pget r) → GT.own KK (Or G H') u' (set x y) (pset r q) ∧ GT.cells (set x y) (pset r q) = GT.cells x r) :
    ∃ H : Bl, Ow w0 M u N H (get (el xs k)) (pget (p.2 k)) ∧ (∀ b, H b → F b) ∧ ∀ (u' : World) (N' : Bl) (y : β) (q : GT.Ptr β) (H' Fy : Bl), (∀ b, N b → ¬ H b → N' b ∧ u'.heap[b]? = u.heap[b]?) → Ow w0 M u' N' H' y q → (∀ b, H' b → H b ∨ Fy b) → Disj F Fy → GT.cells y q = GT.cells (get (el xs k)) (pget (p.2 k)) →
      (∀ b, H b → N' b) → Ow w0 M u' N' (Or F H') (xs.set k (set (el xs k) y)) ((p.1, fun i => if i = k then pset (p.2 k) q else p.2 i) : LP α) ∧ ∀ j, GT.cells (el (xs.set k (set (el xs k) y)) j) ((fun i => if i = k then pset (p.2 k) q else p.2 i) j) = GT.cells (el xs j) (p.2 j) := by
  have ho : LOwn KK F u xs p := o.own
  obtain ⟨G, g1, g2, g3⟩ := ho.el
  obtain ⟨H, h1, h2, h3⟩ := hP (G k) u (el xs k) (p.2 k) (g1 k hk)
  have hHF : ∀ b, H b → F b := fun b hb => (g2 k hk b (h2 b hb)).1
  refine ⟨H, ⟨h1, fun b hb => o.sub b (hHF b hb), fun b hb => o.young b (hHF b hb)⟩, hHF, fun u' N' y q H' Fy up oy hs hd hc hHN => ?_⟩
  have keep : ∀ b, F b → ¬ H b → u'.heap[b]? = u.heap[b]? := fun b hb hn => (up b (o.sub b hb) hn).2
  have hcap := ho.cap
  have hnn : p.1.nil = false := ho.nonil (by omega)
  have hrowb : ¬ H p.1.b := fun hb => (g2 k hk _ (h2 _ hb)).2 rfl
  have hrowF : F p.1.b := (ho.row hnn).1
  obtain ⟨b1, b2⟩ := h3 u' y q H' Fy oy.own hs (fun b hb hf => hd b (g2 k hk b hb).1 hf) (fun b hb hn => keep b (g2 k hk b hb).1 hn) hc
  refine ⟨⟨?_, ?_, fun b hb => hb.elim (o.young b) (oy.young b)⟩, fun j => ?_⟩
  rotate_right
  · by_cases e : j = k
    · subst e
      rw [el_set_self hk]
      simp only [if_true]
      exact b2
    · rw [el_set_ne e]
      simp only [if_neg e]
  · show LOwn KK (Or F H') u' _ _
    refine ⟨by rw [List.length_set]; exact ho.le, by rw [List.length_set]; exact ho.cap, ho.capm, ho.null, fun z => ⟨Or.inl (ho.row z).1, ?_⟩, fun i hi => ?_, fun i => if i = k then Or (G k) H' else G i, fun i hi => ?_, ?_, ?_⟩
    · rw [keep _ hrowF hrowb]; exact (ho.row z).2
    · rw [List.length_set] at hi
      have hcell : CellsAt u' p.1.b (p.1.off + i * GT.width α) (GT.cells (el xs i) (p.2 i)) := (ho.cell i hi).agree (keep _ hrowF hrowb)
      by_cases e : i = k
      · subst e
        rw [el_set_self hi]
        simp only [if_true]
        rw [b2]; exact hcell
      · rw [el_set_ne e]
        simp only [if_neg e]
        exact hcell
    · rw [List.length_set] at hi
      by_cases e : i = k
      · subst e
        rw [el_set_self hi]
        simp only [if_true]
        exact b1
      · rw [el_set_ne e]
        simp only [if_neg e]
        exact GT.own_agree (g1 i hi) fun b hb _ => keep b (g2 i hi b hb).1 fun hH => g3 i k hi hk e b hb (h2 b hH)
    · intro i hi; rw [List.length_set] at hi
      intro b hb
      by_cases e : i = k
      · subst e
        simp only [if_true] at hb
        rcases hb with hb | hb
        · exact ⟨Or.inl (g2 i hi b hb).1, (g2 i hi b hb).2⟩
        · refine ⟨Or.inr hb, fun e2 => ?_⟩
          rcases hs b hb with h | h
          · exact hrowb (e2 ▸ h)
          · exact hd _ hrowF (e2 ▸ h)
      · simp only [if_neg e] at hb
        exact ⟨Or.inl (g2 i hi b hb).1, (g2 i hi b hb).2⟩
    · have key : ∀ i, i < xs.length → i ≠ k → Disj (G i) (Or (G k) H') := fun i hi hne b hb hb' => by
        rcases hb' with hb' | hb'
        · exact g3 i k hi hk hne b hb hb'
        · rcases hs b hb' with h | h
          · exact g3 i k hi hk hne b hb (h2 b h)
          · exact hd b (g2 i hi b hb).1 h
      intro i j hi hj hij; rw [List.length_set] at hi hj
      by_cases e1 : i = k
      · by_cases e2 : j = k
        · exact absurd (e1.trans e2.symm) hij
        · simp only [if_pos e1, if_neg e2]; exact (key j hj e2).symm
      · by_cases e2 : j = k
        · simp only [if_neg e1, if_pos e2]; exact key i hi e1
        · simp only [if_neg e1, if_neg e2]; exact g3 i j hi hj hij
  · intro b hb
    rcases hb with hb | hb
    · by_cases hH : H b
      · exact hHN b hH
      · exact (up b (o.sub b hb) hH).1
    · exact oy.sub b hb
theorem Ow.focus2 {α β : Type} [GT α] [GT β] {xs : List α} {p : LP α} {F : Bl} (o : Ow w0 M u N F xs p) {k : Nat} (hk : k < xs.length) (get : α → β) (pget : GT.Ptr α → GT.Ptr β) (set : α → β → α) (pset : GT.Ptr α → GT.Ptr β → GT.Ptr α)
    (hP : ∀ (G : Bl) (u : World) (x : α) (r : GT.Ptr α), GT.own KK G u x r → ∃ H : Bl, GT.own KK H u (get x) (pget r) ∧ (∀ b, H b → G b) ∧ ∀ (u' : World) (y : β) (q : GT.Ptr β) (H' Fy : Bl), GT.own KK H' u' y q → (∀ b, H' b → H b ∨ Fy b) → Disj G Fy → (∀ b, G b → ¬ H b → u'.heap[b]? = u.heap[b]?) → GT.cells y q = GT.cells (get x) (pget r) → GT.own KK (Or G H') u' (set x y) (pset r q) ∧ GT.cells (set x y) (pset r q) = GT.cells x r) :
    ∃ H : Bl, Ow w0 M u N H (get (el xs k)) (pget (p.2 k)) ∧ (∀ b, H b → F b) ∧ ∀ (u' : World) (N' : Bl) (y : β) (q : GT.Ptr β) (H' Fy : Bl), (∀ b, N b → ¬ H b → N' b ∧ u'.heap[b]? = u.heap[b]?) → Ow w0 M u' N' H' y q → (∀ b, H' b → H b ∨ Fy b) → Disj F Fy → GT.cells y q = GT.cells (get (el xs k)) (pget (p.2 k)) →
      (∀ b, H b → N' b) → ∃ p2, Ow w0 M u' N' (Or F H') (xs.set k (set (el xs k) y)) (p.1, p2) ∧ ∀ j, GT.cells (el (xs.set k (set (el xs k) y)) j) (p2 j) = GT.cells (el xs j) (p.2 j) := by
  obtain ⟨H, h1, h2, h3⟩ := o.focus3 hk get pget set pset hP
  exact ⟨H, h1, h2, fun u' N' y q H' Fy a b c d e f => ⟨_, h3 u' N' y q H' Fy a b c d e f⟩⟩
theorem foc2_id {β : Type} [GT β] {xs : List β} {p : LP β} {F : Bl} (o : Ow w0 M u N F xs p) {k : Nat} (hk : k < xs.length) :
    ∃ H : Bl, Ow w0 M u N H (el xs k) (p.2 k) ∧ (∀ b, H b → F b) ∧ ∀ (u' : World) (N' : Bl) (y : β) (q : GT.Ptr (β)) (H' Fy : Bl), (∀ b, N b → ¬ H b → N' b ∧ u'.heap[b]? = u.heap[b]?) → Ow w0 M u' N' H' y q → (∀ b, H' b → H b ∨ Fy b) → Disj F Fy → GT.cells y q = GT.cells (el xs k) (p.2 k) → (∀ b, H b → N' b) →
      ∃ p2, Ow w0 M u' N' (Or F H') (xs.set k y) (p.1, p2) ∧ ∀ j, GT.cells (el (xs.set k y) j) (p2 j) = GT.cells (el xs j) (p.2 j) :=
  o.focus2 hk (fun x => x) (fun r => r) (fun _ y => y) (fun _ q => q) fun G u x r h => ⟨G, h, fun _ z => z, fun _ _ _ _ _ h' _ _ _ hc => ⟨GT.own_mono h' (Nat.le_refl _) (fun _ z => Or.inr z), hc⟩⟩
theorem owl_Guest_written {K : Nat} {G Fy : Bl} {u : World} {x : TGuest} {p : PGuest} {l : List TSlot} {q : GT.Ptr (List TSlot)} (h : GT.own K G u x p) (hl : GT.own K Fy u l q) (hd : Disj G Fy) : GT.own K (Or G Fy) u ({ x with written := l } : TGuest) { p with written := q } := by
  obtain ⟨G0, G1, G2, G3, g0, g1, g2, g3, s, f0, f1, f2, f3, f4⟩ := h
  exact ⟨G0, Fy, G2, G3, g0, hl, g2, g3, sepd_set s (i := 1) rfl (fun _ z => .inr z) hd, f0, f1, f2, f3, f4⟩
theorem owl_Guest_live {K : Nat} {G Fy : Bl} {u : World} {x : TGuest} {p : PGuest} {l : List TSlot} {q : GT.Ptr (List TSlot)} (h : GT.own K G u x p) (hl : GT.own K Fy u l q) (hd : Disj G Fy) : GT.own K (Or G Fy) u ({ x with live := l } : TGuest) { p with live := q } := by
  obtain ⟨G0, G1, G2, G3, g0, g1, g2, g3, s, f0, f1, f2, f3, f4⟩ := h
  exact ⟨G0, G1, Fy, G3, g0, g1, hl, g3, sepd_set s (i := 2) rfl (fun _ z => .inr z) hd, f0, f1, f2, f3, f4⟩
end
end Go.Proofs.YtlpaefknpmdaoaaGreat
namespace Go.Proofs.YtlpaefknpmdaoaaGreat
open Go
def f_forget (k : TKept) (page : Int) : TKept :=
  if (0 ≤ page ∧ page < k.known.length) ∧ page < k.slots.length then ⟨k.known.set page.toNat false, k.slots.set page.toNat ⟨-1, 0⟩⟩ else k
def f_forgetUpto (k : TKept) (n : Nat) : TKept := (List.range n).foldl (fun k (i : Nat) => f_forget k (i : Int)) k
def f_forgetAll (k : TKept) : TKept := f_forgetUpto k k.known.length
def f_coldMon (m : TMon) : TMon := { m with tables := m.tables.map f_forgetAll }
def f_cold (h : THost) : THost := ⟨h.mem, h.mons.map f_coldMon, [], []⟩
def f_bareOk (b : TBare) : Bool := b.guests.all f_guestOk && f_memOk b.mem 8 && f_within b.guests.length 1 2 && decide (b.outs.length ≤ 40) && f_within b.pend 0 255
theorem bareOk_t {b : TBare} (h : f_bareOk b = true) : 1 ≤ b.guests.length ∧ b.guests.length ≤ 2 ∧ 0 ≤ b.pend ∧ b.pend ≤ 255 := by
  simp only [f_bareOk, Bool.and_eq_true] at h
  have h1 := within_t h.1.1.2
  have h2 := within_t h.2
  omega
def f_posts (c : TCtl) (n : Int) : Bool := f_ctlOk c && f_within n 0 7 && (land64 (shr64 c.post n) 1 == 1)
def f_postedTo (b : TBare) (n : Int) : List Int := f_idx b.guests.length fun i => f_posts (el b.guests i).ctl n
def f_postIrq (p n : Int) : Int × Bool := if f_within p 0 255 = true ∧ f_within n 0 7 = true then (lor64 p (shl64 1 n), true) else (p, false)
theorem postIrq_in64 {p n : Int} (h : In64 p) : In64 (f_postIrq p n).1 := by
  unfold f_postIrq
  split
  · exact lor64_in64 _ _
  · exact h
def stepPost (n : Int) (gs : List TGuest) (g : Int) : List TGuest := gs.set g.toNat { el gs g.toNat with pend := (f_postIrq (el gs g.toNat).pend n).1 }
def f_barePost (b : TBare) (n : Int) : TBare × Bool :=
  if f_bareOk b = true ∧ 0 ≤ n ∧ n ≤ 7 then
    (⟨b.mem, (f_postedTo b n).foldl (stepPost n) b.guests, b.outs, if (f_postedTo b n).length = 0 then (f_postIrq b.pend n).1 else b.pend⟩, true)
  else (b, false)
theorem idx_el {n : Nat} {p : Nat → Bool} {k : Nat} : k < (f_idx n p).length → 0 ≤ el (f_idx n p) k ∧ el (f_idx n p) k < n := fun h => by
  rw [el_lt h]
  have hm := List.getElem_mem h
  unfold f_idx at hm
  obtain ⟨i, hi, he⟩ := List.mem_map.1 hm
  have := List.mem_range.1 (List.mem_filter.1 hi).1
  unfold f_idx
  omega
theorem postedTo_bd {b : TBare} {n : Int} {k : Nat} (h : 0 < b.guests.length) : 0 ≤ el (f_postedTo b n) k ∧ el (f_postedTo b n) k < b.guests.length := by
  by_cases hk : k < (f_postedTo b n).length
  · exact idx_el hk
  · have : el (f_postedTo b n) k = 0 := by
      unfold el
      rw [List.getD_eq_getElem?_getD, List.getElem?_eq_none (by omega)]
      rfl
    omega
theorem enough_t {r n : Int} (h : f_enough r n = true) : 0 ≤ n ∧ n ≤ 3 := by
  simp only [f_enough, Bool.and_eq_true] at h
  exact within_t h.1.2
def f_guestAt (b : TBare) (g : Int) : TGuest × Bool := if 0 ≤ g ∧ g < b.guests.length then (el b.guests g.toNat, true) else (⟨[], 0, 0, [], [], ⟨0, 0, false⟩, 0, ⟨0, 0, false, 0⟩, false, []⟩, false)
def f_addrPage (a : Int) : Int := if a < 0 then -1 else Int.tdiv a 4
def f_addrCell (a : Int) : Int := if a < 0 then -1 else Int.tmod a 4
theorem addrPage_in64 {a : Int} (h : In64 a) : In64 (f_addrPage a) := by
  unfold f_addrPage
  split
  · exact ⟨by decide, by decide⟩
  · have h1 := h.1
    have h2 := h.2
    rw [Int.tdiv_eq_ediv_of_nonneg (by omega)]
    exact ⟨by omega, by omega⟩
def f_walkInner (t : List TSlot) (page need : Int) : Int × Bool :=
  if (f_slotAt t page).page = -1 ∨ f_enough (f_slotAt t page).rights need = false ∨ need = 0 then (-1, false) else ((f_slotAt t page).page, true)
def f_l19Is (b : TBare) (g : Int) : Bool := f_bareOk b && f_within g 0 ((b.guests.length : Int) - 1)
theorem l19Is_t {b : TBare} {g : Int} (h : f_l19Is b g = true) : f_bareOk b = true ∧ 0 ≤ g ∧ g < b.guests.length := by
  simp only [f_l19Is, Bool.and_eq_true] at h
  have := within_t h.2
  exact ⟨h.1, by omega, by omega⟩
def f_at (b : TBare) (g addr need : Int) : Int × Bool :=
  if f_l19Is b g = true ∧ f_within addr 0 15 = true then f_walkInner (el b.guests g.toNat).live (f_addrPage addr) need else (-1, false)
def f_reach (b : TBare) (g addr need : Int) : Int × Int × Bool :=
  if f_l19Is b g = true ∧ f_within addr 0 15 = true then ((f_at b g addr need).1, f_addrCell addr, (f_at b g addr need).2) else (0, 0, false)
theorem reach_t {b : TBare} {g addr need : Int} (h : (f_reach b g addr need).2.2 = true) : (f_at b g addr need).2 = true ∧ (f_reach b g addr need).1 = (f_at b g addr need).1 ∧ (f_reach b g addr need).2.1 = f_addrCell addr := by
  unfold f_reach at h ⊢
  split at h
  · rename_i hc
    rw [if_pos hc]
    exact ⟨h, rfl, rfl⟩
  · cases h
theorem reach_f {b : TBare} {g addr need : Int} (h : (f_reach b g addr need).2.2 = false) : (f_at b g addr need).2 = false := by
  unfold f_reach at h
  split at h
  · exact h
  · rename_i hc
    unfold f_at
    rw [if_neg hc]
def f_hasCell (m : List (List Int)) (p c : Int) : Bool := decide ((0 ≤ p ∧ p < m.length) ∧ 0 ≤ c ∧ c < (el m p.toNat).length)
theorem hasCell_t {m : List (List Int)} {p c : Int} (h : f_hasCell m p c = true) : (0 ≤ p ∧ p < m.length) ∧ 0 ≤ c ∧ c < (el m p.toNat).length := of_decide_eq_true h
theorem hasCell_f {m : List (List Int)} {p c : Int} (h : f_hasCell m p c = false) : ¬ ((0 ≤ p ∧ p < m.length) ∧ 0 ≤ c ∧ c < (el m p.toNat).length) := of_decide_eq_false h
def f_withCell (m : List (List Int)) (p c v : Int) : List (List Int) :=
  if ((0 ≤ p ∧ p < m.length) ∧ 0 ≤ c ∧ c < (el m p.toNat).length) ∧ 0 ≤ v ∧ v ≤ 99 then m.set p.toNat ((el m p.toNat).set c.toNat v) else m
def f_bareDma (b : TBare) (g addr v : Int) : TBare × Bool :=
  if (f_at b g addr 2).2 = true ∧ f_within v 0 99 = true then (⟨f_withCell b.mem (f_at b g addr 2).1 (f_addrCell addr) v, b.guests, b.outs, b.pend⟩, true) else (b, false)
theorem tdiv4_in64 {x : Int} (h : In64 x) (h0 : 0 ≤ x) : In64 (x.tdiv 4) := by
  have h1 := h.1
  have h2 := h.2
  rw [Int.tdiv_eq_ediv_of_nonneg h0]
  exact ⟨by omega, by omega⟩
theorem guestAt_t {b : TBare} {g : Int} (h : (f_guestAt b g).2 = true) : 0 ≤ g ∧ g < b.guests.length := by
  unfold f_guestAt at h
  split at h
  · assumption
  · cases h
theorem guestAt_f {b : TBare} {g : Int} (h : (f_guestAt b g).2 = false) : ¬ (0 ≤ g ∧ g < b.guests.length) := by
  unfold f_guestAt at h
  split at h
  · cases h
  · assumption
theorem guestAt_1 {b : TBare} {g : Int} (h : 0 ≤ g ∧ g < b.guests.length) : (f_guestAt b g).1 = el b.guests g.toNat := by
  unfold f_guestAt; rw [if_pos h]
theorem l19Is_mk {b : TBare} {g : Int} (h1 : f_bareOk b = true) (h2 : 0 ≤ g ∧ g < b.guests.length) : f_l19Is b g = true := by
  simp only [f_l19Is, h1, Bool.true_and, f_within, Bool.and_eq_true, decide_eq_true_eq]
  omega
theorem reach_pos {b : TBare} {g addr need : Int} (h1 : f_bareOk b = true) (h2 : 0 ≤ g ∧ g < b.guests.length) (h3 : f_within addr 0 15 = true) :
    f_reach b g addr need = ((f_walkInner (f_guestAt b g).1.live (f_addrPage addr) need).1, f_addrCell addr, (f_walkInner (f_guestAt b g).1.live (f_addrPage addr) need).2) := by
  unfold f_reach f_at
  rw [if_pos ⟨l19Is_mk h1 h2, h3⟩, if_pos ⟨l19Is_mk h1 h2, h3⟩, guestAt_1 h2]
theorem reach_n1 {b : TBare} {g addr need : Int} (h : f_bareOk b = false) : f_reach b g addr need = (0, 0, false) := by
  unfold f_reach
  rw [if_neg (fun e => by have := (l19Is_t e.1).1; rw [h] at this; cases this)]
theorem reach_n2 {b : TBare} {g addr need : Int} (h : ¬ (0 ≤ g ∧ g < b.guests.length)) : f_reach b g addr need = (0, 0, false) := by
  unfold f_reach
  rw [if_neg (fun e => h (l19Is_t e.1).2)]
theorem reach_n3 {b : TBare} {g addr need : Int} (h : f_within addr 0 15 = false) : f_reach b g addr need = (0, 0, false) := by
  unfold f_reach
  rw [if_neg (fun e => by rw [h] at e; cases e.2)]
theorem set_self_el {α : Type} [GT α] {xs : List α} {k : Nat} (h : k < xs.length) : xs.set k (el xs k) = xs := by
  rw [el_lt h]; exact List.set_getElem_self h
end Go.Proofs.YtlpaefknpmdaoaaGreat
namespace Go.Proofs.YtlpaefknpmdaoaaGreat
open Go
set_option linter.unusedVariables false
variable {P : Program} {n : Nat} {w0 : World} {M : Bl} {u : World} {N : Bl} {β : Nat → Nat} {σ : Sy} {a : Act} {w : World} {ops : Array Oper} {Q : Exit → Act → World → Prop}
theorem St.q (S : St P n w0 M u N β σ a w) {i : Nat} (k : Nat) (keep : List Nat) (m : Nat) (σ' : Sy) {claims : List (Ask × Value)} (hq : AllQ P u N claims) (K : ∀ a' w' β', St P n w0 M u N β' σ' a' w' → RG P ops Q (i + k) a' w')
    (hev : evK P n ops i k σ (claims.map (·.2)) keep m = some (σ', claims) := by kernel_rfl) : RG P ops Q i a w := S.quiet hq hev K
theorem St.c (S : St P n w0 M u N β σ a w) {c : Operand} {x y : Code} (e : Bool) (ht : e = true → x.wp P Q a w) (hf : e = false → y.wp P Q a w) (he : σ.get c = some (.v (.bool e)) := by kernel_rfl) : (Code.cond c x y).wp P Q a w := S.cond he ht hf
theorem St.r (S : St P n w0 M u N β σ a w) {fn : Func} {R : Ending → World → Prop} (vs : List Value) (h : R (.returned (packed vs)) w) (hv : resVals P σ fn.results.toList = some vs := by kernel_rfl) : bodyPost P fn R .ret a w := S.ret hv h
theorem St.f (S : St P n w0 M u N β σ a w) {fn : Func} {R : Ending → World → Prop} (vs : List Value) (h : R (.returned (packed vs)) w) (hv : resVals P σ fn.results.toList = some vs := by kernel_rfl) : bodyPost P fn R .normal a w := S.fall hv h
theorem St.p (S : St P n w0 M u N β σ a w) (keep : List Nat) (m : Nat) (σ' : Sy) (h : pruneK σ keep m = some σ' := by kernel_rfl) : St P n w0 M u N β σ' a w := S.prune h
theorem St.call3 {α : Type} [GT α] {K' : Act → World → Prop} (S : St P n w0 M u N β σ a w) {i : Nat} {f : FuncId} {vals : List Value} {d : Tmp} {r : α} {r' : Int} {r'' : Bool} (hc : Calls P f vals.toArray w (Ret3 NoB w r r' r'')) (hcall : callAc P n ops i σ = some (f, vals, d)) (hd : Nat.blt d n = true)
    (K : ∀ a' w' N' q F, St P n w0 M w' N' β ⟨(d, .v (.tuple #[GT.val r q, I r', B r''])) :: σ.env, σ.bx⟩ a' w' → (∀ b, N b → N' b ∧ w'.heap[b]? = u.heap[b]?) → Ow w0 M w' N' F r q → Disj N F → In64 r' → K' a' w') : wpOp P ops Q i K' a w :=
  S.call hcall hc fun _ w' ⟨q, q', q'', F, he, hch, ho, ho', ho'', hf⟩ => ⟨_, he, K _ w' _ q F (S.after hd hch) (S.up hch)
    ⟨ho, fun b h => .inr (hf b h), fun b h => .inl (Nat.le_trans S.chg.size (hf b h).1)⟩ (Disj.fresh S w' fun b h => hf b h) ho'⟩
def memN : List Nat → Nat → Bool
  | [], _ => false
  | s :: r, t => bif Nat.beq s t then true else memN r t
def hasK : Env → Nat → Bool
  | [], _ => false
  | (s, _) :: r, t => bif Nat.beq s t then true else hasK r t
def restK : Env → List Nat → Env → List Nat
  | [], _, _ => []
  | (t, _) :: r, dr, new => bif memN dr t then restK r dr new else bif hasK new t then restK r dr new else t :: restK r dr new
def keysK : Env → List Nat
  | [] => []
  | (s, _) :: r => s :: keysK r
def bxo : List (List Value) → List (Nat × List Value) → List (List Value)
  | b, [] => b
  | b, (k, c) :: r => bxo (bif Nat.blt k b.length then b.set k c else b ++ [c]) r
def Sy.dl (σ : Sy) (dr : List Nat) (new : Env) (m : Nat) (bs : List (Nat × List Value)) : Sy := ⟨σ.keep m (restK σ.env dr new) ++ new, (bxo σ.bx bs).take m⟩
theorem St.z (S : St P n w0 M u N β σ a w) {σ' : Sy} (h : pruneK σ (keysK σ'.env) σ'.bx.length = some σ' := by kernel_rfl) : St P n w0 M u N β σ' a w := S.prune h
theorem rd {i : Nat} (h : Q .normal a w) (hi : Nat.ble ops.size i = true := by rfl) : RG P ops Q i a w := RG.done hi h
theorem wr (h : Q .ret a w) : Code.ret.wp P Q a w := wp_ret h
theorem wk (h : Q .normal a w) : Code.skip.wp P Q a w := wp_skip h
abbrev w1 (x : Int) : Int := IntKind.i64.wrap (x + 1)
section
variable {α : Type} [GT α] {xs : List α} {p : LP α} {K : Nat}
theorem qn (h : GT.rd K N u xs p) (k : Nat) {l : Nat} {t e : TypeId} (ht : P.underlying t = some (.slice e)) (hl : l = xs.length := by rfl) (hi : k < xs.length := by omega) (he : tsize P e = some (GT.width α) := by kernel_rfl) :
    Quiet1 P u N (.idx t (slv l p.1) (I (k : Int))) (pt p.1.b (p.1.off + k * GT.width α)) := Q_idx h hl rfl hi ht he
theorem qt (h : GT.rd K N u xs p) (i : Int) {l : Nat} {t e : TypeId} (ht : P.underlying t = some (.slice e)) (hl : l = xs.length := by rfl) (hk : i = (i.toNat : Int) := by omega) (hi : i.toNat < xs.length := by omega) (he : tsize P e = some (GT.width α) := by kernel_rfl) :
    Quiet1 P u N (.idx t (slv l p.1) (I i)) (pt p.1.b (p.1.off + i.toNat * GT.width α)) := Q_idx h hl hk hi ht he
theorem qx (h : GT.rd K N u xs p) (t : TypeId) (k : Nat) (hi : k < xs.length := by omega) (ha : GT.agg α = false := by rfl) (ht : tagg P t = some false := by kernel_rfl) :
    Quiet1 P u N (.load t (pt p.1.b (p.1.off + k * GT.width α))) (GT.val (el xs k) (p.2 k)) := Q_el1 h hi ha ht
theorem qs (h : GT.rd K N u xs p) (t : TypeId) (k : Nat) (hi : k < xs.length := by omega) (hg : GT.agg α = true := by rfl) (ha : tagg P t = some true := by kernel_rfl) (hs : tsize P t = some (GT.width α) := by kernel_rfl) :
    Quiet1 P u N (.load t (pt p.1.b (p.1.off + k * GT.width α))) (GT.val (el xs k) (p.2 k)) := Q_el h hi hg ha hs
theorem qc (h : GT.rd K N u xs p) (t : TypeId) (k j : Nat) (v : Value) (hi : k < xs.length := by omega) (hj : (GT.cells (el xs k) (p.2 k))[j]? = some v := by kernel_rfl) (ht : tagg P t = some false := by kernel_rfl) :
    Quiet1 P u N (.load t (pt p.1.b (p.1.off + k * GT.width α + j))) v := Q_cell h hi hj ht
theorem qp (x y : Int) (h : In64 (x + y) := by exact ⟨by omega, by omega⟩) : Quiet1 P u N (.int .add .i64 x y) (I (x + y)) := Q_add h
theorem qm (x y : Int) (h : In64 (x - y) := by exact ⟨by omega, by omega⟩) : Quiet1 P u N (.int .sub .i64 x y) (I (x - y)) := Q_sub h
theorem St.k1 {K' : Act → World → Prop} (S : St P n w0 M u N β σ a w) {i : Nat} {f : FuncId} {vals : List Value} (d : Tmp) {r : α} (hc : Calls P f vals.toArray w (Ret1 NoB w r))
    (K : ∀ a' w' N' q F, St P n w0 M w' N' β ⟨(d, .v (GT.val r q)) :: σ.env, σ.bx⟩ a' w' → (∀ b, N b → N' b ∧ w'.heap[b]? = u.heap[b]?) → Ow w0 M w' N' F r q → Disj N F → K' a' w')
    (hcall : callAc P n ops i σ = some (f, vals, d) := by kernel_rfl) (hd : Nat.blt d n = true := by rfl) : wpOp P ops Q i K' a w := S.call1 hc hcall hd K
end
abbrev RD {α : Type} [GT α] (w0 : World) (x : α) (p : GT.Ptr α) : Prop := GT.rd KK (Lt w0.heap.size) w0 x p
theorem o0 {p : Prop} (h : p := by first | omega | (simp; done) | (simp; omega)) : p := h
theorem oz {p : Prop} (h : p := by clear S; first | omega | (simp [*]; done) | (simp [*]; omega)) : p := h
end Go.Proofs.YtlpaefknpmdaoaaGreat
namespace Go.Proofs.YtlpaefknpmdaoaaGreat
open Go
def cap1 {α : Type} [GT α] (b : Nat) (p : GT.Ptr α) : LP α := (⟨false, b, 0, 1, none⟩, fun _ => p)
def frzS (k b : Nat) : SV → SV
  | .p j o => bif Nat.beq j k then .v (pt b o) else .p (bif Nat.blt k j then j - 1 else j) o
  | .v x => .v x
def frzE (k b : Nat) : Env → Env
  | [] => []
  | (t, s) :: r => (t, frzS k b s) :: frzE k b r
theorem look_frzE {k b t : Nat} : ∀ (e : Env), look (frzE k b e) t = (look e t).map (frzS k b)
  | [] => rfl
  | (s, x) :: r => by
    simp only [frzE, look_cons]
    split
    · rfl
    · exact look_frzE r
def Sy.frz (σ : Sy) (k b : Nat) : Sy := ⟨frzE k b σ.env, σ.bx.eraseIdx k⟩
section
variable {P : Program} {n : Nat} {w0 : World} {M : Bl} {u : World} {N : Bl} {β : Nat → Nat} {σ : Sy} {a : Act} {w : World} {ops : Array Oper} {K' : Act → World → Prop} {Q : Exit → Act → World → Prop}
theorem St.frz (S : St P n w0 M u N β σ a w) {G : Prop} {α : Type} [GT α] (k : Nat) (x : α) (p : GT.Ptr α) (hx : GT.own KK NoB w x p)
    (K : ∀ (β' : Nat → Nat) (N' : Bl) (b : Nat) (F : Bl), St P n w0 M w N' β' (σ.frz k b) a w → (∀ b, N b → N' b ∧ w.heap[b]? = u.heap[b]?) → Ow w0 M w N' F [x] (cap1 b p) → Disj N F → G)
    (hk : σ.bx[k]? = some (GT.cells x p) := by kernel_rfl) : G := by
  have hkl : k < σ.bx.length := (List.getElem?_eq_some_iff.1 hk).1
  obtain ⟨T, hT⟩ := S.box k _ hk
  have hb : β k < w.heap.size := by
    rcases Nat.lt_or_ge (β k) w.heap.size with hl | hl
    · exact hl
    · rw [Array.getElem?_eq_none hl] at hT; cases hT
  have hlen : (σ.bx.eraseIdx k).length = σ.bx.length - 1 := List.length_eraseIdx_of_lt hkl
  have hmap : ∀ i, i < (σ.bx.eraseIdx k).length → (bif Nat.blt i k then i else i + 1) < σ.bx.length ∧ (bif Nat.blt i k then i else i + 1) ≠ k := fun i hi => by
    rw [hlen] at hi
    cases h : Nat.blt i k with
    | true => have := (Nat.le_of_ble_eq_true h : i + 1 ≤ k); exact ⟨by simp only [cond_true]; omega, by simp only [cond_true]; omega⟩
    | false =>
      have : ¬ i < k := fun hh => by rw [show Nat.blt i k = true from Nat.ble_eq_true_of_le hh] at h; cases h
      exact ⟨by simp only [cond_false]; omega, by simp only [cond_false]; omega⟩
  have hwid := GT.len x p
  refine K (fun i => β (bif Nat.blt i k then i else i + 1)) (fun b => N b ∨ b = β k) (β k) (fun b => b = β k) ⟨S.df, S.sz, fun t s ht => ?_, fun t i o ht => ?_, fun i cs hi => ?_, fun i j hi hj h => ?_, fun i hi => ?_, fun b hb' => ?_, S.chg, fun b hb' hm => ?_⟩ (fun b hb' => ⟨.inl hb', (S.sep b hb').2.1⟩) ⟨?_, fun b h => .inr h, fun b h => ?_⟩ (fun b h1 h2 => ?_)
  · rw [show (σ.frz k (β k)).env = frzE k (β k) σ.env from rfl, look_frzE] at ht
    cases hs : look σ.env t with
    | none => rw [hs] at ht; cases ht
    | some s0 =>
      rw [hs] at ht
      simp only [Option.map_some, Option.some.injEq] at ht
      subst ht
      rw [S.env t s0 hs]
      congr 1
      cases s0 with
      | v x => rfl
      | p j o =>
        simp only [frzS]
        cases he : Nat.beq j k with
        | true => rw [Nat.eq_of_beq_eq_true he]; rfl
        | false =>
          have hjk : j ≠ k := fun e => by rw [e, Nat.beq_refl] at he; cases he
          simp only [cond_false, SV.val]
          cases hl : Nat.blt k j with
          | true =>
            have h1 : k < j := Nat.le_of_ble_eq_true hl
            have h2 : Nat.blt (j - 1) k = false := by
              cases h3 : Nat.blt (j - 1) k with
              | false => rfl
              | true => have := (Nat.le_of_ble_eq_true h3 : j - 1 + 1 ≤ k); omega
            simp only [cond_true, h2, cond_false]
            rw [show j - 1 + 1 = j by omega]
          | false =>
            have h1 : ¬ k < j := fun hh => by rw [show Nat.blt k j = true from Nat.ble_eq_true_of_le hh] at hl; cases hl
            have h2 : Nat.blt j k = true := Nat.ble_eq_true_of_le (by omega : j + 1 ≤ k)
            simp only [cond_false, h2, cond_true]
  · rw [show (σ.frz k (β k)).env = frzE k (β k) σ.env from rfl, look_frzE] at ht
    show i < (σ.bx.eraseIdx k).length
    cases hs : look σ.env t with
    | none => rw [hs] at ht; cases ht
    | some s0 =>
      rw [hs] at ht
      simp only [Option.map_some, Option.some.injEq] at ht
      cases s0 with
      | v x => cases ht
      | p j o' =>
        have hj := S.ok t j o' hs
        simp only [frzS] at ht
        cases he : Nat.beq j k with
        | true => rw [he] at ht; cases ht
        | false =>
          have hjk : j ≠ k := fun e => by rw [e, Nat.beq_refl] at he; cases he
          rw [he] at ht
          simp only [cond_false, SV.p.injEq] at ht
          rw [hlen, ← ht.1]
          cases hl : Nat.blt k j with
          | true => simp only [cond_true]; have := (Nat.le_of_ble_eq_true hl : k + 1 ≤ j); omega
          | false =>
            have h1 : ¬ k < j := fun hh => by rw [show Nat.blt k j = true from Nat.ble_eq_true_of_le hh] at hl; cases hl
            simp only [cond_false]; omega
  · have hi' : (σ.bx.eraseIdx k)[i]? = some cs := hi
    rw [List.getElem?_eraseIdx] at hi'
    cases h : Nat.blt i k with
    | true =>
      rw [if_pos (show i < k from Nat.le_of_ble_eq_true h)] at hi'
      obtain ⟨T', h'⟩ := S.box i cs hi'
      exact ⟨T', by simpa only [h, cond_true] using h'⟩
    | false =>
      have : ¬ i < k := fun hh => by rw [show Nat.blt i k = true from Nat.ble_eq_true_of_le hh] at h; cases h
      rw [if_neg this] at hi'
      obtain ⟨T', h'⟩ := S.box (i + 1) cs hi'
      exact ⟨T', by simpa only [h, cond_false] using h'⟩
  · have e := S.inj _ _ (hmap i hi).1 (hmap j hj).1 h
    have a1 := (hmap i hi).2
    have a2 := (hmap j hj).2
    revert e a1 a2
    cases h1 : Nat.blt i k <;> cases h2 : Nat.blt j k <;> simp only [cond_true, cond_false] <;> intro e a1 a2
    · omega
    · have := (Nat.le_of_ble_eq_true h2 : j + 1 ≤ k)
      have : ¬ i < k := fun hh => by rw [show Nat.blt i k = true from Nat.ble_eq_true_of_le hh] at h1; cases h1
      omega
    · have := (Nat.le_of_ble_eq_true h1 : i + 1 ≤ k)
      have : ¬ j < k := fun hh => by rw [show Nat.blt j k = true from Nat.ble_eq_true_of_le hh] at h2; cases h2
      omega
    · exact e
  · exact S.new _ (hmap i hi).1
  · rcases hb' with h | h
    · exact ⟨(S.sep b h).1, rfl, fun i hi => (S.sep b h).2.2 _ (hmap i hi).1⟩
    · subst h
      exact ⟨hb, rfl, fun i hi e => (hmap i hi).2 (S.inj _ _ (hmap i hi).1 hkl e)⟩
  · have h := S.old b hb' hm
    exact ⟨.inl h.1, (S.sep b h.1).2.1.trans h.2⟩
  · show LOwn KK _ w [x] (cap1 (β k) p)
    refine ⟨by simp [KK], Nat.le_refl _, by simp [cap1], fun h => (by cases h), fun _ => ⟨rfl, _, T, hT, by simp [cap1, hwid]⟩, fun i hi => ?_, ⟨fun _ => NoB, fun i hi => ?_, fun _ _ _ h => False.elim h, fun i j hi hj hij => by simp at hi hj; omega⟩⟩
    · have e : i = 0 := by simp at hi; exact hi
      subst e
      intro j v hj
      have hc : w.cell? ⟨β k, 0 + 0 * GT.width α + j, none⟩ = some v := by
        unfold World.cell?
        rw [hT]
        have hj' : (GT.cells x p)[j]? = some v := hj
        simp [hj']
      exact hc
    · have e : i = 0 := by simp at hi; exact hi
      subst e
      exact hx
  · subst h; exact S.new k hkl
  · subst h2; exact (S.sep _ h1).2.2 k hkl rfl
theorem St.argG {α : Type} [GT α] {K : Nat} {G : Bl} {x : α} {p : GT.Ptr α} (S : St P n w0 M u N β σ a w) (h : GT.rd K G w0 x p) (hG : ∀ b, G b → b < w0.heap.size ∧ ¬ M b) : GT.rd K N u x p :=
  GT.rd_mono (GT.rd_agree h (fun b hb _ => (S.old b (hG b hb).1 (hG b hb).2).2)) (Nat.le_refl _) (fun b hb => (S.old b (hG b hb).1 (hG b hb).2).1)
theorem Ow.wk {M' : Bl} {α : Type} [GT α] {F : Bl} {x : α} {p : GT.Ptr α} (h : Ow w0 NoB u N F x p) : Ow w0 M' u N F x p :=
  ⟨h.own, h.sub, fun b hb => .inl ((h.young b hb).resolve_right id)⟩
def RetT {α : Type} [GT α] (Mc F : Bl) (w : World) (r : α) (e : Ending) (w' : World) : Prop :=
  ∃ q F', e = .returned (GT.val r q) ∧ Chg Mc w w' ∧ GT.own KK F' w' r q ∧ ∀ b, F' b → F b ∨ (w.heap.size ≤ b ∧ b < w'.heap.size)
theorem St.callT0 {α α' : Type} [GT α] [GT α'] {F : Bl} {x : α} {p : GT.Ptr α} (S : St P n w0 M u N β σ a w) (o : Ow w0 M u N F x p) {i : Nat} {f : FuncId} {vals : List Value} {d : Tmp} {r : α'} (hc : Calls P f vals.toArray w (RetT NoB F w r))
    (K : ∀ a' w' N' q F', St P n w0 M w' N' β ⟨(d, .v (GT.val r q)) :: σ.env, σ.bx⟩ a' w' → (∀ b, N b → N' b ∧ w'.heap[b]? = u.heap[b]?) → Ow w0 M w' N' F' r q → (∀ G : Bl, Disj G F → (∀ b, G b → N b) → Disj G F') → K' a' w')
    (hcall : callAc P n ops i σ = some (f, vals, d) := by kernel_rfl) (hd : Nat.blt d n = true := by kernel_rfl) : wpOp P ops Q i K' a w :=
  S.call hcall hc fun _ w' ⟨q, F', he, hch, ho, hf⟩ => ⟨_, he, K _ w' _ q F' (S.after hd hch) (S.up hch)
    ⟨ho, fun b h => (hf b h).elim (fun h => .inl (o.sub b h)) .inr, fun b h => (hf b h).elim (o.young b) (fun h => .inl (Nat.le_trans S.chg.size h.1))⟩
    (fun G g1 g2 b h1 h2 => (hf b h2).elim (g1 b h1) (fun h => by have := (S.sep b (g2 b h1)).1; omega))⟩
theorem retT_of {α : Type} [GT α] {F F' : Bl} {r x : α} {p : GT.Ptr α} {v : Value} (S : St P n w0 M u N β σ a w) (h : r = x) (hv : v = GT.val x p) (o : Ow w0 F u N F' x p) : RetT M F w0 r (.returned (packed [v])) w := by
  subst h hv
  exact ⟨p, F', rfl, S.chg, GT.own_agree o.own (fun b hb _ => (S.sep b (o.sub b hb)).2.1), fun b hb => (o.young b hb).elim (fun h => .inr ⟨h, (S.sep b (o.sub b hb)).1⟩) .inl⟩
def Ret2W {α α' γ : Type} [GT α] [GT α'] [GT γ] (F : Bl) (qn : LP γ) (w : World) (r : α) (r' : α') (n' : γ) (e : Ending) (w' : World) : Prop :=
  ∃ (q : GT.Ptr α) (q' : GT.Ptr α') (F1 F2 : Bl) (p2 : Nat → GT.Ptr γ), e = .returned (.tuple #[GT.val r q, GT.val r' q']) ∧ Chg F w w' ∧ GT.own KK F1 w' r q ∧ GT.own KK F2 w' r' q' ∧ (∀ b, F1 b → w.heap.size ≤ b ∧ b < w'.heap.size) ∧ GT.own KK F w' [n'] ((qn.1, p2) : LP γ)
def RetC {α : Type} [GT α] (R : GT.Ptr α → GT.Ptr α → Prop) (F : Bl) (qn : LP α) (w : World) (v : Value) (h' : α) (e : Ending) (w' : World) : Prop :=
  ∃ (p2 : Nat → GT.Ptr α) (F' : Bl), e = .returned v ∧ Chg F w w' ∧ GT.own KK F' w' [h'] ((qn.1, p2) : LP α) ∧ (∀ b, F' b → F b ∨ (w.heap.size ≤ b ∧ b < w'.heap.size)) ∧ R (qn.2 0) (p2 0)
def callAcN (P : Program) (ops : Array Oper) (i : Nat) (σ : Sy) : Option (FuncId × List Value) :=
  match ops.toList[i]? with
  | some o =>
    match guardv ops σ o, o.op, o.dst with
    | some true, .call ⟨.value (.func f), args, _⟩, none => bif callee P f then (vlist σ args.toList).map fun l => (f, l) else none
    | _, _, _ => none
  | none => none
end
end Go.Proofs.YtlpaefknpmdaoaaGreat
namespace Go.Proofs.YtlpaefknpmdaoaaGreat
open Go
set_option linter.unusedVariables false
section
variable {P : Program} {ops : Array Oper} {R : Act → World → Prop} {C : World → Prop} {st : Nat}
theorem WD.firstP {i : Nat} {oi : Oper} {v : Value} (hi : ops[i]? = some oi) (hsel : Region.noSelect ops = true) (his : i ≠ st) :
    ∀ (f : Nat) (listed : Array Bool) (a : Act) (w : World),
      (∀ j oj, ops[j]? = some oj → j ≠ i → listed.getD j true = false → (∀ e ∈ oj.after, Region.binds .any e = true → e.on ≠ i) → oi.apart ops oj = true) →
      i ∈ Region.ready .any ops listed → YieldsIf P ops (fun _ => True) oi v a → (listed.getD st false = false → C w) →
      WD P ops R st C f (listed.setIfInBounds i true) (a.put oi.dst v) w → WD P ops R st C (f + 1) listed a w := by
  intro f
  have hnp : ∀ c a w, NQ R (.panic c) (a.put oi.dst v) w → NQ R (.panic c) a w := fun _ _ _ h => (by cases h.1)
  have unl : ∀ (listed : Array Bool), i ∈ Region.ready .any ops listed → listed.getD i false = false := fun listed hr => by
    have h0 := (mem_ready.1 hr).1
    rcases Nat.lt_or_ge i listed.size with h' | h'
    · simp [h'] at h0 ⊢; exact h0
    · simp [Array.getElem?_eq_none h']
  induction f with
  | zero =>
    intro listed a w _ hr hy hC H
    refine ⟨fun h => (by rw [h] at hr; cases hr), fun j hj => ?_⟩
    by_cases hji : j = i
    · subst hji; exact hy.wpOp hi trivial ⟨fun h => hC (by rwa [getD_set_ne false his] at h), H⟩
    · have := ready_mono hj hji
      rw [H.1] at this
      cases this
  | succ f ih =>
    intro listed a w hfree hr hy hC H
    refine ⟨fun h => (by rw [h] at hr; cases hr), fun j hj => ?_⟩
    by_cases hji : j = i
    · subst hji; exact hy.wpOp hi trivial ⟨fun h => hC (by rwa [getD_set_ne false his] at h), H⟩
    have h1 := H.2 j (ready_mono hj hji)
    obtain ⟨hjun, oj, hoj, hall⟩ := mem_ready.1 hj
    have hnot : ∀ e ∈ oj.after, Region.binds .any e = true → e.on ≠ i := fun e he hb heq => by
      have h2 := hall e he hb
      rw [heq, unl listed hr] at h2
      cases h2
    have h2 := wpOp_putIf hoj (hfree j oj hoj hji hjun hnot) (fun cs b => Region.noSelect_spec hsel i oi cs b hi) (fun cs b => Region.noSelect_spec hsel j oj cs b hoj) hnp hy h1
    have hfree' : ∀ k ok, ops[k]? = some ok → k ≠ i → (listed.setIfInBounds j true).getD k true = false → (∀ e ∈ ok.after, Region.binds .any e = true → e.on ≠ i) → oi.apart ops ok = true := fun k ok hk hki hu hno => by
      refine hfree k ok hk hki ?_ hno
      by_cases hjk : j = k
      · subst hjk; exact hjun
      · rwa [getD_set_ne true hjk] at hu
    refine wpOp_mono (fun a' w' h3 => ?_) h2
    obtain ⟨h4, h5, h6⟩ := h3
    have hC' : (listed.setIfInBounds j true).getD st false = false → C w' := fun h => h5 (by
      rw [Array.setIfInBounds_comm _ _ (Ne.symm hji), getD_set_ne false his]; exact h)
    rw [Array.setIfInBounds_comm _ _ (Ne.symm hji)] at h6
    exact ⟨hC', ih (listed.setIfInBounds j true) a' w' hfree' (ready_mono hr (Ne.symm hji)) h4 hC' h6⟩
end
section
variable {P : Program} {n : Nat} {w0 : World} {M : Bl} {u : World} {N : Bl} {β : Nat → Nat} {σ σ' : Sy} {a : Act} {w : World} {ops : Array Oper} {R : Act → World → Prop} {C : World → Prop} {st : Nat}
def plE (β : Nat → Nat) : Env → Env
  | [] => []
  | (t, s) :: r => (t, .v (s.val β)) :: plE β r
def Sy.pl (σ : Sy) (β : Nat → Nat) : Sy := ⟨plE β σ.env, []⟩
theorem look_plE {t : Nat} : ∀ (e : Env), look (plE β e) t = (look e t).map fun s => .v (s.val β)
  | [] => rfl
  | (s, x) :: r => by
    simp only [plE, look_cons]
    split
    · rfl
    · exact look_plE r
theorem St.anyw (S : St P n w0 M u N β σ a w) (w' : World) : St P n w' (fun _ => True) w' NoB β (σ.pl β) a w' := by
  refine ⟨S.df, S.sz, fun t s ht => ?_, fun t k o ht => ?_, fun k cs hk => by simp [Sy.pl] at hk, fun _ _ hj => by simp [Sy.pl] at hj, fun _ hk => by simp [Sy.pl] at hk, fun b hb => False.elim hb, Chg.refl _ _, fun b _ hm => absurd trivial hm⟩
  · rw [show (σ.pl β).env = plE β σ.env from rfl, look_plE] at ht
    cases hs : look σ.env t with
    | none => rw [hs] at ht; cases ht
    | some s0 =>
      rw [hs] at ht
      simp only [Option.map_some, Option.some.injEq] at ht
      subst ht
      exact S.env t s0 hs
  · rw [show (σ.pl β).env = plE β σ.env from rfl, look_plE] at ht
    cases hs : look σ.env t with
    | none => rw [hs] at ht; cases ht
    | some s0 => rw [hs] at ht; simp at ht
def pureB (P : Program) (ops : Array Oper) (β : Nat → Nat) (σ : Sy) (i : Nat) : Bool :=
  match ops[i]? with
  | some o =>
    match guardv ops σ o with
    | some false => true
    | some true => match opAc P (σ.pl β) o, opAc P σ o with
      | some (.val _), some (.val _) => true
      | _, _ => false
    | none => false
  | none => false
def pureAt (ops : Array Oper) (st : Nat) (listed : Array Bool) (i : Nat) : Bool :=
  Region.noSelect ops && Region.free .any ops listed i && (Region.ready .any ops listed).contains i && !Nat.beq i st
theorem St.hoistP (S : St P n w0 M u N β σ a w) {i f : Nat} {listed : Array Bool} (hh : pureAt ops st listed i = true) (hp : pureB P ops β σ i = true) (hC : listed.getD st false = false → C w) (hev : ev P n ops ((ops.toList.drop i).take 1) σ [] = some (σ', []))
    (K : ∀ a', St P n w0 M u N β σ' a' w → WD P ops R st C f (listed.setIfInBounds i true) a' w) : WD P ops R st C (f + 1) listed a w := by
  unfold pureB at hp
  split at hp
  · rename_i o ho
    have hlt : i < ops.size := (Array.getElem?_eq_some_iff.1 ho).1
    have hl : (ops.toList.drop i).take 1 = [o] := by
      rw [List.drop_eq_getElem_cons (show i < ops.toList.length by simpa using hlt)]
      have := (Array.getElem?_eq_some_iff.1 ho).2
      simp [← this]
    rw [hl] at hev
    simp only [pureAt, Bool.and_eq_true, Bool.not_eq_true'] at hh
    obtain ⟨⟨⟨b1, b2⟩, b3⟩, b4⟩ := hh
    have his : i ≠ st := fun e => by rw [e, Nat.beq_refl] at b4; cases b4
    have fin : ∀ v, YieldsIf P ops (fun _ => True) o v a → St P n w0 M u N β σ' (a.put o.dst v) w → WD P ops R st C (f + 1) listed a w := fun v hy S1 =>
      WD.firstP ho b1 his f listed a w (Region.free_spec ho b2) (by simpa using b3) hy hC (K _ S1)
    simp only [ev] at hev
    split at hev
    · cases hev
    · rename_i hg
      cases hput : σ.put n o.dst (.v undef) with
      | none => rw [hput] at hev; cases hev
      | some σ2 =>
        rw [hput] at hev
        simp only [Option.bind_some, Option.some.injEq, Prod.mk.injEq, and_true] at hev
        subst hev
        exact fin undef (.inr ⟨guard_ok S hg, rfl⟩) (S.put hput (fun _ _ e => by cases e))
    · rename_i hg
      simp only [hg] at hp
      have hw := guard_ok S hg
      split at hp
      · rename_i x2 x3 hx2 hx3
        have hrun : ∀ w', (execOp a.eval o).run P w' = .ok (.value (x2.val β)) w' := fun w' => (op_says (S.anyw w') hx2).1
        split at hev
        · cases hev
        · rename_i x hx
          cases hput : σ.put n o.dst x with
          | none => rw [hput] at hev; cases hev
          | some σ2 =>
            rw [hput] at hev
            simp only [Option.bind_some, Option.some.injEq, Prod.mk.injEq, and_true] at hev
            subst hev
            have h1 := (op_says S hx).1
            rw [hrun w] at h1
            have e : x2.val β = x.val β := by
              injection h1 with h1 _
              injection h1
            exact fin (x.val β) (.inl ⟨hw, fun w' _ => e ▸ hrun w'⟩) (S.put hput (op_says S hx).2)
        · rename_i h0; rw [h0] at hx3; cases hx3
        · rename_i h0; rw [h0] at hx3; cases hx3
        · rename_i h0; rw [h0] at hx3; cases hx3
      · cases hp
  · cases hp
def Sy.dq (σ : Sy) (dr : List Nat) (new : Env) : Sy := ⟨σ.keep 1000 (restK σ.env dr new) ++ new, σ.bx⟩
theorem St.hq {bx : List (List Value)} (S : St P n w0 M u N β σ a w) {f : Nat} {listed : Array Bool} (i : Nat) (path : List Nat) (dr : List Nat) (new : Env) {claims : List (Ask × Value)} (hq : AllQ P u N claims)
    (K : ∀ a', St P n w0 M u N β (σ.dq dr new) a' w → WD P ops R st (RC w0 M u N β bx) f (listed.setIfInBounds i true) a' w)
    (hbx : σ.bx = bx := by kernel_rfl) (hh : hoistB ops st listed i path = true := by kernel_rfl) (hask : askB P ops σ i = true := by kernel_rfl)
    (hev : evK P n ops i 1 σ (claims.map (·.2)) (restK σ.env dr new ++ keysK new) 1000 = some (σ.dq dr new, claims) := by kernel_rfl) : WD P ops R st (RC w0 M u N β bx) (f + 1) listed a w := by
  subst hbx
  exact S.hoist hh hask hq hev K
theorem St.rcx {bx : List (List Value)} (S : St P n w0 M u N β σ a w) (hbx : σ.bx = bx := by kernel_rfl) : RC w0 M u N β bx w := hbx ▸ S.rc
def listL (l : Array Bool) : List Nat → Array Bool
  | [] => l
  | i :: r => listL (l.setIfInBounds i true) r
def ovE (ov : List (Nat × Bool)) (i : Nat) (d : Option Nat) (σ : Sy) : Sy × List (Bool × Bool) :=
  match lookB ov i, d with
  | some b, some d => match look σ.env d with
    | some (.v (.bool c)) => (⟨(d, .v (.bool b)) :: σ.env, σ.bx⟩, [(c, b)])
    | _ => (σ, [])
  | _, _ => (σ, [])
theorem St.ovE (S : St P n w0 M u N β σ a w) {ov : List (Nat × Bool)} {i : Nat} {d : Option Nat} (h : AllB (ovE ov i d σ).2) : St P n w0 M u N β (Go.Proofs.YtlpaefknpmdaoaaGreat.ovE ov i d σ).1 a w := by
  unfold Go.Proofs.YtlpaefknpmdaoaaGreat.ovE at h ⊢
  split
  · rename_i b d hb
    simp only [hb] at h
    split
    · rename_i c hc
      simp only [hc] at h
      have e : c = b := h.1
      subst e
      refine ⟨S.df, S.sz, fun t s ht => ?_, fun t k o ht => ?_, S.box, S.inj, S.new, S.sep, S.chg, S.old⟩
      · rw [look_cons] at ht
        split at ht
        · rename_i e; subst e
          simp only [Option.some.injEq] at ht
          subst ht
          exact S.env _ _ hc
        · exact S.env t s ht
      · rw [look_cons] at ht
        split at ht
        · simp only [Option.some.injEq] at ht; cases ht
        · exact S.ok t k o ht
    · exact S
  · exact S
def dstAt (ops : Array Oper) (i : Nat) : Option Nat := (ops[i]?).bind (·.dst)
def hsOk (P : Program) (n : Nat) (ops : Array Oper) (st : Nat) (β : Nat → Nat) (ov : List (Nat × Bool)) : List Nat → Array Bool → Sy → Option (Sy × List (Bool × Bool))
  | [], _, σ => some (σ, [])
  | i :: r, l, σ => bif pureAt ops st l i && pureB P ops β σ i then
      match ev P n ops ((ops.toList.drop i).take 1) σ [] with
      | some (σ1, []) => (hsOk P n ops st β ov r (l.setIfInBounds i true) (ovE ov i (dstAt ops i) σ1).1).map fun z => (z.1, (ovE ov i (dstAt ops i) σ1).2 ++ z.2)
      | _ => none
    else none
theorem St.hoists {ov : List (Nat × Bool)} : ∀ (hs : List Nat) (listed : Array Bool) (σ : Sy) (z : Sy × List (Bool × Bool)) (a : Act) (f : Nat), St P n w0 M u N β σ a w → (listed.getD st false = false → C w) → hsOk P n ops st β ov hs listed σ = some z → AllB z.2 →
    (∀ a', St P n w0 M u N β z.1 a' w → WD P ops R st C f (listL listed hs) a' w) → WD P ops R st C (f + hs.length) listed a w
  | [], listed, σ, z, a, f, S, hC, h, hb, K => by
    simp only [hsOk, Option.some.injEq] at h
    subst h
    exact K a S
  | i :: r, listed, σ, z, a, f, S, hC, h, hob, K => by
    simp only [hsOk] at h
    cases hb : (pureAt ops st listed i && pureB P ops β σ i) with
    | false => rw [hb] at h; cases h
    | true =>
      rw [hb] at h
      simp only [cond_true] at h
      simp only [Bool.and_eq_true] at hb
      split at h
      · rename_i σ1 he
        refine S.hoistP hb.1 hb.2 hC he fun a1 S1 => ?_
        have his : i ≠ st := fun e => by
          have h4 := hb.1
          simp only [pureAt, Bool.and_eq_true, Bool.not_eq_true'] at h4
          rw [e, Nat.beq_refl] at h4
          cases h4.2
        cases hz : hsOk P n ops st β ov r (listed.setIfInBounds i true) (Go.Proofs.YtlpaefknpmdaoaaGreat.ovE ov i (dstAt ops i) σ1).1 with
        | none => rw [hz] at h; cases h
        | some z1 =>
          rw [hz] at h
          simp only [Option.map_some, Option.some.injEq] at h
          subst h
          exact St.hoists r _ _ z1 a1 f (S1.ovE hob.left) (fun h' => hC (by rwa [getD_set_ne false his] at h')) hz hob.right K
      · cases h
theorem St.who {W : Nat → Array Bool → Act → World → Prop} (S : St P n w0 M u N β σ a w) (hW : W = WD P ops R st C) (hs : List Nat) (ov : List (Nat × Bool)) {obl : List (Bool × Bool)} {f f1 : Nat} {l l2 : Array Bool} (hC : l.getD st false = false → C w) (hob : AllB obl)
    (K : ∀ a', St P n w0 M u N β σ' a' w → W f l2 a' w)
    (hev : ((hsOk P n ops st β ov hs l σ).bind fun s => (pruneK s.1 (keysK σ'.env) σ'.bx.length).map fun x => (x, s.2)) = some (σ', obl) := by kernel_rfl) (hl : listL l hs = l2 := by kernel_rfl) (hf : f1 = f + hs.length := by kernel_rfl) : WD P ops R st C f1 l a w := by
  subst hf hW hl
  cases he : hsOk P n ops st β ov hs l σ with
  | none => rw [he] at hev; cases hev
  | some s =>
    rw [he] at hev
    simp only [Option.bind_some] at hev
    cases hp : pruneK s.1 (keysK σ'.env) σ'.bx.length with
    | none => rw [hp] at hev; cases hev
    | some x =>
      rw [hp] at hev
      simp only [Option.map_some, Option.some.injEq, Prod.mk.injEq] at hev
      obtain ⟨e1, e2⟩ := hev
      subst e1
      exact St.hoists hs l σ s a f S hC he (e2 ▸ hob) fun a' S' => K a' (S'.prune hp)
theorem St.wh {W : Nat → Array Bool → Act → World → Prop} (S : St P n w0 M u N β σ a w) (hW : W = WD P ops R st C) (hs : List Nat) {f f1 : Nat} {l l2 : Array Bool} (hC : l.getD st false = false → C w)
    (K : ∀ a', St P n w0 M u N β σ' a' w → W f l2 a' w)
    (hev : ((hsOk P n ops st β [] hs l σ).bind fun s => (pruneK s.1 (keysK σ'.env) σ'.bx.length).map fun x => (x, s.2)) = some (σ', []) := by kernel_rfl) (hl : listL l hs = l2 := by kernel_rfl) (hf : f1 = f + hs.length := by kernel_rfl) : WD P ops R st C f1 l a w := S.who hW hs [] hC .nil K hev hl hf
abbrev NN (N0 : Bl) (u0 : World) (N : Bl) (u : World) : Prop := ∀ b, N0 b → N b ∧ u.heap[b]? = u0.heap[b]?
abbrev BB (m : Nat) (β0 β : Nat → Nat) : Prop := ∀ k, k < m → β k = β0 k
theorem WD.stayC {u0 : World} {N0 : Bl} {β0 : Nat → Nat} {bx : List (List Value)} {f : Nat} {l : Array Bool} (S : St P n w0 M u N β σ a w) (up : NN N0 u0 N u) (hβ : BB bx.length β0 β) (hbx : σ.bx.take bx.length = bx)
    (h : RC w0 M u0 N0 β0 bx w → WD P ops R st (RC w0 M u0 N0 β0 bx) f l a w) : (l.getD st false = false → RC w0 M u0 N0 β0 bx w) ∧ WD P ops R st (RC w0 M u0 N0 β0 bx) f l a w := by
  have hC : RC w0 M u0 N0 β0 bx w := ⟨fun k cs hk => by
      have hlt := (List.getElem?_eq_some_iff.1 hk).1
      rw [← hβ k hlt]
      refine S.box k cs ?_
      rw [← hbx, List.getElem?_take_of_lt hlt] at hk
      exact hk, fun b hb => ⟨(S.sep b (up b hb).1).1, ((S.sep b (up b hb).1).2.1).trans (up b hb).2⟩, S.chg⟩
  exact ⟨fun _ => hC, h hC⟩
def ev1 (P : Program) (n : Nat) (ops : Array Oper) (i : Nat) (σ : Sy) (orc : List Value) : Option (Sy × List (Ask × Value)) :=
  match (ops.toList.drop i).take 1 with
  | [o] => ev P n ops [o] σ orc
  | _ => none
theorem ev1_of {i : Nat} {orc : List Value} {r : Sy × List (Ask × Value)} (h : ev1 P n ops i σ orc = some r) : ∃ o, ops[i]? = some o ∧ ev P n ops [o] σ orc = some r := by
  unfold ev1 at h
  split at h
  · rename_i o ho
    refine ⟨o, ?_, h⟩
    have h1 : ((ops.toList.drop i).take 1)[0]? = some o := by rw [ho]; rfl
    rw [List.getElem?_take_of_lt (by omega), List.getElem?_drop] at h1
    simpa using h1
  · cases h
def evW (P : Program) (n : Nat) (ops : Array Oper) (st : Nat) (β : Nat → Nat) (i : Nat) (hs : List Nat) (ov : List (Nat × Bool)) (l : Array Bool) (σ : Sy) (orc : List Value) (keep : List Nat) (m : Nat) : Option (Sy × List (Ask × Value) × List (Bool × Bool)) :=
  match ev1 P n ops i σ orc with
  | some r => (hsOk P n ops st β ov hs (l.setIfInBounds i true) (ovE ov i (dstAt ops i) r.1).1).bind fun s => (pruneK s.1 keep m).map fun x => (x, r.2, (ovE ov i (dstAt ops i) r.1).2 ++ s.2)
  | none => none
theorem evW_of {i : Nat} {hs keep : List Nat} {ov : List (Nat × Bool)} {l : Array Bool} {orc : List Value} {m : Nat} {claims : List (Ask × Value)} {obl : List (Bool × Bool)} (h : evW P n ops st β i hs ov l σ orc keep m = some (σ', claims, obl)) :
    ∃ s1 s2, ev1 P n ops i σ orc = some (s1, claims) ∧ hsOk P n ops st β ov hs (l.setIfInBounds i true) (ovE ov i (dstAt ops i) s1).1 = some s2 ∧ pruneK s2.1 keep m = some σ' ∧ obl = (ovE ov i (dstAt ops i) s1).2 ++ s2.2 := by
  unfold evW at h
  split at h
  · rename_i r hr
    cases h2 : hsOk P n ops st β ov hs (l.setIfInBounds i true) (ovE ov i (dstAt ops i) r.1).1 with
    | none => rw [h2] at h; cases h
    | some s2 =>
      rw [h2] at h
      simp only [Option.bind_some] at h
      cases h3 : pruneK s2.1 keep m with
      | none => rw [h3] at h; cases h
      | some s3 =>
        rw [h3] at h
        simp only [Option.map_some, Option.some.injEq, Prod.mk.injEq] at h
        exact ⟨r.1, s2, by rw [hr, ← h.2.1], h2, by rw [h3, h.1], h.2.2.symm⟩
  · cases h
theorem WD.stayq {β' : Nat → Nat} {bx : List (List Value)} {f : Nat} {l : Array Bool} (S' : St P n w0 M u N β' σ' a w) (hβ : ∀ k, k < σ.bx.length → β' k = β k)
    (h : WD P ops R st (RC w0 M u N β' σ'.bx) f l a w) (hb : σ.bx = bx := by kernel_rfl) (hbx : σ'.bx.take bx.length = bx := by kernel_rfl) : (l.getD st false = false → RC w0 M u N β bx w) ∧ WD P ops R st (RC w0 M u N β bx) f l a w :=
  WD.stay S' (fun k hk => hβ k (by rw [hb]; exact hk)) (fun k cs hk => by
    have hlt := (List.getElem?_eq_some_iff.1 hk).1
    rw [← hbx, List.getElem?_take_of_lt hlt] at hk
    exact hk) h
theorem St.wqo {W : Nat → Array Bool → Act → World → Prop} {u0 : World} {N0 : Bl} {β0 : Nat → Nat} {bx : List (List Value)} (S : St P n w0 M u N β σ a w) (hW : W = WD P ops R st (RC w0 M u0 N0 β0 bx)) (up : NN N0 u0 N u) (hβ : BB bx.length β0 β)
    {i : Nat} (hs : List Nat) (ov : List (Nat × Bool)) {obl : List (Bool × Bool)} {claims : List (Ask × Value)} (hq : AllQ P u N claims) (hob : AllB obl) {f f1 : Nat} {l l2 : Array Bool}
    (K : ∀ a' w' β', St P n w0 M u N β' σ' a' w' → BB bx.length β0 β' → W f l2 a' w')
    (hev : ∀ β', evW P n ops st β' i hs ov l σ (claims.map (·.2)) (keysK σ'.env) σ'.bx.length = some (σ', claims, obl) := by intro β'; kernel_rfl)
    (hbx : ((ev1 P n ops i σ (claims.map (·.2))).map fun r => r.1.bx.take bx.length) = some bx := by kernel_rfl) (hbl : Nat.ble bx.length σ.bx.length = true := by kernel_rfl) (hl : listL (l.setIfInBounds i true) hs = l2 := by kernel_rfl) (hf : f1 = f + hs.length := by kernel_rfl) :
    wpOp P ops (NQ R) i (fun a' w' => ((l.setIfInBounds i true).getD st false = false → RC w0 M u0 N0 β0 bx w') ∧ WD P ops R st (RC w0 M u0 N0 β0 bx) f1 (l.setIfInBounds i true) a' w') a w := by
  subst hf hW hl
  obtain ⟨s1, s2, h1, h2, h3, h4⟩ := evW_of (hev β)
  obtain ⟨o, ho, he⟩ := ev1_of h1
  refine ev_one ho he hq S fun a1 w1 β1 S1 hb => ?_
  obtain ⟨s1', s2', h1', h2', h3', h4'⟩ := evW_of (hev β1)
  rw [h1] at h1'
  simp only [Option.some.injEq, Prod.mk.injEq, and_true] at h1'
  subst h1'
  have hbl' : bx.length ≤ σ.bx.length := Nat.le_of_ble_eq_true hbl
  have hβ1 : BB bx.length β0 β1 := fun k hk => (hb k (by omega)).trans (hβ k hk)
  rw [h1] at hbx
  simp only [Option.map_some, Option.some.injEq] at hbx
  rw [h4'] at hob
  exact WD.stayC S1 up hβ1 hbx fun hC => St.hoists hs _ _ s2' a1 f (S1.ovE hob.left) (fun _ => hC) h2' hob.right fun a' S' => K a' w1 β1 (S'.prune h3') hβ1
theorem St.wlo {W : Nat → Array Bool → Act → World → Prop} (S : St P n w0 M u N β σ a w) (hW : W = WD P ops R st C)
    {i : Nat} (hs : List Nat) (ov : List (Nat × Bool)) {obl : List (Bool × Bool)} {claims : List (Ask × Value)} (hq : AllQ P u N claims) (hob : AllB obl) {f f1 : Nat} {l l2 : Array Bool}
    (K : ∀ a' w' β', St P n w0 M u N β' σ' a' w' → W f l2 a' w')
    (hev : ∀ β', evW P n ops st β' i hs ov l σ (claims.map (·.2)) (keysK σ'.env) σ'.bx.length = some (σ', claims, obl) := by intro β'; kernel_rfl)
    (hst : (l.setIfInBounds i true).getD st false = true := by kernel_rfl) (hl : listL (l.setIfInBounds i true) hs = l2 := by kernel_rfl) (hf : f1 = f + hs.length := by kernel_rfl) :
    wpOp P ops (NQ R) i (fun a' w' => ((l.setIfInBounds i true).getD st false = false → C w') ∧ WD P ops R st C f1 (l.setIfInBounds i true) a' w') a w := by
  subst hf hW hl
  obtain ⟨s1, s2, h1, h2, h3, h4⟩ := evW_of (hev β)
  obtain ⟨o, ho, he⟩ := ev1_of h1
  refine ev_one ho he hq S fun a1 w1 β1 S1 hb => ?_
  obtain ⟨s1', s2', h1', h2', h3', h4'⟩ := evW_of (hev β1)
  rw [h1] at h1'
  simp only [Option.some.injEq, Prod.mk.injEq, and_true] at h1'
  subst h1'
  rw [h4'] at hob
  have hC : (l.setIfInBounds i true).getD st false = false → C w1 := fun h => by rw [hst] at h; cases h
  exact ⟨hC, St.hoists hs _ _ s2' a1 f (S1.ovE hob.left) hC h2' hob.right fun a' S' => K a' w1 β1 (S'.prune h3')⟩
theorem St.wq {W : Nat → Array Bool → Act → World → Prop} {u0 : World} {N0 : Bl} {β0 : Nat → Nat} {bx : List (List Value)} (S : St P n w0 M u N β σ a w) (hW : W = WD P ops R st (RC w0 M u0 N0 β0 bx)) (up : NN N0 u0 N u) (hβ : BB bx.length β0 β)
    {i : Nat} (hs : List Nat) {claims : List (Ask × Value)} (hq : AllQ P u N claims) {f f1 : Nat} {l l2 : Array Bool}
    (K : ∀ a' w' β', St P n w0 M u N β' σ' a' w' → BB bx.length β0 β' → W f l2 a' w')
    (hev : ∀ β', evW P n ops st β' i hs [] l σ (claims.map (·.2)) (keysK σ'.env) σ'.bx.length = some (σ', claims, []) := by intro β'; kernel_rfl)
    (hbx : ((ev1 P n ops i σ (claims.map (·.2))).map fun r => r.1.bx.take bx.length) = some bx := by kernel_rfl) (hbl : Nat.ble bx.length σ.bx.length = true := by kernel_rfl) (hl : listL (l.setIfInBounds i true) hs = l2 := by kernel_rfl) (hf : f1 = f + hs.length := by kernel_rfl) :
    wpOp P ops (NQ R) i (fun a' w' => ((l.setIfInBounds i true).getD st false = false → RC w0 M u0 N0 β0 bx w') ∧ WD P ops R st (RC w0 M u0 N0 β0 bx) f1 (l.setIfInBounds i true) a' w') a w := S.wqo hW up hβ hs [] hq .nil K hev hbx hbl hl hf
theorem St.wl {W : Nat → Array Bool → Act → World → Prop} (S : St P n w0 M u N β σ a w) (hW : W = WD P ops R st C)
    {i : Nat} (hs : List Nat) {claims : List (Ask × Value)} (hq : AllQ P u N claims) {f f1 : Nat} {l l2 : Array Bool}
    (K : ∀ a' w' β', St P n w0 M u N β' σ' a' w' → W f l2 a' w')
    (hev : ∀ β', evW P n ops st β' i hs [] l σ (claims.map (·.2)) (keysK σ'.env) σ'.bx.length = some (σ', claims, []) := by intro β'; kernel_rfl)
    (hst : (l.setIfInBounds i true).getD st false = true := by kernel_rfl) (hl : listL (l.setIfInBounds i true) hs = l2 := by kernel_rfl) (hf : f1 = f + hs.length := by kernel_rfl) :
    wpOp P ops (NQ R) i (fun a' w' => ((l.setIfInBounds i true).getD st false = false → C w') ∧ WD P ops R st C f1 (l.setIfInBounds i true) a' w') a w := S.wlo hW hs [] hq .nil K hev hst hl hf
section
variable {W : Nat → Array Bool → Act → World → Prop} {f : Nat} {l : Array Bool}
abbrev WS (P : Program) (ops : Array Oper) (R : Act → World → Prop) (st : Nat) (C : World → Prop) (f : Nat) (l : Array Bool) (a : Act) (w : World) (i : Nat) : Prop :=
  wpOp P ops (NQ R) i (fun a' w' => ((l.setIfInBounds i true).getD st false = false → C w') ∧ WD P ops R st C f (l.setIfInBounds i true) a' w') a w
theorem ox1 (hW : W = WD P ops R st C) (i : Nat) (h : WS P ops R st C f l a w i) (hr : Region.ready .any ops l = [i] := by kernel_rfl) : W (f + 1) l a w := by
  subst hW; exact WD.one hr h
theorem ox2 (hW : W = WD P ops R st C) (i j : Nat) (h : WS P ops R st C f l a w i) (h2 : WS P ops R st C f l a w j) (hr : Region.ready .any ops l = [i, j] := by kernel_rfl) : W (f + 1) l a w := by
  subst hW; exact WD.many hr rfl (List.forall_mem_cons.2 ⟨h, List.forall_mem_cons.2 ⟨h2, List.forall_mem_nil _⟩⟩)
theorem ox3 (hW : W = WD P ops R st C) (i j k : Nat) (h : WS P ops R st C f l a w i) (h2 : WS P ops R st C f l a w j) (h3 : WS P ops R st C f l a w k) (hr : Region.ready .any ops l = [i, j, k] := by kernel_rfl) : W (f + 1) l a w := by
  subst hW; exact WD.many hr rfl (List.forall_mem_cons.2 ⟨h, List.forall_mem_cons.2 ⟨h2, List.forall_mem_cons.2 ⟨h3, List.forall_mem_nil _⟩⟩⟩)
theorem od (hW : W = WD P ops R st C) (h : R a w) (hr : Region.ready .any ops l = [] := by kernel_rfl) : W f l a w := by
  subst hW; exact WD.done hr h f
end
theorem WD.sl {f : Nat} {l : Array Bool} (h : (l.getD st false = false → C w) → WD P ops R st C f l a w) (hst : l.getD st false = true := by kernel_rfl) : (l.getD st false = false → C w) ∧ WD P ops R st C f l a w :=
  ⟨fun h0 => (by rw [hst] at h0; cases h0), h fun h0 => (by rw [hst] at h0; cases h0)⟩
theorem WD.sc {u0 : World} {N0 : Bl} {β0 : Nat → Nat} {bx : List (List Value)} {f : Nat} {l : Array Bool} (S : St P n w0 M u N β σ a w) (up : NN N0 u0 N u) (hβ : BB bx.length β0 β)
    (h : (l.getD st false = false → RC w0 M u0 N0 β0 bx w) → WD P ops R st (RC w0 M u0 N0 β0 bx) f l a w) (hbx : σ.bx.take bx.length = bx := by kernel_rfl) : (l.getD st false = false → RC w0 M u0 N0 β0 bx w) ∧ WD P ops R st (RC w0 M u0 N0 β0 bx) f l a w := WD.stayC S up hβ hbx fun hC => h fun _ => hC
end
end Go.Proofs.YtlpaefknpmdaoaaGreat
namespace Go.Proofs.YtlpaefknpmdaoaaGreat
open Go
set_option linter.unusedVariables false
section
variable {P : Program} {n : Nat} {w0 : World} {M : Bl} {u : World} {N : Bl} {β : Nat → Nat} {σ : Sy} {a : Act} {w : World} {ops : Array Oper} {R : Act → World → Prop} {C : World → Prop} {st : Nat}
theorem St.sq {bx : List (List Value)} (S : St P n w0 M u N β σ a w) {f : Nat} {l : Array Bool} (i : Nat) (dr : List Nat) (new : Env) (m : Nat) (bs : List (Nat × List Value)) {claims : List (Ask × Value)} (hq : AllQ P u N claims)
    (K : ∀ a' w' β', St P n w0 M u N β' (σ.dl dr new m bs) a' w' → WD P ops R st (RC w0 M u N β' (σ.dl dr new m bs).bx) f (l.setIfInBounds i true) a' w')
    (hev : evK P n ops i 1 σ (claims.map (·.2)) (restK σ.env dr new ++ keysK new) m = some (σ.dl dr new m bs, claims) := by kernel_rfl)
    (hb : σ.bx = bx := by kernel_rfl) (hbx : (σ.dl dr new m bs).bx.take bx.length = bx := by kernel_rfl) (hr : Region.ready .any ops l = [i] := by kernel_rfl) : WD P ops R st (RC w0 M u N β bx) (f + 1) l a w :=
  WD.one hr (S.stepq hq hev fun a' w' β' S' hβ => WD.stayq S' hβ (K a' w' β' S') hb hbx)
theorem St.sl (S : St P n w0 M u N β σ a w) {f : Nat} {l : Array Bool} (i : Nat) (dr : List Nat) (new : Env) (m : Nat) (bs : List (Nat × List Value)) {claims : List (Ask × Value)} (hq : AllQ P u N claims)
    (K : ∀ a' w' β', St P n w0 M u N β' (σ.dl dr new m bs) a' w' → WD P ops R st C f (l.setIfInBounds i true) a' w')
    (hev : evK P n ops i 1 σ (claims.map (·.2)) (restK σ.env dr new ++ keysK new) m = some (σ.dl dr new m bs, claims) := by kernel_rfl)
    (hst : (l.setIfInBounds i true).getD st false = true := by kernel_rfl) (hr : Region.ready .any ops l = [i] := by kernel_rfl) : WD P ops R st C (f + 1) l a w :=
  WD.one hr (S.stepq hq hev fun a' w' β' S' hβ => WD.last hst (K a' w' β' S'))
end
def swN (i j k : Nat) : Nat := bif Nat.beq k i then j else bif Nat.beq k j then i else k
theorem swN_eq (i j k : Nat) : swN i j k = if k = i then j else if k = j then i else k := by
  unfold swN
  by_cases h : k = i
  · subst h; simp
  · have h1 : Nat.beq k i = false := by cases hb : Nat.beq k i with | false => rfl | true => exact absurd (Nat.eq_of_beq_eq_true hb) h
    rw [h1, cond_false, if_neg h]
    by_cases h2 : k = j
    · subst h2; simp
    · have h3 : Nat.beq k j = false := by cases hb : Nat.beq k j with | false => rfl | true => exact absurd (Nat.eq_of_beq_eq_true hb) h2
      rw [h3, cond_false, if_neg h2]
theorem swN_sw (i j k : Nat) : swN i j (swN i j k) = k := by
  simp only [swN_eq]
  repeat' split
  all_goals omega
theorem swN_lt {i j k n : Nat} (hi : i < n) (hj : j < n) (hk : k < n) : swN i j k < n := by
  rw [swN_eq]; repeat' split
  all_goals omega
def SV.sw (i j : Nat) : SV → SV
  | .v x => .v x
  | .p k o => .p (swN i j k) o
def swE (i j : Nat) : Env → Env
  | [] => []
  | (t, s) :: r => (t, s.sw i j) :: swE i j r
def Sy.swp (σ : Sy) (i j : Nat) : Sy := ⟨swE i j σ.env, (List.range σ.bx.length).map fun k => σ.bx.getD (swN i j k) []⟩
theorem look_swE {i j t : Nat} : ∀ e : Env, look (swE i j e) t = (look e t).map (SV.sw i j)
  | [] => rfl
  | (s, x) :: r => by
    simp only [swE, look_cons]
    split
    · rfl
    · exact look_swE r
section
variable {P : Program} {n : Nat} {w0 : World} {M : Bl} {u : World} {N : Bl} {β : Nat → Nat} {σ : Sy} {a : Act} {w : World}
theorem St.swp (S : St P n w0 M u N β σ a w) (i j : Nat) (hi : Nat.blt i σ.bx.length = true := by kernel_rfl) (hj : Nat.blt j σ.bx.length = true := by kernel_rfl) : St P n w0 M u N (fun k => β (swN i j k)) (σ.swp i j) a w := by
  have hi : i < σ.bx.length := by simpa [Nat.blt_eq] using hi
  have hj : j < σ.bx.length := by simpa [Nat.blt_eq] using hj
  have hl : (σ.swp i j).bx.length = σ.bx.length := by simp [Sy.swp]
  have hv : ∀ s : SV, (s.sw i j).val (fun k => β (swN i j k)) = s.val β := fun s => by
    cases s with
    | v x => rfl
    | p k o => show pt (β (swN i j (swN i j k))) o = pt (β k) o; rw [swN_sw]
  refine ⟨S.df, S.sz, fun t s ht => ?_, fun t k o ht => ?_, fun k cs hk => ?_, fun x y hx hy h => ?_, fun k hk => ?_, fun b hb => ?_, S.chg, S.old⟩
  · rw [show (σ.swp i j).env = swE i j σ.env from rfl, look_swE] at ht
    cases hs : look σ.env t with
    | none => rw [hs] at ht; cases ht
    | some s0 =>
      rw [hs] at ht
      simp only [Option.map_some, Option.some.injEq] at ht
      subst ht
      rw [hv]; exact S.env t s0 hs
  · rw [show (σ.swp i j).env = swE i j σ.env from rfl, look_swE] at ht
    rw [hl]
    cases hs : look σ.env t with
    | none => rw [hs] at ht; cases ht
    | some s0 =>
      rw [hs] at ht
      simp only [Option.map_some, Option.some.injEq] at ht
      cases s0 with
      | v x => cases ht
      | p k0 o0 =>
        cases ht
        exact swN_lt hi hj (S.ok t k0 o hs)
  · have hk2 : k < σ.bx.length := by rw [← hl]; exact (List.getElem?_eq_some_iff.1 hk).1
    have h3 := swN_lt hi hj hk2
    simp only [Sy.swp, List.getElem?_map, List.getElem?_range hk2, Option.map_some, Option.some.injEq] at hk
    rw [List.getD_eq_getElem?_getD, List.getElem?_eq_getElem h3, Option.getD_some] at hk
    exact S.box _ cs (by rw [List.getElem?_eq_getElem h3, hk])
  · rw [hl] at hx hy
    have := S.inj _ _ (swN_lt hi hj hx) (swN_lt hi hj hy) h
    rw [← swN_sw i j x, this, swN_sw]
  · rw [hl] at hk
    exact S.new _ (swN_lt hi hj hk)
  · obtain ⟨h1, h2, h3⟩ := S.sep b hb
    exact ⟨h1, h2, fun k hk => h3 _ (swN_lt hi hj (by rwa [hl] at hk))⟩
theorem BB.sw {m : Nat} {β0 : Nat → Nat} (h : BB m β0 β) (i j : Nat) (hi : Nat.ble m i = true := by kernel_rfl) (hj : Nat.ble m j = true := by kernel_rfl) : BB m β0 (fun k => β (swN i j k)) := fun k hk => by
  have h1 := Nat.le_of_ble_eq_true hi
  have h2 := Nat.le_of_ble_eq_true hj
  show β (swN i j k) = β0 k
  rw [swN_eq, if_neg (by omega), if_neg (by omega)]
  exact h k hk
end
end Go.Proofs.YtlpaefknpmdaoaaGreat
namespace Go.Proofs.YtlpaefknpmdaoaaGreat
open Go
set_option linter.unusedVariables false
set_option linter.unusedSimpArgs false
def f_brought (n a b : Int) : Int := if b < a ∨ n < a then a else if n > b then b else n
def f_withGuest (b : TBare) (g : Int) (x : TGuest) : TBare := if 0 ≤ g ∧ g < b.guests.length then ⟨b.mem, b.guests.set g.toNat x, b.outs, b.pend⟩ else b
def f_changed (b : TBare) (g : Int) (c : Bool) (F : TGuest → TGuest) : TBare × Bool :=
  if f_bareOk b = true ∧ (0 ≤ g ∧ g < b.guests.length) ∧ c = true then (⟨b.mem, b.guests.set g.toNat (F (el b.guests g.toNat)), b.outs, b.pend⟩, true) else (b, false)
def f_view (x : TMon) : TBare := ⟨List.replicate 8 (List.replicate 4 0), x.guests, x.outs, x.pend⟩
def f_back (h : THost) (m : Int) (b : TBare) : THost := ⟨h.mem, h.mons.set m.toNat { el h.mons m.toNat with guests := b.guests, pend := b.pend }, h.buf, h.iobuf⟩
def f_l25Mon (h : THost) (m : Int) : Bool := f_hostOk h && f_within m 0 ((h.mons.length : Int) - 1)
def f_reflected (h : THost) (m : Int) (r : TBare × Bool) : THost × Bool :=
  if (f_hostOk h = true ∧ 0 ≤ m ∧ m < h.mons.length) ∧ r.2 = true then (f_back h m r.1, true) else (h, false)
structure Loc (r : TBare → TBare × Bool) : Prop where
  eq : ∀ b b', f_bareOk b = f_bareOk b' → b.guests = b'.guests → b.outs = b'.outs → b.pend = b'.pend → (r b).2 = (r b').2 ∧ (r b).1.guests = (r b').1.guests ∧ (r b).1.pend = (r b').1.pend
  no : ∀ b, (r b).2 = false → (r b).1.guests = b.guests ∧ (r b).1.pend = b.pend
def f_bareCtl (b : TBare) (g : Int) (c : TCtl) : TBare × Bool := f_changed b g (f_ctlOk c) (fun x => { x with ctl := c })
def f_hostCtl (h : THost) (m g : Int) (c : TCtl) : THost × Bool := f_reflected h m (f_bareCtl (f_seenAs h m) g c)
def f_hostPost (h : THost) (m n : Int) : THost × Bool := f_reflected h m (f_barePost (f_seenAs h m) n)
def f_bareInject (b : TBare) (g n : Int) : TBare × Bool := f_changed b g (f_postIrq (f_guestAt b g).1.pend n).2 (fun x => { x with pend := (f_postIrq (f_guestAt b g).1.pend n).1 })
theorem postIrq_no {p n : Int} (h : (f_postIrq p n).2 = false) : (f_postIrq p n).1 = p := by
  unfold f_postIrq at h ⊢
  split at h
  · cases h
  · rename_i hn; rw [if_neg hn]
theorem inject_in {b : TBare} {g n : Int} (h : f_l19Is b g = true) : f_bareInject b g n = (⟨b.mem, b.guests.set g.toNat { el b.guests g.toNat with pend := (f_postIrq (el b.guests g.toNat).pend n).1 }, b.outs, b.pend⟩, (f_postIrq (el b.guests g.toNat).pend n).2) := by
  have h1 := l19Is_t h
  unfold f_bareInject f_changed
  rw [guestAt_1 h1.2]
  cases hc : (f_postIrq (el b.guests g.toNat).pend n).2 with
  | true => rw [if_pos ⟨h1.1, h1.2, rfl⟩]
  | false =>
    rw [if_neg (fun e => by cases e.2.2), postIrq_no hc]
    show (b, false) = ((⟨b.mem, b.guests.set g.toNat (el b.guests g.toNat), b.outs, b.pend⟩ : TBare), false)
    rw [set_self_el (show g.toNat < b.guests.length by omega)]
theorem inject_out {b : TBare} {g n : Int} (h : f_l19Is b g = false) : f_bareInject b g n = (b, false) := by
  unfold f_bareInject f_changed
  rw [if_neg (fun e => by rw [l19Is_mk e.1 e.2.1] at h; cases h)]
def f_hostInject (h : THost) (m g n : Int) : THost × Bool := f_reflected h m (f_bareInject (f_seenAs h m) g n)
def f_moved (g : TGuest) : TGuest := { g with pc := if g.pc ≥ 12 then 12 else g.pc + 1 }
def f_held (g : TGuest) : TGuest := f_moved { g with halted := true }
def f_exitOf (b : TBare) (g : Int) : TExit := (f_guestAt b g).1.exit
theorem exitOf_r {K : Nat} {F : Bl} {w : World} {b : TBare} {p : PBare} (h : GT.rd K F w b p) (g : Int) : RExit (f_exitOf b g) := by
  unfold f_exitOf f_guestAt
  split
  · exact RGuest.exit (LRd.el (RBare.guests h) g.toNat (by omega))
  · exact ⟨⟨by decide, by decide⟩, ⟨by decide, by decide⟩, ⟨by decide, by decide⟩⟩
def f_resume (kind : Int) (x : TGuest) : TGuest := if kind = 4 then f_held { x with exit := ⟨0, 0, false, 0⟩ } else { x with exit := ⟨0, 0, false, 0⟩ }
def f_bareResume (b : TBare) (g : Int) : TBare × Bool := f_changed b g ((f_exitOf b g).kind == 1 || (f_exitOf b g).kind == 4) (fun x => f_resume (f_exitOf b g).kind x)
theorem exitOf_in {b : TBare} {g : Int} (h : f_l19Is b g = true) : f_exitOf b g = (el b.guests g.toNat).exit := by
  unfold f_exitOf; rw [guestAt_1 (l19Is_t h).2]
theorem changed_in {b : TBare} {g : Int} {c : Bool} {F : TGuest → TGuest} (h : f_l19Is b g = true) (hc : c = true) : f_changed b g c F = (⟨b.mem, b.guests.set g.toNat (F (el b.guests g.toNat)), b.outs, b.pend⟩, true) := by
  have h1 := l19Is_t h
  unfold f_changed
  rw [if_pos ⟨h1.1, h1.2, hc⟩]
theorem changed_out {b : TBare} {g : Int} {c : Bool} {F : TGuest → TGuest} (h : f_l19Is b g = false) : f_changed b g c F = (b, false) := by
  unfold f_changed
  rw [if_neg (fun e => by rw [l19Is_mk e.1 e.2.1] at h; cases h)]
theorem changed_no {b : TBare} {g : Int} {c : Bool} {F : TGuest → TGuest} (hc : c = false) : f_changed b g c F = (b, false) := by
  unfold f_changed
  rw [if_neg (fun e => by rw [hc] at e; cases e.2.2)]
theorem resume_fault {b : TBare} {g : Int} (h : f_l19Is b g = true) (hk : (el b.guests g.toNat).exit.kind = 1) : f_bareResume b g = (⟨b.mem, b.guests.set g.toNat { el b.guests g.toNat with exit := ⟨0, 0, false, 0⟩ }, b.outs, b.pend⟩, true) := by
  unfold f_bareResume
  rw [exitOf_in h, changed_in h (by rw [hk]; rfl), hk]
  rfl
theorem resume_halt {b : TBare} {g : Int} (h : f_l19Is b g = true) (hk : (el b.guests g.toNat).exit.kind = 4) : f_bareResume b g = (⟨b.mem, b.guests.set g.toNat (f_held { el b.guests g.toNat with exit := ⟨0, 0, false, 0⟩ }), b.outs, b.pend⟩, true) := by
  unfold f_bareResume
  rw [exitOf_in h, changed_in h (by rw [hk]; rfl), hk]
  rfl
theorem resume_none {b : TBare} {g : Int} (h : f_l19Is b g = true) (h1 : ¬ (el b.guests g.toNat).exit.kind = 1) (h4 : ¬ (el b.guests g.toNat).exit.kind = 4) : f_bareResume b g = (b, false) := by
  unfold f_bareResume
  rw [exitOf_in h, changed_no (by simp [h1, h4])]
def f_hostResume (h : THost) (m g : Int) : THost × Bool := f_reflected h m (f_bareResume (f_seenAs h m) g)
def f_answer (kind v : Int) (x : TGuest) : TGuest := f_moved { (if kind = 2 then { x with acc := v } else x) with exit := ⟨0, 0, false, 0⟩ }
def f_bareAnswer (b : TBare) (g v : Int) : TBare × Bool := f_changed b g (((f_exitOf b g).kind == 2 || (f_exitOf b g).kind == 3) && f_within v 0 99) (fun x => f_answer (f_exitOf b g).kind v x)
theorem answer_call {b : TBare} {g v : Int} (h : f_l19Is b g = true) (hv : f_within v 0 99 = true) (hk : (el b.guests g.toNat).exit.kind = 2) : f_bareAnswer b g v = (⟨b.mem, b.guests.set g.toNat (f_moved { el b.guests g.toNat with acc := v, exit := ⟨0, 0, false, 0⟩ }), b.outs, b.pend⟩, true) := by
  unfold f_bareAnswer
  rw [exitOf_in h, changed_in h (by rw [hk, hv]; rfl), hk]
  rfl
theorem answer_out {b : TBare} {g v : Int} (h : f_l19Is b g = true) (hv : f_within v 0 99 = true) (hk : (el b.guests g.toNat).exit.kind = 3) : f_bareAnswer b g v = (⟨b.mem, b.guests.set g.toNat (f_moved { el b.guests g.toNat with exit := ⟨0, 0, false, 0⟩ }), b.outs, b.pend⟩, true) := by
  unfold f_bareAnswer
  rw [exitOf_in h, changed_in h (by rw [hk, hv]; rfl), hk]
  rfl
theorem answer_none {b : TBare} {g v : Int} (h : f_l19Is b g = true) (h1 : ¬ (el b.guests g.toNat).exit.kind = 2) (h4 : ¬ (el b.guests g.toNat).exit.kind = 3) : f_bareAnswer b g v = (b, false) := by
  unfold f_bareAnswer
  rw [exitOf_in h, changed_no (by simp [h1, h4])]
theorem answer_noval {b : TBare} {g v : Int} (hv : f_within v 0 99 = false) : f_bareAnswer b g v = (b, false) := by
  unfold f_bareAnswer
  rw [changed_no (by simp [hv])]
def f_hostAnswer (h : THost) (m g v : Int) : THost × Bool := f_reflected h m (f_bareAnswer (f_seenAs h m) g v)
def f_withSlot (t : List TSlot) (p : Int) (s : TSlot) : List TSlot := if 0 ≤ p ∧ p < t.length then t.set p.toNat s else t
def f_bareSet (b : TBare) (g page : Int) (s : TSlot) : TBare × Bool := f_changed b g (f_within page 0 3 && f_slotOk s 8) (fun x => { x with written := f_withSlot x.written page s })
theorem set_in {b : TBare} {g page : Int} {s : TSlot} (h : f_l19Is b g = true) (h1 : f_within page 0 3 = true) (h2 : f_slotOk s 8 = true) : f_bareSet b g page s = (⟨b.mem, b.guests.set g.toNat { el b.guests g.toNat with written := f_withSlot (el b.guests g.toNat).written page s }, b.outs, b.pend⟩, true) := by
  unfold f_bareSet
  rw [changed_in h (by rw [h1, h2]; rfl)]
theorem set_no1 {b : TBare} {g page : Int} {s : TSlot} (h : f_within page 0 3 = false) : f_bareSet b g page s = (b, false) := by
  unfold f_bareSet
  rw [changed_no (by simp [h])]
theorem set_no2 {b : TBare} {g page : Int} {s : TSlot} (h : f_slotOk s 8 = false) : f_bareSet b g page s = (b, false) := by
  unfold f_bareSet
  rw [changed_no (by simp [h])]
theorem set_has {b : TBare} {g page : Int} {s : TSlot} (h : f_within page 0 (4 - 1) = true) : f_bareSet b g page s = f_changed b g (f_slotOk s 8) (fun x => { x with written := f_withSlot x.written page s }) := by
  unfold f_bareSet
  rw [show f_within page 0 3 = true from h, Bool.true_and]
theorem set_hasnt {b : TBare} {g page : Int} {s : TSlot} (h : f_within page 0 (4 - 1) = false) : f_bareSet b g page s = f_changed b g false (fun x => { x with written := f_withSlot x.written page s }) := by
  unfold f_bareSet
  rw [show f_within page 0 3 = false from h, Bool.false_and]
def f_hostSet (h : THost) (m g page : Int) (s : TSlot) : THost × Bool := f_reflected h m (f_bareSet (f_seenAs h m) g page s)
end Go.Proofs.YtlpaefknpmdaoaaGreat
namespace Go.Proofs.YtlpaefknpmdaoaaGreat
open Go
set_option linter.unusedVariables false
set_option linter.unusedSimpArgs false
def f_samePg (e : TEntry) (tag page : Int) : Bool := (e.tag == tag) && (e.page == page)
def f_without (b : List TEntry) (p : TEntry → Bool) : List TEntry := b.filter fun e => !p e
def f_flushPage (b : List TEntry) (tag page : Int) : List TEntry := f_without b fun e => f_samePg e tag page
def f_tagOf (m g : Int) : Int := if (0 ≤ m ∧ m ≤ 2) ∧ 0 ≤ g ∧ g ≤ 1 then 1 + g + m * 2 else 0
def f_bareFlush (b : TBare) (g page : Int) : TBare × Bool := f_changed b g (f_within page 0 3) (fun x => { x with live := f_withSlot x.live page (f_slotAt x.written page) })
theorem flush_in {b : TBare} {g page : Int} (h : f_l19Is b g = true) (h1 : f_within page 0 3 = true) : f_bareFlush b g page = (⟨b.mem, b.guests.set g.toNat { el b.guests g.toNat with live := f_withSlot (el b.guests g.toNat).live page (f_slotAt (el b.guests g.toNat).written page) }, b.outs, b.pend⟩, true) := by
  unfold f_bareFlush
  rw [changed_in h h1]
theorem flush_no {b : TBare} {g page : Int} (h : f_within page 0 3 = false) : f_bareFlush b g page = (b, false) := by
  unfold f_bareFlush
  rw [changed_no h]
def f_flushed (h : THost) (m g page : Int) : THost :=
  ⟨h.mem, h.mons.set m.toNat { el h.mons m.toNat with tables := (el h.mons m.toNat).tables.set g.toNat (f_forget (el (el h.mons m.toNat).tables g.toNat) page) }, f_flushPage h.buf (f_tagOf m g) page, f_flushPage h.iobuf (f_tagOf m g) page⟩
def f_hostFlush (h : THost) (m g page : Int) : THost × Bool :=
  if (f_reflected h m (f_bareFlush (f_seenAs h m) g page)).2 = true then (f_flushed (f_reflected h m (f_bareFlush (f_seenAs h m) g page)).1 m g page, true) else (h, false)
end Go.Proofs.YtlpaefknpmdaoaaGreat
namespace Go.Proofs.YtlpaefknpmdaoaaGreat
open Go
set_option linter.unusedVariables false
section
variable {w0 : World} {M : Bl} {u : World} {N : Bl}
theorem Disj.sub {A B C : Bl} (d : Disj A B) (h : ∀ b, C b → B b) : Disj A C := fun b x y => d b x (h b y)
def hdrH (p p' : PHost) : Prop := p'.mons.1 = p.mons.1
def RetT3 {α : Type} [GT α] (Mc F : Bl) (w : World) (r : α) (k : Int) (c : Bool) (e : Ending) (w' : World) : Prop :=
  ∃ q F', e = .returned (.tuple #[GT.val r q, I k, B c]) ∧ Chg Mc w w' ∧ GT.own KK F' w' r q ∧ In64 k ∧ ∀ b, F' b → F b ∨ (w.heap.size ≤ b ∧ b < w'.heap.size)
section
variable {P : Program} {n : Nat} {β : Nat → Nat} {σ : Sy} {a : Act} {w : World} {ops : Array Oper} {Q : Exit → Act → World → Prop} {K' : Act → World → Prop}
end
theorem Ow.sl {α : Type} [GT α] {xs : List α} {p : LP α} {F : Bl} (o : Ow w0 M u N F xs p) {a b : Nat} (hab : a ≤ b) (hb : b ≤ xs.length) : Ow w0 M u N F ((xs.drop a).take (b - a)) ((p.1.sl a (GT.width α), fun i => p.2 (a + i)) : LP α) := by
  refine ⟨?_, o.sub, o.young⟩
  have h : LOwn KK F u xs p := o.own
  have hlen : ((xs.drop a).take (b - a)).length = b - a := by simp; omega
  have hel : ∀ i, i < b - a → el ((xs.drop a).take (b - a)) i = el xs (a + i) := fun i hi => by
    unfold el
    rw [List.getD_eq_getElem?_getD, List.getD_eq_getElem?_getD, List.getElem?_take_of_lt hi, List.getElem?_drop]
  have hcap := h.cap
  obtain ⟨G, g1, g2, g3⟩ := h.el
  show LOwn KK F u _ _
  refine ⟨by have := h.le; omega, by show _ ≤ p.1.cap - a; omega, by show p.1.cap - a ≤ _; have := h.capm; omega, fun z => by show p.1.cap - a = 0; have := h.null z; omega, fun z => ?_, fun i hi => ?_, fun i => G (a + i), fun i hi => ?_, fun i hi c hc => ?_, fun i j hi hj hij => ?_⟩
  · obtain ⟨r1, cs, T, r2, r3⟩ := h.row z
    refine ⟨r1, cs, T, r2, ?_⟩
    show (bif p.1.cap == a then p.1.off else p.1.off + a * GT.width α) + (p.1.cap - a) * GT.width α ≤ cs.size
    have e2 : p.1.cap * GT.width α = a * GT.width α + (p.1.cap - a) * GT.width α := by rw [← Nat.add_mul]; congr 1; omega
    cases p.1.cap == a
    · simp only [cond_false]; omega
    · simp only [cond_true]; omega
  · rw [hlen] at hi
    rw [hel i hi]
    have e1 : (p.1.cap == a) = false := by simp; omega
    have := h.cell (a + i) (by omega)
    show CellsAt u p.1.b ((bif p.1.cap == a then p.1.off else p.1.off + a * GT.width α) + i * GT.width α) _
    rw [e1]
    simp only [cond_false]
    rw [Nat.add_assoc, ← Nat.add_mul]
    exact this
  · rw [hlen] at hi
    rw [hel i hi]
    exact g1 (a + i) (by omega)
  · rw [hlen] at hi
    exact g2 (a + i) (by omega) c hc
  · rw [hlen] at hi hj
    exact g3 (a + i) (a + j) (by omega) (by omega) (by omega)
end
theorem set_self {α : Type} [GT α] {xs : List α} {k : Nat} : xs.set k (el xs k) = xs := by
  by_cases h : k < xs.length
  · rw [el_lt h]; exact List.set_getElem_self h
  · exact List.set_eq_of_length_le (by omega)
end Go.Proofs.YtlpaefknpmdaoaaGreat
namespace Go.Proofs.YtlpaefknpmdaoaaGreat
open Go
set_option linter.unusedVariables false
set_option linter.unusedSimpArgs false
inductive Fr where
  | seq (y : Code)
  | blk (id : Nat)
  | sem (f : Act → World → Prop)
def wpF (P : Program) (Q : Exit → Act → World → Prop) : List Fr → Exit → Act → World → Prop
  | [] => Q
  | .seq y :: r => Exit.then (y.wp P (wpF P Q r)) (wpF P Q r)
  | .blk id :: r => Exit.inBlock id (wpF P Q r)
  | .sem f :: r => Exit.then f (wpF P Q r)
inductive Cf where
  | code (c : Code) (ks : List Fr)
  | ops (ops : Array Oper) (i : Nat) (ks : List Fr)
  | ex (e : Exit) (ks : List Fr)
def Cf.wp (P : Program) (Q : Exit → Act → World → Prop) : Cf → Act → World → Prop
  | .code c ks => c.wp P (wpF P Q ks)
  | .ops o i ks => RG P o (wpF P Q ks) i
  | .ex e ks => wpF P Q ks e
structure Rs where
  cf : Cf
  σ : Sy
  asks : List Ask
def adv (P : Program) (n : Nat) : Nat → Cf → Sy → List Value → Rs
  | 0, cf, σ, _ => ⟨cf, σ, []⟩
  | k + 1, .code c ks, σ, orc =>
    match c with
    | .skip => adv P n k (.ex .normal ks) σ orc
    | .seq x y => adv P n k (.code x (.seq y :: ks)) σ orc
    | .block id x => adv P n k (.code x (.blk id :: ks)) σ orc
    | .exit id => adv P n k (.ex (.exit id) ks) σ orc
    | .ret => ⟨.ex .ret [], σ, []⟩
    | .cond c x y =>
      match σ.get c with
      | some (.v (.bool b)) => adv P n k (.code (bif b then x else y) ks) σ orc
      | _ => ⟨.code (.cond c x y) ks, σ, []⟩
    | .region _ ops false => adv P n k (.ops ops 0 ks) σ orc
    | .region id ops true =>
      bif P.follows .mixedOrders && Region.lexB .any ops then
        match evD P n ops ops.toList σ orc with
        | some (σ', l) =>
          let r := adv P n k (.ex .normal ks) σ' (orc.drop l.length)
          ⟨r.cf, r.σ, l.map (·.1) ++ r.asks⟩
        | none => ⟨.code (.region id ops true) ks, σ, []⟩
      else ⟨.code (.region id ops true) ks, σ, []⟩
    | c => ⟨.code c ks, σ, []⟩
  | k + 1, .ops ops i ks, σ, orc =>
    match ops.toList[i]? with
    | none => adv P n k (.ex .normal ks) σ orc
    | some o =>
      match ev P n ops [o] σ (orc.take 1) with
      | none => ⟨.ops ops i ks, σ, []⟩
      | some (σ', []) => adv P n k (.ops ops (i + 1) ks) σ' orc
      | some (σ', (q, _) :: _) =>
        let r := adv P n k (.ops ops (i + 1) ks) σ' (orc.drop 1)
        ⟨r.cf, r.σ, q :: r.asks⟩
  | k + 1, .ex .normal ks, σ, orc =>
    match ks with
    | .seq y :: r => adv P n k (.code y r) σ orc
    | .blk _ :: r => adv P n k (.ex .normal r) σ orc
    | ks => ⟨.ex .normal ks, σ, []⟩
  | k + 1, .ex (.exit id) ks, σ, orc =>
    match ks with
    | .seq _ :: r => adv P n k (.ex (.exit id) r) σ orc
    | .sem _ :: r => adv P n k (.ex (.exit id) r) σ orc
    | .blk id' :: r => bif Nat.beq id id' then adv P n k (.ex .normal r) σ orc else adv P n k (.ex (.exit id) r) σ orc
    | [] => ⟨.ex (.exit id) [], σ, []⟩
  | _ + 1, .ex .ret _, σ, _ => ⟨.ex .ret [], σ, []⟩
  | _ + 1, .ex e ks, σ, _ => ⟨.ex e ks, σ, []⟩
section
variable {P : Program} {n : Nat} {w0 : World} {M : Bl} {u : World} {N : Bl} {β : Nat → Nat} {σ : Sy} {a : Act} {w : World} {Q : Exit → Act → World → Prop} {cf : Cf}
theorem evo1 {ops : Array Oper} {i : Nat} {o : Oper} {σ' : Sy} {claims : List (Ask × Value)} {ks : List Fr} (ho : ops.toList[i]? = some o) (hev : ev P n ops [o] σ (claims.map (·.2)) = some (σ', claims)) (hq : AllQ P u N claims) (S : St P n w0 M u N β σ a w)
    (K : ∀ a' w' β', St P n w0 M u N β' σ' a' w' → Cf.wp P Q (.ops ops (i + 1) ks) a' w') : Cf.wp P Q (.ops ops i ks) a w := by
  have ho' : ops[i]? = some o := by simpa using ho
  have hlt : i < ops.size := (Array.getElem?_eq_some_iff.1 ho').1
  have key := ev_sound (P := P) (n := n) (w0 := w0) (M := M) (u := u) (N := N) (ops := ops) (Q := wpF P Q ks) σ' (List.range' (i + 1) (ops.size - (i + 1))) [o] i σ a w β claims
    (fun t o1 ht => by
      cases t with
      | zero => simp at ht; subst ht; simpa using ho'
      | succ t => simp at ht) hev hq S (fun a' w' β' S' => K a' w' β' S')
  show RG P ops (wpF P Q ks) i a w
  unfold RG
  rw [show ops.size - i = 1 + (ops.size - (i + 1)) by omega, ← List.range'_append_1]
  exact key
theorem ev_asks {ops : Array Oper} {o : Oper} {σ' : Sy} {l : List (Ask × Value)} {claims : List (Ask × Value)} {q : Ask} {v : Value} (h : ev P n ops [o] σ (((q, v) :: claims).map (·.2) |>.take 1) = some (σ', l)) {q' : Ask} {x : Value} {r : List (Ask × Value)} (e : l = (q', x) :: r) : l = [(q', v)] := by
  subst e
  simp only [List.map_cons, List.take_succ_cons, List.take_zero, ev] at h
  split at h
  · cases h
  · cases hp : σ.put n o.dst (.v undef) with
    | none => rw [hp] at h; cases h
    | some σ1 => rw [hp] at h; simp at h
  · split at h
    · cases h
    · rename_i x' hx
      cases hp : σ.put n o.dst x' with
      | none => rw [hp] at h; cases h
      | some σ1 => rw [hp] at h; simp at h
    · rename_i q1 hx
      cases hp : σ.put n o.dst (.v v) with
      | none => rw [hp] at h; cases h
      | some σ1 =>
        rw [hp] at h
        simp only [Option.bind_some, Option.map_some, Option.some.injEq, Prod.mk.injEq, List.cons.injEq] at h
        obtain ⟨_, ⟨h1, h2⟩, h3⟩ := h
        rw [← h2, ← h3]
    · rename_i T cs hx
      cases hp : Sy.put n ⟨σ.env, σ.bx ++ [cs]⟩ o.dst (.p σ.bx.length 0) with
      | none => rw [hp] at h; cases h
      | some σ1 => rw [hp] at h; simp at h
    · split at h
      · simp at h
      · cases h
theorem ev_none {ops : Array Oper} {o : Oper} {σ' : Sy} {orc : List Value} (h : ev P n ops [o] σ orc = some (σ', [])) : ev P n ops [o] σ [] = some (σ', []) := by
  simp only [ev] at h ⊢
  split at h
  · cases h
  · assumption
  · split at h
    · cases h
    · exact h
    · cases orc with
      | nil => cases h
      | cons v r =>
        simp only at h
        cases hp : σ.put n o.dst (.v v) with
        | none => rw [hp] at h; cases h
        | some σ1 => rw [hp] at h; simp at h
    · assumption
    · split at h
      · assumption
      · cases h
theorem ev_nil {ops : Array Oper} {o : Oper} {σ' : Sy} {l : List (Ask × Value)} (h : ev P n ops [o] σ [] = some (σ', l)) : l = [] := by
  simp only [ev] at h
  split at h
  · cases h
  · cases hp : σ.put n o.dst (.v undef) with
    | none => rw [hp] at h; cases h
    | some σ1 => rw [hp] at h; simp at h; exact h.2
  · split at h
    · cases h
    · rename_i x' hx
      cases hp : σ.put n o.dst x' with
      | none => rw [hp] at h; cases h
      | some σ1 => rw [hp] at h; simp at h; exact h.2
    · cases h
    · rename_i T cs hx
      cases hp : Sy.put n ⟨σ.env, σ.bx ++ [cs]⟩ o.dst (.p σ.bx.length 0) with
      | none => rw [hp] at h; cases h
      | some σ1 => rw [hp] at h; simp at h; exact h.2
    · split at h
      · simp at h; exact h.2
      · cases h
theorem wpF_ret : ∀ ks : List Fr, wpF P Q ks .ret a w = Q .ret a w
  | [] => rfl
  | .seq _ :: r => wpF_ret r
  | .blk _ :: r => wpF_ret r
  | .sem _ :: r => wpF_ret r
theorem evD_vals {ops : Array Oper} {σ' : Sy} : ∀ (l : List Oper) (σ : Sy) (orc : List Value) (r : List (Ask × Value)), evD P n ops l σ orc = some (σ', r) → r.map (·.2) = orc.take r.length ∧ evD P n ops l σ (r.map (·.2)) = some (σ', r)
  | [], σ, orc, r, h => by
    simp only [evD, Option.some.injEq, Prod.mk.injEq] at h
    obtain ⟨rfl, rfl⟩ := h
    exact ⟨rfl, rfl⟩
  | o :: l, σ, orc, r, h => by
    have IH := evD_vals (ops := ops) (σ' := σ') l
    simp only [evD] at h ⊢
    split at h
    · cases h
    · cases hp : σ.put n o.dst (.v undef) with
      | none => rw [hp] at h; cases h
      | some σ1 => rw [hp] at h; simp only [Option.bind_some] at h ⊢; exact IH σ1 orc r h
    · split at h
      · rename_i hg x hx
        cases hp : σ.put n o.dst x with
        | none => rw [hp] at h; cases h
        | some σ1 => rw [hp] at h; simp only [Option.bind_some, hx, hp] at h ⊢; exact IH σ1 orc r h
      · rename_i hg q hx
        cases orc with
        | nil => cases h
        | cons v orc =>
          simp only at h
          cases hp : σ.put n o.dst (.v v) with
          | none => rw [hp] at h; cases h
          | some σ1 =>
            rw [hp] at h
            simp only [Option.bind_some] at h
            cases hr : evD P n ops l σ1 orc with
            | none => rw [hr] at h; cases h
            | some r' =>
              rw [hr] at h
              simp only [Option.map_some, Option.some.injEq, Prod.mk.injEq] at h
              obtain ⟨h1, h2⟩ := h
              subst h2
              have := IH σ1 orc r'.2 (by rw [hr, ← h1])
              refine ⟨by simp [this.1], ?_⟩
              simp only [List.map_cons, hx, hp, Option.bind_some, this.2, Option.map_some]
      · cases h
theorem pairs_eq {α β : Type} : ∀ {l m : List (α × β)}, l.map (·.1) = m.map (·.1) → l.map (·.2) = m.map (·.2) → l = m
  | [], [], _, _ => rfl
  | [], _ :: _, h, _ => by simp at h
  | _ :: _, [], h, _ => by simp at h
  | (a, b) :: l, (c, d) :: m, h, h' => by
    simp only [List.map_cons, List.cons.injEq] at h h'
    rw [h.1, h'.1, pairs_eq h.2 h'.2]
theorem AllQ.parts {l m : List (Ask × Value)} (h : AllQ P u N (l ++ m)) : AllQ P u N l ∧ AllQ P u N m := by
  induction l with
  | nil => exact ⟨trivial, h⟩
  | cons c l ih => exact ⟨⟨h.1, (ih h.2).1⟩, (ih h.2).2⟩
theorem St.dq (S : St P n w0 M u N β σ a w) {id : Nat} {ops : Array Oper} {σ' : Sy} {claims : List (Ask × Value)} (hq : AllQ P u N claims)
    (hm : P.follows .mixedOrders = true) (hB : Region.lexB .any ops = true)
    (hev : evD P n ops ops.toList σ (claims.map (·.2)) = some (σ', claims)) (K : ∀ a' w', St P n w0 M u N β σ' a' w' → Q .normal a' w') : (Code.region id ops true).wp P Q a w := by
  have S1 : St P n w0 M u N β σ a { w with drawn := w.drawn + 1 } := S.ext (Chg.draw NoB w _)
  refine wp_region_quiet (C := fun w' => Chg NoB { w with drawn := w.drawn + 1 } w') hm hB (Chg.refl _ _) ?_
  exact evD_sound _ σ' _ ops.toList σ a claims hev hq S1 fun a' S' w' hw' => K a' w' (S'.ext hw')
theorem adv_sound : ∀ (k : Nat) (cf : Cf) (σ : Sy) (claims : List (Ask × Value)) (a : Act) (w : World) (β : Nat → Nat),
    (adv P n k cf σ (claims.map (·.2))).asks = claims.map (·.1) → AllQ P u N claims → St P n w0 M u N β σ a w →
    (∀ a' w' β', St P n w0 M u N β' (adv P n k cf σ (claims.map (·.2))).σ a' w' → Cf.wp P Q (adv P n k cf σ (claims.map (·.2))).cf a' w') → Cf.wp P Q cf a w
  | 0, cf, σ, claims, a, w, β, _, _, S, K => K a w β S
  | k + 1, .code c ks, σ, claims, a, w, β, h, hq, S, K => by
    cases c with
    | skip => exact wp_skip (adv_sound k (.ex .normal ks) σ claims a w β h hq S K)
    | seq x y => exact wp_seq (adv_sound k (.code x (.seq y :: ks)) σ claims a w β h hq S K)
    | block id x => exact wp_block (adv_sound k (.code x (.blk id :: ks)) σ claims a w β h hq S K)
    | exit id => exact wp_exit (adv_sound k (.ex (.exit id) ks) σ claims a w β h hq S K)
    | ret => exact wp_ret (show wpF P Q ks .ret a w by rw [wpF_ret]; exact K a w β S)
    | cond c x y =>
      cases hc : σ.get c with
      | none => simp only [adv, hc] at K; exact K a w β S
      | some s =>
        cases s with
        | p k o => simp only [adv, hc] at K; exact K a w β S
        | v z =>
          cases z with
          | bool b =>
            simp only [adv, hc] at h K
            refine S.cond hc (fun e => ?_) (fun e => ?_) <;> subst e
            · exact adv_sound k (.code x ks) σ claims a w β h hq S K
            · exact adv_sound k (.code y ks) σ claims a w β h hq S K
          | _ => simp only [adv, hc] at K; exact K a w β S
    | region id ops d =>
      cases d with
      | false => exact RG.start (adv_sound k (.ops ops 0 ks) σ claims a w β h hq S K)
      | true =>
        simp only [adv] at h K
        cases hb : (P.follows .mixedOrders && Region.lexB .any ops) with
        | false => simp only [hb, cond_false] at K; exact K a w β S
        | true =>
          simp only [hb, cond_true] at h K
          simp only [Bool.and_eq_true] at hb
          cases he : evD P n ops ops.toList σ (claims.map (·.2)) with
          | none => simp only [he] at K; exact K a w β S
          | some r =>
            obtain ⟨σ', l⟩ := r
            simp only [he] at h K
            obtain ⟨h1, h2⟩ := evD_vals _ _ _ _ he
            have hl : l = claims.take l.length := by
              refine pairs_eq ?_ ?_
              · have := congrArg (List.take l.length) h
                rw [List.take_left' (by simp)] at this
                rw [this, List.map_take]
              · rw [h1, List.map_take]
            have hc : claims = l ++ claims.drop l.length := by
              conv => lhs; rw [← List.take_append_drop l.length claims]
              rw [← hl]
            generalize claims.drop l.length = cl at hc
            subst hc
            have hd : (List.map (fun x => x.2) (l ++ cl)).drop l.length = cl.map (·.2) := by
              rw [List.map_append, List.drop_left' (by simp)]
            rw [hd] at h K
            rw [List.map_append] at h
            have h' := List.append_cancel_left h
            have hq' := hq.parts
            exact S.dq hq'.1 hb.1 hb.2 h2 (fun a' w' S' => adv_sound k (.ex .normal ks) σ' cl a' w' β h' hq'.2 S' K)
    | _ => exact K a w β S
  | k + 1, .ops ops i ks, σ, claims, a, w, β, h, hq, S, K => by
    simp only [adv] at h K
    cases ho : ops.toList[i]? with
    | none =>
      simp only [ho] at h K
      have hle : ops.size ≤ i := by
        have := List.getElem?_eq_none_iff.1 ho
        simpa using this
      refine RG.done (Nat.ble_eq_true_of_le hle) ?_
      exact adv_sound k (.ex .normal ks) σ claims a w β h hq S K
    | some o =>
      simp only [ho] at h K
      cases he : ev P n ops [o] σ ((claims.map (·.2)).take 1) with
      | none => simp only [he] at K; exact K a w β S
      | some r =>
        obtain ⟨σ', l⟩ := r
        simp only [he] at h K
        cases l with
        | nil =>
          simp only at h K
          exact evo1 (claims := []) ho (ev_none he) .nil S (fun a' w' β' S' => adv_sound k _ σ' claims a' w' β' h hq S' K)
        | cons c l =>
          obtain ⟨q, x⟩ := c
          simp only at h K
          cases claims with
          | nil => exact absurd (ev_nil he) (by simp)
          | cons c cl =>
            obtain ⟨q', v⟩ := c
            have hl := ev_asks he rfl
            rw [hl] at he
            simp only [List.map_cons, List.drop_succ_cons, List.drop_zero, List.cons.injEq] at h K
            obtain ⟨h1, h2⟩ := h
            subst h1
            exact evo1 (claims := [(q, v)]) ho he ⟨hq.1, trivial⟩ S (fun a' w' β' S' => adv_sound k _ σ' cl a' w' β' h2 hq.2 S' K)
  | k + 1, .ex e ks, σ, claims, a, w, β, h, hq, S, K => by
    cases e with
    | normal =>
      cases ks with
      | nil => exact K a w β S
      | cons f r =>
        cases f with
        | seq y => exact adv_sound k (.code y r) σ claims a w β h hq S K
        | blk id => exact adv_sound k (.ex .normal r) σ claims a w β h hq S K
        | sem f => exact K a w β S
    | exit id =>
      cases ks with
      | nil => exact K a w β S
      | cons f r =>
        cases f with
        | seq y => exact adv_sound k (.ex (.exit id) r) σ claims a w β h hq S K
        | sem f => exact adv_sound k (.ex (.exit id) r) σ claims a w β h hq S K
        | blk id' =>
          simp only [adv] at h K
          show (if id = id' then wpF P Q r .normal a w else wpF P Q r (.exit id) a w)
          cases hb : Nat.beq id id' with
          | true =>
            simp only [hb, cond_true] at h K
            rw [if_pos (Nat.eq_of_beq_eq_true hb)]
            exact adv_sound k (.ex .normal r) σ claims a w β h hq S K
          | false =>
            simp only [hb, cond_false] at h K
            rw [if_neg (fun e => by subst e; simp at hb)]
            exact adv_sound k (.ex (.exit id) r) σ claims a w β h hq S K
    | ret =>
      show wpF P Q ks .ret a w
      rw [wpF_ret]
      exact K a w β S
    | _ => exact K a w β S
def Rs.go (P : Program) (n k : Nat) (vs : List Value) (r : Rs) : Rs := adv P n k r.cf r.σ vs
structure Gl (P : Program) (Q : Exit → Act → World → Prop) (r : Rs) (a : Act) (w : World) : Prop where
  ok : Cf.wp P Q r.cf a w
def Cf.ks : Cf → List Fr
  | .ops _ _ k => k
  | .code _ k => k
  | .ex _ k => k
structure Aft (P : Program) (Q : Exit → Act → World → Prop) (r : Rs) (e : Exit) (a : Act) (w : World) : Prop where
  ok : wpF P Q r.cf.ks e a w
theorem St.go {r : Rs} (S : St P n w0 M u N β r.σ a w) (k : Nat) {claims : List (Ask × Value)} (hq : AllQ P u N claims)
    (K : ∀ a' w' β', St P n w0 M u N β' (r.go P n k (claims.map (·.2))).σ a' w' → Gl P Q (r.go P n k (claims.map (·.2))) a' w')
    (h : (r.go P n k (claims.map (·.2))).asks = claims.map (·.1) := by kernel_rfl) : Gl P Q r a w := ⟨adv_sound k r.cf r.σ claims a w β h hq S fun a' w' β' S' => (K a' w' β' S').ok⟩
def Cf.tst : Cf → Option Tmp
  | .code (.cond (.tmp t) _ _) _ => some t
  | .ops l i _ => match l.toList[i]? with
    | some o => match o.guard with
      | some (j, _) => (l.toList[j]?).bind (·.dst)
      | none => match o.op with
        | .pick (.tmp t) _ _ => some t
        | _ => none
    | none => none
  | _ => none
def Rs.cval (r : Rs) : Option Bool :=
  match r.cf.tst with
  | some t => match look r.σ.env t with
    | some (.v (.bool e)) => some e
    | _ => none
  | none => none
def Sy.lit (σ : Sy) (t : Option Tmp) (b : Bool) : Sy :=
  match t with
  | some t => ⟨(t, .v (.bool b)) :: σ.env, σ.bx⟩
  | none => σ
def Rs.lit (r : Rs) (b : Bool) : Rs := ⟨r.cf, r.σ.lit r.cf.tst b, []⟩
def Rs.lt (r : Rs) (t : Tmp) (b : Bool) : Rs := ⟨r.cf, r.σ.lit (some t) b, []⟩
theorem St.lit (S : St P n w0 M u N β σ a w) (t : Tmp) {e b : Bool} (h : e = b) (he : look σ.env t = some (.v (.bool e)) := by kernel_rfl) : St P n w0 M u N β (σ.lit (some t) b) a w := by
  subst h
  refine ⟨S.df, S.sz, fun t' s hs => ?_, fun t' k o hs => ?_, S.box, S.inj, S.new, S.sep, S.chg, S.old⟩
  · simp only [Sy.lit, look_cons] at hs
    split at hs
    · rename_i e'; subst e'
      simp at hs; subst hs
      exact S.env _ _ he
    · exact S.env t' s hs
  · simp only [Sy.lit, look_cons] at hs
    split at hs
    · cases hs
    · exact S.ok t' k o hs
theorem St.lt {r : Rs} (S : St P n w0 M u N β r.σ a w) (t : Tmp) {e b : Bool} (h : e = b) (K : St P n w0 M u N β (r.lt t b).σ a w → Gl P Q (r.lt t b) a w) (he : look r.σ.env t = some (.v (.bool e)) := by kernel_rfl) : Gl P Q r a w := ⟨(K (S.lit t h he)).ok⟩
theorem St.gb {r : Rs} (S : St P n w0 M u N β r.σ a w) (k : Nat) {claims : List (Ask × Value)} (hq : AllQ P u N claims) (e : Bool)
    (ht : ∀ a' w' β', e = true → St P n w0 M u N β' ((r.go P n k (claims.map (·.2))).lit true).σ a' w' → Gl P Q ((r.go P n k (claims.map (·.2))).lit true) a' w')
    (hf : ∀ a' w' β', e = false → St P n w0 M u N β' ((r.go P n k (claims.map (·.2))).lit false).σ a' w' → Gl P Q ((r.go P n k (claims.map (·.2))).lit false) a' w')
    (h : (r.go P n k (claims.map (·.2))).asks = claims.map (·.1) := by kernel_rfl) (h' : (r.go P n k (claims.map (·.2))).cval = some e := by kernel_rfl) : Gl P Q r a w :=
  S.go k hq (fun a' w' β' S' => by
    generalize r.go P n k (claims.map (·.2)) = r' at *
    unfold Rs.cval at h'
    split at h'
    · rename_i t h1
      split at h'
      · rename_i e' h2
        simp at h'; subst h'
        have e1 : ∀ b, r'.lit b = ⟨r'.cf, r'.σ.lit (some t) b, []⟩ := fun b => by unfold Rs.lit; rw [h1]
        cases e' with
        | true => rw [e1] at ht; exact ⟨(ht a' w' β' rfl (S'.lit t rfl h2)).ok⟩
        | false => rw [e1] at hf; exact ⟨(hf a' w' β' rfl (S'.lit t rfl h2)).ok⟩
      · cases h'
    · cases h') h
class Rf (e : Bool) (T F : outParam Prop) : Prop where
  t : e = true → T
  f : e = false → F
instance (p : Prop) [Decidable p] : Rf (decide p) p (¬ p) := ⟨of_decide_eq_true, of_decide_eq_false⟩
instance {α : Type} [BEq α] [LawfulBEq α] (x y : α) : Rf (x == y) (x = y) (¬ x = y) := ⟨eq_of_beq, ne_of_beq_false⟩
instance {α : Type} [BEq α] [LawfulBEq α] (x y : α) : Rf (x != y) (¬ x = y) (x = y) := ⟨fun h => bne_iff_ne.1 h, fun h => by simpa using h⟩
theorem St.gd {r : Rs} (S : St P n w0 M u N β r.σ a w) (k : Nat) {claims : List (Ask × Value)} (hq : AllQ P u N claims) (e : Bool) {T F : Prop} [Rf e T F]
    (ht : ∀ a' w' β', e = true → T → St P n w0 M u N β' ((r.go P n k (claims.map (·.2))).lit true).σ a' w' → Gl P Q ((r.go P n k (claims.map (·.2))).lit true) a' w')
    (hf : ∀ a' w' β', e = false → F → St P n w0 M u N β' ((r.go P n k (claims.map (·.2))).lit false).σ a' w' → Gl P Q ((r.go P n k (claims.map (·.2))).lit false) a' w')
    (h : (r.go P n k (claims.map (·.2))).asks = claims.map (·.1) := by kernel_rfl) (h' : (r.go P n k (claims.map (·.2))).cval = some e := by kernel_rfl) : Gl P Q r a w :=
  S.gb k hq e (fun a' w' β' h => ht a' w' β' h (Rf.t h)) (fun a' w' β' h => hf a' w' β' h (Rf.f h)) h h'
def Cf.atRet : Cf → Bool
  | .ex .ret [] => true
  | .ex .normal [] => true
  | _ => false
theorem at_ret {cf : Cf} (h : cf.atRet = true) {fn : Func} {R : Ending → World → Prop} (h1 : bodyPost P fn R .ret a w) (h2 : bodyPost P fn R .normal a w) : Cf.wp P (bodyPost P fn R) cf a w := by
  unfold Cf.atRet at h
  split at h
  · exact h1
  · exact h2
  · cases h
theorem St.gr {r : Rs} (S : St P n w0 M u N β r.σ a w) (k : Nat) {claims : List (Ask × Value)} (hq : AllQ P u N claims) {fn : Func} {R : Ending → World → Prop} (vs : List Value)
    (K : ∀ a' w' β', St P n w0 M u N β' (r.go P n k (claims.map (·.2))).σ a' w' → R (.returned (packed vs)) w')
    (h : (r.go P n k (claims.map (·.2))).asks = claims.map (·.1) := by kernel_rfl) (hr : (r.go P n k (claims.map (·.2))).cf.atRet = true := by kernel_rfl)
    (hv : resVals P (r.go P n k (claims.map (·.2))).σ fn.results.toList = some vs := by kernel_rfl) : Gl P (bodyPost P fn R) r a w :=
  S.go k hq (fun a' w' β' S' => ⟨at_ret hr (S'.ret hv (K a' w' β' S')) (S'.fall hv (K a' w' β' S'))⟩) h
theorem St.gf {X : Ending} {r : Rs} (S : St P n w0 M u N β r.σ a w) (k : Nat) {claims : List (Ask × Value)} (hq : AllQ P u N claims) (vs : List Value) {fn : Func} (e : Ending.returned (packed vs) = X)
    (h : (r.go P n k (claims.map (·.2))).asks = claims.map (·.1) := by kernel_rfl) (hr : (r.go P n k (claims.map (·.2))).cf.atRet = true := by kernel_rfl)
    (hv : resVals P (r.go P n k (claims.map (·.2))).σ fn.results.toList = some vs := by kernel_rfl) : Gl P (bodyPost P fn (fun e w' => e = X ∧ Chg M w0 w')) r a w :=
  S.gr k hq vs (fun a' w' β' S' => ⟨e, S'.chg⟩) h hr hv
def Cf.start (fn : Func) : Cf := .code (fn.body.getD .skip) []
def Rs.start (fn : Func) (args : List Value) : Rs := ⟨.start fn, ⟨argEnv 0 args, []⟩, []⟩
theorem Calls.run {f : FuncId} {fn : Func} {args : List Value} {R : Ending → World → Prop} (M : Bl) (hf : P.funcs[f]? = some fn)
    (h : ∀ a β, St P fn.ntmps w M w (Lt w.heap.size) β (Rs.start fn args).σ a w → Gl P (bodyPost P fn R) (Rs.start fn args) a w)
    (hb : fn.body.isSome = true := by kernel_rfl) (hn : Nat.ble args.length fn.ntmps = true := by kernel_rfl) : Calls P f args.toArray w R := by
  cases e : fn.body with
  | none => rw [e] at hb; cases hb
  | some c =>
    refine Calls.walk M hf e hn fun a β S => ?_
    have := (h a β S).ok
    simp only [Rs.start, Cf.start, e, Option.getD_some] at this
    exact this
def Cf.opsOf : Cf → Array Oper
  | .ops o _ _ => o
  | .code (.region _ o _) _ => o
  | _ => #[]
def Cf.idx : Cf → Nat
  | .ops _ i _ => i
  | _ => 0
def Cf.isOp : Cf → Bool
  | .ops o i _ => Nat.blt i o.size
  | _ => false
def Cf.nxt : Cf → Cf
  | .ops o i k => .ops o (i + 1) k
  | cf => cf
def Rs.put (r : Rs) (d : Tmp) (v : Value) : Rs := ⟨r.cf.nxt, ⟨(d, .v v) :: r.σ.env, r.σ.bx⟩, []⟩
def Rs.nx (r : Rs) : Rs := ⟨r.cf.nxt, r.σ, []⟩
def Rs.tell (r : Rs) (σ : Sy) : Rs := ⟨r.cf, σ, []⟩
def Rs.aft (r : Rs) (σ : Sy) : Rs := ⟨.ex .normal r.cf.ks, σ, []⟩
theorem lo (h : wpOp P cf.opsOf (wpF P Q cf.ks) cf.idx (fun a' w' => Cf.wp P Q cf.nxt a' w') a w) (hb : cf.isOp = true) : Cf.wp P Q cf a w := by
  cases cf with
  | ops o i k => exact RG.op hb h
  | _ => cases hb
abbrev Rs.op (P : Program) (Q : Exit → Act → World → Prop) (r : Rs) (K : Act → World → Prop) (a : Act) (w : World) : Prop := wpOp P r.cf.opsOf (wpF P Q r.cf.ks) r.cf.idx K a w
theorem St.is (S : St P n w0 M u N β σ a w) {r : Rs} (K : St P n w0 M u N β (r.tell σ).σ a w → Gl P Q (r.tell σ) a w) : Gl P Q r a w := ⟨(K S).ok⟩
def Cf.isLoop : Cf → Bool
  | .code (.loop _) _ => true
  | _ => false
def Cf.body : Cf → Code
  | .code (.loop c) _ => c
  | _ => .skip
def Rs.rnd (r : Rs) (f : Act → World → Prop) (σ : Sy) : Rs := ⟨.code r.cf.body (.sem f :: r.cf.ks), σ, []⟩
structure Rd1 (P : Program) (Q : Exit → Act → World → Prop) (r : Rs) (f : Act → World → Prop) (a : Act) (w : World) : Prop where
  ok : Cf.wp P Q (.code r.cf.body (.sem f :: r.cf.ks)) a w
structure Nxt (Inv : Nat → Act → World → Prop) (m : Nat) (f : Act → World → Prop) where
  of : ∀ m' a w, m' < m → Inv m' a w → f a w
theorem lp {r : Rs} (Inv : Nat → Act → World → Prop) (m : Nat) (h0 : Inv m a w) (round : ∀ (f : Act → World → Prop) m, Nxt Inv m f → ∀ a w, Inv m a w → Rd1 P Q r f a w) (h : r.cf.isLoop = true := by kernel_rfl) : Gl P Q r a w := by
  have round' := fun f m hf a w hI => (round f m hf a w hI).ok
  refine ⟨?_⟩
  generalize r.cf = cf at *
  unfold Cf.isLoop at h
  split at h
  · exact wp_loop_down Inv m h0 fun m a w hI => round' _ m ⟨fun m' a w hlt h => ⟨m', hlt, h⟩⟩ a w hI
  · cases h
theorem St.rs (S : St P n w0 M u N β σ a w) {r : Rs} {f : Act → World → Prop} (K : St P n w0 M u N β (r.rnd f σ).σ a w → Gl P Q (r.rnd f σ) a w) : Rd1 P Q r f a w := ⟨(K S).ok⟩
def Cf.atSem : Cf → Option (Act → World → Prop)
  | .ex .normal (.sem f :: _) => some f
  | _ => none
theorem St.ge {r : Rs} (S : St P n w0 M u N β r.σ a w) (k : Nat) {claims : List (Ask × Value)} (hq : AllQ P u N claims) (f : Act → World → Prop)
    (K : ∀ a' w' β', St P n w0 M u N β' (r.go P n k (claims.map (·.2))).σ a' w' → f a' w')
    (h : (r.go P n k (claims.map (·.2))).asks = claims.map (·.1) := by kernel_rfl) (hs : (r.go P n k (claims.map (·.2))).cf.atSem = some f := by kernel_rfl) : Gl P Q r a w :=
  S.go k hq (fun a' w' β' S' => ⟨by
    generalize (r.go P n k (claims.map (·.2))).cf = c at hs
    unfold Cf.atSem at hs
    split at hs
    · simp at hs; subst hs; exact K a' w' β' S'
    · cases hs⟩) h
def Cf.cod : Cf → Code
  | .code c _ => c
  | _ => .skip
def Cf.isCode : Cf → Bool
  | .code _ _ => true
  | _ => false
def Rs.pc (r : Rs) : Rs := ⟨.code r.cf.cod [], r.σ, []⟩
theorem cutC {r : Rs} (S : St P n w0 M u N β r.σ a w) (I : Act → World → Prop) (h : St P n w0 M u N β r.pc.σ a w → Gl P (NQ I) r.pc a w) (k : ∀ a w, I a w → Aft P Q r .normal a w) (hc : r.cf.isCode = true := by kernel_rfl) : Gl P Q r a w := by
  have h := (h S).ok
  have k' := fun a w hI => (k a w hI).ok
  refine ⟨?_⟩
  unfold Rs.pc at h
  simp only at h
  generalize r.cf = cf at *
  cases cf with
  | code c ks => exact wp_region_cut I h k'
  | _ => cases hc
def Cf.rid : Cf → Nat
  | .code (.region id _ _) _ => id
  | _ => 0
def Cf.isDrawn : Cf → Bool
  | .code (.region _ _ true) _ => true
  | _ => false
theorem drw {r : Rs} (h : (Code.region r.cf.rid r.cf.opsOf true).wp P (Aft P Q r) a w) (hc : r.cf.isDrawn = true := by kernel_rfl) : Gl P Q r a w := by
  have h := Code.wp_mono (Q' := wpF P Q r.cf.ks) (fun _ _ _ h => h.ok) h
  refine ⟨?_⟩
  generalize r.cf = cf at *
  unfold Cf.isDrawn at hc
  split at hc
  · exact h
  · cases hc
theorem St.ex (S : St P n w0 M u N β σ a w) {r : Rs} (K : St P n w0 M u N β (r.aft σ).σ a w → Gl P Q (r.aft σ) a w) : Aft P Q r .normal a w := ⟨(K S).ok⟩
def Cf.atEnd : Cf → Bool
  | .ex .normal [] => true
  | _ => false
theorem St.gn {r : Rs} (S : St P n w0 M u N β r.σ a w) (k : Nat) {claims : List (Ask × Value)} (hq : AllQ P u N claims)
    (K : ∀ a' w' β', St P n w0 M u N β' (r.go P n k (claims.map (·.2))).σ a' w' → Q .normal a' w')
    (h : (r.go P n k (claims.map (·.2))).asks = claims.map (·.1) := by kernel_rfl) (hs : (r.go P n k (claims.map (·.2))).cf.atEnd = true := by kernel_rfl) : Gl P Q r a w :=
  S.go k hq (fun a' w' β' S' => ⟨by
    generalize (r.go P n k (claims.map (·.2))).cf = c at hs
    unfold Cf.atEnd at hs
    split at hs
    · exact K a' w' β' S'
    · cases hs⟩) h
end
attribute [irreducible] Rs.go adv
end Go.Proofs.YtlpaefknpmdaoaaGreat
namespace Go.Proofs.YtlpaefknpmdaoaaGreat
open Go
set_option linter.unusedVariables false
section
variable {P : Program} {n : Nat} {w0 : World} {M : Bl} {u : World} {N : Bl} {β : Nat → Nat} {a : Act} {w : World} {Q : Exit → Act → World → Prop}
theorem St.K1 {ρ : Rs} {α : Type} [GT α] {f : FuncId} {vals : List Value} {d : Tmp} {r : α} (S : St P n w0 M u N β ρ.σ a w) (hc : Calls P f vals.toArray w (Ret1 NoB w r)) (K : ∀ a' w' N' q F, St P n w0 M w' N' β (ρ.put d (GT.val r q)).σ a' w' → (∀ b, N b → N' b ∧ w'.heap[b]? = u.heap[b]?) → Ow w0 M w' N' F r q → Disj N F → Gl P Q (ρ.put d (GT.val r q)) a' w') (hcall : callAc P n ρ.cf.opsOf ρ.cf.idx ρ.σ = some (f, vals, d) := by kernel_rfl) (hd : Nat.blt d n = true := by kernel_rfl) (hB : ρ.cf.isOp = true := by kernel_rfl) : Gl P Q ρ a w :=
  ⟨lo (St.call1 S (hc := hc) (hcall := hcall) (hd := hd) (K := fun _ _ _ _ _ h0 h1 h2 h3 => (K _ _ _ _ _ h0 h1 h2 h3).ok)) hB⟩
theorem St.K2 {ρ : Rs} {α α' : Type} [GT α] [GT α'] {f : FuncId} {vals : List Value} {d : Tmp} {r : α} {r' : α'} (S : St P n w0 M u N β ρ.σ a w) (hc : Calls P f vals.toArray w (Ret2 NoB w r r')) (K : ∀ a' w' N' q q' F F', St P n w0 M w' N' β (ρ.put d (.tuple #[GT.val r q, GT.val r' q'])).σ a' w' → (∀ b, N b → N' b ∧ w'.heap[b]? = u.heap[b]?) → Ow w0 M w' N' F r q → Ow w0 M w' N' F' r' q' → Disj N F → Disj N F' → Disj F F' → Gl P Q (ρ.put d (.tuple #[GT.val r q, GT.val r' q'])) a' w') (hcall : callAc P n ρ.cf.opsOf ρ.cf.idx ρ.σ = some (f, vals, d) := by kernel_rfl) (hd : Nat.blt d n = true := by kernel_rfl) (hB : ρ.cf.isOp = true := by kernel_rfl) : Gl P Q ρ a w :=
  ⟨lo (St.call2 S (hc := hc) (hcall := hcall) (hd := hd) (K := fun _ _ _ _ _ _ _ h0 h1 h2 h3 h4 h5 h6 => (K _ _ _ _ _ _ _ h0 h1 h2 h3 h4 h5 h6).ok)) hB⟩
theorem St.K3 {ρ : Rs} {α : Type} [GT α] {f : FuncId} {vals : List Value} {d : Tmp} {r : α} {r' : Int} {r'' : Bool} (S : St P n w0 M u N β ρ.σ a w) (hc : Calls P f vals.toArray w (Ret3 NoB w r r' r'')) (K : ∀ a' w' N' q F, St P n w0 M w' N' β (ρ.put d (.tuple #[GT.val r q, I r', B r''])).σ a' w' → (∀ b, N b → N' b ∧ w'.heap[b]? = u.heap[b]?) → Ow w0 M w' N' F r q → Disj N F → In64 r' → Gl P Q (ρ.put d (.tuple #[GT.val r q, I r', B r''])) a' w') (hcall : callAc P n ρ.cf.opsOf ρ.cf.idx ρ.σ = some (f, vals, d) := by kernel_rfl) (hd : Nat.blt d n = true := by kernel_rfl) (hB : ρ.cf.isOp = true := by kernel_rfl) : Gl P Q ρ a w :=
  ⟨lo (St.call3 S (hc := hc) (hcall := hcall) (hd := hd) (K := fun _ _ _ _ _ h0 h1 h2 h3 h4 => (K _ _ _ _ _ h0 h1 h2 h3 h4).ok)) hB⟩
theorem St.KX {ρ : Rs} {α : Type} [GT α] [SZ α] {hd : α → Int → Int} {F : Bl} {x : α} {p : GT.Ptr α} {k : Int} {f : FuncId} {vals : List Value} {d : Tmp} (S : St P n w0 M u N β ρ.σ a w) (o : Ow w0 M u N F x p) (hc : Calls P f vals.toArray w (RetX hd F w p x k)) (K : ∀ a' w' N' p' y k', St P n w0 M w' N' β (ρ.put d (I k')).σ a' w' → (∀ b, N b → ¬ F b → N' b ∧ w'.heap[b]? = u.heap[b]?) → Ow w0 M w' N' F y p' → GT.cells y p' = GT.cells x p → hd y k = k' → k ≤ k' → k' ≤ k + 16 * (SZ.sz x : Nat) → Gl P Q (ρ.put d (I k')) a' w') (hcall : callAc P n ρ.cf.opsOf ρ.cf.idx ρ.σ = some (f, vals, d) := by kernel_rfl) (hd' : Nat.blt d n = true := by kernel_rfl) (hB : ρ.cf.isOp = true := by kernel_rfl) : Gl P Q ρ a w :=
  ⟨lo (St.callX S (o := o) (hc := hc) (hcall := hcall) (hd' := hd') (K := fun _ _ _ _ _ _ h0 h1 h2 h3 h4 h5 h6 => (K _ _ _ _ _ _ h0 h1 h2 h3 h4 h5 h6).ok)) hB⟩
theorem St.Mk {ρ : Rs} {α : Type} [GT α] {m by' : Nat} {d : Tmp} (S : St P n w0 M u N β ρ.σ a w) (hb : by' * m ≤ 281474976710656) (hm : m ≤ KK) (K : ∀ a' w' N' q F, St P n w0 M w' N' β (ρ.put d (slv m q.1)).σ a' w' → (∀ b, N b → N' b ∧ w'.heap[b]? = u.heap[b]?) →
      Ow w0 M w' N' F (List.replicate m (GT.dflt : α)) q → Disj N F → Gl P Q (ρ.put d (slv m q.1)) a' w') (hop : makeAc P n ρ.cf.opsOf ρ.cf.idx ρ.σ = some (I m, GT.cells (GT.dflt : α) GT.pdflt, by', GT.width α, d) := by kernel_rfl) (hB : ρ.cf.isOp = true := by kernel_rfl) : Gl P Q ρ a w :=
  ⟨lo (St.make S (hop := hop) (hb := hb) (hm := hm) (K := fun _ _ _ _ _ h0 h1 h2 h3 => (K _ _ _ _ _ h0 h1 h2 h3).ok)) hB⟩
theorem St.B0 {ρ : Rs} {α : Type} [GT α] {d : Tmp} (S : St P n w0 M u N β ρ.σ a w) (K : ∀ a' w' N' q F, St P n w0 M w' N' β (ρ.put d (slv 0 q.1)).σ a' w' → (∀ b, N b → N' b ∧ w'.heap[b]? = u.heap[b]?) →
      Ow w0 M w' N' F ([] : List α) q → Disj N F → Gl P Q (ρ.put d (slv 0 q.1)) a' w') (hop : bsAc P n ρ.cf.opsOf ρ.cf.idx ρ.σ = some ([], 0, d) := by kernel_rfl) (hB : ρ.cf.isOp = true := by kernel_rfl) : Gl P Q ρ a w :=
  ⟨lo (St.bs0 S (hop := hop) (K := fun _ _ _ _ _ h0 h1 h2 h3 => (K _ _ _ _ _ h0 h1 h2 h3).ok)) hB⟩
theorem St.B1 {ρ : Rs} {α : Type} [GT α] {x : α} {p : GT.Ptr α} {F : Bl} {d : Tmp} (S : St P n w0 M u N β ρ.σ a w) (hx : GT.own KK F u x p) (hN : ∀ b, F b → N b) (hY : ∀ b, F b → w0.heap.size ≤ b ∨ M b) (K : ∀ a' w' N' q F', St P n w0 M w' N' β (ρ.put d (slv 1 q.1)).σ a' w' → (∀ b, N b → N' b ∧ w'.heap[b]? = u.heap[b]?) →
      Ow w0 M w' N' F' [x] q → (∀ G : Bl, Disj G F → (∀ b, G b → N b) → Disj G F') → Gl P Q (ρ.put d (slv 1 q.1)) a' w') (hop : bsAc P n ρ.cf.opsOf ρ.cf.idx ρ.σ = some (GT.cells x p, 1, d) := by kernel_rfl) (hB : ρ.cf.isOp = true := by kernel_rfl) : Gl P Q ρ a w :=
  ⟨lo (St.bs1 S (hx := hx) (hN := hN) (hY := hY) (hop := hop) (K := fun _ _ _ _ _ h0 h1 h2 h3 => (K _ _ _ _ _ h0 h1 h2 h3).ok)) hB⟩
theorem St.AO {ρ : Rs} {α : Type} [GT α] {xs ys : List α} {p q : LP α} {F Fy : Bl} {by' lx ly : Nat} {d : Tmp} (S : St P n w0 M u N β ρ.σ a w) (hx : Ow w0 M u N F xs p) (hy : Ow w0 M u N Fy ys q) (hd : Disj F Fy) (hlx : lx = xs.length) (hly : ly = ys.length) (hl : xs.length + ys.length ≤ KK) (K : ∀ a' w' N' r F', St P n w0 M w' N' β (ρ.put d (slv (xs ++ ys).length r.1)).σ a' w' → (∀ b, N b → ¬ F b → N' b ∧ w'.heap[b]? = u.heap[b]?) →
      Ow w0 M w' N' F' (xs ++ ys) r → (∀ G : Bl, Disj G F → Disj G Fy → (∀ b, G b → N b) → Disj G F') → Gl P Q (ρ.put d (slv (xs ++ ys).length r.1)) a' w') (hop : appAc P n ρ.cf.opsOf ρ.cf.idx ρ.σ = some (slv lx p.1, slv ly q.1, GT.width α, by', d) := by kernel_rfl) (hB : ρ.cf.isOp = true := by kernel_rfl) : Gl P Q ρ a w :=
  ⟨lo (St.appOwn S (hx := hx) (hy := hy) (hd := hd) (hlx := hlx) (hly := hly) (hop := hop) (hl := hl) (K := fun _ _ _ _ _ h0 h1 h2 h3 => (K _ _ _ _ _ h0 h1 h2 h3).ok)) hB⟩
theorem St.AF {ρ : Rs} {α : Type} [GT α] {xs ys : List α} {p q : LP α} {F : Bl} {by' lx ly : Nat} {d : Tmp} (S : St P n w0 M u N β ρ.σ a w) (hx : Ow w0 M u N F xs p) (hyr : Rn u N ys q) (hfl : ∀ (x : α) (r : GT.Ptr α), GT.rd KK N u x r → GT.own KK NoB u x r) (hlx : lx = xs.length) (hly : ly = ys.length) (hl : xs.length + ys.length ≤ KK) (K : ∀ a' w' N' r F', St P n w0 M w' N' β (ρ.put d (slv (xs ++ ys).length r.1)).σ a' w' → (∀ b, N b → ¬ F b → N' b ∧ w'.heap[b]? = u.heap[b]?) →
      Ow w0 M w' N' F' (xs ++ ys) r → (∀ G : Bl, Disj G F → (∀ b, G b → N b) → Disj G F') → Gl P Q (ρ.put d (slv (xs ++ ys).length r.1)) a' w') (hop : appAc P n ρ.cf.opsOf ρ.cf.idx ρ.σ = some (slv lx p.1, slv ly q.1, GT.width α, by', d) := by kernel_rfl) (hB : ρ.cf.isOp = true := by kernel_rfl) : Gl P Q ρ a w :=
  ⟨lo (St.appFlat S (hx := hx) (hyr := hyr) (hfl := hfl) (hlx := hlx) (hly := hly) (hop := hop) (hl := hl) (K := fun _ _ _ _ _ h0 h1 h2 h3 => (K _ _ _ _ _ h0 h1 h2 h3).ok)) hB⟩
theorem St.AF0 {ρ : Rs} {α : Type} [GT α] {ys : List α} {p q : LP α} {F : Bl} {by' lx ly : Nat} {d : Tmp} (S : St P n w0 M u N β ρ.σ a w) (hx : Ow w0 M u N F ([] : List α) p) (hyr : Rn u N ys q) (hfl : ∀ (x : α) (r : GT.Ptr α), GT.rd KK N u x r → GT.own KK NoB u x r) (hly : ly = ys.length) (K : ∀ a' w' N' r F', St P n w0 M w' N' β (ρ.put d (slv ys.length r.1)).σ a' w' → (∀ b, N b → ¬ F b → N' b ∧ w'.heap[b]? = u.heap[b]?) →
      Ow w0 M w' N' F' ys r → (∀ G : Bl, Disj G F → (∀ b, G b → N b) → Disj G F') → Gl P Q (ρ.put d (slv ys.length r.1)) a' w') (hlx : lx = 0 := by rfl) (hop : appAc P n ρ.cf.opsOf ρ.cf.idx ρ.σ = some (slv lx p.1, slv ly q.1, GT.width α, by', d) := by kernel_rfl) (hB : ρ.cf.isOp = true := by kernel_rfl) : Gl P Q ρ a w :=
  ⟨lo (St.appFlat0 S (hx := hx) (hyr := hyr) (hfl := hfl) (hly := hly) (hlx := hlx) (hop := hop) (K := fun _ _ _ _ _ h0 h1 h2 h3 => (K _ _ _ _ _ h0 h1 h2 h3).ok)) hB⟩
theorem St.SF {ρ : Rs} {α : Type} [GT α] {xs : List α} {p : LP α} {F : Bl} {k j off : Nat} {t : TypeId} {v : Value} {y : α} {q : GT.Ptr α} (S : St P n w0 M u N β ρ.σ a w) (hx : Ow w0 M u N F xs p) (hy : ∀ G, GT.own KK G u (el xs k) (p.2 k) → (∀ b, G b → F b) → ∃ G', GT.own KK G' u y q ∧ ∀ b, G' b → G b ∨ NoB b) (K : ∀ w' N' F' p2, St P n w0 M w' N' β ρ.nx.σ a w' → (∀ b, N b → ¬ F b → N' b ∧ w'.heap[b]? = u.heap[b]?) →
      Ow w0 M w' N' F' (xs.set k y) (p.1, p2) → (∀ G : Bl, Disj G F → Disj G NoB → (∀ b, G b → N b) → Disj G F') → (∀ b, F' b → F b ∨ NoB b) → (∀ b, N b → N' b) → Gl P Q ρ.nx a w') (hop : storeAc ρ.cf.opsOf ρ.cf.idx ρ.σ = some (t, pt p.1.b off, v) := by kernel_rfl) (hoff : off = p.1.off + k * GT.width α + j := by kernel_rfl) (hk : k < xs.length := by omega) (hs : tsize P t = some v.cells.toList.length := by kernel_rfl) (hpl : v.cells.toList.all (·.oneCell') = true := by kernel_rfl) (hjw : Nat.ble (j + v.cells.toList.length) (GT.width α) = true := by kernel_rfl) (hc : GT.cells y q = (GT.cells (el xs k) (p.2 k)).take j ++ v.cells.toList ++ (GT.cells (el xs k) (p.2 k)).drop (j + v.cells.toList.length) := by kernel_rfl) (hB : ρ.cf.isOp = true := by kernel_rfl) : Gl P Q ρ a w :=
  ⟨lo (St.sF S (hx := hx) (hy := hy) (hop := hop) (hoff := hoff) (hk := hk) (hs := hs) (hpl := hpl) (hjw := hjw) (hc := hc) (K := fun _ _ _ _ h0 h1 h2 h3 h4 h5 => (K _ _ _ _ h0 h1 h2 h3 h4 h5).ok)) hB⟩
theorem St.SV {ρ : Rs} {α : Type} [GT α] {xs : List α} {p : LP α} {F Fy : Bl} {k off : Nat} {t : TypeId} {y : α} {q : GT.Ptr α} (S : St P n w0 M u N β ρ.σ a w) (hx : Ow w0 M u N F xs p) (hy : Ow w0 M u N Fy y q) (hd : Disj F Fy) (K : ∀ w' N' F' p2, St P n w0 M w' N' β ρ.nx.σ a w' → (∀ b, N b → ¬ F b → N' b ∧ w'.heap[b]? = u.heap[b]?) →
      Ow w0 M w' N' F' (xs.set k y) (p.1, p2) → (∀ G : Bl, Disj G F → Disj G Fy → (∀ b, G b → N b) → Disj G F') → (∀ b, F' b → F b ∨ Fy b) → (∀ b, N b → N' b) → Gl P Q ρ.nx a w') (hop : storeAc ρ.cf.opsOf ρ.cf.idx ρ.σ = some (t, pt p.1.b off, GT.val y q) := by kernel_rfl) (hoff : off = p.1.off + k * GT.width α + 0 := by kernel_rfl) (hk : k < xs.length := by omega) (hs : tsize P t = some (GT.val y q).cells.toList.length := by kernel_rfl) (hpl : (GT.val y q).cells.toList.all (·.oneCell') = true := by kernel_rfl) (hjw : Nat.ble (0 + (GT.val y q).cells.toList.length) (GT.width α) = true := by kernel_rfl) (hc : GT.cells y q = (GT.cells (el xs k) (p.2 k)).take 0 ++ (GT.val y q).cells.toList ++ (GT.cells (el xs k) (p.2 k)).drop (0 + (GT.val y q).cells.toList.length) := by kernel_rfl) (hB : ρ.cf.isOp = true := by kernel_rfl) : Gl P Q ρ a w :=
  ⟨lo (St.sV S (hx := hx) (hy := hy) (hd := hd) (hop := hop) (hoff := hoff) (hk := hk) (hs := hs) (hpl := hpl) (hjw := hjw) (hc := hc) (K := fun _ _ _ _ h0 h1 h2 h3 h4 h5 => (K _ _ _ _ h0 h1 h2 h3 h4 h5).ok)) hB⟩
theorem St.SL {ρ : Rs} {α : Type} [GT α] {xs : List α} {p : LP α} {F Fy : Bl} {k j off : Nat} {t : TypeId} {v : Value} {y : α} {q : GT.Ptr α} (S : St P n w0 M u N β ρ.σ a w) (hx : Ow w0 M u N F xs p) (hk : k < xs.length) (hjw : j + v.cells.toList.length ≤ GT.width α) (hy : ∀ G, GT.own KK G u (el xs k) (p.2 k) → (∀ b, G b → F b) → ∃ G', GT.own KK G' u y q ∧ ∀ b, G' b → G b ∨ Fy b) (hd : Disj F Fy) (hyN : ∀ b, Fy b → N b) (hyY : ∀ b, Fy b → w0.heap.size ≤ b ∨ M b) (K : ∀ w' N' F' p2, St P n w0 M w' N' β ρ.nx.σ a w' → (∀ b, N b → ¬ F b → N' b ∧ w'.heap[b]? = u.heap[b]?) →
      Ow w0 M w' N' F' (xs.set k y) (p.1, p2) → (∀ G : Bl, Disj G F → Disj G Fy → (∀ b, G b → N b) → Disj G F') → (∀ b, F' b → F b ∨ Fy b) → (∀ b, N b → N' b) → Gl P Q ρ.nx a w') (hop : storeAc ρ.cf.opsOf ρ.cf.idx ρ.σ = some (t, pt p.1.b off, v) := by kernel_rfl) (hoff : off = p.1.off + k * GT.width α + j := by kernel_rfl) (hs : tsize P t = some v.cells.toList.length := by kernel_rfl) (hpl : v.cells.toList.all (·.oneCell') = true := by kernel_rfl) (hc : GT.cells y q = (GT.cells (el xs k) (p.2 k)).take j ++ v.cells.toList ++ (GT.cells (el xs k) (p.2 k)).drop (j + v.cells.toList.length) := by kernel_rfl) (hB : ρ.cf.isOp = true := by kernel_rfl) : Gl P Q ρ a w :=
  ⟨lo (St.setEl S (hx := hx) (hop := hop) (hoff := hoff) (hk := hk) (hs := hs) (hpl := hpl) (hjw := hjw) (hc := hc) (hy := hy) (hd := hd) (hyN := hyN) (hyY := hyY) (K := fun _ _ _ _ h0 h1 h2 h3 h4 h5 => (K _ _ _ _ h0 h1 h2 h3 h4 h5).ok)) hB⟩
def Rs.frz (r : Rs) (k b : Nat) : Rs := ⟨r.cf, r.σ.frz k b, []⟩
theorem St.Frz {ρ : Rs} (S : St P n w0 M u N β ρ.σ a w) {α : Type} [GT α] (k : Nat) (x : α) (p : GT.Ptr α) (hx : GT.own KK NoB w x p)
    (K : ∀ (β' : Nat → Nat) (N' : Bl) (b : Nat) (F : Bl), St P n w0 M w N' β' (ρ.frz k b).σ a w → (∀ b, N b → N' b ∧ w.heap[b]? = u.heap[b]?) → Ow w0 M w N' F [x] (cap1 b p) → Disj N F → Gl P Q (ρ.frz k b) a w)
    (hk : ρ.σ.bx[k]? = some (GT.cells x p) := by kernel_rfl) : Gl P Q ρ a w := ⟨S.frz k x p hx (fun β' N' b F h0 h1 h2 h3 => (K β' N' b F h0 h1 h2 h3).ok) hk⟩
end
end Go.Proofs.YtlpaefknpmdaoaaGreat
namespace Go.Proofs.YtlpaefknpmdaoaaGreat
open Go
def f_bitLen (x : Int) : Int := (Lib.bitLen x.toNat : Int)
def f_topIrq (p : Int) : Int := if f_within p 0 255 = true then f_bitLen p - 1 else -1
def bitB (p n : Nat) : Bool := land64 (shr64 (p : Int) (n : Int)) 1 == 1
theorem top_chk : (List.range 256).all (fun p => (List.range 8).all fun n => (!bitB p n || !((List.range 8).all fun j => decide (j ≤ n) || !bitB p j)) || ((Lib.bitLen p : Int) - 1 == n)) = true := by kernel_rfl
theorem top_chk0 : (List.range 256).all (fun p => !((List.range 8).all fun j => !bitB p j) || ((Lib.bitLen p : Int) - 1 == -1)) = true := by kernel_rfl
theorem top_bd : (List.range 256).all (fun p => decide (Lib.bitLen p ≤ 8)) = true := by kernel_rfl
theorem take_chk : (List.range 256).all (fun p => Lib.bitLen p == 0 || (IntKind.i64.wrap ((p : Int) - shl64 1 ((Lib.bitLen p : Int) - 1)) == landn64 (p : Int) (shl64 1 ((Lib.bitLen p : Int) - 1)))) = true := by kernel_rfl
theorem topIrq_hit {p n : Int} (hp : f_within p 0 255 = true) (hn : -1 ≤ n ∧ n ≤ 7) (h0 : 0 ≤ n) (hb : land64 (shr64 p n) 1 = 1) (ha : ∀ j : Nat, n < (j : Int) → j < 8 → ¬ land64 (shr64 p (j : Int)) 1 = 1) : f_topIrq p = n := by
  have h1 := within_t hp
  obtain ⟨q, rfl⟩ := Int.eq_ofNat_of_zero_le h1.1
  obtain ⟨m, rfl⟩ := Int.eq_ofNat_of_zero_le h0
  have hx := List.all_eq_true.1 (List.all_eq_true.1 top_chk q (List.mem_range.2 (by omega))) m (List.mem_range.2 (by omega))
  have e1 : bitB q m = true := by unfold bitB; exact beq_iff_eq.2 hb
  have e2 : ((List.range 8).all fun j => decide (j ≤ m) || !bitB q j) = true := by
    rw [List.all_eq_true]
    intro j hj
    by_cases hjm : j ≤ m
    · simp [hjm]
    · have := ha j (by omega) (List.mem_range.1 hj)
      have e3 : bitB q j = false := by unfold bitB; exact beq_eq_false_iff_ne.2 this
      simp [e3]
  rw [e1, e2] at hx
  simp only [Bool.not_true, Bool.or_self, Bool.false_or, beq_iff_eq] at hx
  unfold f_topIrq f_bitLen
  rw [if_pos hp]
  exact hx
theorem topIrq_none {p n : Int} (hp : f_within p 0 255 = true) (h0 : n < 0) (ha : ∀ j : Nat, n < (j : Int) → j < 8 → ¬ land64 (shr64 p (j : Int)) 1 = 1) : f_topIrq p = -1 := by
  have h1 := within_t hp
  obtain ⟨q, rfl⟩ := Int.eq_ofNat_of_zero_le h1.1
  have hx := List.all_eq_true.1 top_chk0 q (List.mem_range.2 (by omega))
  have e2 : ((List.range 8).all fun j => !bitB q j) = true := by
    rw [List.all_eq_true]
    intro j hj
    have := ha j (by omega) (List.mem_range.1 hj)
    have e3 : bitB q j = false := by unfold bitB; exact beq_eq_false_iff_ne.2 this
    simp [e3]
  rw [e2] at hx
  simp only [Bool.not_true, Bool.false_or, beq_iff_eq] at hx
  unfold f_topIrq f_bitLen
  rw [if_pos hp]
  exact hx
theorem topIrq_out {p : Int} (hp : f_within p 0 255 = false) : f_topIrq p = -1 := by
  unfold f_topIrq; rw [if_neg (by simp [hp])]
theorem topIrq_bd (p : Int) : -1 ≤ f_topIrq p ∧ f_topIrq p ≤ 7 := by
  unfold f_topIrq
  split
  · rename_i hp
    have h1 := within_t hp
    have := List.all_eq_true.1 top_bd p.toNat (List.mem_range.2 (by omega))
    have := of_decide_eq_true this
    unfold f_bitLen
    omega
  · omega
def f_takeIrq (p : Int) : Int × Int × Bool := if f_topIrq p < 0 then (p, -1, false) else (landn64 p (shl64 1 (f_topIrq p)), f_topIrq p, true)
theorem take_eq {p : Int} (h : ¬ f_topIrq p < 0) : IntKind.i64.wrap (p - shl64 1 (f_topIrq p)) = landn64 p (shl64 1 (f_topIrq p)) := by
  unfold f_topIrq at h ⊢
  by_cases hp : f_within p 0 255 = true
  · rw [if_pos hp] at h ⊢
    have h1 := within_t hp
    obtain ⟨q, rfl⟩ := Int.eq_ofNat_of_zero_le h1.1
    have hx := List.all_eq_true.1 take_chk q (List.mem_range.2 (by omega))
    have hz : (Lib.bitLen q == 0) = false := by
      rw [beq_eq_false_iff_ne]
      intro e
      apply h
      show (Lib.bitLen q : Int) - 1 < 0
      omega
    rw [hz] at hx
    simp only [Bool.false_or, beq_iff_eq] at hx
    exact hx
  · rw [if_neg hp] at h
    exact absurd (by decide) h
def f_bareAck (b : TBare) : TBare × Int × Bool :=
  if f_bareOk b = true ∧ (f_takeIrq b.pend).2.2 = true then (⟨b.mem, b.guests, b.outs, (f_takeIrq b.pend).1⟩, (f_takeIrq b.pend).2.1, true) else (b, -1, false)
theorem takeIrq_in64 {p : Int} (h : In64 p) : In64 (f_takeIrq p).1 := by
  unfold f_takeIrq
  split
  · exact h
  · exact landn64_in64 _ _
theorem takeIrq_in64b {p : Int} : In64 (f_takeIrq p).2.1 := by
  unfold f_takeIrq
  have := topIrq_bd p
  split
  · exact ⟨by simp only; omega, by simp only; omega⟩
  · exact ⟨by simp only; omega, by simp only; omega⟩
theorem bitLenAux_le : ∀ (f x : Nat), Lib.bitLenAux f x ≤ f
  | 0, _ => Nat.le_refl _
  | f + 1, x => by
    unfold Lib.bitLenAux
    split
    · omega
    · have := bitLenAux_le f (x / 2)
      omega
theorem bitLen_bd0 (x : Int) : 0 ≤ f_bitLen x ∧ f_bitLen x ≤ 64 := by
  have := bitLenAux_le 64 x.toNat
  unfold f_bitLen Lib.bitLen
  omega
theorem bareAck_ok {b : TBare} (h : f_bareOk b = true) : f_bareAck b = (⟨b.mem, b.guests, b.outs, (f_takeIrq b.pend).1⟩, (f_takeIrq b.pend).2.1, (f_takeIrq b.pend).2.2) := by
  unfold f_bareAck
  split
  · rename_i e
    rw [e.2]
  · rename_i e
    have h2 : (f_takeIrq b.pend).2.2 = false := by
      cases hq : (f_takeIrq b.pend).2.2 with
      | false => rfl
      | true => exact absurd ⟨h, hq⟩ e
    unfold f_takeIrq at h2 ⊢
    split at h2
    · rename_i hz
      rw [if_pos hz]
    · cases h2
end Go.Proofs.YtlpaefknpmdaoaaGreat
namespace Go.Proofs.YtlpaefknpmdaoaaGreat
open Go
def f_ackPair (b : TBare) : TBare × Bool := ((f_bareAck b).1, (f_bareAck b).2.2)
def f_ackN (h : THost) (m n : Int) : Int := if f_hostOk h = true ∧ 0 ≤ m ∧ m < h.mons.length then (f_bareAck (f_seenAs h m)).2.1 else n
def f_hostAck (h : THost) (m : Int) : THost × Int × Bool := ((f_reflected h m (f_ackPair (f_seenAs h m))).1, f_ackN h m (-1), (f_reflected h m (f_ackPair (f_seenAs h m))).2)
end Go.Proofs.YtlpaefknpmdaoaaGreat
namespace Go.Proofs.YtlpaefknpmdaoaaGreat
open Go
set_option linter.unusedVariables false
set_option linter.unusedSimpArgs false
def f_forgetUses (k : TKept) (inner : List TSlot) (page : Int) : TKept := (f_usesOf inner page).foldl f_forget k
def f_tabs (t : List TKept) (g : List TGuest) (page : Int) : Nat → List TKept
  | 0 => t
  | k + 1 => (f_tabs t g page k).set k (f_forgetUses (el t k) (el g k).live page)
def f_onHost (e : TEntry) (host : Int) : Bool := e.host == host
def f_flushHost (b : List TEntry) (host : Int) : List TEntry := f_without b fun e => f_onHost e host
def f_flushIf (b : List TEntry) (p : Int) : List TEntry := if p = -1 then b else f_flushHost b p
def f_inval (h : THost) (m page : Int) (s : TSlot) : THost :=
  ⟨h.mem, h.mons.set m.toNat { el h.mons m.toNat with tables := f_tabs (el h.mons m.toNat).tables (el h.mons m.toNat).guests page (el h.mons m.toNat).guests.length }, f_flushIf h.buf s.page, f_flushIf h.iobuf s.page⟩
def f_slotTo (h : THost) (m page : Int) (s : TSlot) : THost :=
  ⟨h.mem, h.mons.set m.toNat { el h.mons m.toNat with tables := f_tabs (el h.mons m.toNat).tables (el h.mons m.toNat).guests page (el h.mons m.toNat).guests.length, outer := (el h.mons m.toNat).outer.set page.toNat s },
    f_flushIf h.buf (el (el h.mons m.toNat).outer page.toNat).page, f_flushIf h.iobuf (el (el h.mons m.toNat).outer page.toNat).page⟩
def f_setM (h : THost) (m : Int) (x : TMon) : THost := ⟨h.mem, h.mons.set m.toNat x, h.buf, h.iobuf⟩
def f_hasPage (h : THost) (m page : Int) : Bool := f_l25Mon h m && f_within page 0 7
def f_slotP (h : THost) (m page : Int) : TSlot := el (el h.mons m.toNat).outer page.toNat
def f_guard (h : THost) (m page : Int) : THost × Bool :=
  if f_hasPage h m page = true then
    (if (el (el h.mons m.toNat).outer page.toNat).page = -1 then f_setM h m { el h.mons m.toNat with dirty := (el h.mons m.toNat).dirty.set page.toNat false }
     else f_slotTo (f_setM h m { el h.mons m.toNat with dirty := (el h.mons m.toNat).dirty.set page.toNat false }) m page ⟨(el (el h.mons m.toNat).outer page.toNat).page, 1⟩, true)
  else (h, false)
def f_send (h : THost) (m page : Int) : THost :=
  f_slotTo (f_setM h m { el h.mons m.toNat with out := (el h.mons m.toNat).out.set page.toNat (f_pageAt h.mem (el (el h.mons m.toNat).outer page.toNat).page) }) m page ⟨-1, 0⟩
def f_pageOut (h : THost) (m page : Int) : THost × Bool :=
  if f_hasPage h m page = true ∧ ¬ (el (el h.mons m.toNat).outer page.toNat).page = -1 then (f_send h m page, true) else (h, false)
end Go.Proofs.YtlpaefknpmdaoaaGreat
namespace Go.Proofs.YtlpaefknpmdaoaaGreat
open Go
set_option linter.unusedVariables false
set_option linter.unusedSimpArgs false
def slotN (p : Int) (l : List TSlot) : Nat := (l.filter fun s => decide (s.page = p)).length
def ownN (p : Int) (ms : List TMon) : Nat := (ms.map fun x => slotN p x.outer).sum
def one (c : Prop) [Decidable c] : Nat := if c then 1 else 0
def lens (x : TMon) : Nat × Nat × Nat × Nat × Nat × Nat := (x.outer.length, x.out.length, x.dirty.length, x.guests.length, x.tables.length, x.outs.length)
def f_sendFirst (h : THost) : THost := f_send h (f_ownerOfPage h 0).1 (f_ownerOfPage h 0).2
def f_withPage (m : List (List Int)) (p : Int) (c : List Int) : List (List Int) := if (0 ≤ p ∧ p < m.length) ∧ f_pageOk c = true then m.set p.toNat c else m
def f_room (h : THost) : THost := if 0 < (f_freeIn h).length then h else f_sendFirst h
def f_putIn (h : THost) (m page : Int) : THost :=
  f_slotTo ⟨f_withPage h.mem (el (f_freeIn h) 0) (el (el h.mons m.toNat).out page.toNat), h.mons.set m.toNat { el h.mons m.toNat with out := (el h.mons m.toNat).out.set page.toNat [] }, h.buf, h.iobuf⟩ m page ⟨el (f_freeIn h) 0, 3⟩
def f_fetch (h : THost) (m page : Int) : THost := f_putIn (f_room h) m page
def f_pageIn (h : THost) (m page : Int) : THost × Bool :=
  if f_hasPage h m page = true ∧ (el (el h.mons m.toNat).outer page.toNat).page = -1 then (f_fetch h m page, true) else (h, false)
def f_mid (h : THost) (m page : Int) : THost := if (el (el h.mons m.toNat).outer page.toNat).page = -1 then f_fetch h m page else h
def f_wr (h : THost) (m page : Int) : THost :=
  if f_enough (el (el h.mons m.toNat).outer page.toNat).rights 2 = true then f_setM h m { el h.mons m.toNat with dirty := (el h.mons m.toNat).dirty.set page.toNat true }
  else f_slotTo (f_setM h m { el h.mons m.toNat with dirty := (el h.mons m.toNat).dirty.set page.toNat true }) m page ⟨(el (el h.mons m.toNat).outer page.toNat).page, 3⟩
def f_mend (h : THost) (m page need : Int) : THost := if f_enough need 2 = true then f_wr (f_mid h m page) m page else f_mid h m page
def f_mendTop (h : THost) (m page need : Int) : THost × Bool := if f_hasPage h m page = true ∧ f_within need 1 3 = true then (f_mend h m page need, true) else (h, false)
def f_barePoke (b : TBare) (page cell v : Int) : TBare × Bool :=
  if f_bareOk b = true ∧ (0 ≤ page ∧ page < 8) ∧ (0 ≤ cell ∧ cell < 4) ∧ f_within v 0 99 = true then (⟨f_withCell b.mem page cell v, b.guests, b.outs, b.pend⟩, true) else (b, false)
def f_pokeOk (h : THost) (m page cell v : Int) : Bool := f_hasPage h m page && f_within cell 0 3 && f_within v 0 99
def f_hostPoke (h : THost) (m page cell v : Int) : THost × Bool :=
  if f_pokeOk h m page cell v = true then (⟨f_withCell (f_mend h m page 2).mem (el (el (f_mend h m page 2).mons m.toNat).outer page.toNat).page cell v, (f_mend h m page 2).mons, (f_mend h m page 2).buf, (f_mend h m page 2).iobuf⟩, true) else (h, false)
end Go.Proofs.YtlpaefknpmdaoaaGreat
namespace Go.Proofs.YtlpaefknpmdaoaaGreat
open Go
set_option linter.unusedVariables false
set_option linter.unusedSimpArgs false
def f_findEntry (b : List TEntry) (tag page : Int) : TEntry × Bool :=
  match b.find? (fun e => f_samePg e tag page) with
  | some e => (e, true)
  | none => (⟨0, 0, 0, 0⟩, false)
def f_putEntry (b : List TEntry) (e : TEntry) : List TEntry := (f_flushPage b e.tag e.page ++ [e]).drop ((f_flushPage b e.tag e.page ++ [e]).length - 6)
def f_ask (k : TKept) (page : Int) : TSlot × Bool :=
  if ((0 ≤ page ∧ page < k.known.length) ∧ page < k.slots.length) ∧ el k.known page.toNat = true then (el k.slots page.toNat, true) else (⟨-1, 0⟩, false)
def f_bothRights (a b : Int) : Int := if f_within a 0 3 = true ∧ f_within b 0 3 = true then land64 a b else 0
def f_composeSlot (s : TSlot) (t : List TSlot) : TSlot :=
  if s.page = -1 ∨ (f_slotAt t s.page).page = -1 ∨ f_bothRights s.rights (f_slotAt t s.page).rights = 0 then ⟨-1, 0⟩ else ⟨(f_slotAt t s.page).page, f_bothRights s.rights (f_slotAt t s.page).rights⟩
def f_fill (k : TKept) (inner outer : List TSlot) (page : Int) : TKept :=
  if ((0 ≤ page ∧ page < k.known.length) ∧ page < k.slots.length) ∧ page < inner.length then ⟨k.known.set page.toNat true, k.slots.set page.toNat (f_composeSlot (el inner page.toNat) outer)⟩ else k
def f_dirt (h : THost) (m q : Int) : THost := f_setM h m { el h.mons m.toNat with dirty := (el h.mons m.toNat).dirty.set q.toNat true }
def f_q (h : THost) (m g page need : Int) : Int := (f_walkInner (el (el h.mons m.toNat).guests g.toNat).live page need).1
def f_lkOk (h : THost) (m g page need : Int) : Bool :=
  f_hostOk h && decide (0 ≤ m ∧ m < h.mons.length) && decide (0 ≤ g ∧ g < (el h.mons m.toNat).guests.length) && decide (need = 1 ∨ need = 2) && (f_walkInner (el (el h.mons m.toNat).guests g.toNat).live page need).2
def f_bufOf (h : THost) (io : Bool) : List TEntry := if io = true then h.iobuf else h.buf
def f_putIo (h : THost) (io : Bool) (e : TEntry) : THost := if io = true then ⟨h.mem, h.mons, h.buf, f_putEntry h.iobuf e⟩ else ⟨h.mem, h.mons, f_putEntry h.buf e, h.iobuf⟩
def f_found (b : List TEntry) (tag page need : Int) : Bool := (f_findEntry b tag page).2 && f_enough (f_findEntry b tag page).1.rights need
def f_unk (k : TKept) (page need : Int) : Bool := ((!(f_ask k page).2) || ((f_ask k page).1.page == -1)) || (!f_enough (f_ask k page).1.rights need)
def f_ent (k : TKept) (m g page : Int) : TEntry := ⟨f_tagOf m g, page, (f_ask k page).1.page, (f_ask k page).1.rights⟩
def f_fillT (z : TMon) (g page : Int) : List TKept := z.tables.set g.toNat (f_fill (el z.tables g.toNat) (el z.guests g.toNat).live z.outer page)
def f_filled (h : THost) (m g page : Int) : THost := f_setM h m { el h.mons m.toNat with tables := f_fillT (el h.mons m.toNat) g page }
def f_lkDone (h : THost) (m g page : Int) (io : Bool) : THost × Int × Bool :=
  (f_putIo h io (f_ent (el (el h.mons m.toNat).tables g.toNat) m g page), (f_ask (el (el h.mons m.toNat).tables g.toNat) page).1.page, true)
def f_lkTo (h : THost) (m g page need q : Int) (io : Bool) : THost × Int × Bool :=
  if f_found (f_bufOf h io) (f_tagOf m g) page need = true then (h, (f_findEntry (f_bufOf h io) (f_tagOf m g) page).1.host, true)
  else if f_unk (el (el h.mons m.toNat).tables g.toNat) page need = true then f_lkDone (f_filled (f_mend h m q need) m g page) m g page io
  else f_lkDone h m g page io
def f_dirtIf (h : THost) (m q need : Int) : THost := if need = 2 then f_dirt h m q else h
def f_lookup (h : THost) (m g page need : Int) (io : Bool) : THost × Int × Bool :=
  if f_lkOk h m g page need = true then f_lkTo (f_dirtIf h m (f_q h m g page need) need) m g page need (f_q h m g page need) io
  else (h, -1, false)
def f_hostDma (h : THost) (m g addr v : Int) : THost × Bool :=
  if (f_within addr 0 15 = true ∧ f_within v 0 99 = true) ∧ (f_lookup h m g (f_addrPage addr) 2 true).2.2 = true then
    (⟨f_withCell (f_lookup h m g (f_addrPage addr) 2 true).1.mem (f_lookup h m g (f_addrPage addr) 2 true).2.1 (f_addrCell addr) v, (f_lookup h m g (f_addrPage addr) 2 true).1.mons, (f_lookup h m g (f_addrPage addr) 2 true).1.buf, (f_lookup h m g (f_addrPage addr) 2 true).1.iobuf⟩, true)
  else (h, false)
def f_cellAt (m : List (List Int)) (p c : Int) : Int := if (0 ≤ p ∧ p < m.length) ∧ 0 ≤ c ∧ c < (el m p.toNat).length then el (el m p.toNat) c.toNat else 0
theorem cellAt_in64 {K : Nat} {F : Bl} {w : World} {m : List (List Int)} {q : LP (List Int)} (h : GT.rd K F w m q) (p c : Int) : In64 (f_cellAt m p c) := by
  unfold f_cellAt
  split
  · exact LRd.el (LRd.el h _ (by omega)) _ (by omega)
  · exact ⟨by decide, by decide⟩
def f_hostRead (h : THost) (m g addr : Int) : THost × Int × Bool :=
  if f_within addr 0 15 = true ∧ (f_lookup h m g (f_addrPage addr) 1 true).2.2 = true then
    ((f_lookup h m g (f_addrPage addr) 1 true).1, f_cellAt (f_lookup h m g (f_addrPage addr) 1 true).1.mem (f_lookup h m g (f_addrPage addr) 1 true).2.1 (f_addrCell addr), true)
  else (h, 0, false)
end Go.Proofs.YtlpaefknpmdaoaaGreat
namespace Go.Proofs.YtlpaefknpmdaoaaGreat
open Go
def f_insAt (p : List TIns) (pc : Int) : TIns := if 0 ≤ pc ∧ pc < p.length then el p pc.toNat else ⟨7, 0⟩
theorem insAt_r {K : Nat} {F : Bl} {w : World} {p : List TIns} {q : LP TIns} (h : GT.rd K F w p q) (pc : Int) : RIns (f_insAt p pc) := by
  unfold f_insAt
  split
  · exact LRd.el h pc.toNat (by omega)
  · exact ⟨⟨by decide, by decide⟩, ⟨by decide, by decide⟩⟩
def f_takesIrq (g : TGuest) : Bool := f_canRun g && g.ctl.opn && decide (f_topIrq g.pend ≥ 0)
def f_wantOp (o : Int) : Int := if o = 3 then 3 else if o = 4 then 4 else if o = 5 then 5 else if o = 6 then 6 else if o = 7 then 7 else 2
def f_wantOf (g : TGuest) : Int := if f_canRun g = false then 0 else if f_takesIrq g = true then 1 else f_wantOp (f_insAt g.prog g.pc).opc
theorem wantOf_bd (g : TGuest) : 0 ≤ f_wantOf g ∧ f_wantOf g ≤ 7 := by
  unfold f_wantOf f_wantOp
  repeat' split
  all_goals decide
def f_saw (g : TGuest) (n : Int) : TGuest := if g.seen.length < 40 then { g with seen := g.seen ++ [n] } else g
def f_interrupted (g : TGuest) : TGuest := if f_takesIrq g = true then f_saw { g with pend := (f_takeIrq g.pend).1 } (100 + (f_takeIrq g.pend).2.1) else g
theorem takeIrq_bd (p : Int) : -1 ≤ (f_takeIrq p).2.1 ∧ (f_takeIrq p).2.1 ≤ 64 := by
  have := topIrq_bd p
  unfold f_takeIrq
  split
  · constructor <;> (simp only; omega)
  · constructor <;> (simp only; omega)
def f_plainTo (g : TGuest) (i : TIns) : TGuest :=
  if (0 ≤ g.acc ∧ g.acc ≤ 99) ∧ 0 ≤ i.x ∧ i.x ≤ 99 then
    (if i.opc = 1 then { f_moved g with acc := i.x } else if i.opc = 2 then { f_moved g with acc := Int.tmod (g.acc + i.x) 100 } else if i.opc = 8 ∧ g.acc = 0 then { f_moved g with pc := i.x } else f_moved g)
  else f_moved g
def f_plainly (g : TGuest) : TGuest := if f_wantOf g = 2 then f_plainTo g (f_insAt g.prog g.pc) else g
def f_loaded (g : TGuest) (v : Int) : TGuest := f_moved (f_saw { g with acc := v } v)
def f_address (g : TGuest) : Int := if f_wantOf g = 3 ∨ f_wantOf g = 4 then (f_insAt g.prog g.pc).x else -1
theorem address_in64 {K : Nat} {F : Bl} {w : World} {g : TGuest} {p : PGuest} (h : GT.rd K F w g p) : In64 (f_address g) := by
  unfold f_address
  split
  · exact RIns.x (insAt_r (RGuest.prog h) g.pc)
  · exact ⟨by decide, by decide⟩
def f_needOf (w : Bool) : Int := if w = true then 2 else 1
def f_faultExit (page : Int) (w : Bool) : TExit := ⟨1, page, w, 0⟩
def f_callExit (n : Int) : TExit := ⟨2, 0, false, n⟩
def f_outExit (n : Int) : TExit := ⟨3, 0, false, n⟩
theorem in64_0 : In64 0 := ⟨by decide, by decide⟩
theorem faultExit_r {p : Int} (h : In64 p) (w : Bool) : RExit (f_faultExit p w) := ⟨(show In64 1 from ⟨by decide, by decide⟩), h, in64_0⟩
theorem callExit_r {n : Int} (h : In64 n) : RExit (f_callExit n) := ⟨(show In64 2 from ⟨by decide, by decide⟩), in64_0, h⟩
theorem outExit_r {n : Int} (h : In64 n) : RExit (f_outExit n) := ⟨(show In64 3 from ⟨by decide, by decide⟩), in64_0, h⟩
def f_hasTrap (t k : Int) : Bool := f_within t 0 3 && decide (k = 1 ∨ k = 2) && (land64 t k != 0)
def f_ownerIs (outer inner k : Int) : Int := if f_hasTrap inner k = true then 1 else if f_hasTrap outer k = true then 2 else 0
def f_trap (x : TGuest) (traps want : Int) : TGuest × Bool :=
  if want = 6 then ({ x with exit := f_callExit (f_insAt x.prog x.pc).x }, false)
  else if want = 5 ∧ f_hasTrap traps 1 = true then ({ x with exit := f_outExit (f_insAt x.prog x.pc).x }, false)
  else if want = 7 ∧ f_hasTrap traps 2 = true then ({ x with exit := ⟨4, 0, false, 0⟩ }, false)
  else if want = 7 then (f_held x, true) else (f_moved x, true)
def f_trapped (x : TGuest) (want : Int) : TGuest := if want = 5 then { x with exit := f_outExit (f_insAt x.prog x.pc).x } else { x with exit := ⟨4, 0, false, 0⟩ }
def f_trapOf (want : Int) : Int := if want = 5 then 1 else 2
def f_putOut (b : TBare) (n : Int) : TBare := if b.outs.length < 40 then ⟨b.mem, b.guests, b.outs ++ [n], b.pend⟩ else b
def f_wlk (x : TGuest) (want : Int) : Int × Bool := f_walkInner x.live (f_addrPage (f_address x)) (f_needOf (want == 4))
def f_bareMem (b : TBare) (g : Int) (x : TGuest) (want : Int) : TBare :=
  if (f_wlk x want).2 = false then ⟨b.mem, b.guests.set g.toNat { x with exit := f_faultExit (f_addrPage (f_address x)) (want == 4) }, b.outs, b.pend⟩
  else if want = 4 then ⟨f_withCell b.mem (f_wlk x want).1 (f_addrCell (f_address x)) x.acc, b.guests.set g.toNat (f_moved x), b.outs, b.pend⟩
  else ⟨b.mem, b.guests.set g.toNat (f_loaded x (f_cellAt b.mem (f_wlk x want).1 (f_addrCell (f_address x)))), b.outs, b.pend⟩
def f_bareOutIf (b : TBare) (x : TGuest) (want : Int) : TBare := if (f_trap x x.ctl.traps want).2 = true ∧ want = 5 then f_putOut b (f_insAt x.prog x.pc).x else b
def f_bareTo (b : TBare) (g : Int) (x : TGuest) (want : Int) : TBare :=
  if want = 1 then ⟨b.mem, b.guests.set g.toNat (f_interrupted x), b.outs, b.pend⟩
  else if want = 2 then ⟨b.mem, b.guests.set g.toNat (f_plainly x), b.outs, b.pend⟩
  else if want = 3 ∨ want = 4 then f_bareMem b g x want
  else ⟨(f_bareOutIf b x want).mem, (f_bareOutIf b x want).guests.set g.toNat (f_trap x x.ctl.traps want).1, (f_bareOutIf b x want).outs, (f_bareOutIf b x want).pend⟩
def f_bareStep (b : TBare) (g : Int) : TBare × Bool :=
  if f_bareOk b = true ∧ (0 ≤ g ∧ g < b.guests.length) ∧ ¬ f_wantOf (el b.guests g.toNat) = 0 then (f_bareTo b g (el b.guests g.toNat) (f_wantOf (el b.guests g.toNat)), true) else (b, false)
theorem bareStep_no {b : TBare} {g : Int} (e : f_bareOk b = false ∨ (f_guestAt b g).2 = false ∨ f_wantOf (f_guestAt b g).1 = 0) : f_bareStep b g = (b, false) := by
  unfold f_bareStep
  rw [if_neg]
  rintro ⟨h1, h2, h3⟩
  rcases e with e | e | e
  · rw [e] at h1; cases h1
  · unfold f_guestAt at e; rw [if_pos h2] at e; cases e
  · unfold f_guestAt at e; rw [if_pos h2] at e; exact h3 e
theorem bareStep_yes {b : TBare} {g : Int} (e1 : f_bareOk b = true) (e2 : (f_guestAt b g).2 = true) (e3 : ¬ f_wantOf (f_guestAt b g).1 = 0) : f_bareStep b g = (f_bareTo b g (f_guestAt b g).1 (f_wantOf (f_guestAt b g).1), true) := by
  unfold f_guestAt at e2 e3 ⊢
  split at e2
  · rename_i h2
    rw [if_pos h2] at e3 ⊢
    unfold f_bareStep
    rw [if_pos ⟨e1, h2, e3⟩]
  · cases e2
theorem withGuest_at {b : TBare} {g : Int} (e : (f_guestAt b g).2 = true) (x : TGuest) : f_withGuest b g x = ⟨b.mem, b.guests.set g.toNat x, b.outs, b.pend⟩ := by
  unfold f_guestAt at e
  split at e
  · rename_i h2; unfold f_withGuest; rw [if_pos h2]
  · cases e
theorem bareTo1 {b : TBare} {g : Int} {x : TGuest} {want : Int} (e : want = 1) : f_bareTo b g x want = ⟨b.mem, b.guests.set g.toNat (f_interrupted x), b.outs, b.pend⟩ := by subst e; rfl
theorem bareTo2 {b : TBare} {g : Int} {x : TGuest} {want : Int} (e : want = 2) : f_bareTo b g x want = ⟨b.mem, b.guests.set g.toNat (f_plainly x), b.outs, b.pend⟩ := by subst e; rfl
theorem bareTo34 {b : TBare} {g : Int} {x : TGuest} {want : Int} (e : want = 3 ∨ want = 4) : f_bareTo b g x want = f_bareMem b g x want := by rcases e with e | e <;> subst e <;> rfl
theorem bareTo5 {b : TBare} {g : Int} {x : TGuest} {want : Int} (e1 : ¬ want = 1) (e2 : ¬ want = 2) (e3 : ¬ want = 3) (e4 : ¬ want = 4) :
    f_bareTo b g x want = ⟨(f_bareOutIf b x want).mem, (f_bareOutIf b x want).guests.set g.toNat (f_trap x x.ctl.traps want).1, (f_bareOutIf b x want).outs, (f_bareOutIf b x want).pend⟩ := by
  unfold f_bareTo
  rw [if_neg e1, if_neg e2, if_neg (by omega)]
theorem withGuest_eq {b b' : TBare} {g : Int} (e : (f_guestAt b g).2 = true) (h : b'.guests = b.guests) (x : TGuest) : f_withGuest b' g x = ⟨b'.mem, b'.guests.set g.toNat x, b'.outs, b'.pend⟩ := by
  unfold f_guestAt at e
  split at e
  · rename_i h2; unfold f_withGuest; rw [if_pos (by rw [h]; exact h2)]
  · cases e
theorem putOut_guests (b : TBare) (n : Int) : (f_putOut b n).guests = b.guests := by unfold f_putOut; split <;> rfl
section
variable {b : TBare} {g : Int} {x : TGuest} {want : Int}
theorem mem_no (h : want = 3 ∨ want = 4) (e : (f_walkInner x.live (f_addrPage (f_address x)) (f_needOf (want == 4))).2 = false) : f_bareTo b g x want = ⟨b.mem, b.guests.set g.toNat { x with exit := f_faultExit (f_addrPage (f_address x)) (want == 4) }, b.outs, b.pend⟩ := by
  rw [bareTo34 h]; unfold f_bareMem; rw [if_pos (show (f_wlk x want).2 = false from e)]
theorem mem_store (h : want = 4) (e : (f_walkInner x.live (f_addrPage (f_address x)) (f_needOf (want == 4))).2 = true) : f_bareTo b g x want = ⟨f_withCell b.mem (f_walkInner x.live (f_addrPage (f_address x)) (f_needOf (want == 4))).1 (f_addrCell (f_address x)) x.acc, b.guests.set g.toNat (f_moved x), b.outs, b.pend⟩ := by
  rw [bareTo34 (.inr h)]; unfold f_bareMem; rw [if_neg (show ¬ (f_wlk x want).2 = false by rw [show (f_wlk x want).2 = true from e]; exact fun h => by cases h), if_pos h]; rfl
theorem mem_load (h : want = 3) (e : (f_walkInner x.live (f_addrPage (f_address x)) (f_needOf (want == 4))).2 = true) : f_bareTo b g x want = ⟨b.mem, b.guests.set g.toNat (f_loaded x (f_cellAt b.mem (f_walkInner x.live (f_addrPage (f_address x)) (f_needOf (want == 4))).1 (f_addrCell (f_address x)))), b.outs, b.pend⟩ := by
  rw [bareTo34 (.inl h)]; unfold f_bareMem; rw [if_neg (show ¬ (f_wlk x want).2 = false by rw [show (f_wlk x want).2 = true from e]; exact fun h => by cases h), if_neg (by omega)]; rfl
theorem out_call (h : want = 6) : f_bareTo b g x want = ⟨b.mem, b.guests.set g.toNat { x with exit := f_callExit (f_insAt x.prog x.pc).x }, b.outs, b.pend⟩ := by
  subst h; rfl
theorem out_trap (hn : want = 5 ∨ want = 7) (e : f_hasTrap x.ctl.traps (f_trapOf want) = true) : f_bareTo b g x want = ⟨b.mem, b.guests.set g.toNat (f_trapped x want), b.outs, b.pend⟩ := by
  rcases hn with h | h <;> subst h
  · have e1 : f_trap x x.ctl.traps 5 = ({ x with exit := f_outExit (f_insAt x.prog x.pc).x }, false) := by
      unfold f_trap; rw [if_neg (by decide), if_pos ⟨rfl, e⟩]
    rw [bareTo5 (by decide) (by decide) (by decide) (by decide)]
    unfold f_bareOutIf
    rw [e1, if_neg (by rintro ⟨h, _⟩; cases h)]
    rfl
  · have e1 : f_trap x x.ctl.traps 7 = ({ x with exit := ⟨4, 0, false, 0⟩ }, false) := by
      unfold f_trap; rw [if_neg (by decide), if_neg (by rintro ⟨h, _⟩; cases h), if_pos ⟨rfl, e⟩]
    rw [bareTo5 (by decide) (by decide) (by decide) (by decide)]
    unfold f_bareOutIf
    rw [e1, if_neg (by rintro ⟨h, _⟩; cases h)]
    rfl
theorem out_out (h : want = 5) (e : f_hasTrap x.ctl.traps (f_trapOf want) = false) : f_bareTo b g x want = ⟨(f_putOut b (f_insAt x.prog x.pc).x).mem, (f_putOut b (f_insAt x.prog x.pc).x).guests.set g.toNat (f_moved x), (f_putOut b (f_insAt x.prog x.pc).x).outs, (f_putOut b (f_insAt x.prog x.pc).x).pend⟩ := by
  subst h
  have e' : f_hasTrap x.ctl.traps 1 = false := e
  have e1 : f_trap x x.ctl.traps 5 = (f_moved x, true) := by
    unfold f_trap; rw [if_neg (by decide), if_neg (by rw [e']; rintro ⟨_, h⟩; cases h), if_neg (by rintro ⟨h, _⟩; cases h), if_neg (by decide)]
  rw [bareTo5 (by decide) (by decide) (by decide) (by decide)]
  unfold f_bareOutIf
  rw [e1, if_pos ⟨rfl, rfl⟩]
theorem out_halt (h : want = 7) (e : f_hasTrap x.ctl.traps (f_trapOf want) = false) : f_bareTo b g x want = ⟨b.mem, b.guests.set g.toNat (f_held x), b.outs, b.pend⟩ := by
  subst h
  have e' : f_hasTrap x.ctl.traps 2 = false := e
  have e1 : f_trap x x.ctl.traps 7 = (f_held x, true) := by
    unfold f_trap; rw [if_neg (by decide), if_neg (by rintro ⟨h, _⟩; cases h), if_neg (by rw [e']; rintro ⟨_, h⟩; cases h), if_pos rfl]
  rw [bareTo5 (by decide) (by decide) (by decide) (by decide)]
  unfold f_bareOutIf
  rw [e1, if_neg (by rintro ⟨_, h⟩; cases h)]
end
end Go.Proofs.YtlpaefknpmdaoaaGreat
namespace Go.Proofs.YtlpaefknpmdaoaaGreat
open Go
def f_stepOk (h : THost) (m g : Int) : Bool := f_hostOk h && f_within m 0 ((h.mons.length : Int) - 1) && f_within g 0 (((el h.mons m.toNat).guests.length : Int) - 1)
def f_setG (h : THost) (m g : Int) (x : TGuest) : THost := ⟨h.mem, h.mons.set m.toNat { el h.mons m.toNat with guests := (el h.mons m.toNat).guests.set g.toNat x }, h.buf, h.iobuf⟩
def f_lk (h : THost) (m g : Int) (x : TGuest) (wr : Bool) : THost × Int × Bool := f_lookup h m g (f_addrPage (f_address x)) (f_needOf wr) false
def f_touch (h : THost) (m g : Int) (x : TGuest) (wr : Bool) : THost :=
  if (f_lk h m g x wr).2.2 = false then f_setG (f_lk h m g x wr).1 m g { x with exit := f_faultExit (f_addrPage (f_address x)) wr }
  else if wr = true then f_setG ⟨f_withCell (f_lk h m g x wr).1.mem (f_lk h m g x wr).2.1 (f_addrCell (f_address x)) x.acc, (f_lk h m g x wr).1.mons, (f_lk h m g x wr).1.buf, (f_lk h m g x wr).1.iobuf⟩ m g (f_moved x)
  else f_setG (f_lk h m g x wr).1 m g (f_loaded x (f_cellAt (f_lk h m g x wr).1.mem (f_lk h m g x wr).2.1 (f_addrCell (f_address x))))
def f_ownUp (x : TMon) (y : TGuest) (want : Int) : Int := if (¬ want = 6 ∧ f_ownerIs x.traps y.ctl.traps (f_trapOf want) = 2) ∧ x.owned < 1000000000 then x.owned + 1 else x.owned
def f_outsUp (x : TMon) (y : TGuest) (want : Int) : List Int := if ((f_trap y y.ctl.traps want).2 = true ∧ want = 5) ∧ x.outs.length < 40 then x.outs ++ [(f_insAt y.prog y.pc).x] else x.outs
def f_trapMon (x : TMon) (g : Int) (y : TGuest) (want : Int) : TMon := { x with guests := x.guests.set g.toNat (f_trap y y.ctl.traps want).1, outs := f_outsUp x y want, owned := f_ownUp x y want }
def f_setMon (h : THost) (m : Int) (x : TMon) : THost := ⟨h.mem, h.mons.set m.toNat x, h.buf, h.iobuf⟩
def f_hostTo (h : THost) (m g : Int) (x : TGuest) (want : Int) : THost :=
  if want = 1 then f_setG h m g (f_interrupted x)
  else if want = 2 then f_setG h m g (f_plainly x)
  else if want = 3 ∨ want = 4 then f_touch h m g x (want == 4)
  else f_setMon h m (f_trapMon (el h.mons m.toNat) g x want)
def f_hostStep (h : THost) (m g : Int) : THost × Bool :=
  if f_stepOk h m g = true ∧ ¬ f_wantOf (el (el h.mons m.toNat).guests g.toNat) = 0 then
    (f_hostTo h m g (el (el h.mons m.toNat).guests g.toNat) (f_wantOf (el (el h.mons m.toNat).guests g.toNat)), true)
  else (h, false)
section
variable {h : THost} {m g : Int} {x : TGuest} {want : Int}
end
end Go.Proofs.YtlpaefknpmdaoaaGreat
namespace Go.Proofs.YtlpaefknpmdaoaaGreat
open Go
set_option linter.unusedVariables false
def One (p : SP) : Bl := fun b => p.nil = false ∧ b = p.b
section
variable {P : Program} {n : Nat} {w0 : World} {M : Bl} {u : World} {N : Bl} {β : Nat → Nat} {a : Act} {w : World} {Q : Exit → Act → World → Prop}
def RetL {α : Type} [GT α] (F : Bl) (p : LP α) (w : World) (xs' : List α) (e : Ending) (w' : World) : Prop :=
  ∃ (p2 : Nat → GT.Ptr α) (F' : Bl), e = .returned (packed []) ∧ Chg F w w' ∧ GT.own KK F' w' xs' ((p.1, p2) : LP α) ∧ (∀ b, F' b → F b ∨ (w.heap.size ≤ b ∧ b < w'.heap.size))
end
end Go.Proofs.YtlpaefknpmdaoaaGreat
namespace Go.Proofs.YtlpaefknpmdaoaaGreat
open Go
set_option linter.unusedVariables false
variable {m : TMon} {y : TGuest} {want : Int}
section
variable {h : THost} {m g : Int}
end
end Go.Proofs.YtlpaefknpmdaoaaGreat
namespace Go.Proofs.YtlpaefknpmdaoaaGreat
open Go
set_option linter.unusedVariables false
structure Rr {α : Type} [GT α] (u : World) (N F : Bl) (x : α) (p : GT.Ptr α) : Prop where
  rd : GT.rd KK F u x p
  sub : ∀ b, F b → N b
def RetV2 {α α' : Type} [GT α] [GT α'] (G : Bl) (w : World) (r : α) (r' : α') (e : Ending) (w' : World) : Prop :=
  ∃ (q : GT.Ptr α) (q' : GT.Ptr α'), e = .returned (.tuple #[GT.val r q, GT.val r' q']) ∧ Chg NoB w w' ∧ GT.rd KK (Or G (Iv w.heap.size w'.heap.size)) w' r q ∧ GT.own KK NoB w' r' q'
section
variable {P : Program} {n : Nat} {w0 : World} {M : Bl} {u : World} {N : Bl} {β : Nat → Nat} {σ : Sy} {a : Act} {w : World} {ops : Array Oper} {Q : Exit → Act → World → Prop} {K' : Act → World → Prop}
theorem Rr.rn {α : Type} [GT α] {F : Bl} {x : α} {p : GT.Ptr α} (h : Rr u N F x p) : Rn u N x p := GT.rd_mono h.rd (Nat.le_refl _) h.sub
theorem Rr.up {α : Type} [GT α] {F : Bl} {x : α} {p : GT.Ptr α} {w' : World} {N' : Bl} (h : Rr u N F x p) (g : ∀ b, N b → N' b ∧ w'.heap[b]? = u.heap[b]?) : Rr w' N' F x p :=
  ⟨GT.rd_agree h.rd fun b hb _ => (g b (h.sub b hb)).2, fun b hb => (g b (h.sub b hb)).1⟩
theorem St.rdN {α : Type} [GT α] {x : α} {p : GT.Ptr α} (S : St P n w0 M u N β σ a w) (h : GT.rd KK N u x p) : GT.rd KK N w x p := GT.rd_agree h fun b hb _ => (S.sep b hb).2.1
theorem St.callV2 {α α' : Type} [GT α] [GT α'] (S : St P n w0 M u N β σ a w) {i : Nat} {f : FuncId} {vals : List Value} {d : Tmp} {r : α} {r' : α'} (hc : Calls P f vals.toArray w (RetV2 N w r r'))
    (K : ∀ a' w' N' q q' F, St P n w0 M w' N' β ⟨(d, .v (.tuple #[GT.val r q, GT.val r' q'])) :: σ.env, σ.bx⟩ a' w' → (∀ b, N b → N' b ∧ w'.heap[b]? = u.heap[b]?) → Rr w' N' F r q → GT.own KK NoB w' r' q' → K' a' w')
    (hcall : callAc P n ops i σ = some (f, vals, d) := by kernel_rfl) (hd : Nat.blt d n = true := by kernel_rfl) : wpOp P ops Q i K' a w :=
  S.call hcall hc fun _ w' ⟨q, q', he, hch, hr, ho⟩ => ⟨_, he, K _ w' _ q q' _ (S.after hd hch) (S.up hch) ⟨hr, fun _ h => h⟩ ho⟩
theorem retV2_arg {α α' : Type} [GT α] [GT α'] {G : Bl} {r x : α} {r' x' : α'} {p : GT.Ptr α} {p' : GT.Ptr α'} {v v' : Value} (S : St P n w0 NoB u N β σ a w) (h : r = x) (h' : r' = x') (hv : v = GT.val x p) (hv' : v' = GT.val x' p') (hr : GT.rd KK G w0 x p) (gb : ∀ b, G b → b < w0.heap.size ∧ ¬ NoB b) (o' : GT.own KK NoB w x' p') : RetV2 G w0 r r' (.returned (packed [v, v'])) w := by
  subst h h' hv hv'
  exact ⟨p, p', rfl, S.chg, GT.rd_mono (GT.rd_agree hr fun b hb _ => S.chg.block b (gb b hb).1 id) (Nat.le_refl _) fun b hb => .inl hb, o'⟩
theorem retV2_own {α α' : Type} [GT α] [GT α'] {G F : Bl} {r x : α} {r' x' : α'} {p : GT.Ptr α} {p' : GT.Ptr α'} {v v' : Value} (S : St P n w0 NoB u N β σ a w) (h : r = x) (h' : r' = x') (hv : v = GT.val x p) (hv' : v' = GT.val x' p') (o : Ow w0 NoB u N F x p) (o' : GT.own KK NoB w x' p') : RetV2 G w0 r r' (.returned (packed [v, v'])) w := by
  subst h h' hv hv'
  exact ⟨p, p', rfl, S.chg, GT.rd_mono (GT.own_rd (S.own o)) (Nat.le_refl _) fun b hb => .inr hb, o'⟩
end
end Go.Proofs.YtlpaefknpmdaoaaGreat
namespace Go.Proofs.YtlpaefknpmdaoaaGreat
open Go
set_option linter.unusedVariables false
def f_bareRead (b : TBare) (g addr : Int) : Int × Bool :=
  if (f_at b g addr 1).2 = true then (f_cellAt b.mem (f_at b g addr 1).1 (f_addrCell addr), true) else (0, false)
theorem bareRead_in64 {K : Nat} {F : Bl} {w : World} {b : TBare} {p : PBare} (h : GT.rd K F w b p) (g addr : Int) : In64 (f_bareRead b g addr).1 := by
  unfold f_bareRead
  split
  · exact cellAt_in64 (RBare.mem (d := b) h) _ _
  · exact ⟨by decide, by decide⟩
section
variable {b : TBare} {g addr v : Int}
theorem bread_no (h : (f_at b g addr 1).2 = false) : f_bareRead b g addr = (0, false) := by
  unfold f_bareRead; rw [if_neg (by rw [h]; decide)]
theorem bread_yes (h : (f_at b g addr 1).2 = true) : f_bareRead b g addr = (f_cellAt b.mem (f_at b g addr 1).1 (f_addrCell addr), true) := by
  unfold f_bareRead; rw [if_pos h]
theorem bread_noR (h : (f_reach b g addr 1).2.2 = false) : f_bareRead b g addr = (0, false) := bread_no (reach_f h)
theorem bread_yesR (h : (f_reach b g addr 1).2.2 = true) : f_bareRead b g addr = (f_cellAt b.mem (f_reach b g addr 1).1 (f_reach b g addr 1).2.1, true) := by
  obtain ⟨h1, h2, h3⟩ := reach_t h
  rw [bread_yes h1, h2, h3]
end
theorem ctlOf_r {a : TAct} (h : RAct a) : RCtl (f_ctlOf a) := ⟨RAct.x (d := a) h, RAct.y (d := a) h⟩
def f_told (p : TBare × Bool) : TBare × TTold := (p.1, ⟨p.2, 0⟩)
def f_actOn (b : TBare) (a : TAct) : TBare × TTold :=
  if a.kind = 1 then f_told (f_bareStep b a.g)
  else if a.kind = 2 then f_told (f_bareSet b a.g a.x ⟨a.y, a.z⟩)
  else if a.kind = 3 then f_told (f_bareFlush b a.g a.x)
  else if a.kind = 4 then f_told (f_bareAnswer b a.g a.x)
  else if a.kind = 5 then f_told (f_bareResume b a.g)
  else if a.kind = 6 then f_told (f_bareInject b a.g a.x)
  else if a.kind = 7 then f_told (f_bareCtl b a.g (f_ctlOf a))
  else if a.kind = 8 then f_told (f_barePoke b a.x a.y a.z)
  else if a.kind = 9 then f_told (f_barePost b a.x)
  else if a.kind = 10 then ((f_bareAck b).1, ⟨(f_bareAck b).2.2, (f_bareAck b).2.1⟩)
  else if a.kind = 11 then f_told (f_bareDma b a.g a.x a.y)
  else if a.kind = 12 then (b, ⟨(f_bareRead b a.g a.x).2, (f_bareRead b a.g a.x).1⟩)
  else (b, ⟨false, 0⟩)
def f_bareAct (l : List TBare) (a : TAct) : List TBare × TTold :=
  if f_actOk a = false ∨ f_isOuter a.kind = true then (l, ⟨false, 0⟩)
  else if 0 ≤ a.m ∧ a.m < l.length then (l.set a.m.toNat (f_actOn (el l a.m.toNat) a).1, (f_actOn (el l a.m.toNat) a).2)
  else (l, ⟨false, if a.kind = 10 then -1 else 0⟩)
theorem set_self0 {xs : List TBare} {k : Nat} (hk : k < xs.length) : xs.set k (el xs k) = xs := by rw [el_lt hk, List.set_getElem_self]
section
variable {l : List TBare} {a : TAct} {b : TBare}
theorem bareAct_no (h : f_actOk a = false ∨ f_isOuter a.kind = true) : f_bareAct l a = (l, ⟨false, 0⟩) := by unfold f_bareAct; rw [if_pos h]
theorem bareAct_in (h1 : f_actOk a = true) (h2 : f_isOuter a.kind = false) (h3 : 0 ≤ a.m ∧ a.m < l.length) : f_bareAct l a = (l.set a.m.toNat (f_actOn (el l a.m.toNat) a).1, (f_actOn (el l a.m.toNat) a).2) := by
  unfold f_bareAct; rw [if_neg (by rw [h1, h2]; simp), if_pos h3]
theorem bareAct_ack (h1 : f_actOk a = true) (h2 : f_isOuter a.kind = false) (h3 : ¬ (0 ≤ a.m ∧ a.m < l.length)) (h4 : a.kind = 10) : f_bareAct l a = (l, ⟨false, -1⟩) := by
  unfold f_bareAct; rw [if_neg (by rw [h1, h2]; simp), if_neg h3, if_pos h4]
theorem bareAct_out (h1 : f_actOk a = true) (h2 : f_isOuter a.kind = false) (h3 : ¬ (0 ≤ a.m ∧ a.m < l.length)) (h4 : ¬ a.kind = 10) : f_bareAct l a = (l, ⟨false, 0⟩) := by
  unfold f_bareAct; rw [if_neg (by rw [h1, h2]; simp), if_neg h3, if_neg h4]
theorem act1 (h : a.kind = 1) : f_actOn b a = f_told (f_bareStep b a.g) := by unfold f_actOn; rw [if_pos h]
theorem act2 (h : a.kind = 2) : f_actOn b a = f_told (f_bareSet b a.g a.x ⟨a.y, a.z⟩) := by unfold f_actOn; rw [h]; rfl
theorem act3 (h : a.kind = 3) : f_actOn b a = f_told (f_bareFlush b a.g a.x) := by unfold f_actOn; rw [h]; rfl
theorem act4 (h : a.kind = 4) : f_actOn b a = f_told (f_bareAnswer b a.g a.x) := by unfold f_actOn; rw [h]; rfl
theorem act5 (h : a.kind = 5) : f_actOn b a = f_told (f_bareResume b a.g) := by unfold f_actOn; rw [h]; rfl
theorem act6 (h : a.kind = 6) : f_actOn b a = f_told (f_bareInject b a.g a.x) := by unfold f_actOn; rw [h]; rfl
theorem act7 (h : a.kind = 7) : f_actOn b a = f_told (f_bareCtl b a.g (f_ctlOf a)) := by unfold f_actOn; rw [h]; rfl
theorem act8 (h : a.kind = 8) : f_actOn b a = f_told (f_barePoke b a.x a.y a.z) := by unfold f_actOn; rw [h]; rfl
theorem act9 (h : a.kind = 9) : f_actOn b a = f_told (f_barePost b a.x) := by unfold f_actOn; rw [h]; rfl
theorem act10 (h : a.kind = 10) : f_actOn b a = ((f_bareAck b).1, ⟨(f_bareAck b).2.2, (f_bareAck b).2.1⟩) := by unfold f_actOn; rw [h]; rfl
theorem act11 (h : a.kind = 11) : f_actOn b a = f_told (f_bareDma b a.g a.x a.y) := by unfold f_actOn; rw [h]; rfl
theorem act12 (h : a.kind = 12) : f_actOn b a = (b, ⟨(f_bareRead b a.g a.x).2, (f_bareRead b a.g a.x).1⟩) := by unfold f_actOn; rw [h]; rfl
theorem act0 (h : a.kind < 1 ∨ 12 < a.kind) : f_actOn b a = (b, ⟨false, 0⟩) := by
  unfold f_actOn
  rw [if_neg (by omega), if_neg (by omega), if_neg (by omega), if_neg (by omega), if_neg (by omega), if_neg (by omega), if_neg (by omega), if_neg (by omega), if_neg (by omega), if_neg (by omega), if_neg (by omega), if_neg (by omega)]
theorem act_rng (h1 : f_actOk a = true) (h2 : f_isOuter a.kind = false) : 1 ≤ a.kind ∧ a.kind ≤ 12 := by
  have h3 := within_t (show f_within a.kind 1 17 = true from h1)
  have h4 := within_f (show f_within a.kind 13 17 = false from h2)
  omega
end
theorem sz_bareAct {F : Bl} {w : World} {q : LP TBare} (l : List TBare) (a : TAct) (h : GT.rd KK F w (f_bareAct l a).1 q) : SZ.sz (f_bareAct l a).1 ≤ SZ.sz l + 200000000000000000 := by
  have h1 := sz_list l
  have h2 := sz_list (f_bareAct l a).1
  unfold f_bareAct at h h2 ⊢
  split
  · simp only; omega
  · rename_i h0
    rw [if_neg h0] at h h2
    split
    · rename_i h3
      rw [if_pos h3] at h h2
      simp only at h h2 ⊢
      have h4 := szsum_set (y := (f_actOn (el l a.m.toNat) a).1) (show a.m.toNat < l.length by omega)
      have h5 : GT.rd KK F w (el (l.set a.m.toNat (f_actOn (el l a.m.toNat) a).1) a.m.toNat) (q.2 a.m.toNat) := LRd.el h _ (by rw [List.length_set]; omega)
      rw [el_set_self (by omega)] at h5
      have h6 : SZ.sz (f_actOn (el l a.m.toNat) a).1 ≤ 200000000000000000 := Nat.le_trans (SB.bd h5) (by decide)
      rw [List.length_set] at h2
      omega
    · simp only; omega
end Go.Proofs.YtlpaefknpmdaoaaGreat
namespace Go.Proofs.YtlpaefknpmdaoaaGreat
open Go
theorem c_math_bits_Len (w0 : World) (x : Int) (pre0 : 0 ≤ x) (pre1 : x ≤ 9223372036854775807) : Calls Tryz.prog 206 [.int .u64 x].toArray w0 (fun e w' => e = .returned (I (f_bitLen x)) ∧ Chg NoB w0 w') :=
  (Go.Proofs.YtlpaefknpmdaoaaGreatBits.bits_Len x w0 pre0 (by omega)).mono fun e w' ⟨h1, h2⟩ => ⟨h1, h2 ▸ Chg.refl _ _⟩
end Go.Proofs.YtlpaefknpmdaoaaGreat
