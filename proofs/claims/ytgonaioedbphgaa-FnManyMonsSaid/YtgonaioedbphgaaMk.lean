/- Marks on nested data: what the statements' held functions compute, and parts of owned lists. No program is named here. -/
import Derived.Test.YtgonaioedbphgaaOw
import Derived.Test.YtgonaioedbphgaaSz
import Derived.Test.YtgonaioedbphgaaSpec3
import Derived.Test.YtgonaioedbphgaaMarks
namespace Go.Proofs.Ytgonaioedbphgaa
open Go
set_option linter.unusedSimpArgs false
set_option linter.unusedVariables false
def hdi (x : Int) (k : Int) (f : Int → Int) : Int := if x = k then f (IntKind.i64.wrap (k + 1)) else -1
def hdb (x : Bool) (k : Int) (f : Int → Int) : Int := if x = (Int.tmod k 3 == 0) then f (IntKind.i64.wrap (k + 1)) else -1
def hdc (k : Int) (f : Int → Int) : Int := if k < 0 then -1 else f k
class HE (α : Type) where
  he : α → Int → (Int → Int) → Int
section
variable {α : Type} [HE α]
def hdlc : List α → Int → (Int → Int) → Int
  | [], k, f => f k
  | x :: r, k, f => HE.he x k fun k => hdlc r k f
def hdl (xs : List α) (k : Int) : Int := hdlc xs k id
instance : HE Int := ⟨hdi⟩
instance : HE Bool := ⟨hdb⟩
instance : HE (List α) := ⟨fun x k f => hdc (hdl x k) f⟩
end
instance : HE TSlot := ⟨fun x k f => hdi x.page k fun k => hdi x.rights k fun k => f k⟩
instance : HE TEntry := ⟨fun x k f => hdi x.tag k fun k => hdi x.page k fun k => hdi x.host k fun k => hdi x.rights k fun k => f k⟩
instance : HE TIns := ⟨fun x k f => hdi x.opc k fun k => hdi x.x k fun k => f k⟩
instance : HE TCtl := ⟨fun x k f => hdi x.traps k fun k => hdi x.post k fun k => hdb x.opn k fun k => f k⟩
instance : HE TExit := ⟨fun x k f => hdi x.kind k fun k => hdi x.page k fun k => hdb x.wr k fun k => hdi x.n k fun k => f k⟩
instance : HE TAct := ⟨fun x k f => hdi x.kind k fun k => hdi x.m k fun k => hdi x.g k fun k => hdi x.x k fun k => hdi x.y k fun k => hdi x.z k fun k => f k⟩
instance : HE TTold := ⟨fun x k f => hdb x.ok k fun k => hdi x.n k fun k => f k⟩
instance : HE TKept := ⟨fun x k f => hdc (hdl x.known k) fun k => hdc (hdl x.slots k) fun k => f k⟩
def hdT_Kept (x : TKept) (k : Int) : Int := hdc (hdl x.known k) fun k => hdc (hdl x.slots k) fun k => k
instance : HE TGuest := ⟨fun x k f => hdc (hdl x.prog k) fun k => hdi x.acc k fun k => hdi x.pc k fun k => hdc (hdl x.written k) fun k => hdc (hdl x.live k) fun k => hdi x.ctl.traps k fun k => hdi x.ctl.post k fun k => hdb x.ctl.opn k fun k => hdi x.pend k fun k => hdi x.exit.kind k fun k => hdi x.exit.page k fun k => hdb x.exit.wr k fun k => hdi x.exit.n k fun k => hdb x.halted k fun k => hdc (hdl x.seen k) fun k => f k⟩
def hdT_Guest (x : TGuest) (k : Int) : Int := hdc (hdl x.prog k) fun k => hdc (hdl x.written k) fun k => hdc (hdl x.live k) fun k => hdc (hdl x.seen k) fun k => k
instance : HE TMon := ⟨fun x k f => hdc (hdl x.outer k) fun k => hdc (hdl x.out k) fun k => hdc (hdl x.dirty k) fun k => hdc (hdl x.guests k) fun k => hdc (hdl x.outs k) fun k => hdi x.pend k fun k => hdi x.traps k fun k => hdc (hdl x.tables k) fun k => hdi x.owned k fun k => f k⟩
def hdT_Mon (x : TMon) (k : Int) : Int := hdc (hdl x.outer k) fun k => hdc (hdl x.out k) fun k => hdc (hdl x.dirty k) fun k => hdc (hdl x.guests k) fun k => hdc (hdl x.outs k) fun k => hdc (hdl x.tables k) fun k => k
instance : HE TBare := ⟨fun x k f => hdc (hdl x.mem k) fun k => hdc (hdl x.guests k) fun k => hdc (hdl x.outs k) fun k => hdi x.pend k fun k => f k⟩
def hdT_Bare (x : TBare) (k : Int) : Int := hdc (hdl x.mem k) fun k => hdc (hdl x.guests k) fun k => hdc (hdl x.outs k) fun k => k
instance : HE THost := ⟨fun x k f => hdc (hdl x.mem k) fun k => hdc (hdl x.mons k) fun k => hdc (hdl x.buf k) fun k => hdc (hdl x.iobuf k) fun k => f k⟩
def hdT_Host (x : THost) (k : Int) : Int := hdc (hdl x.mem k) fun k => hdc (hdl x.mons k) fun k => hdc (hdl x.buf k) fun k => hdc (hdl x.iobuf k) fun k => k
section
variable {w0 : World} {M : Bl} {u : World} {N : Bl}
end
def RetX {α : Type} [GT α] [SZ α] (hd : α → Int → Int) (F : Bl) (w : World) (p : GT.Ptr α) (x : α) (k : Int) (e : Ending) (w' : World) : Prop :=
  ∃ (y : α) (k' : Int), e = .returned (I k') ∧ Chg F w w' ∧ (∃ p', GT.cells y p' = GT.cells x p ∧ GT.own KK F w' y p') ∧ hd y k = k' ∧ k ≤ k' ∧ k' ≤ k + 16 * (SZ.sz x : Nat)
section
variable {P : Program} {n : Nat} {w0 : World} {M : Bl} {u : World} {N : Bl} {β : Nat → Nat} {σ : Sy} {a : Act} {w : World} {ops : Array Oper} {K' : Act → World → Prop} {Q : Exit → Act → World → Prop}
end
class SB (α : Type) [GT α] [SZ α] where
  B : Nat
  bd : ∀ {F : Bl} {w : World} {x : α} {p : GT.Ptr α}, GT.rd KK F w x p → SZ.sz x ≤ B
instance : SB Int := ⟨0, fun _ => Nat.le_refl _⟩
instance : SB Bool := ⟨0, fun _ => Nat.le_refl _⟩
theorem szsum_bd {α : Type} [GT α] [SZ α] {m : Nat} : ∀ (xs : List α), (∀ x, x ∈ xs → SZ.sz x ≤ m) → (xs.map SZ.sz).sum ≤ xs.length * m
  | [], _ => by simp
  | x :: r, h => by
    have := szsum_bd r fun y hy => h y (List.mem_cons_of_mem _ hy)
    have := h x List.mem_cons_self
    simp only [List.map_cons, List.sum_cons, List.length_cons, Nat.add_mul]
    omega
instance {α : Type} [GT α] [SZ α] [b : SB α] : SB (List α) := ⟨4194304 + 4194304 * b.B, fun {F w x p} h => by
  have h1 : x.length ≤ 4194304 := LRd.le h
  have h2 := szsum_bd (m := b.B) x fun y hy => by
    obtain ⟨i, hi, rfl⟩ := List.getElem_of_mem hy
    have := LRd.el h i hi
    rw [el_lt hi] at this
    exact b.bd this
  have h3 : x.length * b.B ≤ 4194304 * b.B := Nat.mul_le_mul_right _ h1
  rw [sz_list]
  unfold szsum
  omega⟩
instance : SB TSlot := ⟨0, fun _ => Nat.le_refl _⟩
instance : SB TEntry := ⟨0, fun _ => Nat.le_refl _⟩
instance : SB TIns := ⟨0, fun _ => Nat.le_refl _⟩
instance : SB TCtl := ⟨0, fun _ => Nat.le_refl _⟩
instance : SB TExit := ⟨0, fun _ => Nat.le_refl _⟩
instance : SB TAct := ⟨0, fun _ => Nat.le_refl _⟩
instance : SB TTold := ⟨0, fun _ => Nat.le_refl _⟩
instance : SB TKept := ⟨SB.B (List Bool) + SB.B (List TSlot), fun {F w x p} h => by
  have e := sz_Kept x
  have h0 := SB.bd (RKept.known (d := x) h)
  have h1 := SB.bd (RKept.slots (d := x) h)
  omega⟩
instance : SB TGuest := ⟨SB.B (List TIns) + SB.B (List TSlot) + SB.B (List TSlot) + SB.B (List Int), fun {F w x p} h => by
  have e := sz_Guest x
  have h0 := SB.bd (RGuest.prog (d := x) h)
  have h1 := SB.bd (RGuest.written (d := x) h)
  have h2 := SB.bd (RGuest.live (d := x) h)
  have h3 := SB.bd (RGuest.seen (d := x) h)
  omega⟩
instance : SB TMon := ⟨SB.B (List TSlot) + SB.B (List (List Int)) + SB.B (List Bool) + SB.B (List TGuest) + SB.B (List Int) + SB.B (List TKept), fun {F w x p} h => by
  have e := sz_Mon x
  have h0 := SB.bd (RMon.outer (d := x) h)
  have h1 := SB.bd (RMon.out (d := x) h)
  have h2 := SB.bd (RMon.dirty (d := x) h)
  have h3 := SB.bd (RMon.guests (d := x) h)
  have h4 := SB.bd (RMon.outs (d := x) h)
  have h5 := SB.bd (RMon.tables (d := x) h)
  omega⟩
instance : SB TBare := ⟨SB.B (List (List Int)) + SB.B (List TGuest) + SB.B (List Int), fun {F w x p} h => by
  have e := sz_Bare x
  have h0 := SB.bd (RBare.mem (d := x) h)
  have h1 := SB.bd (RBare.guests (d := x) h)
  have h2 := SB.bd (RBare.outs (d := x) h)
  omega⟩
instance : SB THost := ⟨SB.B (List (List Int)) + SB.B (List TMon) + SB.B (List TEntry) + SB.B (List TEntry), fun {F w x p} h => by
  have e := sz_Host x
  have h0 := SB.bd (RHost.mem (d := x) h)
  have h1 := SB.bd (RHost.mons (d := x) h)
  have h2 := SB.bd (RHost.buf (d := x) h)
  have h3 := SB.bd (RHost.iobuf (d := x) h)
  omega⟩
end Go.Proofs.Ytgonaioedbphgaa
