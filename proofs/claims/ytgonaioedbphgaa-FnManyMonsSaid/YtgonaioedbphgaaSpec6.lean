/- Hosts in which a bare machine's step is done to a monitor, in plain data. No program is named here. -/
import Derived.Test.YtgonaioedbphgaaSpec5
namespace Go.Proofs.Ytgonaioedbphgaa
open Go
set_option linter.unusedVariables false
set_option linter.unusedSimpArgs false
def f_brought (n a b : Int) : Int := if b < a ∨ n < a then a else if n > b then b else n
theorem brought_bd (n : Int) : 0 ≤ f_brought n 0 24 ∧ f_brought n 0 24 ≤ 24 := by
  unfold f_brought
  split
  · omega
  · split <;> omega
theorem repl_next {α : Type} {n k : Nat} {x : α} (h : n = k + 1) : List.replicate n x = List.replicate k x ++ [x] := by
  subst h; exact List.replicate_succ'
def f_withGuest (b : TBare) (g : Int) (x : TGuest) : TBare := if 0 ≤ g ∧ g < b.guests.length then ⟨b.mem, b.guests.set g.toNat x, b.outs, b.pend⟩ else b
def f_changed (b : TBare) (g : Int) (c : Bool) (F : TGuest → TGuest) : TBare × Bool :=
  if f_bareOk b = true ∧ (0 ≤ g ∧ g < b.guests.length) ∧ c = true then (⟨b.mem, b.guests.set g.toNat (F (el b.guests g.toNat)), b.outs, b.pend⟩, true) else (b, false)
def f_view (x : TMon) : TBare := ⟨List.replicate 8 (List.replicate 4 0), x.guests, x.outs, x.pend⟩
def f_back (h : THost) (m : Int) (b : TBare) : THost := ⟨h.mem, h.mons.set m.toNat { el h.mons m.toNat with guests := b.guests, pend := b.pend }, h.buf, h.iobuf⟩
def f_l25Mon (h : THost) (m : Int) : Bool := f_hostOk h && f_within m 0 ((h.mons.length : Int) - 1)
def f_reflected (h : THost) (m : Int) (r : TBare × Bool) : THost × Bool :=
  if (f_hostOk h = true ∧ 0 ≤ m ∧ m < h.mons.length) ∧ r.2 = true then (f_back h m r.1, true) else (h, false)
structure Loc (r : TBare → TBare × Bool) : Prop where
  eq : ∀ b b', f_bareOk b = f_bareOk b' → b.guests = b'.guests → b.outs = b'.outs → b.pend = b'.pend → (r b).2 = (r b').2 ∧ (r b).1.guests = (r b').1.guests ∧ (r b).1.pend = (r b').1.pend
  no : ∀ b, (r b).2 = false → (r b).1.guests = b.guests ∧ (r b).1.pend = b.pend
def f_bareCtl (b : TBare) (g : Int) (c : TCtl) : TBare × Bool := f_changed b g (f_ctlOk c) (fun x => { x with ctl := c })
def f_hostCtl (h : THost) (m g : Int) (c : TCtl) : THost × Bool := f_reflected h m (f_bareCtl (f_seenAs h m) g c)
def f_hostPost (h : THost) (m n : Int) : THost × Bool := f_reflected h m (f_barePost (f_seenAs h m) n)
def f_bareInject (b : TBare) (g n : Int) : TBare × Bool := f_changed b g (f_postIrq (f_guestAt b g).1.pend n).2 (fun x => { x with pend := (f_postIrq (f_guestAt b g).1.pend n).1 })
def f_hostInject (h : THost) (m g n : Int) : THost × Bool := f_reflected h m (f_bareInject (f_seenAs h m) g n)
def f_moved (g : TGuest) : TGuest := { g with pc := if g.pc ≥ 12 then 12 else g.pc + 1 }
def f_held (g : TGuest) : TGuest := f_moved { g with halted := true }
def f_exitOf (b : TBare) (g : Int) : TExit := (f_guestAt b g).1.exit
def f_resume (kind : Int) (x : TGuest) : TGuest := if kind = 4 then f_held { x with exit := ⟨0, 0, false, 0⟩ } else { x with exit := ⟨0, 0, false, 0⟩ }
def f_bareResume (b : TBare) (g : Int) : TBare × Bool := f_changed b g ((f_exitOf b g).kind == 1 || (f_exitOf b g).kind == 4) (fun x => f_resume (f_exitOf b g).kind x)
def f_hostResume (h : THost) (m g : Int) : THost × Bool := f_reflected h m (f_bareResume (f_seenAs h m) g)
def f_answer (kind v : Int) (x : TGuest) : TGuest := f_moved { (if kind = 2 then { x with acc := v } else x) with exit := ⟨0, 0, false, 0⟩ }
def f_bareAnswer (b : TBare) (g v : Int) : TBare × Bool := f_changed b g (((f_exitOf b g).kind == 2 || (f_exitOf b g).kind == 3) && f_within v 0 99) (fun x => f_answer (f_exitOf b g).kind v x)
def f_hostAnswer (h : THost) (m g v : Int) : THost × Bool := f_reflected h m (f_bareAnswer (f_seenAs h m) g v)
def f_withSlot (t : List TSlot) (p : Int) (s : TSlot) : List TSlot := if 0 ≤ p ∧ p < t.length then t.set p.toNat s else t
def f_bareSet (b : TBare) (g page : Int) (s : TSlot) : TBare × Bool := f_changed b g (f_within page 0 3 && f_slotOk s 8) (fun x => { x with written := f_withSlot x.written page s })
def f_hostSet (h : THost) (m g page : Int) (s : TSlot) : THost × Bool := f_reflected h m (f_bareSet (f_seenAs h m) g page s)
end Go.Proofs.Ytgonaioedbphgaa
