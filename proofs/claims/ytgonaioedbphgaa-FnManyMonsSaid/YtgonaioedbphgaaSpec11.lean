/- Pages that are sent out, fetched and mended, in plain data. No program is named here. -/
import Derived.Test.YtgonaioedbphgaaSpec10
namespace Go.Proofs.Ytgonaioedbphgaa
open Go
set_option linter.unusedVariables false
set_option linter.unusedSimpArgs false
def slotN (p : Int) (l : List TSlot) : Nat := (l.filter fun s => decide (s.page = p)).length
def ownN (p : Int) (ms : List TMon) : Nat := (ms.map fun x => slotN p x.outer).sum
def one (c : Prop) [Decidable c] : Nat := if c then 1 else 0
def lens (x : TMon) : Nat × Nat × Nat × Nat × Nat × Nat := (x.outer.length, x.out.length, x.dirty.length, x.guests.length, x.tables.length, x.outs.length)
def f_sendFirst (h : THost) : THost := f_send h (f_ownerOfPage h 0).1 (f_ownerOfPage h 0).2
def f_withPage (m : List (List Int)) (p : Int) (c : List Int) : List (List Int) := if (0 ≤ p ∧ p < m.length) ∧ f_pageOk c = true then m.set p.toNat c else m
def f_room (h : THost) : THost := if 0 < (f_freeIn h).length then h else f_sendFirst h
def f_putIn (h : THost) (m page : Int) : THost :=
  f_slotTo ⟨f_withPage h.mem (el (f_freeIn h) 0) (el (el h.mons m.toNat).out page.toNat), h.mons.set m.toNat { el h.mons m.toNat with out := (el h.mons m.toNat).out.set page.toNat [] }, h.buf, h.iobuf⟩ m page ⟨el (f_freeIn h) 0, 3⟩
def f_fetch (h : THost) (m page : Int) : THost := f_putIn (f_room h) m page
def f_pageIn (h : THost) (m page : Int) : THost × Bool :=
  if f_hasPage h m page = true ∧ (el (el h.mons m.toNat).outer page.toNat).page = -1 then (f_fetch h m page, true) else (h, false)
def f_mid (h : THost) (m page : Int) : THost := if (el (el h.mons m.toNat).outer page.toNat).page = -1 then f_fetch h m page else h
def f_wr (h : THost) (m page : Int) : THost :=
  if f_enough (el (el h.mons m.toNat).outer page.toNat).rights 2 = true then f_setM h m { el h.mons m.toNat with dirty := (el h.mons m.toNat).dirty.set page.toNat true }
  else f_slotTo (f_setM h m { el h.mons m.toNat with dirty := (el h.mons m.toNat).dirty.set page.toNat true }) m page ⟨(el (el h.mons m.toNat).outer page.toNat).page, 3⟩
def f_mend (h : THost) (m page need : Int) : THost := if f_enough need 2 = true then f_wr (f_mid h m page) m page else f_mid h m page
def f_mendTop (h : THost) (m page need : Int) : THost × Bool := if f_hasPage h m page = true ∧ f_within need 1 3 = true then (f_mend h m page need, true) else (h, false)
def f_barePoke (b : TBare) (page cell v : Int) : TBare × Bool :=
  if f_bareOk b = true ∧ (0 ≤ page ∧ page < 8) ∧ (0 ≤ cell ∧ cell < 4) ∧ f_within v 0 99 = true then (⟨f_withCell b.mem page cell v, b.guests, b.outs, b.pend⟩, true) else (b, false)
def f_pokeOk (h : THost) (m page cell v : Int) : Bool := f_hasPage h m page && f_within cell 0 3 && f_within v 0 99
def f_hostPoke (h : THost) (m page cell v : Int) : THost × Bool :=
  if f_pokeOk h m page cell v = true then (⟨f_withCell (f_mend h m page 2).mem (el (el (f_mend h m page 2).mons m.toNat).outer page.toNat).page cell v, (f_mend h m page 2).mons, (f_mend h m page 2).buf, (f_mend h m page 2).iobuf⟩, true) else (h, false)
end Go.Proofs.Ytgonaioedbphgaa
