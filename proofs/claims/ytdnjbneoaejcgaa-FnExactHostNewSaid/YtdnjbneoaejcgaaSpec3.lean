/- What the functions compute, as plain functions on data (third part). No program is named here. -/
import Derived.Test.YtdnjbneoaejcgaaSpec2
namespace Go.Proofs.Ytdnjbneoaejcgaa
open Go
def f_knTables (t : List TKept) (n : Int) : Int := t.foldl (fun n k => IntKind.i64.wrap (n + f_knownIn k)) n
def f_knownOf (h : THost) : Int := h.mons.foldl (fun n m => f_knTables m.tables n) 0
def f_insOk (i : TIns) : Bool :=
  if i.opc = 1 ∨ i.opc = 2 ∨ i.opc = 5 ∨ i.opc = 6 then f_within i.x 0 99
  else if i.opc = 3 ∨ i.opc = 4 then f_within i.x 0 15
  else if i.opc = 7 then i.x == 0
  else if i.opc = 8 then f_within i.x 0 11 else false
def f_progOk (p : List TIns) : Bool := p.all f_insOk && f_within p.length 1 12
def f_slotOk (s : TSlot) (pages : Int) : Bool := decide (s = ⟨-1, 0⟩) || (decide (0 < pages) && f_within s.page 0 (pages - 1) && f_within s.rights 1 3)
def f_tableOk (t : List TSlot) (size pages : Int) : Bool := t.all (fun s => f_slotOk s pages) && ((t.length : Int) == size)
def f_pageOk (c : List Int) : Bool := c.all (fun v => f_within v 0 99) && ((c.length : Int) == 4)
def f_memOk (m : List (List Int)) (pages : Int) : Bool := m.all f_pageOk && ((m.length : Int) == pages)
def f_enough (r n : Int) : Bool := f_within r 0 3 && f_within n 0 3 && (land64 r n == n)
def f_ctlFaults (c : TCtl) : List Int :=
  (if f_within c.traps 0 3 then [] else [1]) ++ (if f_within c.post 0 255 then [] else [2]) ++ (if c.post ≠ 0 ∧ c.opn = false then [3] else []) ++ (if c.traps = 2 ∧ c.post ≠ 0 then [4] else [])
def f_ctlOk (c : TCtl) : Bool := ((f_ctlFaults c).length : Int) == 0
def f_exitOk (e : TExit) : Bool :=
  if e.kind = 0 ∨ e.kind = 4 then decide (e.page = 0) && !e.wr && decide (e.n = 0)
  else if e.kind = 1 then f_within e.page 0 3 && decide (e.n = 0)
  else if e.kind = 2 ∨ e.kind = 3 then f_within e.n 0 99 && decide (e.page = 0) && !e.wr else false
def f_guestOk (g : TGuest) : Bool :=
  f_progOk g.prog && f_within g.acc 0 99 && f_within g.pc 0 12 && f_tableOk g.written 4 8 && f_tableOk g.live 4 8 && f_ctlOk g.ctl && f_within g.pend 0 255 && f_exitOk g.exit && decide ((g.seen.length : Int) ≤ 40)
def f_pageSlot (m : TMon) (i : Nat) : Bool :=
  if el m.outer i = ⟨-1, 0⟩ then f_pageOk (el m.out i) else f_enough (el m.outer i).rights 1 && decide ((el m.out i).length = 0)
def f_monHead (m : TMon) : Bool :=
  f_within m.guests.length 1 2 && decide (m.tables.length = m.guests.length) && f_tableOk m.outer 8 12 && decide (m.out.length = 8) && decide (m.dirty.length = 8)
def f_monTail (m : TMon) : Bool := decide (m.outs.length ≤ 40) && f_within m.pend 0 255 && f_within m.traps 0 3 && f_within m.owned 0 1000000000
def f_monOk (m : TMon) : Bool := f_monHead m && f_monTail m && m.guests.all f_guestOk && (List.range 8).all (f_pageSlot m)
def f_monAt (h : THost) (m : Int) : TMon × Bool := if 0 ≤ m ∧ m < h.mons.length then (el h.mons m.toNat, true) else (⟨[], [], [], [], [], 0, 0, [], 0⟩, false)
def f_ownOf (h : THost) (m : Int) : Int := (f_monAt h m).1.owned
end Go.Proofs.Ytdnjbneoaejcgaa
