/- Pages that are looked up, in plain data. No program is named here. -/
import Derived.Test.YtgonaioedbphgaaSpec11
namespace Go.Proofs.Ytgonaioedbphgaa
open Go
set_option linter.unusedVariables false
set_option linter.unusedSimpArgs false
def f_findEntry (b : List TEntry) (tag page : Int) : TEntry × Bool :=
  match b.find? (fun e => f_samePg e tag page) with
  | some e => (e, true)
  | none => (⟨0, 0, 0, 0⟩, false)
def f_putEntry (b : List TEntry) (e : TEntry) : List TEntry := (f_flushPage b e.tag e.page ++ [e]).drop ((f_flushPage b e.tag e.page ++ [e]).length - 6)
def f_ask (k : TKept) (page : Int) : TSlot × Bool :=
  if ((0 ≤ page ∧ page < k.known.length) ∧ page < k.slots.length) ∧ el k.known page.toNat = true then (el k.slots page.toNat, true) else (⟨-1, 0⟩, false)
def f_bothRights (a b : Int) : Int := if f_within a 0 3 = true ∧ f_within b 0 3 = true then land64 a b else 0
def f_composeSlot (s : TSlot) (t : List TSlot) : TSlot :=
  if s.page = -1 ∨ (f_slotAt t s.page).page = -1 ∨ f_bothRights s.rights (f_slotAt t s.page).rights = 0 then ⟨-1, 0⟩ else ⟨(f_slotAt t s.page).page, f_bothRights s.rights (f_slotAt t s.page).rights⟩
def f_fill (k : TKept) (inner outer : List TSlot) (page : Int) : TKept :=
  if ((0 ≤ page ∧ page < k.known.length) ∧ page < k.slots.length) ∧ page < inner.length then ⟨k.known.set page.toNat true, k.slots.set page.toNat (f_composeSlot (el inner page.toNat) outer)⟩ else k
def f_dirt (h : THost) (m q : Int) : THost := f_setM h m { el h.mons m.toNat with dirty := (el h.mons m.toNat).dirty.set q.toNat true }
def f_q (h : THost) (m g page need : Int) : Int := (f_walkInner (el (el h.mons m.toNat).guests g.toNat).live page need).1
def f_lkOk (h : THost) (m g page need : Int) : Bool :=
  f_hostOk h && decide (0 ≤ m ∧ m < h.mons.length) && decide (0 ≤ g ∧ g < (el h.mons m.toNat).guests.length) && decide (need = 1 ∨ need = 2) && (f_walkInner (el (el h.mons m.toNat).guests g.toNat).live page need).2
def f_bufOf (h : THost) (io : Bool) : List TEntry := if io = true then h.iobuf else h.buf
def f_putIo (h : THost) (io : Bool) (e : TEntry) : THost := if io = true then ⟨h.mem, h.mons, h.buf, f_putEntry h.iobuf e⟩ else ⟨h.mem, h.mons, f_putEntry h.buf e, h.iobuf⟩
def f_found (b : List TEntry) (tag page need : Int) : Bool := (f_findEntry b tag page).2 && f_enough (f_findEntry b tag page).1.rights need
def f_unk (k : TKept) (page need : Int) : Bool := ((!(f_ask k page).2) || ((f_ask k page).1.page == -1)) || (!f_enough (f_ask k page).1.rights need)
def f_ent (k : TKept) (m g page : Int) : TEntry := ⟨f_tagOf m g, page, (f_ask k page).1.page, (f_ask k page).1.rights⟩
def f_fillT (z : TMon) (g page : Int) : List TKept := z.tables.set g.toNat (f_fill (el z.tables g.toNat) (el z.guests g.toNat).live z.outer page)
def f_filled (h : THost) (m g page : Int) : THost := f_setM h m { el h.mons m.toNat with tables := f_fillT (el h.mons m.toNat) g page }
def f_lkDone (h : THost) (m g page : Int) (io : Bool) : THost × Int × Bool :=
  (f_putIo h io (f_ent (el (el h.mons m.toNat).tables g.toNat) m g page), (f_ask (el (el h.mons m.toNat).tables g.toNat) page).1.page, true)
def f_lkTo (h : THost) (m g page need q : Int) (io : Bool) : THost × Int × Bool :=
  if f_found (f_bufOf h io) (f_tagOf m g) page need = true then (h, (f_findEntry (f_bufOf h io) (f_tagOf m g) page).1.host, true)
  else if f_unk (el (el h.mons m.toNat).tables g.toNat) page need = true then f_lkDone (f_filled (f_mend h m q need) m g page) m g page io
  else f_lkDone h m g page io
def f_dirtIf (h : THost) (m q need : Int) : THost := if need = 2 then f_dirt h m q else h
def f_lookup (h : THost) (m g page need : Int) (io : Bool) : THost × Int × Bool :=
  if f_lkOk h m g page need = true then f_lkTo (f_dirtIf h m (f_q h m g page need) need) m g page need (f_q h m g page need) io
  else (h, -1, false)
def f_hostDma (h : THost) (m g addr v : Int) : THost × Bool :=
  if (f_within addr 0 15 = true ∧ f_within v 0 99 = true) ∧ (f_lookup h m g (f_addrPage addr) 2 true).2.2 = true then
    (⟨f_withCell (f_lookup h m g (f_addrPage addr) 2 true).1.mem (f_lookup h m g (f_addrPage addr) 2 true).2.1 (f_addrCell addr) v, (f_lookup h m g (f_addrPage addr) 2 true).1.mons, (f_lookup h m g (f_addrPage addr) 2 true).1.buf, (f_lookup h m g (f_addrPage addr) 2 true).1.iobuf⟩, true)
  else (h, false)
def f_cellAt (m : List (List Int)) (p c : Int) : Int := if (0 ≤ p ∧ p < m.length) ∧ 0 ≤ c ∧ c < (el m p.toNat).length then el (el m p.toNat) c.toNat else 0
def f_hostRead (h : THost) (m g addr : Int) : THost × Int × Bool :=
  if f_within addr 0 15 = true ∧ (f_lookup h m g (f_addrPage addr) 1 true).2.2 = true then
    ((f_lookup h m g (f_addrPage addr) 1 true).1, f_cellAt (f_lookup h m g (f_addrPage addr) 1 true).1.mem (f_lookup h m g (f_addrPage addr) 1 true).2.1 (f_addrCell addr), true)
  else (h, 0, false)
end Go.Proofs.Ytgonaioedbphgaa
