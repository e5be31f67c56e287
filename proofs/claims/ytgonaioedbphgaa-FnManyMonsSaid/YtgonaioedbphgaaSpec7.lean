/- Flushes of pages, in plain data. No program is named here. -/
import Derived.Test.YtgonaioedbphgaaSpec6
namespace Go.Proofs.Ytgonaioedbphgaa
open Go
set_option linter.unusedVariables false
set_option linter.unusedSimpArgs false
def f_samePg (e : TEntry) (tag page : Int) : Bool := (e.tag == tag) && (e.page == page)
def f_without (b : List TEntry) (p : TEntry → Bool) : List TEntry := b.filter fun e => !p e
def f_flushPage (b : List TEntry) (tag page : Int) : List TEntry := f_without b fun e => f_samePg e tag page
def f_tagOf (m g : Int) : Int := if (0 ≤ m ∧ m ≤ 2) ∧ 0 ≤ g ∧ g ≤ 1 then 1 + g + m * 2 else 0
def f_bareFlush (b : TBare) (g page : Int) : TBare × Bool := f_changed b g (f_within page 0 3) (fun x => { x with live := f_withSlot x.live page (f_slotAt x.written page) })
def f_flushed (h : THost) (m g page : Int) : THost :=
  ⟨h.mem, h.mons.set m.toNat { el h.mons m.toNat with tables := (el h.mons m.toNat).tables.set g.toNat (f_forget (el (el h.mons m.toNat).tables g.toNat) page) }, f_flushPage h.buf (f_tagOf m g) page, f_flushPage h.iobuf (f_tagOf m g) page⟩
def f_hostFlush (h : THost) (m g page : Int) : THost × Bool :=
  if (f_reflected h m (f_bareFlush (f_seenAs h m) g page)).2 = true then (f_flushed (f_reflected h m (f_bareFlush (f_seenAs h m) g page)).1 m g page, true) else (h, false)
end Go.Proofs.Ytgonaioedbphgaa
