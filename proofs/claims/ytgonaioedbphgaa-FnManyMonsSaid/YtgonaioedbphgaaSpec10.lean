/- Pages that are guarded and sent out, in plain data. No program is named here. -/
import Derived.Test.YtgonaioedbphgaaSpec7
import Derived.Test.YtgonaioedbphgaaHp
namespace Go.Proofs.Ytgonaioedbphgaa
open Go
set_option linter.unusedVariables false
set_option linter.unusedSimpArgs false
def f_forgetUses (k : TKept) (inner : List TSlot) (page : Int) : TKept := (f_usesOf inner page).foldl f_forget k
def f_tabs (t : List TKept) (g : List TGuest) (page : Int) : Nat → List TKept
  | 0 => t
  | k + 1 => (f_tabs t g page k).set k (f_forgetUses (el t k) (el g k).live page)
def f_onHost (e : TEntry) (host : Int) : Bool := e.host == host
def f_flushHost (b : List TEntry) (host : Int) : List TEntry := f_without b fun e => f_onHost e host
def f_flushIf (b : List TEntry) (p : Int) : List TEntry := if p = -1 then b else f_flushHost b p
def f_inval (h : THost) (m page : Int) (s : TSlot) : THost :=
  ⟨h.mem, h.mons.set m.toNat { el h.mons m.toNat with tables := f_tabs (el h.mons m.toNat).tables (el h.mons m.toNat).guests page (el h.mons m.toNat).guests.length }, f_flushIf h.buf s.page, f_flushIf h.iobuf s.page⟩
def f_slotTo (h : THost) (m page : Int) (s : TSlot) : THost :=
  ⟨h.mem, h.mons.set m.toNat { el h.mons m.toNat with tables := f_tabs (el h.mons m.toNat).tables (el h.mons m.toNat).guests page (el h.mons m.toNat).guests.length, outer := (el h.mons m.toNat).outer.set page.toNat s },
    f_flushIf h.buf (el (el h.mons m.toNat).outer page.toNat).page, f_flushIf h.iobuf (el (el h.mons m.toNat).outer page.toNat).page⟩
def f_setM (h : THost) (m : Int) (x : TMon) : THost := ⟨h.mem, h.mons.set m.toNat x, h.buf, h.iobuf⟩
def f_hasPage (h : THost) (m page : Int) : Bool := f_l25Mon h m && f_within page 0 7
def f_slotP (h : THost) (m page : Int) : TSlot := el (el h.mons m.toNat).outer page.toNat
def f_guard (h : THost) (m page : Int) : THost × Bool :=
  if f_hasPage h m page = true then
    (if (el (el h.mons m.toNat).outer page.toNat).page = -1 then f_setM h m { el h.mons m.toNat with dirty := (el h.mons m.toNat).dirty.set page.toNat false }
     else f_slotTo (f_setM h m { el h.mons m.toNat with dirty := (el h.mons m.toNat).dirty.set page.toNat false }) m page ⟨(el (el h.mons m.toNat).outer page.toNat).page, 1⟩, true)
  else (h, false)
def f_send (h : THost) (m page : Int) : THost :=
  f_slotTo (f_setM h m { el h.mons m.toNat with out := (el h.mons m.toNat).out.set page.toNat (f_pageAt h.mem (el (el h.mons m.toNat).outer page.toNat).page) }) m page ⟨-1, 0⟩
def f_pageOut (h : THost) (m page : Int) : THost × Bool :=
  if f_hasPage h m page = true ∧ ¬ (el (el h.mons m.toNat).outer page.toNat).page = -1 then (f_send h m page, true) else (h, false)
end Go.Proofs.Ytgonaioedbphgaa
