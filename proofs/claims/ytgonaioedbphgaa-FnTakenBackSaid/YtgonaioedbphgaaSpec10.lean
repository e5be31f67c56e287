/- Pages that are guarded and sent out, in plain data. No program is named here. -/
import Derived.Test.YtgonaioedbphgaaSpec7
import Derived.Test.YtgonaioedbphgaaHp
namespace Go.Proofs.Ytgonaioedbphgaa
open Go
set_option linter.unusedVariables false
set_option linter.unusedSimpArgs false
def f_forgetUses (k : TKept) (inner : List TSlot) (page : Int) : TKept := (f_usesOf inner page).foldl f_forget k
def f_tabs (t : List TKept) (g : List TGuest) (page : Int) : Nat → List TKept
  | 0 => t
  | k + 1 => (f_tabs t g page k).set k (f_forgetUses (el t k) (el g k).live page)
theorem tabs_len (t : List TKept) (g : List TGuest) (page : Int) (k : Nat) : (f_tabs t g page k).length = t.length := by
  induction k with
  | zero => rfl
  | succ k ih => rw [f_tabs, List.length_set, ih]
theorem tabs_el (t : List TKept) (g : List TGuest) (page : Int) {k j : Nat} (h : k ≤ j) : el (f_tabs t g page k) j = el t j := by
  induction k with
  | zero => rfl
  | succ k ih =>
    rw [f_tabs]
    have e := ih (by omega)
    unfold el at e ⊢
    rw [List.getD_eq_getElem?_getD, List.getElem?_set_ne (by omega), ← List.getD_eq_getElem?_getD]
    exact e
def f_onHost (e : TEntry) (host : Int) : Bool := e.host == host
def f_flushHost (b : List TEntry) (host : Int) : List TEntry := f_without b fun e => f_onHost e host
def f_flushIf (b : List TEntry) (p : Int) : List TEntry := if p = -1 then b else f_flushHost b p
theorem flushIf_no {b : List TEntry} {p : Int} (h : p = -1) : f_flushIf b p = b := if_pos h
theorem flushIf_yes {b : List TEntry} {p : Int} (h : ¬ p = -1) : f_flushIf b p = f_flushHost b p := if_neg h
def f_inval (h : THost) (m page : Int) (s : TSlot) : THost :=
  ⟨h.mem, h.mons.set m.toNat { el h.mons m.toNat with tables := f_tabs (el h.mons m.toNat).tables (el h.mons m.toNat).guests page (el h.mons m.toNat).guests.length }, f_flushIf h.buf s.page, f_flushIf h.iobuf s.page⟩
def f_slotTo (h : THost) (m page : Int) (s : TSlot) : THost :=
  ⟨h.mem, h.mons.set m.toNat { el h.mons m.toNat with tables := f_tabs (el h.mons m.toNat).tables (el h.mons m.toNat).guests page (el h.mons m.toNat).guests.length, outer := (el h.mons m.toNat).outer.set page.toNat s },
    f_flushIf h.buf (el (el h.mons m.toNat).outer page.toNat).page, f_flushIf h.iobuf (el (el h.mons m.toNat).outer page.toNat).page⟩
def f_setM (h : THost) (m : Int) (x : TMon) : THost := ⟨h.mem, h.mons.set m.toNat x, h.buf, h.iobuf⟩
def f_hasPage (h : THost) (m page : Int) : Bool := f_l25Mon h m && f_within page 0 7
theorem monOk_lens {x : TMon} (h : f_monOk x = true) : x.outer.length = 8 ∧ x.out.length = 8 ∧ x.dirty.length = 8 ∧ x.tables.length = x.guests.length := by
  have h1 := (monOk_t h).1
  simp only [f_monOk, f_monHead, Bool.and_eq_true, decide_eq_true_eq] at h
  exact ⟨h1, h.1.1.1.1.2, h.1.1.1.2, h.1.1.1.1.1.1.2⟩
theorem hasPage_t {h : THost} {m page : Int} (e : f_hasPage h m page = true) : (0 ≤ m ∧ m < h.mons.length) ∧ (0 ≤ page ∧ page ≤ 7) ∧ (el h.mons m.toNat).outer.length = 8 ∧ (el h.mons m.toNat).out.length = 8 ∧ (el h.mons m.toNat).dirty.length = 8 ∧ (el h.mons m.toNat).tables.length = (el h.mons m.toNat).guests.length := by
  simp only [f_hasPage, Bool.and_eq_true] at e
  have h1 := l25Mon_t e.1
  exact ⟨h1.2, within_t e.2, monOk_lens (hostOk_mon h1.1 (by omega))⟩
theorem hasPage_slot {h : THost} {m page : Int} (e : f_hasPage h m page = true) : (el (el h.mons m.toNat).outer page.toNat) = ⟨-1, 0⟩ ∨ (0 ≤ (el (el h.mons m.toNat).outer page.toNat).page ∧ (el (el h.mons m.toNat).outer page.toNat).page ≤ 11) := by
  have h2 := hasPage_t e
  simp only [f_hasPage, Bool.and_eq_true] at e
  have h1 := l25Mon_t e.1
  have h3 := tableOk_el (monOk_t (hostOk_mon h1.1 (k := m.toNat) (by omega))).2 (k := page.toNat) (by omega)
  simp only [f_slotOk, Bool.or_eq_true, Bool.and_eq_true, decide_eq_true_eq] at h3
  rcases h3 with h3 | h3
  · exact .inl h3
  · exact .inr (within_t h3.1.2)
def f_slotP (h : THost) (m page : Int) : TSlot := el (el h.mons m.toNat).outer page.toNat
theorem slot_none {h : THost} {m page : Int} (e : f_hasPage h m page = true) (h1 : (el (el h.mons m.toNat).outer page.toNat).page = -1) : el (el h.mons m.toNat).outer page.toNat = ⟨-1, 0⟩ := by
  rcases hasPage_slot e with h2 | h2
  · exact h2
  · omega
theorem inval_bd {Y h : THost} {m page : Int} {s : TSlot} (e : Y = f_inval h m page s) (hm : m.toNat < h.mons.length) : Y.mons.length = h.mons.length ∧ (el Y.mons m.toNat).outer.length = (el h.mons m.toNat).outer.length ∧ (el Y.mons m.toNat).out.length = (el h.mons m.toNat).out.length ∧ (el Y.mons m.toNat).dirty.length = (el h.mons m.toNat).dirty.length ∧ (el Y.mons m.toNat).guests.length = (el h.mons m.toNat).guests.length ∧ (el Y.mons m.toNat).tables.length = (el h.mons m.toNat).tables.length := by
  subst e
  unfold f_inval
  simp only [el_set_self hm, List.length_set, tabs_len, and_self]
def f_guard (h : THost) (m page : Int) : THost × Bool :=
  if f_hasPage h m page = true then
    (if (el (el h.mons m.toNat).outer page.toNat).page = -1 then f_setM h m { el h.mons m.toNat with dirty := (el h.mons m.toNat).dirty.set page.toNat false }
     else f_slotTo (f_setM h m { el h.mons m.toNat with dirty := (el h.mons m.toNat).dirty.set page.toNat false }) m page ⟨(el (el h.mons m.toNat).outer page.toNat).page, 1⟩, true)
  else (h, false)
def f_send (h : THost) (m page : Int) : THost :=
  f_slotTo (f_setM h m { el h.mons m.toNat with out := (el h.mons m.toNat).out.set page.toNat (f_pageAt h.mem (el (el h.mons m.toNat).outer page.toNat).page) }) m page ⟨-1, 0⟩
def f_pageOut (h : THost) (m page : Int) : THost × Bool :=
  if f_hasPage h m page = true ∧ ¬ (el (el h.mons m.toNat).outer page.toNat).page = -1 then (f_send h m page, true) else (h, false)
end Go.Proofs.Ytgonaioedbphgaa
