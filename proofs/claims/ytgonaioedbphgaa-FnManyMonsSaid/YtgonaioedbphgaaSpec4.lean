/- What the functions compute, as plain functions on data (fourth part). No program is named here. -/
import Derived.Test.YtgonaioedbphgaaSpec3
import Derived.Test.YtgonaioedbphgaaSz
namespace Go.Proofs.Ytgonaioedbphgaa
open Go
def f_idx (n : Nat) (p : Nat → Bool) : List Int := ((List.range n).filter p).map fun (i : Nat) => (i : Int)
def f_freeIn (h : THost) : List Int := f_idx h.mem.length fun p => decide ((f_ownerOfPage h p).1 < 0)
def f_canRun (g : TGuest) : Bool := decide (g.exit = ⟨0, 0, false, 0⟩) && !g.halted
def f_runnable (l : List TGuest) : List Int := f_idx l.length fun i => f_canRun (el l i)
def f_runnableIn (h : THost) : List (List Int) := h.mons.map fun m => f_runnable m.guests
def f_usesOf (t : List TSlot) (page : Int) : List Int := f_idx t.length fun i => decide ((el t i).page = page)
def f_slotAt (t : List TSlot) (page : Int) : TSlot := if 0 ≤ page ∧ page < t.length then el t page.toNat else ⟨-1, 0⟩
def f_pageAt (m : List (List Int)) (page : Int) : List Int := if 0 ≤ page ∧ page < m.length then el m page.toNat else [0, 0, 0, 0]
def f_pageOf (h : THost) (m page : Int) : List Int :=
  if (0 ≤ m ∧ m < h.mons.length) ∧ 0 ≤ page ∧ page < 8 then
    (if (f_slotAt (el h.mons m.toNat).outer page).page ≠ -1 then f_pageAt h.mem (f_slotAt (el h.mons m.toNat).outer page).page else f_pageAt (el h.mons m.toNat).out page)
  else [0, 0, 0, 0]
theorem el_take {α : Type} [GT α] {xs : List α} {i k : Nat} (h : k < i) : el (xs.take i) k = el xs k := by
  unfold el
  rw [List.getD_eq_getElem?_getD, List.getD_eq_getElem?_getD, List.getElem?_take_of_lt h]
def f_bufferOk (b : List TEntry) : Bool :=
  (List.range b.length).all (fun i => (List.range i).all fun k => !(decide ((el b i).tag = (el b k).tag) && decide ((el b i).page = (el b k).page))) && decide ((b.length : Int) ≤ 6)
def stepSlot (u : Option (List Bool)) (s : TSlot) : Option (List Bool) := u.bind fun u => if s.page < 0 then some u else if el u s.page.toNat then none else some (u.set s.page.toNat true)
def stepMon (u : Option (List Bool)) (m : TMon) : Option (List Bool) := u.bind fun u => if f_monOk m then m.outer.foldl stepSlot (some u) else none
def f_hostHead (h : THost) : Bool := f_memOk h.mem 12 && f_within h.mons.length 1 3 && f_bufferOk h.buf && f_bufferOk h.iobuf
def f_hostUsed (h : THost) : Option (List Bool) := h.mons.foldl stepMon (some (List.replicate 12 false))
def f_hostOk (h : THost) : Bool := f_hostHead h && (f_hostUsed h).isSome
theorem fold_dead {α β : Type} [GT α] {f : Option β → α → Option β} {z u : Option β} {xs : List α} {k : Nat} (hk : k < xs.length) (hn : ∀ x, f none x = none) (h : (xs.take k).foldl f z = u) (h1 : f u (el xs k) = none) : xs.foldl f z = none := by
  have key : ∀ ys : List α, ys.foldl f none = none := fun ys => by
    induction ys with
    | nil => rfl
    | cons y r ih => simp only [List.foldl_cons, hn, ih]
  have e : xs = xs.take k ++ el xs k :: xs.drop (k + 1) := by
    rw [el_lt hk, ← List.drop_eq_getElem_cons hk, List.take_append_drop]
  rw [e, List.foldl_append, h, List.foldl_cons, h1, key]
theorem stepSlot_none (s : TSlot) : stepSlot none s = none := rfl
theorem stepMon_none (m : TMon) : stepMon none m = none := rfl
theorem stepSlot_neg {u : List Bool} {s : TSlot} (h : s.page < 0) : stepSlot (some u) s = some u := by simp [stepSlot, h]
theorem stepSlot_hit {u : List Bool} {s : TSlot} (h : ¬ s.page < 0) (h' : el u s.page.toNat = true) : stepSlot (some u) s = none := by simp [stepSlot, h, h']
theorem stepSlot_new {u : List Bool} {s : TSlot} (h : ¬ s.page < 0) (h' : el u s.page.toNat = false) : stepSlot (some u) s = some (u.set s.page.toNat true) := by simp [stepSlot, h, h']
theorem stepMon_bad {u : List Bool} {m : TMon} (h : f_monOk m = false) : stepMon (some u) m = none := by simp [stepMon, h]
theorem stepMon_ok {u : List Bool} {m : TMon} (h : f_monOk m = true) : stepMon (some u) m = m.outer.foldl stepSlot (some u) := by simp [stepMon, h]
theorem page_lt {m : TMon} (h : f_monOk m = true) (k : Nat) : (el m.outer k).page < 12 := by
  by_cases hk : k < m.outer.length
  · have h1 := tableOk_el (monOk_t h).2 hk
    simp only [f_slotOk, Bool.or_eq_true, Bool.and_eq_true, decide_eq_true_eq] at h1
    rcases h1 with h1 | h1
    · rw [h1]; decide
    · have := within_t h1.1.2; omega
  · unfold el
    rw [List.getD_eq_getElem?_getD, List.getElem?_eq_none (by omega)]
    decide
theorem hostOk_dead {h : THost} (e : f_hostUsed h = none) : f_hostOk h = false := by simp [f_hostOk, e]
def f_seenAs (h : THost) (m : Int) : TBare :=
  if 0 ≤ m ∧ m < h.mons.length then ⟨(List.range 8).map (fun (i : Nat) => f_pageOf h m (i : Int)), (el h.mons m.toNat).guests, (el h.mons m.toNat).outs, (el h.mons m.toNat).pend⟩ else ⟨[], [], [], 0⟩
def f_allSeenAs (h : THost) : List TBare := (List.range h.mons.length).map fun (i : Nat) => f_seenAs h (i : Int)
def f_isSeenAs (h : THost) (l : List TBare) : Bool := decide (f_allSeenAs h = l)
def f_sameSeen (a b : THost) : Bool := f_isSeenAs a (f_allSeenAs b)
def f_withMon (h : THost) (m : Int) (x : TMon) : THost := if 0 ≤ m ∧ m < h.mons.length then ⟨h.mem, h.mons.set m.toNat x, h.buf, h.iobuf⟩ else h
def f_setTraps (h : THost) (m traps : Int) : THost × Bool :=
  if f_hostOk h = true ∧ (0 ≤ m ∧ m < h.mons.length) ∧ 0 ≤ traps ∧ traps ≤ 3 then (⟨h.mem, h.mons.set m.toNat { el h.mons m.toNat with traps := traps }, h.buf, h.iobuf⟩, true) else (h, false)
end Go.Proofs.Ytgonaioedbphgaa
