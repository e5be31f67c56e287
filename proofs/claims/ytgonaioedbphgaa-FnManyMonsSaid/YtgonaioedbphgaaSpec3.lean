/- What the functions compute, as plain functions on data (third part). No program is named here. -/
import Derived.Test.YtgonaioedbphgaaSpec2
namespace Go.Proofs.Ytgonaioedbphgaa
open Go
theorem all_step {α : Type} [GT α] {xs : List α} {p : α → Bool} {k : Nat} (h : k < xs.length) (e : (xs.take k).all p = true) (e' : p (el xs k) = true) : (xs.take (k + 1)).all p = true := by
  rw [take_el h, List.all_append]; simp [e, e']
theorem all_bad {α : Type} [GT α] {xs : List α} {p : α → Bool} {k : Nat} (h : k < xs.length) (e' : p (el xs k) = false) : xs.all p = false := by
  rw [← Bool.not_eq_true]
  intro hc
  rw [List.all_eq_true] at hc
  have hx := hc (el xs k) (by rw [el_lt h]; exact List.getElem_mem h)
  rw [hx] at e'
  cases e'
theorem all_end {α : Type} {xs : List α} {p : α → Bool} {k : Nat} (h : xs.length ≤ k) (e : (xs.take k).all p = true) : xs.all p = true := by rwa [take_all h] at e
theorem all_el {α : Type} [GT α] {xs : List α} {p : α → Bool} (e : xs.all p = true) {k : Nat} (h : k < xs.length) : p (el xs k) = true := by
  rw [List.all_eq_true] at e
  exact e _ (by rw [el_lt h]; exact List.getElem_mem h)
theorem fold_step {α β : Type} [GT α] {f : β → α → β} {z : β} {xs : List α} {k : Nat} (h : k < xs.length) : (xs.take (k + 1)).foldl f z = f ((xs.take k).foldl f z) (el xs k) := by
  rw [take_el h, List.foldl_append]; rfl
theorem rng_step {p : Nat → Bool} {k : Nat} (e : (List.range k).all p = true) (e' : p k = true) : (List.range (k + 1)).all p = true := by
  rw [List.range_succ, List.all_append]; simp [e, e']
theorem rng_bad {p : Nat → Bool} {k n : Nat} (h : k < n) (e' : p k = false) : (List.range n).all p = false := by
  rw [← Bool.not_eq_true]
  intro hc
  rw [List.all_eq_true] at hc
  have hx := hc k (List.mem_range.2 h)
  rw [hx] at e'
  cases e'
theorem rng_el {p : Nat → Bool} {n k : Nat} (e : (List.range n).all p = true) (h : k < n) : p k = true := by
  rw [List.all_eq_true] at e
  exact e _ (List.mem_range.2 h)
def f_knTables (t : List TKept) (n : Int) : Int := t.foldl (fun n k => IntKind.i64.wrap (n + f_knownIn k)) n
def f_knownOf (h : THost) : Int := h.mons.foldl (fun n m => f_knTables m.tables n) 0
def f_insOk (i : TIns) : Bool :=
  if i.opc = 1 ∨ i.opc = 2 ∨ i.opc = 5 ∨ i.opc = 6 then f_within i.x 0 99
  else if i.opc = 3 ∨ i.opc = 4 then f_within i.x 0 15
  else if i.opc = 7 then i.x == 0
  else if i.opc = 8 then f_within i.x 0 11 else false
def f_progOk (p : List TIns) : Bool := p.all f_insOk && f_within p.length 1 12
def f_slotOk (s : TSlot) (pages : Int) : Bool := decide (s = ⟨-1, 0⟩) || (decide (0 < pages) && f_within s.page 0 (pages - 1) && f_within s.rights 1 3)
def f_tableOk (t : List TSlot) (size pages : Int) : Bool := t.all (fun s => f_slotOk s pages) && ((t.length : Int) == size)
theorem tableOk_t {t : List TSlot} {size pages : Int} (h : f_tableOk t size pages = true) : (t.length : Int) = size := by
  simp [f_tableOk] at h; exact h.2
theorem tableOk_el {t : List TSlot} {size pages : Int} (h : f_tableOk t size pages = true) {k : Nat} (hk : k < t.length) : f_slotOk (el t k) pages = true := by
  simp only [f_tableOk, Bool.and_eq_true] at h
  exact all_el h.1 hk
def f_pageOk (c : List Int) : Bool := c.all (fun v => f_within v 0 99) && ((c.length : Int) == 4)
def f_memOk (m : List (List Int)) (pages : Int) : Bool := m.all f_pageOk && ((m.length : Int) == pages)
def f_enough (r n : Int) : Bool := f_within r 0 3 && f_within n 0 3 && (land64 r n == n)
def f_ctlFaults (c : TCtl) : List Int :=
  (if f_within c.traps 0 3 then [] else [1]) ++ (if f_within c.post 0 255 then [] else [2]) ++ (if c.post ≠ 0 ∧ c.opn = false then [3] else []) ++ (if c.traps = 2 ∧ c.post ≠ 0 then [4] else [])
def f_ctlOk (c : TCtl) : Bool := ((f_ctlFaults c).length : Int) == 0
def f_exitOk (e : TExit) : Bool :=
  if e.kind = 0 ∨ e.kind = 4 then decide (e.page = 0) && !e.wr && decide (e.n = 0)
  else if e.kind = 1 then f_within e.page 0 3 && decide (e.n = 0)
  else if e.kind = 2 ∨ e.kind = 3 then f_within e.n 0 99 && decide (e.page = 0) && !e.wr else false
def f_guestOk (g : TGuest) : Bool :=
  f_progOk g.prog && f_within g.acc 0 99 && f_within g.pc 0 12 && f_tableOk g.written 4 8 && f_tableOk g.live 4 8 && f_ctlOk g.ctl && f_within g.pend 0 255 && f_exitOk g.exit && decide ((g.seen.length : Int) ≤ 40)
def f_pageSlot (m : TMon) (i : Nat) : Bool :=
  if el m.outer i = ⟨-1, 0⟩ then f_pageOk (el m.out i) else f_enough (el m.outer i).rights 1 && decide ((el m.out i).length = 0)
def f_monHead (m : TMon) : Bool :=
  f_within m.guests.length 1 2 && decide (m.tables.length = m.guests.length) && f_tableOk m.outer 8 12 && decide (m.out.length = 8) && decide (m.dirty.length = 8)
def f_monTail (m : TMon) : Bool := decide (m.outs.length ≤ 40) && f_within m.pend 0 255 && f_within m.traps 0 3 && f_within m.owned 0 1000000000
def f_monOk (m : TMon) : Bool := f_monHead m && f_monTail m && m.guests.all f_guestOk && (List.range 8).all (f_pageSlot m)
theorem monOk_t {m : TMon} (h : f_monOk m = true) : m.outer.length = 8 ∧ f_tableOk m.outer 8 12 = true := by
  simp only [f_monOk, f_monHead, Bool.and_eq_true] at h
  have h1 := h.1.1.1.1.1.2
  exact ⟨by have := tableOk_t h1; omega, h1⟩
def f_monAt (h : THost) (m : Int) : TMon × Bool := if 0 ≤ m ∧ m < h.mons.length then (el h.mons m.toNat, true) else (⟨[], [], [], [], [], 0, 0, [], 0⟩, false)
def f_ownOf (h : THost) (m : Int) : Int := (f_monAt h m).1.owned
end Go.Proofs.Ytgonaioedbphgaa
