/- What the functions compute, as plain functions on data (fourth part). No program is named here. -/
import Derived.Test.YtcoabfmpdnlfdaaSpec3
namespace Go.Proofs.Ytcoabfmpdnlfdaa
open Go

/-! ### The numbers below n that have a property -/
def f_idx (n : Nat) (p : Nat → Bool) : List Int := ((List.range n).filter p).map fun (i : Nat) => (i : Int)
theorem idx_zero (p : Nat → Bool) : f_idx 0 p = [] := rfl
theorem idx_step_t {k : Nat} {p : Nat → Bool} (h : p k = true) : f_idx (k + 1) p = f_idx k p ++ [(k : Int)] := by
  unfold f_idx; rw [List.range_succ, List.filter_append, List.map_append]; simp [h]
theorem idx_step_f {k : Nat} {p : Nat → Bool} (h : p k = false) : f_idx (k + 1) p = f_idx k p := by
  unfold f_idx; rw [List.range_succ, List.filter_append, List.map_append]; simp [h]
theorem idx_len (n : Nat) (p : Nat → Bool) : (f_idx n p).length ≤ n := by
  unfold f_idx; rw [List.length_map]; exact Nat.le_trans (List.length_filter_le _ _) (by simp)
def f_freeIn (h : THost) : List Int := f_idx h.mem.length fun p => decide ((f_ownerOfPage h p).1 < 0)
def f_canRun (g : TGuest) : Bool := decide (g.exit = ⟨0, 0, false, 0⟩) && !g.halted
def f_runnable (l : List TGuest) : List Int := f_idx l.length fun i => f_canRun (el l i)
def f_runnableIn (h : THost) : List (List Int) := h.mons.map fun m => f_runnable m.guests
theorem map_step {α β : Type} [GT α] {xs : List α} {f : α → β} {k : Nat} (h : k < xs.length) : (xs.take (k + 1)).map f = (xs.take k).map f ++ [f (el xs k)] := by
  rw [take_el h, List.map_append]; rfl
theorem map_end {α β : Type} {xs : List α} {f : α → β} {k : Nat} (h : xs.length ≤ k) : (xs.take k).map f = xs.map f := by rw [take_all h]
def f_usesOf (t : List TSlot) (page : Int) : List Int := f_idx t.length fun i => decide ((el t i).page = page)
def f_slotAt (t : List TSlot) (page : Int) : TSlot := if 0 ≤ page ∧ page < t.length then el t page.toNat else ⟨-1, 0⟩
theorem slotAt_r {K : Nat} {F : Bl} {w : World} {t : List TSlot} {p : LP TSlot} (h : GT.rd K F w t p) (page : Int) : RSlot (f_slotAt t page) := by
  unfold f_slotAt
  split
  · exact LRd.el h _ (by omega)
  · exact ⟨⟨by decide, by decide⟩, ⟨by decide, by decide⟩⟩
def f_pageAt (m : List (List Int)) (page : Int) : List Int := if 0 ≤ page ∧ page < m.length then el m page.toNat else [0, 0, 0, 0]
def f_pageOf (h : THost) (m page : Int) : List Int :=
  if (0 ≤ m ∧ m < h.mons.length) ∧ 0 ≤ page ∧ page < 8 then
    (if (f_slotAt (el h.mons m.toNat).outer page).page ≠ -1 then f_pageAt h.mem (f_slotAt (el h.mons m.toNat).outer page).page else f_pageAt (el h.mons m.toNat).out page)
  else [0, 0, 0, 0]
/-! ### Buffers -/
theorem el_take {α : Type} [GT α] {xs : List α} {i k : Nat} (h : k < i) : el (xs.take i) k = el xs k := by
  unfold el
  rw [List.getD_eq_getElem?_getD, List.getD_eq_getElem?_getD, List.getElem?_take_of_lt h]
def f_bufferOk (b : List TEntry) : Bool :=
  (List.range b.length).all (fun i => (List.range i).all fun k => !(decide ((el b i).tag = (el b k).tag) && decide ((el b i).page = (el b k).page))) && decide ((b.length : Int) ≤ 6)
end Go.Proofs.Ytcoabfmpdnlfdaa
