/- The size of data: the sum of the lengths of all lists in it. No program is named here. -/
import Derived.Test.YtomgmpbipaldaaaGreatSpec1
namespace Go.Proofs.YtomgmpbipaldaaaGreat
open Go
class SZ (α : Type) [GT α] where
  sz : α → Nat
  cut : ∀ {K K' : Nat} {F : Bl} {w : World} {x : α} {p : GT.Ptr α}, GT.rd K F w x p → sz x ≤ K' → GT.rd K' F w x p
def szsum {α : Type} [GT α] [SZ α] (xs : List α) : Nat := (xs.map SZ.sz).sum
instance : SZ Int where
  sz _ := 0
  cut h _ := h
instance : SZ Bool where
  sz _ := 0
  cut h _ := h
theorem f_sz_cs (n : Nat) (left : Int) : (left - n < 0 ∧ f_sz n left = -1) ∨ (0 ≤ left - n ∧ f_sz n left = left - n) := by
  unfold f_sz; split <;> omega
section
variable {α : Type} [GT α] [SZ α]
theorem szsum_nil : szsum ([] : List α) = 0 := rfl
theorem szsum_cons (x : α) (xs : List α) : szsum (x :: xs) = SZ.sz x + szsum xs := by simp [szsum]
theorem szsum_append (xs ys : List α) : szsum (xs ++ ys) = szsum xs + szsum ys := by simp [szsum]
theorem szsum_split (xs : List α) (k : Nat) : szsum xs = szsum (xs.take k) + szsum (xs.drop k) := by rw [← szsum_append, List.take_append_drop]
theorem szsum_take {xs : List α} {k : Nat} (h : k < xs.length) : szsum (xs.take (k + 1)) = szsum (xs.take k) + SZ.sz (el xs k) := by
  rw [List.take_succ_eq_append_getElem h, szsum_append]
  simp [szsum, el, h]
theorem szsum_take_le (xs : List α) (k : Nat) : szsum (xs.take k) ≤ szsum xs := by rw [szsum_split xs k]; omega
theorem szsum_all {xs : List α} {k : Nat} (h : xs.length ≤ k) : szsum (xs.take k) = szsum xs := by rw [List.take_of_length_le h]
theorem sz_el_le {xs : List α} {k : Nat} (h : k < xs.length) : SZ.sz (el xs k) ≤ szsum xs := by
  have h1 := szsum_take h
  have h2 := szsum_take_le xs (k + 1)
  omega
instance : SZ (List α) where
  sz xs := xs.length + szsum xs
  cut h hk := ⟨by omega, h.cap, h.at_, h.cell, fun i hi => SZ.cut (h.el i hi) (by have := sz_el_le hi; omega)⟩
theorem sz_list (xs : List α) : SZ.sz xs = xs.length + szsum xs := rfl
theorem szsum_flat (hz : ∀ x : α, SZ.sz x = 0) (xs : List α) : szsum xs = 0 := by
  induction xs with
  | nil => rfl
  | cons x xs ih => rw [szsum_cons, hz, ih]
end
instance : SZ TSlot where
  sz _ := 0
  cut h _ := h
instance : SZ TKept where
  sz x := SZ.sz x.known + SZ.sz x.slots
  cut h hk := ⟨SZ.cut h.known (by omega), SZ.cut h.slots (by omega)⟩
theorem sz_Kept (x : TKept) : SZ.sz x = SZ.sz x.known + SZ.sz x.slots := rfl
instance : SZ TEntry where
  sz _ := 0
  cut h _ := h
instance : SZ TIns where
  sz _ := 0
  cut h _ := h
instance : SZ TCtl where
  sz _ := 0
  cut h _ := h
instance : SZ TExit where
  sz _ := 0
  cut h _ := h
instance : SZ TGuest where
  sz x := SZ.sz x.prog + SZ.sz x.written + SZ.sz x.live + SZ.sz x.seen
  cut h hk := ⟨SZ.cut h.prog (by omega), h.acc, h.pc, SZ.cut h.written (by omega), SZ.cut h.live (by omega), h.ctl, h.pend, h.exit, SZ.cut h.seen (by omega)⟩
theorem sz_Guest (x : TGuest) : SZ.sz x = SZ.sz x.prog + SZ.sz x.written + SZ.sz x.live + SZ.sz x.seen := rfl
instance : SZ TBare where
  sz x := SZ.sz x.mem + SZ.sz x.guests + SZ.sz x.outs
  cut h hk := ⟨SZ.cut h.mem (by omega), SZ.cut h.guests (by omega), SZ.cut h.outs (by omega), h.pend⟩
theorem sz_Bare (x : TBare) : SZ.sz x = SZ.sz x.mem + SZ.sz x.guests + SZ.sz x.outs := rfl
instance : SZ TMon where
  sz x := SZ.sz x.outer + SZ.sz x.out + SZ.sz x.dirty + SZ.sz x.guests + SZ.sz x.outs + SZ.sz x.tables
  cut h hk := ⟨SZ.cut h.outer (by omega), SZ.cut h.out (by omega), SZ.cut h.dirty (by omega), SZ.cut h.guests (by omega), SZ.cut h.outs (by omega), h.pend, h.traps, SZ.cut h.tables (by omega), h.owned⟩
theorem sz_Mon (x : TMon) : SZ.sz x = SZ.sz x.outer + SZ.sz x.out + SZ.sz x.dirty + SZ.sz x.guests + SZ.sz x.outs + SZ.sz x.tables := rfl
instance : SZ THost where
  sz x := SZ.sz x.mem + SZ.sz x.mons + SZ.sz x.buf + SZ.sz x.iobuf
  cut h hk := ⟨SZ.cut h.mem (by omega), SZ.cut h.mons (by omega), SZ.cut h.buf (by omega), SZ.cut h.iobuf (by omega)⟩
theorem sz_Host (x : THost) : SZ.sz x = SZ.sz x.mem + SZ.sz x.mons + SZ.sz x.buf + SZ.sz x.iobuf := rfl
instance : SZ TAct where
  sz _ := 0
  cut h _ := h
instance : SZ TTold where
  sz _ := 0
  cut h _ := h
theorem szl_Int (xs : List Int) : SZ.sz xs = xs.length := by rw [sz_list, szsum_flat (fun _ => rfl)]; rfl
theorem szl_Bool (xs : List Bool) : SZ.sz xs = xs.length := by rw [sz_list, szsum_flat (fun _ => rfl)]; rfl
theorem szl_TSlot (xs : List TSlot) : SZ.sz xs = xs.length := by rw [sz_list, szsum_flat (fun _ => rfl)]; rfl
theorem szl_TEntry (xs : List TEntry) : SZ.sz xs = xs.length := by rw [sz_list, szsum_flat (fun _ => rfl)]; rfl
theorem szl_TIns (xs : List TIns) : SZ.sz xs = xs.length := by rw [sz_list, szsum_flat (fun _ => rfl)]; rfl
end Go.Proofs.YtomgmpbipaldaaaGreat
