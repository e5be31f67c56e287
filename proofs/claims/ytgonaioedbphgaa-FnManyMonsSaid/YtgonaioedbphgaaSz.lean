/- The size of data: the sum of the lengths of all lists in it. No program is named here. -/
import Derived.Test.YtgonaioedbphgaaSpec1
namespace Go.Proofs.Ytgonaioedbphgaa
open Go
class SZ (α : Type) [GT α] where
  sz : α → Nat
  cut : ∀ {K K' : Nat} {F : Bl} {w : World} {x : α} {p : GT.Ptr α}, GT.rd K F w x p → sz x ≤ K' → GT.rd K' F w x p
def szsum {α : Type} [GT α] [SZ α] (xs : List α) : Nat := (xs.map SZ.sz).sum
instance : SZ Int where
  sz _ := 0
  cut h _ := h
instance : SZ Bool where
  sz _ := 0
  cut h _ := h
section
variable {α : Type} [GT α] [SZ α]
theorem szsum_append (xs ys : List α) : szsum (xs ++ ys) = szsum xs + szsum ys := by simp [szsum]
theorem szsum_split (xs : List α) (k : Nat) : szsum xs = szsum (xs.take k) + szsum (xs.drop k) := by rw [← szsum_append, List.take_append_drop]
theorem szsum_take {xs : List α} {k : Nat} (h : k < xs.length) : szsum (xs.take (k + 1)) = szsum (xs.take k) + SZ.sz (el xs k) := by
  rw [List.take_succ_eq_append_getElem h, szsum_append]
  simp [szsum, el, h]
theorem szsum_take_le (xs : List α) (k : Nat) : szsum (xs.take k) ≤ szsum xs := by rw [szsum_split xs k]; omega
theorem sz_el_le {xs : List α} {k : Nat} (h : k < xs.length) : SZ.sz (el xs k) ≤ szsum xs := by
  have h1 := szsum_take h
  have h2 := szsum_take_le xs (k + 1)
  omega
instance : SZ (List α) where
  sz xs := xs.length + szsum xs
  cut h hk := ⟨by omega, h.cap, h.at_, h.cell, fun i hi => SZ.cut (h.el i hi) (by have := sz_el_le hi; omega)⟩
theorem sz_list (xs : List α) : SZ.sz xs = xs.length + szsum xs := rfl
end
instance : SZ TSlot where
  sz _ := 0
  cut h _ := h
instance : SZ TKept where
  sz x := SZ.sz x.known + SZ.sz x.slots
  cut h hk := ⟨SZ.cut h.known (by omega), SZ.cut h.slots (by omega)⟩
theorem sz_Kept (x : TKept) : SZ.sz x = SZ.sz x.known + SZ.sz x.slots := rfl
instance : SZ TEntry where
  sz _ := 0
  cut h _ := h
instance : SZ TIns where
  sz _ := 0
  cut h _ := h
instance : SZ TCtl where
  sz _ := 0
  cut h _ := h
instance : SZ TExit where
  sz _ := 0
  cut h _ := h
instance : SZ TGuest where
  sz x := SZ.sz x.prog + SZ.sz x.written + SZ.sz x.live + SZ.sz x.seen
  cut h hk := ⟨SZ.cut h.prog (by omega), h.acc, h.pc, SZ.cut h.written (by omega), SZ.cut h.live (by omega), h.ctl, h.pend, h.exit, SZ.cut h.seen (by omega)⟩
theorem sz_Guest (x : TGuest) : SZ.sz x = SZ.sz x.prog + SZ.sz x.written + SZ.sz x.live + SZ.sz x.seen := rfl
instance : SZ TBare where
  sz x := SZ.sz x.mem + SZ.sz x.guests + SZ.sz x.outs
  cut h hk := ⟨SZ.cut h.mem (by omega), SZ.cut h.guests (by omega), SZ.cut h.outs (by omega), h.pend⟩
theorem sz_Bare (x : TBare) : SZ.sz x = SZ.sz x.mem + SZ.sz x.guests + SZ.sz x.outs := rfl
instance : SZ TMon where
  sz x := SZ.sz x.outer + SZ.sz x.out + SZ.sz x.dirty + SZ.sz x.guests + SZ.sz x.outs + SZ.sz x.tables
  cut h hk := ⟨SZ.cut h.outer (by omega), SZ.cut h.out (by omega), SZ.cut h.dirty (by omega), SZ.cut h.guests (by omega), SZ.cut h.outs (by omega), h.pend, h.traps, SZ.cut h.tables (by omega), h.owned⟩
theorem sz_Mon (x : TMon) : SZ.sz x = SZ.sz x.outer + SZ.sz x.out + SZ.sz x.dirty + SZ.sz x.guests + SZ.sz x.outs + SZ.sz x.tables := rfl
instance : SZ THost where
  sz x := SZ.sz x.mem + SZ.sz x.mons + SZ.sz x.buf + SZ.sz x.iobuf
  cut h hk := ⟨SZ.cut h.mem (by omega), SZ.cut h.mons (by omega), SZ.cut h.buf (by omega), SZ.cut h.iobuf (by omega)⟩
theorem sz_Host (x : THost) : SZ.sz x = SZ.sz x.mem + SZ.sz x.mons + SZ.sz x.buf + SZ.sz x.iobuf := rfl
instance : SZ TAct where
  sz _ := 0
  cut h _ := h
instance : SZ TTold where
  sz _ := 0
  cut h _ := h
end Go.Proofs.Ytgonaioedbphgaa
