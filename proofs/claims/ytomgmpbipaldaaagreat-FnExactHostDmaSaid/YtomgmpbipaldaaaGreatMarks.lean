/- Marks: what the statements' mark functions write. No program is named here. -/
import Derived.Test.YtomgmpbipaldaaaGreatSpec1
namespace Go.Proofs.YtomgmpbipaldaaaGreat
open Go
theorem el_set_self {α : Type} [GT α] {xs : List α} {k : Nat} {y : α} (h : k < xs.length) : el (xs.set k y) k = y := by simp [el, h]
theorem mark_step {α : Type} {a l : List α} {i : Nat} {y : α} (h : i < a.length) (hl : l.length = i) : (l ++ a.drop i).set i y = (l ++ [y]) ++ a.drop (i + 1) := by
  rw [List.drop_eq_getElem_cons h, List.set_append_right _ _ (by omega), hl, Nat.sub_self, List.set_cons_zero, List.append_assoc]
  rfl
def g_markInt (j : Int) : Int := j
def f_marksInt (n : Nat) (k : Int) : List Int := (List.range n).map fun (i : Nat) => g_markInt (k + 1 * (i : Int))
theorem f_marksInt_len (n : Nat) (k : Int) : (f_marksInt n k).length = n := by simp [f_marksInt]
theorem marksInt_step {a : List Int} {i : Nat} {k j : Int} (h : i < a.length) (hj : j = k + 1 * (i : Int)) : (f_marksInt i k ++ a.drop i).set i (g_markInt j) = f_marksInt (i + 1) k ++ a.drop (i + 1) := by
  rw [mark_step h (f_marksInt_len i k), hj]
  unfold f_marksInt
  rw [List.range_succ, List.map_append]
  rfl
def g_markBool (j : Int) : Bool := (Int.tmod j 3 == 0)
def f_marksBool (n : Nat) (k : Int) : List Bool := (List.range n).map fun (i : Nat) => g_markBool (k + 1 * (i : Int))
theorem f_marksBool_len (n : Nat) (k : Int) : (f_marksBool n k).length = n := by simp [f_marksBool]
theorem marksBool_step {a : List Bool} {i : Nat} {k j : Int} (h : i < a.length) (hj : j = k + 1 * (i : Int)) : (f_marksBool i k ++ a.drop i).set i (g_markBool j) = f_marksBool (i + 1) k ++ a.drop (i + 1) := by
  rw [mark_step h (f_marksBool_len i k), hj]
  unfold f_marksBool
  rw [List.range_succ, List.map_append]
  rfl
def g_markSlot (j : Int) : TSlot := ⟨j, (j + 1)⟩
def f_marksSlot (n : Nat) (k : Int) : List TSlot := (List.range n).map fun (i : Nat) => g_markSlot (k + 2 * (i : Int))
theorem f_marksSlot_len (n : Nat) (k : Int) : (f_marksSlot n k).length = n := by simp [f_marksSlot]
theorem marksSlot_step {a : List TSlot} {i : Nat} {k j : Int} (h : i < a.length) (hj : j = k + 2 * (i : Int)) : (f_marksSlot i k ++ a.drop i).set i (g_markSlot j) = f_marksSlot (i + 1) k ++ a.drop (i + 1) := by
  rw [mark_step h (f_marksSlot_len i k), hj]
  unfold f_marksSlot
  rw [List.range_succ, List.map_append]
  rfl
def g_markEntry (j : Int) : TEntry := ⟨j, (j + 1), (j + 2), (j + 3)⟩
def f_marksEntry (n : Nat) (k : Int) : List TEntry := (List.range n).map fun (i : Nat) => g_markEntry (k + 4 * (i : Int))
theorem f_marksEntry_len (n : Nat) (k : Int) : (f_marksEntry n k).length = n := by simp [f_marksEntry]
theorem marksEntry_step {a : List TEntry} {i : Nat} {k j : Int} (h : i < a.length) (hj : j = k + 4 * (i : Int)) : (f_marksEntry i k ++ a.drop i).set i (g_markEntry j) = f_marksEntry (i + 1) k ++ a.drop (i + 1) := by
  rw [mark_step h (f_marksEntry_len i k), hj]
  unfold f_marksEntry
  rw [List.range_succ, List.map_append]
  rfl
def g_markIns (j : Int) : TIns := ⟨j, (j + 1)⟩
def f_marksIns (n : Nat) (k : Int) : List TIns := (List.range n).map fun (i : Nat) => g_markIns (k + 2 * (i : Int))
theorem f_marksIns_len (n : Nat) (k : Int) : (f_marksIns n k).length = n := by simp [f_marksIns]
theorem marksIns_step {a : List TIns} {i : Nat} {k j : Int} (h : i < a.length) (hj : j = k + 2 * (i : Int)) : (f_marksIns i k ++ a.drop i).set i (g_markIns j) = f_marksIns (i + 1) k ++ a.drop (i + 1) := by
  rw [mark_step h (f_marksIns_len i k), hj]
  unfold f_marksIns
  rw [List.range_succ, List.map_append]
  rfl
def g_markCtl (j : Int) : TCtl := ⟨j, (j + 1), (Int.tmod (j + 2) 3 == 0)⟩
def f_marksCtl (n : Nat) (k : Int) : List TCtl := (List.range n).map fun (i : Nat) => g_markCtl (k + 3 * (i : Int))
def g_markExit (j : Int) : TExit := ⟨j, (j + 1), (Int.tmod (j + 2) 3 == 0), (j + 3)⟩
def f_marksExit (n : Nat) (k : Int) : List TExit := (List.range n).map fun (i : Nat) => g_markExit (k + 4 * (i : Int))
def g_markAct (j : Int) : TAct := ⟨j, (j + 1), (j + 2), (j + 3), (j + 4), (j + 5)⟩
def f_marksAct (n : Nat) (k : Int) : List TAct := (List.range n).map fun (i : Nat) => g_markAct (k + 6 * (i : Int))
def g_markTold (j : Int) : TTold := ⟨(Int.tmod j 3 == 0), (j + 1)⟩
def f_marksTold (n : Nat) (k : Int) : List TTold := (List.range n).map fun (i : Nat) => g_markTold (k + 2 * (i : Int))
end Go.Proofs.YtomgmpbipaldaaaGreat
