/- New hosts, in plain data. No program is named here. -/
import Derived.Test.YtgonaioedbphgaaSpec6
import Derived.Test.YtgonaioedbphgaaCopy
namespace Go.Proofs.Ytgonaioedbphgaa
open Go
set_option linter.unusedVariables false
def f_noSlots (n : Nat) : List TSlot := List.replicate n ⟨-1, 0⟩
def f_keptNew (n : Int) : TKept := ⟨List.replicate (f_brought n 0 24).toNat false, List.replicate (f_brought n 0 24).toNat ⟨-1, 0⟩⟩
def f_guestNew (p : List TIns) : TGuest := ⟨p, 0, 0, List.replicate 4 ⟨-1, 0⟩, List.replicate 4 ⟨-1, 0⟩, ⟨0, 0, false⟩, 0, ⟨0, 0, false, 0⟩, false, []⟩
def f_monNew (progs : List (List TIns)) : TMon := ⟨List.replicate 8 ⟨-1, 0⟩, List.replicate 8 (List.replicate 4 0), List.replicate 8 false, (progs.take 2).map f_guestNew, [], 0, 0, (progs.take 2).map (fun _ => f_keptNew 4), 0⟩
def f_hostNew (all : List (List (List TIns))) : THost := ⟨List.replicate 12 (List.replicate 4 0), (all.take 3).map f_monNew, [], []⟩
theorem map_take_step {α β : Type} [GT α] {f : α → β} {xs : List α} {k m : Nat} (hk : k < xs.length) (hm : k < m) : ((xs.take m).take (k + 1)).map f = ((xs.take m).take k).map f ++ [f (el xs k)] := by
  rw [List.take_take, List.take_take, Nat.min_eq_left (by omega), Nat.min_eq_left (by omega), take_el hk, List.map_append]
  rfl
theorem map_take_end {α β : Type} {f : α → β} {xs : List α} {k m : Nat} (hk : xs.length ≤ k ∨ m ≤ k) : ((xs.take m).take k).map f = (xs.take m).map f := by
  rw [List.take_of_length_le (by simp; omega)]
end Go.Proofs.Ytgonaioedbphgaa
