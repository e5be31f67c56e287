/- New hosts, in plain data. No program is named here. -/
import Derived.Test.YtgonaioedbphgaaSpec6
import Derived.Test.YtgonaioedbphgaaCopy
namespace Go.Proofs.Ytgonaioedbphgaa
open Go
set_option linter.unusedVariables false
theorem rep_first {x acc : List TSlot} {n : Nat} (hx : x.length = 1) (hn : n = min x.length acc.length) : (acc.take 0 ++ x.take n ++ acc.drop (0 + n)).take n = List.replicate n (el x 0) := by
  have hm := hn
  rw [List.take_zero, List.nil_append, List.take_append_of_le_length (by simp; omega), List.take_take, Nat.min_self]
  match x, hx with
  | [y], _ =>
    have e : n = 0 ∨ n = 1 := by simp at hm; omega
    rcases e with e | e <;> subst e <;> rfl
theorem rep_step {acc : List TSlot} {s : TSlot} {n k : Nat} (hk : n + k ≤ acc.length) (hkn : k ≤ n) (h : acc.take n = List.replicate n s) : (acc.take n ++ (acc.take n).take k ++ acc.drop (n + k)).take (n + k) = List.replicate (n + k) s := by
  rw [List.take_append_of_le_length (by simp; omega), h, List.take_of_length_le (by simp; omega), List.take_replicate, List.replicate_append_replicate, Nat.min_eq_left hkn]
theorem rep_end {acc : List TSlot} {s : TSlot} {n c : Nat} (hl : acc.length = c) (hn : c ≤ n) (hn2 : n ≤ c) (h : acc.take n = List.replicate n s) : acc = List.replicate c s := by
  rw [List.take_of_length_le (by omega)] at h
  rw [h, show n = c by omega]
def f_noSlots (n : Nat) : List TSlot := List.replicate n ⟨-1, 0⟩
def f_keptNew (n : Int) : TKept := ⟨List.replicate (f_brought n 0 24).toNat false, List.replicate (f_brought n 0 24).toNat ⟨-1, 0⟩⟩
def f_guestNew (p : List TIns) : TGuest := ⟨p, 0, 0, List.replicate 4 ⟨-1, 0⟩, List.replicate 4 ⟨-1, 0⟩, ⟨0, 0, false⟩, 0, ⟨0, 0, false, 0⟩, false, []⟩
def f_monNew (progs : List (List TIns)) : TMon := ⟨List.replicate 8 ⟨-1, 0⟩, List.replicate 8 (List.replicate 4 0), List.replicate 8 false, (progs.take 2).map f_guestNew, [], 0, 0, (progs.take 2).map (fun _ => f_keptNew 4), 0⟩
def f_hostNew (all : List (List (List TIns))) : THost := ⟨List.replicate 12 (List.replicate 4 0), (all.take 3).map f_monNew, [], []⟩
theorem map_take_step {α β : Type} [GT α] {f : α → β} {xs : List α} {k m : Nat} (hk : k < xs.length) (hm : k < m) : ((xs.take m).take (k + 1)).map f = ((xs.take m).take k).map f ++ [f (el xs k)] := by
  rw [List.take_take, List.take_take, Nat.min_eq_left (by omega), Nat.min_eq_left (by omega), take_el hk, List.map_append]
  rfl
theorem map_take_end {α β : Type} {f : α → β} {xs : List α} {k m : Nat} (hk : xs.length ≤ k ∨ m ≤ k) : ((xs.take m).take k).map f = (xs.take m).map f := by
  rw [List.take_of_length_le (by simp; omega)]
end Go.Proofs.Ytgonaioedbphgaa
