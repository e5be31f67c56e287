/- What the functions compute, as plain functions on data (first part). No program is named here. -/
import Derived.Test.YtgonaioedbphgaaTypes
namespace Go.Proofs.Ytgonaioedbphgaa
open Go
def f_within (x a b : Int) : Bool := decide (a ≤ x) && decide (x ≤ b)
theorem within_t {x a b : Int} (h : f_within x a b = true) : a ≤ x ∧ x ≤ b := by simpa [f_within] using h
theorem within_f {x a b : Int} (h : f_within x a b = false) : ¬ (a ≤ x ∧ x ≤ b) := by
  intro g; simp [f_within, g.1, g.2] at h
def f_isOuter (k : Int) : Bool := f_within k 13 17
def f_actOk (a : TAct) : Bool := f_within a.kind 1 17
def f_ctlOf (a : TAct) : TCtl := ⟨a.x, a.y, a.z == 1⟩
def f_sz (n : Nat) (left : Int) : Int := if left - n < 0 then -1 else left - n
def f_undisturbed (l : List TAct) : List TAct := l.filter fun a => !f_isOuter a.kind
def f_innerTold (a : List TAct) (t : List TTold) : List TTold := ((a.zip t).filter fun p => !f_isOuter p.1.kind).map (·.2)
theorem el_lt {α : Type} [GT α] {xs : List α} {k : Nat} (h : k < xs.length) : el xs k = xs[k] := by simp [el, h]
theorem take_el {α : Type} [GT α] {xs : List α} {k : Nat} (h : k < xs.length) : xs.take (k + 1) = xs.take k ++ [el xs k] := by
  rw [el_lt h, List.take_succ_eq_append_getElem h]
theorem take_all {α : Type} {xs : List α} {k : Nat} (h : xs.length ≤ k) : xs.take k = xs := List.take_of_length_le h
theorem not_t {b : Bool} (h : (!b) = true) : b = false := by cases b <;> simp_all
theorem not_f {b : Bool} (h : (!b) = false) : b = true := by cases b <;> simp_all
end Go.Proofs.Ytgonaioedbphgaa
