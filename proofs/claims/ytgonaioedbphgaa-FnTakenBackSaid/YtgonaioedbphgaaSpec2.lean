/- What the functions compute, as plain functions on data (second part). No program is named here. -/
import Derived.Test.YtgonaioedbphgaaSz
namespace Go.Proofs.Ytgonaioedbphgaa
open Go
def f_own1 (l : List TSlot) (page : Int) (k : Nat) : Int :=
  if k < l.length then (if (el l k).page = page then k else f_own1 l page (k + 1)) else -1
termination_by l.length - k
theorem own1_hit {l : List TSlot} {page : Int} {k : Nat} (h : k < l.length) (e : (el l k).page = page) : f_own1 l page k = k := by
  rw [f_own1, if_pos h, if_pos e]
theorem own1_next {l : List TSlot} {page : Int} {k : Nat} (h : k < l.length) (e : ¬ (el l k).page = page) : f_own1 l page k = f_own1 l page (k + 1) := by
  rw [f_own1, if_pos h, if_neg e]
theorem own1_end {l : List TSlot} {page : Int} {k : Nat} (h : l.length ≤ k) : f_own1 l page k = -1 := by
  rw [f_own1, if_neg (by omega)]
def f_own0 (ms : List TMon) (page : Int) (i : Nat) : Int × Int :=
  if i < ms.length then (if f_own1 (el ms i).outer page 0 < 0 then f_own0 ms page (i + 1) else ((i : Int), f_own1 (el ms i).outer page 0)) else (-1, -1)
termination_by ms.length - i
theorem own0_hit {ms : List TMon} {page : Int} {i k : Nat} (h : i < ms.length) (e : f_own1 (el ms i).outer page 0 = k) : f_own0 ms page i = ((i : Int), (k : Int)) := by
  rw [f_own0, if_pos h, if_neg (by omega), e]
theorem own0_next {ms : List TMon} {page : Int} {i : Nat} (h : i < ms.length) (e : f_own1 (el ms i).outer page 0 = -1) : f_own0 ms page i = f_own0 ms page (i + 1) := by
  rw [f_own0, if_pos h, if_pos (by omega)]
theorem own0_end {ms : List TMon} {page : Int} {i : Nat} (h : ms.length ≤ i) : f_own0 ms page i = (-1, -1) := by
  rw [f_own0, if_neg (by omega)]
def f_ownerOfPage (h : THost) (page : Int) : Int × Int := if page < 0 then (-1, -1) else f_own0 h.mons page 0
theorem ownerOfPage_neg {h : THost} {page : Int} (e : page < 0) : f_ownerOfPage h page = (-1, -1) := if_pos e
theorem ownerOfPage_pos {h : THost} {page : Int} (e : ¬ page < 0) : f_ownerOfPage h page = f_own0 h.mons page 0 := if_neg e
theorem ownerOfPage_end {h : THost} {page : Int} (e : f_own0 h.mons page 0 = (-1, -1)) : f_ownerOfPage h page = (-1, -1) := by
  unfold f_ownerOfPage; split
  · rfl
  · exact e
def f_knownIn (k : TKept) : Int := ((k.known.filter fun b => b).length : Int)
end Go.Proofs.Ytgonaioedbphgaa
