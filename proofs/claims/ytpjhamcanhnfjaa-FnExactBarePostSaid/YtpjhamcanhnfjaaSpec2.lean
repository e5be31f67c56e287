/- What the functions compute, as plain functions on data (second part). No program is named here. -/
import Derived.Test.YtpjhamcanhnfjaaSz
namespace Go.Proofs.Ytpjhamcanhnfjaa
open Go

/-! ### The owner of a page -/
def f_own1 (l : List TSlot) (page : Int) (k : Nat) : Int :=
  if k < l.length then (if (el l k).page = page then k else f_own1 l page (k + 1)) else -1
termination_by l.length - k
theorem own1_hit {l : List TSlot} {page : Int} {k : Nat} (h : k < l.length) (e : (el l k).page = page) : f_own1 l page k = k := by
  rw [f_own1, if_pos h, if_pos e]
theorem own1_next {l : List TSlot} {page : Int} {k : Nat} (h : k < l.length) (e : ¬ (el l k).page = page) : f_own1 l page k = f_own1 l page (k + 1) := by
  rw [f_own1, if_pos h, if_neg e]
theorem own1_end {l : List TSlot} {page : Int} {k : Nat} (h : l.length ≤ k) : f_own1 l page k = -1 := by
  rw [f_own1, if_neg (by omega)]
def f_own0 (ms : List TMon) (page : Int) (i : Nat) : Int × Int :=
  if i < ms.length then (if f_own1 (el ms i).outer page 0 < 0 then f_own0 ms page (i + 1) else ((i : Int), f_own1 (el ms i).outer page 0)) else (-1, -1)
termination_by ms.length - i
theorem own0_hit {ms : List TMon} {page : Int} {i k : Nat} (h : i < ms.length) (e : f_own1 (el ms i).outer page 0 = k) : f_own0 ms page i = ((i : Int), (k : Int)) := by
  rw [f_own0, if_pos h, if_neg (by omega), e]
theorem own0_next {ms : List TMon} {page : Int} {i : Nat} (h : i < ms.length) (e : f_own1 (el ms i).outer page 0 = -1) : f_own0 ms page i = f_own0 ms page (i + 1) := by
  rw [f_own0, if_pos h, if_pos (by omega)]
theorem own0_end {ms : List TMon} {page : Int} {i : Nat} (h : ms.length ≤ i) : f_own0 ms page i = (-1, -1) := by
  rw [f_own0, if_neg (by omega)]
def f_ownerOfPage (h : THost) (page : Int) : Int × Int := if page < 0 then (-1, -1) else f_own0 h.mons page 0
theorem ownerOfPage_neg {h : THost} {page : Int} (e : page < 0) : f_ownerOfPage h page = (-1, -1) := if_pos e
theorem ownerOfPage_pos {h : THost} {page : Int} (e : ¬ page < 0) : f_ownerOfPage h page = f_own0 h.mons page 0 := if_neg e
theorem ownerOfPage_end {h : THost} {page : Int} (e : f_own0 h.mons page 0 = (-1, -1)) : f_ownerOfPage h page = (-1, -1) := by
  unfold f_ownerOfPage; split
  · rfl
  · exact e

/-! ### How much is known -/
def f_knownIn (k : TKept) : Int := ((k.known.filter fun b => b).length : Int)
theorem known_len (l : List Bool) (k : Nat) : ((l.take k).filter fun b => b).length ≤ k := Nat.le_trans (List.length_filter_le _ _) (by simp; omega)
theorem known_step {l : List Bool} {k : Nat} (h : k < l.length) : ((l.take (k + 1)).filter fun b => b).length = ((l.take k).filter fun b => b).length + (if el l k then 1 else 0) := by
  rw [take_el h, List.filter_append, List.length_append]
  cases el l k <;> rfl
theorem known_end {t : TKept} {k : Nat} (h : t.known.length ≤ k) : f_knownIn t = (((t.known.take k).filter fun b => b).length : Int) := by
  rw [take_all h]; rfl
theorem knownIn_bd (k : TKept) : 0 ≤ f_knownIn k ∧ f_knownIn k ≤ (SZ.sz k : Nat) := by
  have h1 := List.length_filter_le (fun b => b) k.known
  have h2 := szl_Bool k.known
  have h3 := sz_Kept k
  unfold f_knownIn
  omega

end Go.Proofs.Ytpjhamcanhnfjaa
