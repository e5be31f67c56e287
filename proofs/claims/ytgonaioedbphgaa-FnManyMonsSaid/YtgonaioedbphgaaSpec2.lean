/- What the functions compute, as plain functions on data (second part). No program is named here. -/
import Derived.Test.YtgonaioedbphgaaSz
namespace Go.Proofs.Ytgonaioedbphgaa
open Go
def f_own1 (l : List TSlot) (page : Int) (k : Nat) : Int :=
  if k < l.length then (if (el l k).page = page then k else f_own1 l page (k + 1)) else -1
termination_by l.length - k
def f_own0 (ms : List TMon) (page : Int) (i : Nat) : Int × Int :=
  if i < ms.length then (if f_own1 (el ms i).outer page 0 < 0 then f_own0 ms page (i + 1) else ((i : Int), f_own1 (el ms i).outer page 0)) else (-1, -1)
termination_by ms.length - i
def f_ownerOfPage (h : THost) (page : Int) : Int × Int := if page < 0 then (-1, -1) else f_own0 h.mons page 0
def f_knownIn (k : TKept) : Int := ((k.known.filter fun b => b).length : Int)
end Go.Proofs.Ytgonaioedbphgaa
