/- Marks: what the statements' mark functions write. No program is named here. -/
import Derived.Test.YtgonaioedbphgaaSpec1
namespace Go.Proofs.Ytgonaioedbphgaa
open Go
def g_markInt (j : Int) : Int := j
def f_marksInt (n : Nat) (k : Int) : List Int := (List.range n).map fun (i : Nat) => g_markInt (k + 1 * (i : Int))
def g_markBool (j : Int) : Bool := (Int.tmod j 3 == 0)
def f_marksBool (n : Nat) (k : Int) : List Bool := (List.range n).map fun (i : Nat) => g_markBool (k + 1 * (i : Int))
def g_markSlot (j : Int) : TSlot := ⟨j, (j + 1)⟩
def f_marksSlot (n : Nat) (k : Int) : List TSlot := (List.range n).map fun (i : Nat) => g_markSlot (k + 2 * (i : Int))
def g_markEntry (j : Int) : TEntry := ⟨j, (j + 1), (j + 2), (j + 3)⟩
def f_marksEntry (n : Nat) (k : Int) : List TEntry := (List.range n).map fun (i : Nat) => g_markEntry (k + 4 * (i : Int))
def g_markIns (j : Int) : TIns := ⟨j, (j + 1)⟩
def f_marksIns (n : Nat) (k : Int) : List TIns := (List.range n).map fun (i : Nat) => g_markIns (k + 2 * (i : Int))
def g_markCtl (j : Int) : TCtl := ⟨j, (j + 1), (Int.tmod (j + 2) 3 == 0)⟩
def f_marksCtl (n : Nat) (k : Int) : List TCtl := (List.range n).map fun (i : Nat) => g_markCtl (k + 3 * (i : Int))
def g_markExit (j : Int) : TExit := ⟨j, (j + 1), (Int.tmod (j + 2) 3 == 0), (j + 3)⟩
def f_marksExit (n : Nat) (k : Int) : List TExit := (List.range n).map fun (i : Nat) => g_markExit (k + 4 * (i : Int))
def g_markAct (j : Int) : TAct := ⟨j, (j + 1), (j + 2), (j + 3), (j + 4), (j + 5)⟩
def f_marksAct (n : Nat) (k : Int) : List TAct := (List.range n).map fun (i : Nat) => g_markAct (k + 6 * (i : Int))
def g_markTold (j : Int) : TTold := ⟨(Int.tmod j 3 == 0), (j + 1)⟩
def f_marksTold (n : Nat) (k : Int) : List TTold := (List.range n).map fun (i : Nat) => g_markTold (k + 2 * (i : Int))
end Go.Proofs.Ytgonaioedbphgaa
