/- What the functions compute, as plain functions on data (fifth part): sizes of results. No program is named here. -/
import Derived.Test.YtacgkoohinlhjaaGreatSpec4
import Derived.Test.YtacgkoohinlhjaaGreatMk
namespace Go.Proofs.YtacgkoohinlhjaaGreat
open Go
def f_forget (k : TKept) (page : Int) : TKept :=
  if (0 ≤ page ∧ page < k.known.length) ∧ page < k.slots.length then ⟨k.known.set page.toNat false, k.slots.set page.toNat ⟨-1, 0⟩⟩ else k
def f_forgetUpto (k : TKept) (n : Nat) : TKept := (List.range n).foldl (fun k (i : Nat) => f_forget k (i : Int)) k
def f_forgetAll (k : TKept) : TKept := f_forgetUpto k k.known.length
def f_coldMon (m : TMon) : TMon := { m with tables := m.tables.map f_forgetAll }
def f_cold (h : THost) : THost := ⟨h.mem, h.mons.map f_coldMon, [], []⟩
def f_bareOk (b : TBare) : Bool := b.guests.all f_guestOk && f_memOk b.mem 8 && f_within b.guests.length 1 2 && decide (b.outs.length ≤ 40) && f_within b.pend 0 255
def f_posts (c : TCtl) (n : Int) : Bool := f_ctlOk c && f_within n 0 7 && (land64 (shr64 c.post n) 1 == 1)
def f_postedTo (b : TBare) (n : Int) : List Int := f_idx b.guests.length fun i => f_posts (el b.guests i).ctl n
def f_postIrq (p n : Int) : Int × Bool := if f_within p 0 255 = true ∧ f_within n 0 7 = true then (lor64 p (shl64 1 n), true) else (p, false)
def stepPost (n : Int) (gs : List TGuest) (g : Int) : List TGuest := gs.set g.toNat { el gs g.toNat with pend := (f_postIrq (el gs g.toNat).pend n).1 }
def f_barePost (b : TBare) (n : Int) : TBare × Bool :=
  if f_bareOk b = true ∧ 0 ≤ n ∧ n ≤ 7 then
    (⟨b.mem, (f_postedTo b n).foldl (stepPost n) b.guests, b.outs, if (f_postedTo b n).length = 0 then (f_postIrq b.pend n).1 else b.pend⟩, true)
  else (b, false)
end Go.Proofs.YtacgkoohinlhjaaGreat
