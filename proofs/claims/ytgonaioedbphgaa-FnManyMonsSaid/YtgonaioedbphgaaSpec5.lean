/- What the functions compute, as plain functions on data (fifth part): sizes of results. No program is named here. -/
import Derived.Test.YtgonaioedbphgaaSpec4
import Derived.Test.YtgonaioedbphgaaMk
namespace Go.Proofs.Ytgonaioedbphgaa
open Go
def f_forget (k : TKept) (page : Int) : TKept :=
  if (0 ≤ page ∧ page < k.known.length) ∧ page < k.slots.length then ⟨k.known.set page.toNat false, k.slots.set page.toNat ⟨-1, 0⟩⟩ else k
def f_forgetUpto (k : TKept) (n : Nat) : TKept := (List.range n).foldl (fun k (i : Nat) => f_forget k (i : Int)) k
def f_forgetAll (k : TKept) : TKept := f_forgetUpto k k.known.length
def f_coldMon (m : TMon) : TMon := { m with tables := m.tables.map f_forgetAll }
def f_cold (h : THost) : THost := ⟨h.mem, h.mons.map f_coldMon, [], []⟩
def f_bareOk (b : TBare) : Bool := b.guests.all f_guestOk && f_memOk b.mem 8 && f_within b.guests.length 1 2 && decide (b.outs.length ≤ 40) && f_within b.pend 0 255
def f_posts (c : TCtl) (n : Int) : Bool := f_ctlOk c && f_within n 0 7 && (land64 (shr64 c.post n) 1 == 1)
def f_postedTo (b : TBare) (n : Int) : List Int := f_idx b.guests.length fun i => f_posts (el b.guests i).ctl n
def f_postIrq (p n : Int) : Int × Bool := if f_within p 0 255 = true ∧ f_within n 0 7 = true then (lor64 p (shl64 1 n), true) else (p, false)
def stepPost (n : Int) (gs : List TGuest) (g : Int) : List TGuest := gs.set g.toNat { el gs g.toNat with pend := (f_postIrq (el gs g.toNat).pend n).1 }
def f_barePost (b : TBare) (n : Int) : TBare × Bool :=
  if f_bareOk b = true ∧ 0 ≤ n ∧ n ≤ 7 then
    (⟨b.mem, (f_postedTo b n).foldl (stepPost n) b.guests, b.outs, if (f_postedTo b n).length = 0 then (f_postIrq b.pend n).1 else b.pend⟩, true)
  else (b, false)
theorem enough_t {r n : Int} (h : f_enough r n = true) : 0 ≤ n ∧ n ≤ 3 := by
  simp only [f_enough, Bool.and_eq_true] at h
  exact within_t h.1.2
def f_guestAt (b : TBare) (g : Int) : TGuest × Bool := if 0 ≤ g ∧ g < b.guests.length then (el b.guests g.toNat, true) else (⟨[], 0, 0, [], [], ⟨0, 0, false⟩, 0, ⟨0, 0, false, 0⟩, false, []⟩, false)
def f_addrPage (a : Int) : Int := if a < 0 then -1 else Int.tdiv a 4
def f_addrCell (a : Int) : Int := if a < 0 then -1 else Int.tmod a 4
def f_walkInner (t : List TSlot) (page need : Int) : Int × Bool :=
  if (f_slotAt t page).page = -1 ∨ f_enough (f_slotAt t page).rights need = false ∨ need = 0 then (-1, false) else ((f_slotAt t page).page, true)
def f_l19Is (b : TBare) (g : Int) : Bool := f_bareOk b && f_within g 0 ((b.guests.length : Int) - 1)
def f_at (b : TBare) (g addr need : Int) : Int × Bool :=
  if f_l19Is b g = true ∧ f_within addr 0 15 = true then f_walkInner (el b.guests g.toNat).live (f_addrPage addr) need else (-1, false)
def f_reach (b : TBare) (g addr need : Int) : Int × Int × Bool :=
  if f_l19Is b g = true ∧ f_within addr 0 15 = true then ((f_at b g addr need).1, f_addrCell addr, (f_at b g addr need).2) else (0, 0, false)
def f_hasCell (m : List (List Int)) (p c : Int) : Bool := decide ((0 ≤ p ∧ p < m.length) ∧ 0 ≤ c ∧ c < (el m p.toNat).length)
def f_withCell (m : List (List Int)) (p c v : Int) : List (List Int) :=
  if ((0 ≤ p ∧ p < m.length) ∧ 0 ≤ c ∧ c < (el m p.toNat).length) ∧ 0 ≤ v ∧ v ≤ 99 then m.set p.toNat ((el m p.toNat).set c.toNat v) else m
def f_bareDma (b : TBare) (g addr v : Int) : TBare × Bool :=
  if (f_at b g addr 2).2 = true ∧ f_within v 0 99 = true then (⟨f_withCell b.mem (f_at b g addr 2).1 (f_addrCell addr) v, b.guests, b.outs, b.pend⟩, true) else (b, false)
end Go.Proofs.Ytgonaioedbphgaa
