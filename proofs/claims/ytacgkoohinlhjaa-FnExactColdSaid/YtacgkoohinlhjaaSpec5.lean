/- What the functions compute, as plain functions on data (fifth part): sizes of results. No program is named here. -/
import Derived.Test.YtacgkoohinlhjaaSpec4
import Derived.Test.YtacgkoohinlhjaaMk
namespace Go.Proofs.Ytacgkoohinlhjaa
open Go
def f_forget (k : TKept) (page : Int) : TKept :=
  if (0 ≤ page ∧ page < k.known.length) ∧ page < k.slots.length then ⟨k.known.set page.toNat false, k.slots.set page.toNat ⟨-1, 0⟩⟩ else k
def f_forgetUpto (k : TKept) (n : Nat) : TKept := (List.range n).foldl (fun k (i : Nat) => f_forget k (i : Int)) k
def f_forgetAll (k : TKept) : TKept := f_forgetUpto k k.known.length
theorem forgetUpto_step (k : TKept) (n : Nat) : f_forgetUpto k (n + 1) = f_forget (f_forgetUpto k n) (n : Int) := by
  unfold f_forgetUpto; rw [List.range_succ, List.foldl_append]; rfl
theorem forget_len (k : TKept) (p : Int) : (f_forget k p).known.length = k.known.length ∧ (f_forget k p).slots.length = k.slots.length := by
  unfold f_forget; split <;> simp
theorem forgetUpto_len (k : TKept) (n : Nat) : (f_forgetUpto k n).known.length = k.known.length ∧ (f_forgetUpto k n).slots.length = k.slots.length := by
  induction n with
  | zero => exact ⟨rfl, rfl⟩
  | succ n ih =>
    rw [forgetUpto_step]
    have := forget_len (f_forgetUpto k n) (n : Int)
    omega
theorem sz_forgetAll (k : TKept) : SZ.sz (f_forgetAll k) = SZ.sz k := by
  have h1 := forgetUpto_len k k.known.length
  have h2 := sz_Kept k
  have h3 := sz_Kept (f_forgetAll k)
  rw [szl_Bool, szl_TSlot] at h2 h3
  unfold f_forgetAll at h3 ⊢
  omega
def f_coldMon (m : TMon) : TMon := { m with tables := m.tables.map f_forgetAll }
def f_cold (h : THost) : THost := ⟨h.mem, h.mons.map f_coldMon, [], []⟩
theorem szsum_map_eq {α β : Type} [GT α] [SZ α] [GT β] [SZ β] {f : α → β} (l : List α) (h : ∀ x, SZ.sz (f x) = SZ.sz x) : szsum (l.map f) = szsum l := by
  induction l with
  | nil => rfl
  | cons x r ih => rw [List.map_cons, szsum_cons, szsum_cons, h, ih]
theorem sz_coldMon (m : TMon) : SZ.sz (f_coldMon m) = SZ.sz m := by
  have h1 := sz_Mon m
  have h2 := sz_Mon (f_coldMon m)
  have h3 := sz_list m.tables
  have h4 := sz_list (m.tables.map f_forgetAll)
  have h5 := szsum_map_eq m.tables sz_forgetAll
  rw [List.length_map] at h4
  have e1 : (f_coldMon m).tables = m.tables.map f_forgetAll := rfl
  have e2 : (f_coldMon m).outer = m.outer := rfl
  have e3 : (f_coldMon m).out = m.out := rfl
  have e4 : (f_coldMon m).dirty = m.dirty := rfl
  have e5 : (f_coldMon m).guests = m.guests := rfl
  have e6 : (f_coldMon m).outs = m.outs := rfl
  rw [e1, e2, e3, e4, e5, e6] at h2
  omega
theorem sz_cold (h : THost) : SZ.sz (f_cold h) ≤ SZ.sz h := by
  have h1 := sz_Host h
  have h2 := sz_Host (f_cold h)
  have h3 := sz_list h.mons
  have h4 := sz_list (h.mons.map f_coldMon)
  have h5 := szsum_map_eq h.mons sz_coldMon
  rw [List.length_map] at h4
  have e1 : (f_cold h).mons = h.mons.map f_coldMon := rfl
  have e2 : (f_cold h).mem = h.mem := rfl
  have e3 : (f_cold h).buf = [] := rfl
  have e4 : (f_cold h).iobuf = [] := rfl
  have e5 : SZ.sz ([] : List TEntry) = 0 := rfl
  rw [e1, e2, e3, e4, e5] at h2
  omega
def f_bareOk (b : TBare) : Bool := b.guests.all f_guestOk && f_memOk b.mem 8 && f_within b.guests.length 1 2 && decide (b.outs.length ≤ 40) && f_within b.pend 0 255
def f_posts (c : TCtl) (n : Int) : Bool := f_ctlOk c && f_within n 0 7 && (land64 (shr64 c.post n) 1 == 1)
def f_postedTo (b : TBare) (n : Int) : List Int := f_idx b.guests.length fun i => f_posts (el b.guests i).ctl n
def f_postIrq (p n : Int) : Int × Bool := if f_within p 0 255 = true ∧ f_within n 0 7 = true then (lor64 p (shl64 1 n), true) else (p, false)
def stepPost (n : Int) (gs : List TGuest) (g : Int) : List TGuest := gs.set g.toNat { el gs g.toNat with pend := (f_postIrq (el gs g.toNat).pend n).1 }
def f_barePost (b : TBare) (n : Int) : TBare × Bool :=
  if f_bareOk b = true ∧ 0 ≤ n ∧ n ≤ 7 then
    (⟨b.mem, (f_postedTo b n).foldl (stepPost n) b.guests, b.outs, if (f_postedTo b n).length = 0 then (f_postIrq b.pend n).1 else b.pend⟩, true)
  else (b, false)
def f_guestAt (b : TBare) (g : Int) : TGuest × Bool := if 0 ≤ g ∧ g < b.guests.length then (el b.guests g.toNat, true) else (⟨[], 0, 0, [], [], ⟨0, 0, false⟩, 0, ⟨0, 0, false, 0⟩, false, []⟩, false)
def f_addrPage (a : Int) : Int := if a < 0 then -1 else Int.tdiv a 4
def f_addrCell (a : Int) : Int := if a < 0 then -1 else Int.tmod a 4
def f_walkInner (t : List TSlot) (page need : Int) : Int × Bool :=
  if (f_slotAt t page).page = -1 ∨ f_enough (f_slotAt t page).rights need = false ∨ need = 0 then (-1, false) else ((f_slotAt t page).page, true)
def f_l19Is (b : TBare) (g : Int) : Bool := f_bareOk b && f_within g 0 ((b.guests.length : Int) - 1)
def f_at (b : TBare) (g addr need : Int) : Int × Bool :=
  if f_l19Is b g = true ∧ f_within addr 0 15 = true then f_walkInner (el b.guests g.toNat).live (f_addrPage addr) need else (-1, false)
def f_reach (b : TBare) (g addr need : Int) : Int × Int × Bool :=
  if f_l19Is b g = true ∧ f_within addr 0 15 = true then ((f_at b g addr need).1, f_addrCell addr, (f_at b g addr need).2) else (0, 0, false)
def f_hasCell (m : List (List Int)) (p c : Int) : Bool := decide ((0 ≤ p ∧ p < m.length) ∧ 0 ≤ c ∧ c < (el m p.toNat).length)
def f_withCell (m : List (List Int)) (p c v : Int) : List (List Int) :=
  if ((0 ≤ p ∧ p < m.length) ∧ 0 ≤ c ∧ c < (el m p.toNat).length) ∧ 0 ≤ v ∧ v ≤ 99 then m.set p.toNat ((el m p.toNat).set c.toNat v) else m
def f_bareDma (b : TBare) (g addr v : Int) : TBare × Bool :=
  if (f_at b g addr 2).2 = true ∧ f_within v 0 99 = true then (⟨f_withCell b.mem (f_at b g addr 2).1 (f_addrCell addr) v, b.guests, b.outs, b.pend⟩, true) else (b, false)
theorem set_self_el {α : Type} [GT α] {xs : List α} {k : Nat} (h : k < xs.length) : xs.set k (el xs k) = xs := by
  rw [el_lt h]; exact List.set_getElem_self h
theorem take_set_succ {α : Type} {xs : List α} {k : Nat} {y : α} (h : k < xs.length) : (xs.set k y).take (k + 1) = xs.take k ++ [y] := by
  rw [List.take_succ_eq_append_getElem (by rw [List.length_set]; exact h), List.getElem_set_self, List.take_set_of_le (Nat.le_refl _)]
theorem cold_step {m : TMon} {tb : List TKept} {g : Nat} (hg : m.tables.length ≤ g) (htl : tb.length = m.tables.length) (h : tb.take g = (m.tables.take g).map f_forgetAll) : ({ m with tables := tb } : TMon) = f_coldMon m := by
  rw [take_all (by omega), take_all hg] at h
  rw [h]; rfl
end Go.Proofs.Ytacgkoohinlhjaa
