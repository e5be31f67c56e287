/- What the functions compute, as plain functions on data (fifth part): sizes of results. No program is named here. -/
import Derived.Test.YtpjhamcanhnfjaaSpec4
import Derived.Test.YtpjhamcanhnfjaaMk
namespace Go.Proofs.Ytpjhamcanhnfjaa
open Go

theorem sz_pageAt {m : List (List Int)} {p : Int} : SZ.sz (f_pageAt m p) ≤ 4 + SZ.sz m := by
  unfold f_pageAt
  split
  · rename_i h
    have h1 := sz_el_le (xs := m) (k := p.toNat) (by omega)
    have h2 := sz_list m
    omega
  · have : SZ.sz ([0, 0, 0, 0] : List Int) = 4 := by rw [szl_Int]; rfl
    omega
theorem sz_pageOf {h : THost} {m p : Int} : SZ.sz (f_pageOf h m p) ≤ 4 + SZ.sz h := by
  unfold f_pageOf
  split
  · rename_i hm
    split
    · have h1 := sz_pageAt (m := h.mem) (p := (f_slotAt (el h.mons m.toNat).outer p).page)
      have h2 := sz_Host h
      omega
    · have h1 := sz_pageAt (m := (el h.mons m.toNat).out) (p := p)
      have h2 := sz_Mon (el h.mons m.toNat)
      have h3 := sz_el_host (h := h) (k := m.toNat) (by omega)
      omega
  · have : SZ.sz ([0, 0, 0, 0] : List Int) = 4 := by rw [szl_Int]; rfl
    omega
theorem szsum_map_bd {α β : Type} [GT β] [SZ β] {f : α → β} {c : Nat} (l : List α) (h : ∀ x, SZ.sz (f x) ≤ c) : szsum (l.map f) ≤ l.length * c := by
  have := szsum_bd (m := c) (l.map f) fun y hy => by
    obtain ⟨x, _, rfl⟩ := List.mem_map.1 hy
    exact h x
  rw [List.length_map] at this
  exact this
theorem sz_seenAs (h : THost) (m : Int) : SZ.sz (f_seenAs h m) ≤ 40 + 10 * SZ.sz h := by
  unfold f_seenAs
  split
  · rename_i hm
    have h1 := sz_Bare (⟨(List.range 8).map (fun (i : Nat) => f_pageOf h m (i : Int)), (el h.mons m.toNat).guests, (el h.mons m.toNat).outs, (el h.mons m.toNat).pend⟩ : TBare)
    simp only at h1
    have h2 := sz_Mon (el h.mons m.toNat)
    have h3 := sz_el_host (h := h) (k := m.toNat) (by omega)
    have h4 := sz_list ((List.range 8).map (fun (i : Nat) => f_pageOf h m (i : Int)))
    have h5 := szsum_map_bd (f := fun (i : Nat) => f_pageOf h m (i : Int)) (c := 4 + SZ.sz h) (List.range 8) (fun i => sz_pageOf)
    simp only [List.length_map, List.length_range] at h4 h5
    omega
  · have : SZ.sz (⟨[], [], [], 0⟩ : TBare) = 0 := rfl
    omega
theorem sz_allSeenAs {h : THost} (hs : SZ.sz h ≤ 1048576) : SZ.sz (f_allSeenAs h) ≤ 20000000000000 := by
  have h1 := sz_list (f_allSeenAs h)
  have h2 := allSeen_len h
  have h3 : szsum (f_allSeenAs h) ≤ (List.range h.mons.length).length * 10485800 := szsum_map_bd (f := fun (i : Nat) => f_seenAs h (i : Int)) (List.range h.mons.length) fun i => by
    have := sz_seenAs h (i : Int)
    omega
  have h4 := sz_Host h
  have h5 := sz_list h.mons
  rw [List.length_range] at h3
  have h6 : h.mons.length * 10485800 ≤ 1048576 * 10485800 := Nat.mul_le_mul_right _ (by omega)
  omega
/-! ### Forgetting -/
def f_forget (k : TKept) (page : Int) : TKept :=
  if (0 ≤ page ∧ page < k.known.length) ∧ page < k.slots.length then ⟨k.known.set page.toNat false, k.slots.set page.toNat ⟨-1, 0⟩⟩ else k
def f_forgetUpto (k : TKept) (n : Nat) : TKept := (List.range n).foldl (fun k (i : Nat) => f_forget k (i : Int)) k
def f_forgetAll (k : TKept) : TKept := f_forgetUpto k k.known.length
theorem forgetUpto_step (k : TKept) (n : Nat) : f_forgetUpto k (n + 1) = f_forget (f_forgetUpto k n) (n : Int) := by
  unfold f_forgetUpto; rw [List.range_succ, List.foldl_append]; rfl
theorem forget_len (k : TKept) (p : Int) : (f_forget k p).known.length = k.known.length ∧ (f_forget k p).slots.length = k.slots.length := by
  unfold f_forget; split <;> simp
theorem forgetUpto_len (k : TKept) (n : Nat) : (f_forgetUpto k n).known.length = k.known.length ∧ (f_forgetUpto k n).slots.length = k.slots.length := by
  induction n with
  | zero => exact ⟨rfl, rfl⟩
  | succ n ih =>
    rw [forgetUpto_step]
    have := forget_len (f_forgetUpto k n) (n : Int)
    omega
theorem sz_forgetAll (k : TKept) : SZ.sz (f_forgetAll k) = SZ.sz k := by
  have h1 := forgetUpto_len k k.known.length
  have h2 := sz_Kept k
  have h3 := sz_Kept (f_forgetAll k)
  rw [szl_Bool, szl_TSlot] at h2 h3
  unfold f_forgetAll at h3 ⊢
  omega
def f_coldMon (m : TMon) : TMon := { m with tables := m.tables.map f_forgetAll }
def f_cold (h : THost) : THost := ⟨h.mem, h.mons.map f_coldMon, [], []⟩
theorem szsum_map_eq {α β : Type} [GT α] [SZ α] [GT β] [SZ β] {f : α → β} (l : List α) (h : ∀ x, SZ.sz (f x) = SZ.sz x) : szsum (l.map f) = szsum l := by
  induction l with
  | nil => rfl
  | cons x r ih => rw [List.map_cons, szsum_cons, szsum_cons, h, ih]
theorem sz_coldMon (m : TMon) : SZ.sz (f_coldMon m) = SZ.sz m := by
  have h1 := sz_Mon m
  have h2 := sz_Mon (f_coldMon m)
  have h3 := sz_list m.tables
  have h4 := sz_list (m.tables.map f_forgetAll)
  have h5 := szsum_map_eq m.tables sz_forgetAll
  rw [List.length_map] at h4
  have e1 : (f_coldMon m).tables = m.tables.map f_forgetAll := rfl
  have e2 : (f_coldMon m).outer = m.outer := rfl
  have e3 : (f_coldMon m).out = m.out := rfl
  have e4 : (f_coldMon m).dirty = m.dirty := rfl
  have e5 : (f_coldMon m).guests = m.guests := rfl
  have e6 : (f_coldMon m).outs = m.outs := rfl
  rw [e1, e2, e3, e4, e5, e6] at h2
  omega
theorem sz_cold (h : THost) : SZ.sz (f_cold h) ≤ SZ.sz h := by
  have h1 := sz_Host h
  have h2 := sz_Host (f_cold h)
  have h3 := sz_list h.mons
  have h4 := sz_list (h.mons.map f_coldMon)
  have h5 := szsum_map_eq h.mons sz_coldMon
  rw [List.length_map] at h4
  have e1 : (f_cold h).mons = h.mons.map f_coldMon := rfl
  have e2 : (f_cold h).mem = h.mem := rfl
  have e3 : (f_cold h).buf = [] := rfl
  have e4 : (f_cold h).iobuf = [] := rfl
  have e5 : SZ.sz ([] : List TEntry) = 0 := rfl
  rw [e1, e2, e3, e4, e5] at h2
  omega
/-! ### Bare machines -/
def f_bareOk (b : TBare) : Bool := b.guests.all f_guestOk && f_memOk b.mem 8 && f_within b.guests.length 1 2 && decide (b.outs.length ≤ 40) && f_within b.pend 0 255
theorem bareOk_t {b : TBare} (h : f_bareOk b = true) : 1 ≤ b.guests.length ∧ b.guests.length ≤ 2 ∧ 0 ≤ b.pend ∧ b.pend ≤ 255 := by
  simp only [f_bareOk, Bool.and_eq_true] at h
  have h1 := within_t h.1.1.2
  have h2 := within_t h.2
  omega
def f_posts (c : TCtl) (n : Int) : Bool := f_ctlOk c && f_within n 0 7 && (land64 (shr64 c.post n) 1 == 1)
def f_postedTo (b : TBare) (n : Int) : List Int := f_idx b.guests.length fun i => f_posts (el b.guests i).ctl n
def f_postIrq (p n : Int) : Int × Bool := if f_within p 0 255 = true ∧ f_within n 0 7 = true then (lor64 p (shl64 1 n), true) else (p, false)
theorem postIrq_in64 {p n : Int} (h : In64 p) : In64 (f_postIrq p n).1 := by
  unfold f_postIrq
  split
  · exact lor64_in64 _ _
  · exact h
def stepPost (n : Int) (gs : List TGuest) (g : Int) : List TGuest := gs.set g.toNat { el gs g.toNat with pend := (f_postIrq (el gs g.toNat).pend n).1 }
def f_barePost (b : TBare) (n : Int) : TBare × Bool :=
  if f_bareOk b = true ∧ 0 ≤ n ∧ n ≤ 7 then
    (⟨b.mem, (f_postedTo b n).foldl (stepPost n) b.guests, b.outs, if (f_postedTo b n).length = 0 then (f_postIrq b.pend n).1 else b.pend⟩, true)
  else (b, false)
theorem idx_el {n : Nat} {p : Nat → Bool} {k : Nat} : k < (f_idx n p).length → 0 ≤ el (f_idx n p) k ∧ el (f_idx n p) k < n := fun h => by
  rw [el_lt h]
  have hm := List.getElem_mem h
  unfold f_idx at hm
  obtain ⟨i, hi, he⟩ := List.mem_map.1 hm
  have := List.mem_range.1 (List.mem_filter.1 hi).1
  unfold f_idx
  omega
theorem postedTo_bd {b : TBare} {n : Int} {k : Nat} (h : 0 < b.guests.length) : 0 ≤ el (f_postedTo b n) k ∧ el (f_postedTo b n) k < b.guests.length := by
  by_cases hk : k < (f_postedTo b n).length
  · exact idx_el hk
  · have : el (f_postedTo b n) k = 0 := by
      unfold el
      rw [List.getD_eq_getElem?_getD, List.getElem?_eq_none (by omega)]
      rfl
    omega
end Go.Proofs.Ytpjhamcanhnfjaa
