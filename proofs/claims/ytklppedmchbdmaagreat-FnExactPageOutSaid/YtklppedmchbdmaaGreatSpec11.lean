/- Pages that are sent out, fetched and mended, in plain data. No program is named here. -/
import Derived.Test.YtklppedmchbdmaaGreatSpec10
namespace Go.Proofs.YtklppedmchbdmaaGreat
open Go
set_option linter.unusedVariables false
set_option linter.unusedSimpArgs false
theorem pageOut_out {h : THost} {m page : Int} (e : f_hasPage h m page = false) : f_pageOut h m page = (h, false) := by
  unfold f_pageOut; rw [if_neg (fun h1 => by rw [e] at h1; cases h1.1)]
theorem pageOut_no {h : THost} {m page : Int} (e : f_hasPage h m page = true) (h1 : (el (el h.mons m.toNat).outer page.toNat).page = -1 ∨ el (el h.mons m.toNat).outer page.toNat = ⟨-1, 0⟩) : f_pageOut h m page = (h, false) := by
  unfold f_pageOut; rw [if_neg (fun h2 => h2.2 (h1.elim id fun h3 => by rw [h3]))]
theorem pageOut_yes {h : THost} {m page : Int} (e : f_hasPage h m page = true) (h1 : ¬ (el (el h.mons m.toNat).outer page.toNat).page = -1 ∨ ¬ el (el h.mons m.toNat).outer page.toNat = ⟨-1, 0⟩) : f_pageOut h m page = (f_send h m page, true) := by
  unfold f_pageOut; rw [if_pos ⟨e, h1.elim id fun h3 h4 => h3 (slot_none e h4)⟩]
theorem sz_monO (x : TMon) (k : Nat) (c : List Int) : SZ.sz { x with out := x.out.set k c } ≤ SZ.sz x + SZ.sz c := by
  rw [sz_Mon, sz_Mon x]
  simp only
  rw [sz_list (x.out.set _ _), sz_list x.out, List.length_set]
  by_cases hk : k < x.out.length
  · have h1 := szsum_set (y := c) hk
    omega
  · rw [List.set_eq_of_length_le (by omega)]
    omega
theorem sz_hMon2 (h : THost) (k : Nat) (y : TMon) (a : List (List Int)) (n : Nat) (hy : SZ.sz y ≤ SZ.sz (el h.mons k) + n) : SZ.sz (⟨a, h.mons.set k y, h.buf, h.iobuf⟩ : THost) ≤ SZ.sz h + n + SZ.sz a := by
  rw [sz_Host, sz_Host h]
  simp only
  have e3 := sz_list h.mons
  have e4 := sz_list (h.mons.set k y)
  rw [List.length_set] at e4
  by_cases hk : k < h.mons.length
  · have h1 := szsum_set (y := y) hk
    omega
  · rw [List.set_eq_of_length_le (by omega)]
    omega
theorem sz_send (h : THost) (m page : Int) : SZ.sz (f_send h m page) ≤ 3 * SZ.sz h + 4 := by
  have h1 := sz_hMon2 h m.toNat _ h.mem _ (sz_monO (el h.mons m.toNat) page.toNat (f_pageAt h.mem (el (el h.mons m.toNat).outer page.toNat).page))
  have h2 := sz_pageAt (m := h.mem) (p := (el (el h.mons m.toNat).outer page.toNat).page)
  have h3 : SZ.sz h.mem ≤ SZ.sz h := by rw [sz_Host h]; omega
  exact Nat.le_trans (sz_slotTo _ _ _ _) (Nat.le_trans h1 (by omega))
theorem sz_pageOut (h : THost) (m page : Int) : SZ.sz (f_pageOut h m page).1 ≤ 3 * SZ.sz h + 4 := by
  unfold f_pageOut
  split
  · exact sz_send h m page
  · simp only; omega
def slotN (p : Int) (l : List TSlot) : Nat := (l.filter fun s => decide (s.page = p)).length
def ownN (p : Int) (ms : List TMon) : Nat := (ms.map fun x => slotN p x.outer).sum
def one (c : Prop) [Decidable c] : Nat := if c then 1 else 0
theorem own1_found {l : List TSlot} {page : Int} {k : Nat} (h : ¬ f_own1 l page k < 0) : f_own1 l page k < l.length ∧ (el l (f_own1 l page k).toNat).page = page := by
  by_cases hk : k < l.length
  · by_cases e : (el l k).page = page
    · rw [own1_hit hk e]; exact ⟨by omega, by simpa using e⟩
    · rw [own1_next hk e] at h ⊢
      exact own1_found h
  · rw [own1_end (by omega)] at h; omega
termination_by l.length - k
theorem own0_found {ms : List TMon} {page : Int} {i : Nat} (h : ¬ (f_own0 ms page i).1 < 0) : (f_own0 ms page i).1 < ms.length ∧ 0 ≤ (f_own0 ms page i).2 ∧ (f_own0 ms page i).2 < (el ms (f_own0 ms page i).1.toNat).outer.length ∧ (el (el ms (f_own0 ms page i).1.toNat).outer (f_own0 ms page i).2.toNat).page = page := by
  by_cases hk : i < ms.length
  · by_cases e : f_own1 (el ms i).outer page 0 < 0
    · have e2 : f_own0 ms page i = f_own0 ms page (i + 1) := by rw [f_own0, if_pos hk, if_pos e]
      rw [e2] at h ⊢
      exact own0_found h
    · have e2 : f_own0 ms page i = ((i : Int), f_own1 (el ms i).outer page 0) := by rw [f_own0, if_pos hk, if_neg e]
      rw [e2]
      have h1 := own1_found e
      exact ⟨by show (i : Int) < _; omega, by show 0 ≤ f_own1 _ _ _; omega, h1.1, h1.2⟩
  · rw [own0_end (by omega)] at h; exact absurd (show (-1 : Int) < 0 by decide) h
termination_by ms.length - i
theorem owner_found {h : THost} {p : Int} (e : ¬ (f_ownerOfPage h p).1 < 0) : (0 ≤ (f_ownerOfPage h p).1 ∧ (f_ownerOfPage h p).1 < h.mons.length) ∧ (0 ≤ (f_ownerOfPage h p).2 ∧ (f_ownerOfPage h p).2 < (el h.mons (f_ownerOfPage h p).1.toNat).outer.length) ∧ (el (el h.mons (f_ownerOfPage h p).1.toNat).outer (f_ownerOfPage h p).2.toNat).page = p := by
  by_cases h0 : p < 0
  · rw [ownerOfPage_neg h0] at e; exact absurd (show (-1 : Int) < 0 by decide) e
  · rw [ownerOfPage_pos h0] at e ⊢
    have h1 := own0_found e
    exact ⟨⟨by omega, h1.1⟩, ⟨h1.2.1, h1.2.2.1⟩, h1.2.2.2⟩
theorem free_pos {h : THost} {p : Nat} (hp : p < h.mem.length) (e : (f_ownerOfPage h p).1 < 0) : 0 < (f_freeIn h).length := by
  have : (p : Int) ∈ f_freeIn h := by
    unfold f_freeIn f_idx
    exact List.mem_map.mpr ⟨p, List.mem_filter.mpr ⟨List.mem_range.mpr hp, by simpa using e⟩, rfl⟩
  exact List.length_pos_of_mem this
theorem free_none {h : THost} (e : ¬ 0 < (f_freeIn h).length) {p : Nat} (hp : p < h.mem.length) : ¬ (f_ownerOfPage h p).1 < 0 := fun h1 => e (free_pos hp h1)
def lens (x : TMon) : Nat × Nat × Nat × Nat × Nat × Nat := (x.outer.length, x.out.length, x.dirty.length, x.guests.length, x.tables.length, x.outs.length)
theorem sendFirst_pre {h : THost} (e : f_hostOk h = true) (hf : ¬ 0 < (f_freeIn h).length) : (0 ≤ (f_ownerOfPage h 0).1 ∧ (f_ownerOfPage h 0).1 < h.mons.length) ∧ (0 ≤ (f_ownerOfPage h 0).2 ∧ (f_ownerOfPage h 0).2 ≤ 7) ∧ ((el h.mons (f_ownerOfPage h 0).1.toNat).outer.length = 8 ∧ (el h.mons (f_ownerOfPage h 0).1.toNat).out.length = 8 ∧ (el h.mons (f_ownerOfPage h 0).1.toNat).dirty.length = 8 ∧ (el h.mons (f_ownerOfPage h 0).1.toNat).tables.length = (el h.mons (f_ownerOfPage h 0).1.toNat).guests.length) ∧ (el (el h.mons (f_ownerOfPage h 0).1.toNat).outer (f_ownerOfPage h 0).2.toNat).page = 0 := by
  have h1 := owner_found (free_none hf (p := 0) (by have := hostOk_t e; omega))
  simp only [Int.ofNat_zero, show ((0 : Nat) : Int) = 0 from rfl] at h1
  have h2 := monOk_lens (hostOk_mon e (k := (f_ownerOfPage h 0).1.toNat) (by omega))
  exact ⟨h1.1, ⟨h1.2.1.1, by omega⟩, h2, h1.2.2⟩
def f_sendFirst (h : THost) : THost := f_send h (f_ownerOfPage h 0).1 (f_ownerOfPage h 0).2
def f_withPage (m : List (List Int)) (p : Int) (c : List Int) : List (List Int) := if (0 ≤ p ∧ p < m.length) ∧ f_pageOk c = true then m.set p.toNat c else m
def f_room (h : THost) : THost := if 0 < (f_freeIn h).length then h else f_sendFirst h
def f_putIn (h : THost) (m page : Int) : THost :=
  f_slotTo ⟨f_withPage h.mem (el (f_freeIn h) 0) (el (el h.mons m.toNat).out page.toNat), h.mons.set m.toNat { el h.mons m.toNat with out := (el h.mons m.toNat).out.set page.toNat [] }, h.buf, h.iobuf⟩ m page ⟨el (f_freeIn h) 0, 3⟩
def f_fetch (h : THost) (m page : Int) : THost := f_putIn (f_room h) m page
def f_pageIn (h : THost) (m page : Int) : THost × Bool :=
  if f_hasPage h m page = true ∧ (el (el h.mons m.toNat).outer page.toNat).page = -1 then (f_fetch h m page, true) else (h, false)
theorem hasPage_ok {h : THost} {m page : Int} (e : f_hasPage h m page = true) : f_hostOk h = true := by
  simp only [f_hasPage, Bool.and_eq_true] at e
  exact (l25Mon_t e.1).1
def f_mid (h : THost) (m page : Int) : THost := if (el (el h.mons m.toNat).outer page.toNat).page = -1 then f_fetch h m page else h
def f_wr (h : THost) (m page : Int) : THost :=
  if f_enough (el (el h.mons m.toNat).outer page.toNat).rights 2 = true then f_setM h m { el h.mons m.toNat with dirty := (el h.mons m.toNat).dirty.set page.toNat true }
  else f_slotTo (f_setM h m { el h.mons m.toNat with dirty := (el h.mons m.toNat).dirty.set page.toNat true }) m page ⟨(el (el h.mons m.toNat).outer page.toNat).page, 3⟩
def f_mend (h : THost) (m page need : Int) : THost := if f_enough need 2 = true then f_wr (f_mid h m page) m page else f_mid h m page
def f_mendTop (h : THost) (m page need : Int) : THost × Bool := if f_hasPage h m page = true ∧ f_within need 1 3 = true then (f_mend h m page need, true) else (h, false)
end Go.Proofs.YtklppedmchbdmaaGreat
