/- Pages that are guarded and sent out, in plain data. No program is named here. -/
import Derived.Test.YtomgmpbipaldaaaGreatSpec7
import Derived.Test.YtomgmpbipaldaaaGreatHp
namespace Go.Proofs.YtomgmpbipaldaaaGreat
open Go
set_option linter.unusedVariables false
set_option linter.unusedSimpArgs false
def f_forgetUses (k : TKept) (inner : List TSlot) (page : Int) : TKept := (f_usesOf inner page).foldl f_forget k
def f_tabs (t : List TKept) (g : List TGuest) (page : Int) : Nat → List TKept
  | 0 => t
  | k + 1 => (f_tabs t g page k).set k (f_forgetUses (el t k) (el g k).live page)
theorem tabs_len (t : List TKept) (g : List TGuest) (page : Int) (k : Nat) : (f_tabs t g page k).length = t.length := by
  induction k with
  | zero => rfl
  | succ k ih => rw [f_tabs, List.length_set, ih]
theorem tabs_el (t : List TKept) (g : List TGuest) (page : Int) {k j : Nat} (h : k ≤ j) : el (f_tabs t g page k) j = el t j := by
  induction k with
  | zero => rfl
  | succ k ih =>
    rw [f_tabs]
    have e := ih (by omega)
    unfold el at e ⊢
    rw [List.getD_eq_getElem?_getD, List.getElem?_set_ne (by omega), ← List.getD_eq_getElem?_getD]
    exact e
def f_onHost (e : TEntry) (host : Int) : Bool := e.host == host
theorem onHost_f {e : TEntry} {host : Int} (h : ¬ e.host = host) : f_onHost e host = false := by simp [f_onHost, h]
theorem onHost_t {e : TEntry} {host : Int} (h : e.host = host) : f_onHost e host = true := by simp [f_onHost, h]
def f_flushHost (b : List TEntry) (host : Int) : List TEntry := f_without b fun e => f_onHost e host
def f_flushIf (b : List TEntry) (p : Int) : List TEntry := if p = -1 then b else f_flushHost b p
theorem flushIf_no {b : List TEntry} {p : Int} (h : p = -1) : f_flushIf b p = b := if_pos h
theorem flushIf_yes {b : List TEntry} {p : Int} (h : ¬ p = -1) : f_flushIf b p = f_flushHost b p := if_neg h
def f_inval (h : THost) (m page : Int) (s : TSlot) : THost :=
  ⟨h.mem, h.mons.set m.toNat { el h.mons m.toNat with tables := f_tabs (el h.mons m.toNat).tables (el h.mons m.toNat).guests page (el h.mons m.toNat).guests.length }, f_flushIf h.buf s.page, f_flushIf h.iobuf s.page⟩
def f_slotTo (h : THost) (m page : Int) (s : TSlot) : THost :=
  ⟨h.mem, h.mons.set m.toNat { el h.mons m.toNat with tables := f_tabs (el h.mons m.toNat).tables (el h.mons m.toNat).guests page (el h.mons m.toNat).guests.length, outer := (el h.mons m.toNat).outer.set page.toNat s },
    f_flushIf h.buf (el (el h.mons m.toNat).outer page.toNat).page, f_flushIf h.iobuf (el (el h.mons m.toNat).outer page.toNat).page⟩
def f_setM (h : THost) (m : Int) (x : TMon) : THost := ⟨h.mem, h.mons.set m.toNat x, h.buf, h.iobuf⟩
def f_hasPage (h : THost) (m page : Int) : Bool := f_l25Mon h m && f_within page 0 7
theorem monOk_lens {x : TMon} (h : f_monOk x = true) : x.outer.length = 8 ∧ x.out.length = 8 ∧ x.dirty.length = 8 ∧ x.tables.length = x.guests.length := by
  have h1 := (monOk_t h).1
  simp only [f_monOk, f_monHead, Bool.and_eq_true, decide_eq_true_eq] at h
  exact ⟨h1, h.1.1.1.1.2, h.1.1.1.2, h.1.1.1.1.1.1.2⟩
theorem hasPage_t {h : THost} {m page : Int} (e : f_hasPage h m page = true) : (0 ≤ m ∧ m < h.mons.length) ∧ (0 ≤ page ∧ page ≤ 7) ∧ (el h.mons m.toNat).outer.length = 8 ∧ (el h.mons m.toNat).out.length = 8 ∧ (el h.mons m.toNat).dirty.length = 8 ∧ (el h.mons m.toNat).tables.length = (el h.mons m.toNat).guests.length := by
  simp only [f_hasPage, Bool.and_eq_true] at e
  have h1 := l25Mon_t e.1
  exact ⟨h1.2, within_t e.2, monOk_lens (hostOk_mon h1.1 (by omega))⟩
theorem hasPage_slot {h : THost} {m page : Int} (e : f_hasPage h m page = true) : (el (el h.mons m.toNat).outer page.toNat) = ⟨-1, 0⟩ ∨ (0 ≤ (el (el h.mons m.toNat).outer page.toNat).page ∧ (el (el h.mons m.toNat).outer page.toNat).page ≤ 11) := by
  have h2 := hasPage_t e
  simp only [f_hasPage, Bool.and_eq_true] at e
  have h1 := l25Mon_t e.1
  have h3 := tableOk_el (monOk_t (hostOk_mon h1.1 (k := m.toNat) (by omega))).2 (k := page.toNat) (by omega)
  simp only [f_slotOk, Bool.or_eq_true, Bool.and_eq_true, decide_eq_true_eq] at h3
  rcases h3 with h3 | h3
  · exact .inl h3
  · exact .inr (within_t h3.1.2)
def f_slotP (h : THost) (m page : Int) : TSlot := el (el h.mons m.toNat).outer page.toNat
theorem slot_none {h : THost} {m page : Int} (e : f_hasPage h m page = true) (h1 : (el (el h.mons m.toNat).outer page.toNat).page = -1) : el (el h.mons m.toNat).outer page.toNat = ⟨-1, 0⟩ := by
  rcases hasPage_slot e with h2 | h2
  · exact h2
  · omega
theorem inval_bd {Y h : THost} {m page : Int} {s : TSlot} (e : Y = f_inval h m page s) (hm : m.toNat < h.mons.length) : Y.mons.length = h.mons.length ∧ (el Y.mons m.toNat).outer.length = (el h.mons m.toNat).outer.length ∧ (el Y.mons m.toNat).out.length = (el h.mons m.toNat).out.length ∧ (el Y.mons m.toNat).dirty.length = (el h.mons m.toNat).dirty.length ∧ (el Y.mons m.toNat).guests.length = (el h.mons m.toNat).guests.length ∧ (el Y.mons m.toNat).tables.length = (el h.mons m.toNat).tables.length := by
  subst e
  unfold f_inval
  simp only [el_set_self hm, List.length_set, tabs_len, and_self]
def f_guard (h : THost) (m page : Int) : THost × Bool :=
  if f_hasPage h m page = true then
    (if (el (el h.mons m.toNat).outer page.toNat).page = -1 then f_setM h m { el h.mons m.toNat with dirty := (el h.mons m.toNat).dirty.set page.toNat false }
     else f_slotTo (f_setM h m { el h.mons m.toNat with dirty := (el h.mons m.toNat).dirty.set page.toNat false }) m page ⟨(el (el h.mons m.toNat).outer page.toNat).page, 1⟩, true)
  else (h, false)
def f_send (h : THost) (m page : Int) : THost :=
  f_slotTo (f_setM h m { el h.mons m.toNat with out := (el h.mons m.toNat).out.set page.toNat (f_pageAt h.mem (el (el h.mons m.toNat).outer page.toNat).page) }) m page ⟨-1, 0⟩
def f_pageOut (h : THost) (m page : Int) : THost × Bool :=
  if f_hasPage h m page = true ∧ ¬ (el (el h.mons m.toNat).outer page.toNat).page = -1 then (f_send h m page, true) else (h, false)
theorem sz_forgetUses (k : TKept) (i : List TSlot) (p : Int) : SZ.sz (f_forgetUses k i p) = SZ.sz k := by
  unfold f_forgetUses
  generalize f_usesOf i p = l
  induction l generalizing k with
  | nil => rfl
  | cons x r ih => rw [List.foldl_cons, ih, sz_forget]
theorem szsum_tabs (t : List TKept) (g : List TGuest) (page : Int) (k : Nat) : szsum (f_tabs t g page k) = szsum t := by
  induction k with
  | zero => rfl
  | succ k ih =>
    rw [f_tabs]
    by_cases hk : k < (f_tabs t g page k).length
    · have h1 := szsum_set (y := f_forgetUses (el t k) (el g k).live page) hk
      rw [sz_forgetUses, tabs_el t g page (Nat.le_refl k)] at h1
      omega
    · rw [List.set_eq_of_length_le (by omega)]
      exact ih
theorem sz_flushIf (b : List TEntry) (p : Int) : SZ.sz (f_flushIf b p) ≤ SZ.sz b := by
  unfold f_flushIf f_flushHost
  split
  · exact Nat.le_refl _
  · have h := without_len b (fun e => f_onHost e p)
    rw [sz_list, sz_list, szsum_flat (fun _ => rfl), szsum_flat (fun _ => rfl)]
    omega
theorem sz_hMon (h : THost) (k : Nat) (y : TMon) (b c : List TEntry) (hy : SZ.sz y ≤ SZ.sz (el h.mons k)) (hb : SZ.sz b ≤ SZ.sz h.buf) (hc : SZ.sz c ≤ SZ.sz h.iobuf) : SZ.sz (⟨h.mem, h.mons.set k y, b, c⟩ : THost) ≤ SZ.sz h := by
  rw [sz_Host, sz_Host h]
  simp only
  have e3 := sz_list h.mons
  have e4 := sz_list (h.mons.set k y)
  rw [List.length_set] at e4
  by_cases hk : k < h.mons.length
  · have h1 := szsum_set (y := y) hk
    omega
  · rw [List.set_eq_of_length_le (by omega)]
    omega
theorem sz_monTO (x : TMon) (t : List TKept) (o : List TSlot) (h1 : t.length = x.tables.length) (h2 : szsum t = szsum x.tables) (h3 : o.length = x.outer.length) : SZ.sz { x with tables := t, outer := o } ≤ SZ.sz x := by
  rw [sz_Mon, sz_Mon x]
  simp only
  rw [sz_list t, sz_list o, sz_list x.tables, sz_list x.outer, szsum_flat (fun _ => rfl), szsum_flat (fun _ => rfl) x.outer]
  omega
theorem sz_slotTo (h : THost) (m page : Int) (s : TSlot) : SZ.sz (f_slotTo h m page s) ≤ SZ.sz h :=
  sz_hMon h _ _ _ _ (sz_monTO _ _ _ (tabs_len _ _ _ _) (szsum_tabs _ _ _ _) List.length_set) (sz_flushIf _ _) (sz_flushIf _ _)
theorem sz_monD (x : TMon) (d : List Bool) (h3 : d.length = x.dirty.length) : SZ.sz { x with dirty := d } ≤ SZ.sz x := by
  rw [sz_Mon, sz_Mon x]
  simp only
  rw [sz_list d, sz_list x.dirty, szsum_flat (fun _ => rfl), szsum_flat (fun _ => rfl) x.dirty]
  omega
end Go.Proofs.YtomgmpbipaldaaaGreat
