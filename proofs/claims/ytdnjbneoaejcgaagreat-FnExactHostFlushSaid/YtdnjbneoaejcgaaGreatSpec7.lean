/- Flushes of pages, in plain data. No program is named here. -/
import Derived.Test.YtdnjbneoaejcgaaGreatSpec6
namespace Go.Proofs.YtdnjbneoaejcgaaGreat
open Go
set_option linter.unusedVariables false
set_option linter.unusedSimpArgs false
def f_samePg (e : TEntry) (tag page : Int) : Bool := (e.tag == tag) && (e.page == page)
def f_without (b : List TEntry) (p : TEntry → Bool) : List TEntry := b.filter fun e => !p e
def f_flushPage (b : List TEntry) (tag page : Int) : List TEntry := f_without b fun e => f_samePg e tag page
theorem without_t {b : List TEntry} {p : TEntry → Bool} {k : Nat} (hk : k < b.length) (h : p (el b k) = true) : f_without (b.take (k + 1)) p = f_without (b.take k) p := by
  unfold f_without
  rw [take_el hk, List.filter_append]
  simp [h]
theorem without_f {b : List TEntry} {p : TEntry → Bool} {k : Nat} (hk : k < b.length) (h : p (el b k) = false) : f_without (b.take (k + 1)) p = f_without (b.take k) p ++ [el b k] := by
  unfold f_without
  rw [take_el hk, List.filter_append]
  simp [h]
theorem without_len (b : List TEntry) (p : TEntry → Bool) : (f_without b p).length ≤ b.length := List.length_filter_le _ _
theorem samePg_f1 {e : TEntry} {tag page : Int} (h : ¬ e.tag = tag) : f_samePg e tag page = false := by simp [f_samePg, h]
theorem samePg_f2 {e : TEntry} {tag page : Int} (h : ¬ e.page = page) : f_samePg e tag page = false := by simp [f_samePg, h]
theorem samePg_t {e : TEntry} {tag page : Int} (h : e.tag = tag) (h2 : e.page = page) : f_samePg e tag page = true := by simp [f_samePg, h, h2]
def f_tagOf (m g : Int) : Int := if (0 ≤ m ∧ m ≤ 2) ∧ 0 ≤ g ∧ g ≤ 1 then 1 + g + m * 2 else 0
theorem tagOf_in64 (m g : Int) : In64 (f_tagOf m g) := by
  unfold f_tagOf
  split
  · exact ⟨by omega, by omega⟩
  · exact ⟨by decide, by decide⟩
def f_bareFlush (b : TBare) (g page : Int) : TBare × Bool := f_changed b g (f_within page 0 3) (fun x => { x with live := f_withSlot x.live page (f_slotAt x.written page) })
theorem loc_flush (g page : Int) : Loc (fun b => f_bareFlush b g page) := loc_changed g (fun _ => f_within page 0 3) (fun _ x => { x with live := f_withSlot x.live page (f_slotAt x.written page) })
theorem flush_in {b : TBare} {g page : Int} (h : f_l19Is b g = true) (h1 : f_within page 0 3 = true) : f_bareFlush b g page = (⟨b.mem, b.guests.set g.toNat { el b.guests g.toNat with live := f_withSlot (el b.guests g.toNat).live page (f_slotAt (el b.guests g.toNat).written page) }, b.outs, b.pend⟩, true) := by
  unfold f_bareFlush
  rw [changed_in h h1]
theorem flush_no {b : TBare} {g page : Int} (h : f_within page 0 3 = false) : f_bareFlush b g page = (b, false) := by
  unfold f_bareFlush
  rw [changed_no h]
theorem changed_bd {b : TBare} {g : Int} {c : Bool} {F : TGuest → TGuest} (h : (f_changed b g c F).2 = true) : 0 ≤ g ∧ g < b.guests.length := by
  unfold f_changed at h
  split at h
  · rename_i e; exact e.2.1
  · cases h
theorem bareFlush_v {x : TMon} {g page : Int} (h : (f_bareFlush (f_view x) g page).2 = true) : 0 ≤ g ∧ g < x.guests.length := changed_bd (b := f_view x) h
def f_flushed (h : THost) (m g page : Int) : THost :=
  ⟨h.mem, h.mons.set m.toNat { el h.mons m.toNat with tables := (el h.mons m.toNat).tables.set g.toNat (f_forget (el (el h.mons m.toNat).tables g.toNat) page) }, f_flushPage h.buf (f_tagOf m g) page, f_flushPage h.iobuf (f_tagOf m g) page⟩
def f_hostFlush (h : THost) (m g page : Int) : THost × Bool :=
  if (f_reflected h m (f_bareFlush (f_seenAs h m) g page)).2 = true then (f_flushed (f_reflected h m (f_bareFlush (f_seenAs h m) g page)).1 m g page, true) else (h, false)
theorem reflected_no {h : THost} {m : Int} {r : TBare × Bool} (e : (f_reflected h m r).2 = false) : (f_reflected h m r).1 = h := by
  unfold f_reflected at e ⊢
  split at e
  · cases e
  · rename_i hn; rw [if_neg hn]
theorem reflected_yes {h : THost} {m : Int} {r : TBare × Bool} (e : (f_reflected h m r).2 = true) : (f_hostOk h = true ∧ 0 ≤ m ∧ m < h.mons.length) ∧ r.2 = true ∧ (f_reflected h m r).1 = f_back h m r.1 := by
  unfold f_reflected at e ⊢
  split at e
  · rename_i hn; exact ⟨hn.1, hn.2, by rw [if_pos hn]⟩
  · cases e
theorem back_bd (h : THost) (m : Int) (b : TBare) : (f_back h m b).mons.length = h.mons.length ∧ (el (f_back h m b).mons m.toNat).tables.length = (el h.mons m.toNat).tables.length := by
  refine ⟨by simp [f_back], ?_⟩
  unfold f_back
  by_cases hk : m.toNat < h.mons.length
  · simp only
    rw [el_set_self hk]
  · simp only
    rw [List.set_eq_of_length_le (by omega)]
theorem monOk_tab {x : TMon} (h : f_monOk x = true) : x.tables.length = x.guests.length := by
  simp only [f_monOk, f_monHead, Bool.and_eq_true, decide_eq_true_eq] at h
  exact h.1.1.1.1.1.1.2
theorem l25Mon_tab {h : THost} {m : Int} (e : f_l25Mon h m = true) : 0 ≤ m ∧ m < h.mons.length ∧ (el h.mons m.toNat).tables.length = (el h.mons m.toNat).guests.length := by
  have h1 := l25Mon_t e
  exact ⟨h1.2.1, h1.2.2, monOk_tab (hostOk_mon h1.1 (by omega))⟩
theorem reflFlush_bd {h : THost} {m g page : Int} (e : (f_reflected h m (f_bareFlush (f_seenAs h m) g page)).2 = true) :
    (0 ≤ m ∧ m < (f_reflected h m (f_bareFlush (f_seenAs h m) g page)).1.mons.length) ∧ 0 ≤ g ∧ g < (el (f_reflected h m (f_bareFlush (f_seenAs h m) g page)).1.mons m.toNat).tables.length := by
  obtain ⟨h1, h2, h3⟩ := reflected_yes e
  have h4 := back_bd h m (f_bareFlush (f_seenAs h m) g page).1
  have h5 := changed_bd (b := f_seenAs h m) h2
  have h6 := monOk_tab (hostOk_mon h1.1 (k := m.toNat) (by omega))
  rw [show (f_seenAs h m).guests = (el h.mons m.toNat).guests by unfold f_seenAs; rw [if_pos h1.2]] at h5
  rw [h3]
  omega
theorem hostFlush_no {h : THost} {m g page : Int} (e : (f_reflected h m (f_bareFlush (f_seenAs h m) g page)).2 = false) : f_hostFlush h m g page = ((f_reflected h m (f_bareFlush (f_seenAs h m) g page)).1, false) := by
  unfold f_hostFlush
  rw [if_neg (by rw [e]; exact fun h => by cases h), reflected_no e]
theorem hostFlush_yes {h : THost} {m g page : Int} (e : (f_reflected h m (f_bareFlush (f_seenAs h m) g page)).2 = true) : f_hostFlush h m g page = (f_flushed (f_reflected h m (f_bareFlush (f_seenAs h m) g page)).1 m g page, true) := by
  unfold f_hostFlush
  rw [if_pos e]
theorem hostFlush_out {h : THost} {m g page : Int} (e : f_l25Mon h m = false) : f_hostFlush h m g page = (h, false) := by
  unfold f_hostFlush
  rw [if_neg (fun h1 => by rw [l25Mon_mk (reflected_yes h1).1] at e; cases e)]
theorem hostFlush_sno {h : THost} {m g page : Int} (e : f_l25Mon h m = true) (h1 : (f_bareFlush (f_view (el h.mons m.toNat)) g page).2 = false) : f_hostFlush h m g page = (h, false) := by
  have h2 := reflect_spec (loc_flush g page) (l25Mon_t e)
  have h3 : (f_reflected h m (f_bareFlush (f_seenAs h m) g page)).2 = false := by rw [h2]; exact h1
  unfold f_hostFlush
  rw [if_neg (by rw [h3]; exact fun h => by cases h)]
theorem hostFlush_syes {h : THost} {m g page : Int} (e : f_l25Mon h m = true) (h1 : (f_bareFlush (f_view (el h.mons m.toNat)) g page).2 = true) : f_hostFlush h m g page = (f_flushed (f_back h m (f_bareFlush (f_view (el h.mons m.toNat)) g page).1) m g page, true) := by
  have h2 := reflect_spec (loc_flush g page) (l25Mon_t e)
  have h3 : (f_reflected h m (f_bareFlush (f_seenAs h m) g page)).2 = true := by rw [h2]; exact h1
  unfold f_hostFlush
  rw [if_pos h3]
  have h4 : (f_reflected h m (f_bareFlush (f_seenAs h m) g page)).1 = f_back h m (f_bareFlush (f_view (el h.mons m.toNat)) g page).1 := by rw [h2]
  rw [h4]
theorem sz_forget (k : TKept) (p : Int) : SZ.sz (f_forget k p) = SZ.sz k := by
  have h := forget_len k p
  have h1 := sz_Kept k
  have h2 := sz_Kept (f_forget k p)
  rw [sz_list, sz_list, szsum_flat (fun _ => rfl), szsum_flat (fun _ => rfl)] at h1 h2
  omega
theorem sz_flushPage (b : List TEntry) (t p : Int) : SZ.sz (f_flushPage b t p) ≤ SZ.sz b := by
  have h := without_len b (fun e => f_samePg e t p)
  unfold f_flushPage
  rw [sz_list, sz_list, szsum_flat (fun _ => rfl), szsum_flat (fun _ => rfl)]
  omega
theorem sz_setTab (t : List TKept) (k : Nat) (p : Int) : SZ.sz (t.set k (f_forget (el t k) p)) = SZ.sz t := by
  have e3 := sz_list t
  have e4 := sz_list (t.set k (f_forget (el t k) p))
  rw [List.length_set] at e4
  by_cases hk : k < t.length
  · have h1 := szsum_set (y := f_forget (el t k) p) hk
    rw [sz_forget] at h1
    omega
  · rw [List.set_eq_of_length_le (by omega)]
theorem sz_flushed (h : THost) (m g page : Int) : SZ.sz (f_flushed h m g page) ≤ 2 * SZ.sz h := by
  have h1 := sz_setMon h m.toNat { el h.mons m.toNat with tables := (el h.mons m.toNat).tables.set g.toNat (f_forget (el (el h.mons m.toNat).tables g.toNat) page) }
  have h2 := sz_Host h
  have h3 := sz_Host (⟨h.mem, h.mons.set m.toNat { el h.mons m.toNat with tables := (el h.mons m.toNat).tables.set g.toNat (f_forget (el (el h.mons m.toNat).tables g.toNat) page) }, h.buf, h.iobuf⟩ : THost)
  have h4 := sz_Host (f_flushed h m g page)
  have h5 := sz_flushPage h.buf (f_tagOf m g) page
  have h6 := sz_flushPage h.iobuf (f_tagOf m g) page
  have e1 : (f_flushed h m g page).mem = h.mem := rfl
  have e2 : (f_flushed h m g page).mons = h.mons.set m.toNat { el h.mons m.toNat with tables := (el h.mons m.toNat).tables.set g.toNat (f_forget (el (el h.mons m.toNat).tables g.toNat) page) } := rfl
  have e3 : (f_flushed h m g page).buf = f_flushPage h.buf (f_tagOf m g) page := rfl
  have e4 : (f_flushed h m g page).iobuf = f_flushPage h.iobuf (f_tagOf m g) page := rfl
  rw [e1, e2, e3, e4] at h4
  have k3 := sz_Mon (el h.mons m.toNat)
  have k4 := sz_Mon { el h.mons m.toNat with tables := (el h.mons m.toNat).tables.set g.toNat (f_forget (el (el h.mons m.toNat).tables g.toNat) page) }
  have k5 := sz_setTab (el h.mons m.toNat).tables g.toNat page
  simp only at h1 h3 h4 k4
  by_cases hk : m.toNat < h.mons.length
  · have k6 := sz_el_host hk
    omega
  · rw [List.set_eq_of_length_le (by omega)] at h4
    omega
theorem sz_hostFlush (h : THost) (m g page : Int) : SZ.sz (f_hostFlush h m g page).1 ≤ 8 * SZ.sz h := by
  have h1 := sz_reflected h m (f_bareFlush (f_seenAs h m) g page)
  have h2 := sz_changed (f_seenAs h m) g (f_within page 0 3) (fun x => { x with live := f_withSlot x.live page (f_slotAt x.written page) }) 0 (fun x => by
    have e1 := sz_Guest x
    have e2 := sz_Guest { x with live := f_withSlot x.live page (f_slotAt x.written page) }
    have e3 := sz_withSlot x.live page (f_slotAt x.written page)
    simp only at e2 ⊢
    omega)
  have h3 := sz_seenGuests h m
  have h4 := sz_flushed (f_reflected h m (f_bareFlush (f_seenAs h m) g page)).1 m g page
  unfold f_hostFlush
  split
  · unfold f_bareFlush at h1 h4 ⊢
    simp only
    omega
  · simp only; omega
end Go.Proofs.YtdnjbneoaejcgaaGreat
