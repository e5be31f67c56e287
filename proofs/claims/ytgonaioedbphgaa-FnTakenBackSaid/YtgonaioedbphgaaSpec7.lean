/- Flushes of pages, in plain data. No program is named here. -/
import Derived.Test.YtgonaioedbphgaaSpec6
namespace Go.Proofs.Ytgonaioedbphgaa
open Go
set_option linter.unusedVariables false
set_option linter.unusedSimpArgs false
def f_samePg (e : TEntry) (tag page : Int) : Bool := (e.tag == tag) && (e.page == page)
def f_without (b : List TEntry) (p : TEntry → Bool) : List TEntry := b.filter fun e => !p e
def f_flushPage (b : List TEntry) (tag page : Int) : List TEntry := f_without b fun e => f_samePg e tag page
theorem without_t {b : List TEntry} {p : TEntry → Bool} {k : Nat} (hk : k < b.length) (h : p (el b k) = true) : f_without (b.take (k + 1)) p = f_without (b.take k) p := by
  unfold f_without
  rw [take_el hk, List.filter_append]
  simp [h]
theorem without_f {b : List TEntry} {p : TEntry → Bool} {k : Nat} (hk : k < b.length) (h : p (el b k) = false) : f_without (b.take (k + 1)) p = f_without (b.take k) p ++ [el b k] := by
  unfold f_without
  rw [take_el hk, List.filter_append]
  simp [h]
theorem without_len (b : List TEntry) (p : TEntry → Bool) : (f_without b p).length ≤ b.length := List.length_filter_le _ _
theorem samePg_f1 {e : TEntry} {tag page : Int} (h : ¬ e.tag = tag) : f_samePg e tag page = false := by simp [f_samePg, h]
theorem samePg_f2 {e : TEntry} {tag page : Int} (h : ¬ e.page = page) : f_samePg e tag page = false := by simp [f_samePg, h]
theorem samePg_t {e : TEntry} {tag page : Int} (h : e.tag = tag) (h2 : e.page = page) : f_samePg e tag page = true := by simp [f_samePg, h, h2]
def f_tagOf (m g : Int) : Int := if (0 ≤ m ∧ m ≤ 2) ∧ 0 ≤ g ∧ g ≤ 1 then 1 + g + m * 2 else 0
theorem tagOf_in64 (m g : Int) : In64 (f_tagOf m g) := by
  unfold f_tagOf
  split
  · exact ⟨by omega, by omega⟩
  · exact ⟨by decide, by decide⟩
def f_bareFlush (b : TBare) (g page : Int) : TBare × Bool := f_changed b g (f_within page 0 3) (fun x => { x with live := f_withSlot x.live page (f_slotAt x.written page) })
theorem changed_bd {b : TBare} {g : Int} {c : Bool} {F : TGuest → TGuest} (h : (f_changed b g c F).2 = true) : 0 ≤ g ∧ g < b.guests.length := by
  unfold f_changed at h
  split at h
  · rename_i e; exact e.2.1
  · cases h
def f_flushed (h : THost) (m g page : Int) : THost :=
  ⟨h.mem, h.mons.set m.toNat { el h.mons m.toNat with tables := (el h.mons m.toNat).tables.set g.toNat (f_forget (el (el h.mons m.toNat).tables g.toNat) page) }, f_flushPage h.buf (f_tagOf m g) page, f_flushPage h.iobuf (f_tagOf m g) page⟩
def f_hostFlush (h : THost) (m g page : Int) : THost × Bool :=
  if (f_reflected h m (f_bareFlush (f_seenAs h m) g page)).2 = true then (f_flushed (f_reflected h m (f_bareFlush (f_seenAs h m) g page)).1 m g page, true) else (h, false)
theorem reflected_no {h : THost} {m : Int} {r : TBare × Bool} (e : (f_reflected h m r).2 = false) : (f_reflected h m r).1 = h := by
  unfold f_reflected at e ⊢
  split at e
  · cases e
  · rename_i hn; rw [if_neg hn]
theorem reflected_yes {h : THost} {m : Int} {r : TBare × Bool} (e : (f_reflected h m r).2 = true) : (f_hostOk h = true ∧ 0 ≤ m ∧ m < h.mons.length) ∧ r.2 = true ∧ (f_reflected h m r).1 = f_back h m r.1 := by
  unfold f_reflected at e ⊢
  split at e
  · rename_i hn; exact ⟨hn.1, hn.2, by rw [if_pos hn]⟩
  · cases e
theorem back_bd (h : THost) (m : Int) (b : TBare) : (f_back h m b).mons.length = h.mons.length ∧ (el (f_back h m b).mons m.toNat).tables.length = (el h.mons m.toNat).tables.length := by
  refine ⟨by simp [f_back], ?_⟩
  unfold f_back
  by_cases hk : m.toNat < h.mons.length
  · simp only
    rw [el_set_self hk]
  · simp only
    rw [List.set_eq_of_length_le (by omega)]
theorem monOk_tab {x : TMon} (h : f_monOk x = true) : x.tables.length = x.guests.length := by
  simp only [f_monOk, f_monHead, Bool.and_eq_true, decide_eq_true_eq] at h
  exact h.1.1.1.1.1.1.2
theorem reflFlush_bd {h : THost} {m g page : Int} (e : (f_reflected h m (f_bareFlush (f_seenAs h m) g page)).2 = true) :
    (0 ≤ m ∧ m < (f_reflected h m (f_bareFlush (f_seenAs h m) g page)).1.mons.length) ∧ 0 ≤ g ∧ g < (el (f_reflected h m (f_bareFlush (f_seenAs h m) g page)).1.mons m.toNat).tables.length := by
  obtain ⟨h1, h2, h3⟩ := reflected_yes e
  have h4 := back_bd h m (f_bareFlush (f_seenAs h m) g page).1
  have h5 := changed_bd (b := f_seenAs h m) h2
  have h6 := monOk_tab (hostOk_mon h1.1 (k := m.toNat) (by omega))
  rw [show (f_seenAs h m).guests = (el h.mons m.toNat).guests by unfold f_seenAs; rw [if_pos h1.2]] at h5
  rw [h3]
  omega
theorem hostFlush_no {h : THost} {m g page : Int} (e : (f_reflected h m (f_bareFlush (f_seenAs h m) g page)).2 = false) : f_hostFlush h m g page = ((f_reflected h m (f_bareFlush (f_seenAs h m) g page)).1, false) := by
  unfold f_hostFlush
  rw [if_neg (by rw [e]; exact fun h => by cases h), reflected_no e]
theorem hostFlush_yes {h : THost} {m g page : Int} (e : (f_reflected h m (f_bareFlush (f_seenAs h m) g page)).2 = true) : f_hostFlush h m g page = (f_flushed (f_reflected h m (f_bareFlush (f_seenAs h m) g page)).1 m g page, true) := by
  unfold f_hostFlush
  rw [if_pos e]
end Go.Proofs.Ytgonaioedbphgaa
