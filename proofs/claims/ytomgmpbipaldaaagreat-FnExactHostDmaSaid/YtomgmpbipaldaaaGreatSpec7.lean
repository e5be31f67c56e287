/- Flushes of pages, in plain data. No program is named here. -/
import Derived.Test.YtomgmpbipaldaaaGreatSpec6
namespace Go.Proofs.YtomgmpbipaldaaaGreat
open Go
set_option linter.unusedVariables false
set_option linter.unusedSimpArgs false
def f_samePg (e : TEntry) (tag page : Int) : Bool := (e.tag == tag) && (e.page == page)
def f_without (b : List TEntry) (p : TEntry → Bool) : List TEntry := b.filter fun e => !p e
def f_flushPage (b : List TEntry) (tag page : Int) : List TEntry := f_without b fun e => f_samePg e tag page
theorem without_t {b : List TEntry} {p : TEntry → Bool} {k : Nat} (hk : k < b.length) (h : p (el b k) = true) : f_without (b.take (k + 1)) p = f_without (b.take k) p := by
  unfold f_without
  rw [take_el hk, List.filter_append]
  simp [h]
theorem without_f {b : List TEntry} {p : TEntry → Bool} {k : Nat} (hk : k < b.length) (h : p (el b k) = false) : f_without (b.take (k + 1)) p = f_without (b.take k) p ++ [el b k] := by
  unfold f_without
  rw [take_el hk, List.filter_append]
  simp [h]
theorem without_len (b : List TEntry) (p : TEntry → Bool) : (f_without b p).length ≤ b.length := List.length_filter_le _ _
theorem samePg_f1 {e : TEntry} {tag page : Int} (h : ¬ e.tag = tag) : f_samePg e tag page = false := by simp [f_samePg, h]
theorem samePg_f2 {e : TEntry} {tag page : Int} (h : ¬ e.page = page) : f_samePg e tag page = false := by simp [f_samePg, h]
theorem samePg_t {e : TEntry} {tag page : Int} (h : e.tag = tag) (h2 : e.page = page) : f_samePg e tag page = true := by simp [f_samePg, h, h2]
def f_tagOf (m g : Int) : Int := if (0 ≤ m ∧ m ≤ 2) ∧ 0 ≤ g ∧ g ≤ 1 then 1 + g + m * 2 else 0
theorem tagOf_in64 (m g : Int) : In64 (f_tagOf m g) := by
  unfold f_tagOf
  split
  · exact ⟨by omega, by omega⟩
  · exact ⟨by decide, by decide⟩
def f_bareFlush (b : TBare) (g page : Int) : TBare × Bool := f_changed b g (f_within page 0 3) (fun x => { x with live := f_withSlot x.live page (f_slotAt x.written page) })
def f_flushed (h : THost) (m g page : Int) : THost :=
  ⟨h.mem, h.mons.set m.toNat { el h.mons m.toNat with tables := (el h.mons m.toNat).tables.set g.toNat (f_forget (el (el h.mons m.toNat).tables g.toNat) page) }, f_flushPage h.buf (f_tagOf m g) page, f_flushPage h.iobuf (f_tagOf m g) page⟩
def f_hostFlush (h : THost) (m g page : Int) : THost × Bool :=
  if (f_reflected h m (f_bareFlush (f_seenAs h m) g page)).2 = true then (f_flushed (f_reflected h m (f_bareFlush (f_seenAs h m) g page)).1 m g page, true) else (h, false)
theorem sz_forget (k : TKept) (p : Int) : SZ.sz (f_forget k p) = SZ.sz k := by
  have h := forget_len k p
  have h1 := sz_Kept k
  have h2 := sz_Kept (f_forget k p)
  rw [sz_list, sz_list, szsum_flat (fun _ => rfl), szsum_flat (fun _ => rfl)] at h1 h2
  omega
end Go.Proofs.YtomgmpbipaldaaaGreat
