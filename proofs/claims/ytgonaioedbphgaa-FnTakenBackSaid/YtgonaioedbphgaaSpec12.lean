/- Pages that are looked up, in plain data. No program is named here. -/
import Derived.Test.YtgonaioedbphgaaSpec11
namespace Go.Proofs.Ytgonaioedbphgaa
open Go
set_option linter.unusedVariables false
set_option linter.unusedSimpArgs false
def f_findEntry (b : List TEntry) (tag page : Int) : TEntry × Bool :=
  match b.find? (fun e => f_samePg e tag page) with
  | some e => (e, true)
  | none => (⟨0, 0, 0, 0⟩, false)
theorem find_end {b : List TEntry} {tag page : Int} {k : Nat} (hk : b.length ≤ k) (h : (b.take k).find? (fun e => f_samePg e tag page) = none) : f_findEntry b tag page = (⟨0, 0, 0, 0⟩, false) := by
  rw [take_all hk] at h
  unfold f_findEntry; rw [h]
theorem find_hit {b : List TEntry} {tag page : Int} {k : Nat} (hk : k < b.length) (h : (b.take k).find? (fun e => f_samePg e tag page) = none) (h1 : f_samePg (el b k) tag page = true) : f_findEntry b tag page = (el b k, true) := by
  have e : b.find? (fun e => f_samePg e tag page) = some (el b k) := by
    have e0 : b = b.take k ++ el b k :: b.drop (k + 1) := by
      rw [el_lt hk, ← List.drop_eq_getElem_cons hk, List.take_append_drop]
    rw [e0, List.find?_append, h, Option.none_or, List.find?_cons, ← e0, h1]
  unfold f_findEntry; rw [e]
theorem find_step {b : List TEntry} {tag page : Int} {k : Nat} (hk : k < b.length) (h : (b.take k).find? (fun e => f_samePg e tag page) = none) (h1 : f_samePg (el b k) tag page = false) : (b.take (k + 1)).find? (fun e => f_samePg e tag page) = none := by
  rw [take_el hk, List.find?_append, h, Option.none_or, List.find?_cons, h1]; rfl
theorem findEntry_r {K : Nat} {F : Bl} {w : World} {b : List TEntry} {p : LP TEntry} (h : GT.rd K F w b p) (tag page : Int) : REntry (f_findEntry b tag page).1 := by
  unfold f_findEntry
  split
  · rename_i e he
    obtain ⟨i, hi, e1⟩ := List.getElem_of_mem (List.mem_of_find?_eq_some he)
    have h2 := LRd.el h i hi
    rw [el_lt hi, e1] at h2
    exact h2
  · exact ⟨⟨by decide, by decide⟩, ⟨by decide, by decide⟩, ⟨by decide, by decide⟩, ⟨by decide, by decide⟩⟩
def f_putEntry (b : List TEntry) (e : TEntry) : List TEntry := (f_flushPage b e.tag e.page ++ [e]).drop ((f_flushPage b e.tag e.page ++ [e]).length - 6)
def f_ask (k : TKept) (page : Int) : TSlot × Bool :=
  if ((0 ≤ page ∧ page < k.known.length) ∧ page < k.slots.length) ∧ el k.known page.toNat = true then (el k.slots page.toNat, true) else (⟨-1, 0⟩, false)
theorem ask_r {K : Nat} {F : Bl} {w : World} {k : TKept} {p : PKept} (h : GT.rd K F w k p) (page : Int) : RSlot (f_ask k page).1 := by
  unfold f_ask
  split
  · exact LRd.el (RKept.slots (d := k) h) _ (by omega)
  · exact ⟨⟨by decide, by decide⟩, ⟨by decide, by decide⟩⟩
def f_bothRights (a b : Int) : Int := if f_within a 0 3 = true ∧ f_within b 0 3 = true then land64 a b else 0
theorem bothRights_bd (a b : Int) : 0 ≤ f_bothRights a b ∧ f_bothRights a b ≤ 3 := by
  unfold f_bothRights
  split
  · rename_i h
    have h1 := within_t h.1
    have h2 := within_t h.2
    have e1 : a = 0 ∨ a = 1 ∨ a = 2 ∨ a = 3 := by omega
    have e2 : b = 0 ∨ b = 1 ∨ b = 2 ∨ b = 3 := by omega
    rcases e1 with e | e | e | e <;> rcases e2 with f | f | f | f <;> subst e <;> subst f <;> decide
  · omega
theorem bothRights_in64 (a b : Int) : In64 (f_bothRights a b) := by
  have := bothRights_bd a b; exact ⟨by omega, by omega⟩
def f_composeSlot (s : TSlot) (t : List TSlot) : TSlot :=
  if s.page = -1 ∨ (f_slotAt t s.page).page = -1 ∨ f_bothRights s.rights (f_slotAt t s.page).rights = 0 then ⟨-1, 0⟩ else ⟨(f_slotAt t s.page).page, f_bothRights s.rights (f_slotAt t s.page).rights⟩
theorem compose_r {K : Nat} {F : Bl} {w : World} {t : List TSlot} {p : LP TSlot} (h : GT.rd K F w t p) (s : TSlot) : RSlot (f_composeSlot s t) := by
  unfold f_composeSlot
  split
  · exact ⟨⟨by decide, by decide⟩, ⟨by decide, by decide⟩⟩
  · exact ⟨(slotAt_r h s.page).1, bothRights_in64 _ _⟩
def f_fill (k : TKept) (inner outer : List TSlot) (page : Int) : TKept :=
  if ((0 ≤ page ∧ page < k.known.length) ∧ page < k.slots.length) ∧ page < inner.length then ⟨k.known.set page.toNat true, k.slots.set page.toNat (f_composeSlot (el inner page.toNat) outer)⟩ else k
theorem foldl_set {α β : Type} [GT α] {f : β → α → β} {y : α} : ∀ {xs : List α} {k : Nat}, k < xs.length → (∀ u, f u y = f u (el xs k)) → ∀ z, (xs.set k y).foldl f z = xs.foldl f z
  | [], k, h, _, _ => by simp at h
  | x :: r, 0, _, e, z => by rw [List.set_cons_zero, List.foldl_cons, List.foldl_cons, e z]; rfl
  | x :: r, k + 1, h, e, z => by
    rw [List.set_cons_succ, List.foldl_cons, List.foldl_cons]
    exact foldl_set (by simpa using h) (fun u => by have := e u; rwa [show el (x :: r) (k + 1) = el r k by simp [el]] at this) _
theorem monOk_dirty {x : TMon} {d : List Bool} (h : d.length = x.dirty.length) : f_monOk { x with dirty := d } = f_monOk x := by
  have h1 : f_monHead { x with dirty := d } = f_monHead x := by unfold f_monHead; simp only [h]
  have h2 : f_monTail { x with dirty := d } = f_monTail x := rfl
  have h3 : f_pageSlot { x with dirty := d } = f_pageSlot x := rfl
  unfold f_monOk
  rw [h1, h2, h3]
def f_dirt (h : THost) (m q : Int) : THost := f_setM h m { el h.mons m.toNat with dirty := (el h.mons m.toNat).dirty.set q.toNat true }
theorem hostOk_dirt {h : THost} {m q : Int} (hm : m.toNat < h.mons.length) : f_hostOk (f_dirt h m q) = f_hostOk h := by
  have h1 : f_hostHead (f_dirt h m q) = f_hostHead h := by
    unfold f_hostHead f_dirt f_setM
    simp only [List.length_set]
  have h2 : f_hostUsed (f_dirt h m q) = f_hostUsed h := by
    unfold f_hostUsed f_dirt f_setM
    refine foldl_set hm (fun u => ?_) _
    unfold stepMon
    rw [monOk_dirty List.length_set]
  unfold f_hostOk
  rw [h1, h2]
theorem hasPage_dirt {h : THost} {m q p : Int} (e : f_hasPage h m p = true) : f_hasPage (f_dirt h m q) m p = true := by
  have h2 := hasPage_t e
  have h1 : (f_dirt h m q).mons.length = h.mons.length := List.length_set
  simp only [f_hasPage, f_l25Mon, Bool.and_eq_true] at e ⊢
  rw [hostOk_dirt (by omega), h1]
  exact e
theorem monAt_tt {h : THost} {m : Int} (e : (f_monAt h m).2 = true) : (0 ≤ m ∧ m < h.mons.length) ∧ (f_monAt h m).1 = el h.mons m.toNat ∧ (f_monAt h m).1.guests.length = (el h.mons m.toNat).guests.length := by
  unfold f_monAt at e ⊢
  split at e
  · rename_i hm; rw [if_pos hm]; exact ⟨hm, rfl, rfl⟩
  · cases e
def f_q (h : THost) (m g page need : Int) : Int := (f_walkInner (el (el h.mons m.toNat).guests g.toNat).live page need).1
theorem walkS {h : THost} {m g page need : Int} (e : (f_walkInner (el (el h.mons m.toNat).guests g.toNat).live page need).2 = true) (hok : f_hostOk h = true := by assumption) (hm : 0 ≤ m ∧ m < h.mons.length := by omega) (hg : 0 ≤ g ∧ g < (el h.mons m.toNat).guests.length := by omega) :
    f_hasPage h m (f_walkInner (el (el h.mons m.toNat).guests g.toNat).live page need).1 = true ∧ (0 ≤ (f_walkInner (el (el h.mons m.toNat).guests g.toNat).live page need).1 ∧ (f_walkInner (el (el h.mons m.toNat).guests g.toNat).live page need).1 ≤ 7) ∧ (el h.mons m.toNat).outer.length = 8 ∧ (el h.mons m.toNat).out.length = 8 ∧ (el h.mons m.toNat).dirty.length = 8 ∧ (el h.mons m.toNat).tables.length = (el h.mons m.toNat).guests.length := by
  have h0 := hostOk_mon hok (k := m.toNat) (by omega)
  have h1 : f_guestOk (el (el h.mons m.toNat).guests g.toNat) = true := by
    simp only [f_monOk, Bool.and_eq_true] at h0
    exact all_el h0.1.2 (by omega)
  have h2 : f_tableOk (el (el h.mons m.toNat).guests g.toNat).live 4 8 = true := by
    simp only [f_guestOk, Bool.and_eq_true] at h1
    exact h1.1.1.1.1.2
  have hq : 0 ≤ (f_walkInner (el (el h.mons m.toNat).guests g.toNat).live page need).1 ∧ (f_walkInner (el (el h.mons m.toNat).guests g.toNat).live page need).1 ≤ 7 := by
    unfold f_walkInner at e ⊢
    split at e
    · cases e
    · rename_i hn
      rw [if_neg hn]
      simp only
      unfold f_slotAt at hn ⊢
      by_cases hp : 0 ≤ page ∧ page < ((el (el h.mons m.toNat).guests g.toNat).live.length : Int)
      · rw [if_pos hp] at hn ⊢
        have h3 := tableOk_el h2 (k := page.toNat) (by omega)
        simp only [f_slotOk, Bool.or_eq_true, Bool.and_eq_true, decide_eq_true_eq] at h3
        rcases h3 with h3 | h3
        · rw [h3] at hn; exact absurd (Or.inl rfl) hn
        · exact within_t h3.1.2
      · rw [if_neg hp] at hn; exact absurd (Or.inl rfl) hn
  refine ⟨?_, hq, monOk_lens h0⟩
  simp only [f_hasPage, Bool.and_eq_true]
  refine ⟨l25Mon_mk ⟨hok, hm⟩, ?_⟩
  simp only [f_within, Bool.and_eq_true, decide_eq_true_eq]
  exact hq
theorem walkI {h : THost} {m g page need : Int} (e : (f_walkInner (el (f_monAt h m).1.guests g.toNat).live page need).2 = true) (hok : f_hostOk h = true := by assumption) (hm : (f_monAt h m).2 = true := by assumption) (hg : 0 ≤ g ∧ g < (f_monAt h m).1.guests.length := by omega) :
    f_hasPage h m (f_walkInner (el (f_monAt h m).1.guests g.toNat).live page need).1 = true ∧ (0 ≤ (f_walkInner (el (f_monAt h m).1.guests g.toNat).live page need).1 ∧ (f_walkInner (el (f_monAt h m).1.guests g.toNat).live page need).1 ≤ 7) ∧ (el h.mons m.toNat).outer.length = 8 ∧ (el h.mons m.toNat).out.length = 8 ∧ (el h.mons m.toNat).dirty.length = 8 ∧ (el h.mons m.toNat).tables.length = (el h.mons m.toNat).guests.length := by
  have h1 := monAt_tt hm
  rw [h1.2.1] at e hg ⊢
  exact walkS e hok h1.1 hg
def f_lkOk (h : THost) (m g page need : Int) : Bool :=
  f_hostOk h && decide (0 ≤ m ∧ m < h.mons.length) && decide (0 ≤ g ∧ g < (el h.mons m.toNat).guests.length) && decide (need = 1 ∨ need = 2) && (f_walkInner (el (el h.mons m.toNat).guests g.toNat).live page need).2
def f_bufOf (h : THost) (io : Bool) : List TEntry := if io = true then h.iobuf else h.buf
def f_putIo (h : THost) (io : Bool) (e : TEntry) : THost := if io = true then ⟨h.mem, h.mons, h.buf, f_putEntry h.iobuf e⟩ else ⟨h.mem, h.mons, f_putEntry h.buf e, h.iobuf⟩
def f_found (b : List TEntry) (tag page need : Int) : Bool := (f_findEntry b tag page).2 && f_enough (f_findEntry b tag page).1.rights need
def f_unk (k : TKept) (page need : Int) : Bool := ((!(f_ask k page).2) || ((f_ask k page).1.page == -1)) || (!f_enough (f_ask k page).1.rights need)
def f_ent (k : TKept) (m g page : Int) : TEntry := ⟨f_tagOf m g, page, (f_ask k page).1.page, (f_ask k page).1.rights⟩
def f_fillT (z : TMon) (g page : Int) : List TKept := z.tables.set g.toNat (f_fill (el z.tables g.toNat) (el z.guests g.toNat).live z.outer page)
def f_filled (h : THost) (m g page : Int) : THost := f_setM h m { el h.mons m.toNat with tables := f_fillT (el h.mons m.toNat) g page }
def f_lkDone (h : THost) (m g page : Int) (io : Bool) : THost × Int × Bool :=
  (f_putIo h io (f_ent (el (el h.mons m.toNat).tables g.toNat) m g page), (f_ask (el (el h.mons m.toNat).tables g.toNat) page).1.page, true)
def f_lkTo (h : THost) (m g page need q : Int) (io : Bool) : THost × Int × Bool :=
  if f_found (f_bufOf h io) (f_tagOf m g) page need = true then (h, (f_findEntry (f_bufOf h io) (f_tagOf m g) page).1.host, true)
  else if f_unk (el (el h.mons m.toNat).tables g.toNat) page need = true then f_lkDone (f_filled (f_mend h m q need) m g page) m g page io
  else f_lkDone h m g page io
def f_dirtIf (h : THost) (m q need : Int) : THost := if need = 2 then f_dirt h m q else h
def f_lookup (h : THost) (m g page need : Int) (io : Bool) : THost × Int × Bool :=
  if f_lkOk h m g page need = true then f_lkTo (f_dirtIf h m (f_q h m g page need) need) m g page need (f_q h m g page need) io
  else (h, -1, false)
theorem lk_out {h : THost} {m g page need : Int} {io : Bool} (e : f_lkOk h m g page need = false) : f_lookup h m g page need io = (h, -1, false) := by
  unfold f_lookup; rw [if_neg (by rw [e]; exact fun h => by cases h)]
theorem lkO1 {h : THost} {m g page need : Int} {io : Bool} (e : ((((!f_hostOk h) || (!(f_monAt h m).2)) || (!f_within g 0 (((f_monAt h m).1.guests.length : Int) - 1))) || ((need != 1) && (need != 2))) = true) : f_lookup h m g page need io = (h, -1, false) := by
  apply lk_out
  rw [Bool.eq_false_iff]
  intro h1
  simp only [f_lkOk, Bool.and_eq_true, decide_eq_true_eq] at h1
  obtain ⟨⟨⟨⟨h2, h3⟩, h4⟩, h5⟩, _⟩ := h1
  have e2 : f_monAt h m = (el h.mons m.toNat, true) := by unfold f_monAt; rw [if_pos h3]
  have e3 : f_within g 0 (((el h.mons m.toNat).guests.length : Int) - 1) = true := by
    simp only [f_within, Bool.and_eq_true, decide_eq_true_eq]; omega
  rw [h2, e2, e3] at e
  rcases h5 with h5 | h5 <;> subst h5 <;> simp at e
theorem lkO2 {h : THost} {m g page need : Int} {io : Bool} (hm : (f_monAt h m).2 = true) (e : (f_walkInner (el (f_monAt h m).1.guests g.toNat).live page need).2 = false) : f_lookup h m g page need io = (h, -1, false) := by
  apply lk_out
  rw [(monAt_tt hm).2.1] at e
  unfold f_lkOk
  rw [e, Bool.and_false]
theorem lkS {h : THost} {m g page need : Int} {io : Bool} (h1 : f_hostOk h = true) (h2 : 0 ≤ m ∧ m < h.mons.length) (h3 : 0 ≤ g ∧ g < (el h.mons m.toNat).guests.length) (h4 : need = 1 ∨ need = 2) (h5 : (f_walkInner (el (el h.mons m.toNat).guests g.toNat).live page need).2 = true) :
    f_lookup h m g page need io = f_lkTo (f_dirtIf h m (f_walkInner (el (el h.mons m.toNat).guests g.toNat).live page need).1 need) m g page need (f_walkInner (el (el h.mons m.toNat).guests g.toNat).live page need).1 io := by
  unfold f_lookup
  rw [if_pos (by unfold f_lkOk; rw [h1, h5, decide_eq_true h2, decide_eq_true h3, decide_eq_true h4]; rfl)]
  rfl
theorem lkI {h Y : THost} {m g page need : Int} {io : Bool} (h1 : f_hostOk h = true) (h2 : (f_monAt h m).2 = true) (h3 : 0 ≤ g ∧ g < (f_monAt h m).1.guests.length) (h4 : need = 1 ∨ need = 2) (h5 : (f_walkInner (el (f_monAt h m).1.guests g.toNat).live page need).2 = true) (hJ : Y = f_dirtIf h m (f_walkInner (el (f_monAt h m).1.guests g.toNat).live page need).1 need) :
    f_lookup h m g page need io = f_lkTo Y m g page need (f_walkInner (el (f_monAt h m).1.guests g.toNat).live page need).1 io := by
  subst hJ
  have h6 := monAt_tt h2
  rw [h6.2.1] at h3 h5 ⊢
  exact lkS h1 h6.1 h3 h4 h5
theorem dirtIf_y {h : THost} {X : List TMon} {m q need : Int} (e : need = 2) (hX : X = h.mons.set m.toNat { el h.mons m.toNat with dirty := (el h.mons m.toNat).dirty.set q.toNat true }) : (⟨h.mem, X, h.buf, h.iobuf⟩ : THost) = f_dirtIf h m q need := by
  unfold f_dirtIf; rw [if_pos e, hX]; rfl
theorem dirtIf_n {h : THost} {m q need : Int} (e : ¬ need = 2) : h = f_dirtIf h m q need := (if_neg e).symm
theorem lkTo_f {h : THost} {m g page need q : Int} {io : Bool} (e : ((f_findEntry (f_bufOf h io) (f_tagOf m g) page).2 && f_enough (f_findEntry (f_bufOf h io) (f_tagOf m g) page).1.rights need) = true) : f_lkTo h m g page need q io = (h, (f_findEntry (f_bufOf h io) (f_tagOf m g) page).1.host, true) := by
  unfold f_lkTo; exact if_pos e
theorem lkTo_n {h : THost} {m g page need q : Int} {io : Bool} (e : ((f_findEntry (f_bufOf h io) (f_tagOf m g) page).2 && f_enough (f_findEntry (f_bufOf h io) (f_tagOf m g) page).1.rights need) = false) :
    f_lkTo h m g page need q io = if f_unk (el (el h.mons m.toNat).tables g.toNat) page need = true then f_lkDone (f_filled (f_mend h m q need) m g page) m g page io else f_lkDone h m g page io := by
  unfold f_lkTo; exact if_neg (fun h1 => by rw [show f_found _ _ _ _ = false from e] at h1; cases h1)
theorem lkTo_k {h : THost} {m g page need q : Int} {io : Bool} (e : ((f_findEntry (f_bufOf h io) (f_tagOf m g) page).2 && f_enough (f_findEntry (f_bufOf h io) (f_tagOf m g) page).1.rights need) = false)
    (e2 : (((!(f_ask (el (el h.mons m.toNat).tables g.toNat) page).2) || ((f_ask (el (el h.mons m.toNat).tables g.toNat) page).1.page == -1)) || (!f_enough (f_ask (el (el h.mons m.toNat).tables g.toNat) page).1.rights need)) = false) : f_lkTo h m g page need q io = f_lkDone h m g page io := by
  rw [lkTo_n e]; exact if_neg (fun h1 => by rw [show f_unk _ _ _ = false from e2] at h1; cases h1)
theorem lkTo_m {h Z : THost} {X : List TMon} {m g page need q : Int} {io : Bool} (e : ((f_findEntry (f_bufOf h io) (f_tagOf m g) page).2 && f_enough (f_findEntry (f_bufOf h io) (f_tagOf m g) page).1.rights need) = false)
    (e2 : (((!(f_ask (el (el h.mons m.toNat).tables g.toNat) page).2) || ((f_ask (el (el h.mons m.toNat).tables g.toNat) page).1.page == -1)) || (!f_enough (f_ask (el (el h.mons m.toNat).tables g.toNat) page).1.rights need)) = true) (hZ : Z = f_mend h m q need)
    (hX : X = Z.mons.set m.toNat { el Z.mons m.toNat with tables := (el Z.mons m.toNat).tables.set g.toNat (f_fill (el (el Z.mons m.toNat).tables g.toNat) (el (el Z.mons m.toNat).guests g.toNat).live (el Z.mons m.toNat).outer page) }) : f_lkTo h m g page need q io = f_lkDone ⟨Z.mem, X, Z.buf, Z.iobuf⟩ m g page io := by
  subst hX hZ
  rw [lkTo_n e, if_pos (show f_unk _ _ _ = true from e2)]
  rfl
theorem hostOk_bufs {h : THost} (e : f_hostOk h = true) : h.buf.length ≤ 6 ∧ h.iobuf.length ≤ 6 := by
  simp only [f_hostOk, f_hostHead, f_bufferOk, Bool.and_eq_true, decide_eq_true_eq] at e
  omega
theorem dirtIf_bd {h Y : THost} {m q need : Int} (hJ : Y = f_dirtIf h m q need) (p : f_hasPage h m q = true) : f_hasPage Y m q = true ∧ Y.mons.length = h.mons.length ∧ ((el Y.mons m.toNat).outer.length = 8 ∧ (el Y.mons m.toNat).tables.length = (el Y.mons m.toNat).guests.length ∧ (el Y.mons m.toNat).guests.length = (el h.mons m.toNat).guests.length) ∧ Y.buf.length ≤ 6 ∧ Y.iobuf.length ≤ 6 := by
  have h1 := hasPage_t p
  have h2 := hostOk_bufs (hasPage_ok p)
  unfold f_dirtIf at hJ
  split at hJ
  · subst hJ
    have h3 := lens_t (setM_lens (h := h) (m := m) (x := { el h.mons m.toNat with dirty := (el h.mons m.toNat).dirty.set q.toNat true }) (by simp only [lens, List.length_set]) m.toNat)
    refine ⟨hasPage_dirt p, List.length_set, ?_, h2⟩
    unfold f_dirt
    omega
  · subst hJ
    exact ⟨p, rfl, ⟨h1.2.2.1, h1.2.2.2.2.2, rfl⟩, h2⟩
theorem flushIf_len (b : List TEntry) (p : Int) : (f_flushIf b p).length ≤ b.length := by
  unfold f_flushIf
  split
  · exact Nat.le_refl _
  · exact without_len _ _
theorem slotTo_bufs (h : THost) (m page : Int) (s : TSlot) : (f_slotTo h m page s).buf.length ≤ h.buf.length ∧ (f_slotTo h m page s).iobuf.length ≤ h.iobuf.length := ⟨flushIf_len _ _, flushIf_len _ _⟩
theorem send_bufs (h : THost) (a b : Int) : (f_send h a b).buf.length ≤ h.buf.length ∧ (f_send h a b).iobuf.length ≤ h.iobuf.length := slotTo_bufs (f_setM h a _) a b ⟨-1, 0⟩
theorem room_bufs (h : THost) : (f_room h).buf.length ≤ h.buf.length ∧ (f_room h).iobuf.length ≤ h.iobuf.length := by
  unfold f_room
  split
  · exact ⟨Nat.le_refl _, Nat.le_refl _⟩
  · exact send_bufs h _ _
theorem fetch_bufs (h : THost) (m page : Int) : (f_fetch h m page).buf.length ≤ h.buf.length ∧ (f_fetch h m page).iobuf.length ≤ h.iobuf.length := by
  have h1 := room_bufs h
  unfold f_fetch f_putIn
  exact ⟨Nat.le_trans (flushIf_len _ _) h1.1, Nat.le_trans (flushIf_len _ _) h1.2⟩
theorem mend_bufs (h : THost) (m page need : Int) : (f_mend h m page need).buf.length ≤ h.buf.length ∧ (f_mend h m page need).iobuf.length ≤ h.iobuf.length := by
  have h1 : (f_mid h m page).buf.length ≤ h.buf.length ∧ (f_mid h m page).iobuf.length ≤ h.iobuf.length := by
    unfold f_mid; split
    · exact fetch_bufs h m page
    · exact ⟨Nat.le_refl _, Nat.le_refl _⟩
  unfold f_mend
  split
  · unfold f_wr
    split
    · exact h1
    · exact ⟨Nat.le_trans (slotTo_bufs _ _ _ _).1 h1.1, Nat.le_trans (slotTo_bufs _ _ _ _).2 h1.2⟩
  · exact h1
theorem mend_bd2 {h Z : THost} {m page need : Int} (hZ : Z = f_mend h m page need) (p : f_hasPage h m page = true) : Z.mons.length = h.mons.length ∧ ((el Z.mons m.toNat).outer.length = 8 ∧ (el Z.mons m.toNat).guests.length = (el h.mons m.toNat).guests.length ∧ (el Z.mons m.toNat).tables.length = (el h.mons m.toNat).tables.length) ∧ Z.buf.length ≤ h.buf.length ∧ Z.iobuf.length ≤ h.iobuf.length := by
  have h0 := mend_bufs h m page need
  have h1 := mend_lens hZ p
  have hm : lens (el (f_mid h m page).mons m.toNat) = lens (el h.mons m.toNat) := by
    unfold f_mid; split
    · unfold f_fetch; rw [putIn_lens]; exact (room_bd p).2.2
    · rfl
  have h2 : lens (el (f_mend h m page need).mons m.toNat) = lens (el h.mons m.toNat) := by
    unfold f_mend
    split
    · unfold f_wr
      split
      · rw [setM_lens (by simp only [lens, List.length_set])]; exact hm
      · rw [slotTo_lens, setM_lens (by simp only [lens, List.length_set])]; exact hm
    · exact hm
  subst hZ
  have h3 := lens_t h2
  exact ⟨h1.1, ⟨h1.2, h3.2.2.2.1, h3.2.2.2.2.1⟩, h0⟩
theorem put_eq {X : List TEntry} {n : Nat} (h : n = X.length - 6) : X.drop (X.length - 6) = (X.drop n).take (X.length - n) := by
  subst h; rw [List.take_of_length_le (by rw [List.length_drop]; exact Nat.le_refl _)]
theorem put_all {X : List TEntry} (h : X.length ≤ 6) : X.drop (X.length - 6) = X := by
  rw [show X.length - 6 = 0 by omega]; rfl
theorem lkTo_ok (h : THost) (m g page need q : Int) (io : Bool) : (f_lkTo h m g page need q io).2.2 = true := by
  unfold f_lkTo
  split
  · rfl
  · split <;> rfl
theorem lookup_no {h : THost} {m g page need : Int} {io : Bool} (e : (f_lookup h m g page need io).2.2 = false) : (f_lookup h m g page need io).1 = h := by
  unfold f_lookup at e ⊢
  split at e
  · rw [lkTo_ok] at e; cases e
  · rename_i hn; rw [if_neg hn]
def f_hostDma (h : THost) (m g addr v : Int) : THost × Bool :=
  if (f_within addr 0 15 = true ∧ f_within v 0 99 = true) ∧ (f_lookup h m g (f_addrPage addr) 2 true).2.2 = true then
    (⟨f_withCell (f_lookup h m g (f_addrPage addr) 2 true).1.mem (f_lookup h m g (f_addrPage addr) 2 true).2.1 (f_addrCell addr) v, (f_lookup h m g (f_addrPage addr) 2 true).1.mons, (f_lookup h m g (f_addrPage addr) 2 true).1.buf, (f_lookup h m g (f_addrPage addr) 2 true).1.iobuf⟩, true)
  else (h, false)
theorem dma_out {h : THost} {m g addr v : Int} (e : f_within addr 0 15 = false ∨ f_within v 0 99 = false ∨ (f_lookup h m g (f_addrPage addr) 2 true).2.2 = false) : f_hostDma h m g addr v = (h, false) := by
  unfold f_hostDma; rw [if_neg (fun h1 => by rcases e with e | e | e <;> rw [e] at h1 <;> simp at h1)]
theorem dma_no {h Y : THost} {m g addr v : Int} (hY : Y = (f_lookup h m g (f_addrPage addr) 2 true).1) (e : (f_lookup h m g (f_addrPage addr) 2 true).2.2 = false) : f_hostDma h m g addr v = (Y, false) := by
  rw [dma_out (.inr (.inr e)), hY, lookup_no e]
theorem dma_yes {h Y : THost} {m g addr v : Int} (hY : Y = (f_lookup h m g (f_addrPage addr) 2 true).1) (e1 : f_within addr 0 15 = true) (e2 : f_within v 0 99 = true) (e : (f_lookup h m g (f_addrPage addr) 2 true).2.2 = true) : f_hostDma h m g addr v = (⟨f_withCell Y.mem (f_lookup h m g (f_addrPage addr) 2 true).2.1 (f_addrCell addr) v, Y.mons, Y.buf, Y.iobuf⟩, true) := by
  subst hY; unfold f_hostDma; rw [if_pos ⟨⟨e1, e2⟩, e⟩]
def f_cellAt (m : List (List Int)) (p c : Int) : Int := if (0 ≤ p ∧ p < m.length) ∧ 0 ≤ c ∧ c < (el m p.toNat).length then el (el m p.toNat) c.toNat else 0
theorem cellAt_in64 {K : Nat} {F : Bl} {w : World} {m : List (List Int)} {q : LP (List Int)} (h : GT.rd K F w m q) (p c : Int) : In64 (f_cellAt m p c) := by
  unfold f_cellAt
  split
  · exact LRd.el (LRd.el h _ (by omega)) _ (by omega)
  · exact ⟨by decide, by decide⟩
def f_hostRead (h : THost) (m g addr : Int) : THost × Int × Bool :=
  if f_within addr 0 15 = true ∧ (f_lookup h m g (f_addrPage addr) 1 true).2.2 = true then
    ((f_lookup h m g (f_addrPage addr) 1 true).1, f_cellAt (f_lookup h m g (f_addrPage addr) 1 true).1.mem (f_lookup h m g (f_addrPage addr) 1 true).2.1 (f_addrCell addr), true)
  else (h, 0, false)
theorem read_out {h : THost} {m g addr : Int} (e : f_within addr 0 15 = false ∨ (f_lookup h m g (f_addrPage addr) 1 true).2.2 = false) : f_hostRead h m g addr = (h, 0, false) := by
  unfold f_hostRead; rw [if_neg (fun h1 => by rcases e with e | e <;> rw [e] at h1 <;> simp at h1)]
theorem read_no {h Y : THost} {m g addr : Int} (hY : Y = (f_lookup h m g (f_addrPage addr) 1 true).1) (e : (f_lookup h m g (f_addrPage addr) 1 true).2.2 = false) : f_hostRead h m g addr = (Y, 0, false) := by
  rw [read_out (.inr e), hY, lookup_no e]
theorem read_yes {h Y : THost} {m g addr : Int} (hY : Y = (f_lookup h m g (f_addrPage addr) 1 true).1) (e1 : f_within addr 0 15 = true) (e : (f_lookup h m g (f_addrPage addr) 1 true).2.2 = true) : f_hostRead h m g addr = (Y, f_cellAt Y.mem (f_lookup h m g (f_addrPage addr) 1 true).2.1 (f_addrCell addr), true) := by
  subst hY; unfold f_hostRead; rw [if_pos ⟨e1, e⟩]
end Go.Proofs.Ytgonaioedbphgaa
