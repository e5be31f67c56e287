/- Pages that are sent out, fetched and mended, in plain data. No program is named here. -/
import Derived.Test.YtgonaioedbphgaaSpec10
namespace Go.Proofs.Ytgonaioedbphgaa
open Go
set_option linter.unusedVariables false
set_option linter.unusedSimpArgs false
def slotN (p : Int) (l : List TSlot) : Nat := (l.filter fun s => decide (s.page = p)).length
def ownN (p : Int) (ms : List TMon) : Nat := (ms.map fun x => slotN p x.outer).sum
def one (c : Prop) [Decidable c] : Nat := if c then 1 else 0
theorem slotN_cons (p : Int) (s : TSlot) (r : List TSlot) : slotN p (s :: r) = one (s.page = p) + slotN p r := by
  unfold slotN one
  by_cases h : s.page = p
  · rw [List.filter_cons_of_pos (by simpa using h), List.length_cons, if_pos h]; omega
  · rw [List.filter_cons_of_neg (by simpa using h), if_neg h]; omega
theorem ownN_cons (p : Int) (x : TMon) (r : List TMon) : ownN p (x :: r) = slotN p x.outer + ownN p r := by simp [ownN]
theorem foldSlot_none (l : List TSlot) : l.foldl stepSlot none = none := by
  induction l with
  | nil => rfl
  | cons s r ih => rw [List.foldl_cons]; exact ih
theorem foldMon_none (l : List TMon) : l.foldl stepMon none = none := by
  induction l with
  | nil => rfl
  | cons s r ih => rw [List.foldl_cons]; exact ih
theorem slots_used {p : Int} (hp : 0 ≤ p) : ∀ (l : List TSlot) {u v : List Bool}, p.toNat < u.length → l.foldl stepSlot (some u) = some v → v.length = u.length ∧ slotN p l + one (el u p.toNat = true) = one (el v p.toNat = true)
  | [], u, v, hu, h => by cases h; exact ⟨rfl, by simp [slotN]⟩
  | s :: r, u, v, hu, h => by
    rw [List.foldl_cons] at h
    rw [slotN_cons]
    by_cases h1 : s.page < 0
    · rw [stepSlot_neg h1] at h
      obtain ⟨e1, e2⟩ := slots_used hp r hu h
      refine ⟨e1, ?_⟩
      rw [show one (s.page = p) = 0 by unfold one; rw [if_neg (by omega)]]
      omega
    · cases h2 : el u s.page.toNat with
      | true => rw [stepSlot_hit h1 h2, foldSlot_none] at h; cases h
      | false =>
        rw [stepSlot_new h1 h2] at h
        obtain ⟨e1, e2⟩ := slots_used hp r (by rw [List.length_set]; exact hu) h
        rw [List.length_set] at e1
        refine ⟨e1, ?_⟩
        by_cases h3 : s.page = p
        · subst h3
          rw [el_set_self hu] at e2
          rw [h2]
          simp only [one] at e2 ⊢
          simp at e2 ⊢
          omega
        · rw [show el (u.set s.page.toNat true) p.toNat = el u p.toNat from el_set_ne (by omega)] at e2
          rw [show one (s.page = p) = 0 by unfold one; rw [if_neg h3]]
          omega
theorem mons_used {p : Int} (hp : 0 ≤ p) : ∀ (l : List TMon) {u v : List Bool}, p.toNat < u.length → l.foldl stepMon (some u) = some v → v.length = u.length ∧ ownN p l + one (el u p.toNat = true) = one (el v p.toNat = true)
  | [], u, v, hu, h => by cases h; exact ⟨rfl, by simp [ownN]⟩
  | x :: r, u, v, hu, h => by
    rw [List.foldl_cons] at h
    rw [ownN_cons]
    cases hm : f_monOk x with
    | false => rw [stepMon_bad hm, foldMon_none] at h; cases h
    | true =>
      rw [stepMon_ok hm] at h
      cases h2 : x.outer.foldl stepSlot (some u) with
      | none => rw [h2, foldMon_none] at h; cases h
      | some u2 =>
        rw [h2] at h
        obtain ⟨e1, e2⟩ := slots_used hp x.outer hu h2
        obtain ⟨e3, e4⟩ := mons_used hp r (by omega) h
        exact ⟨by omega, by omega⟩
theorem own_le {h : THost} (e : f_hostOk h = true) {p : Int} (hp : 0 ≤ p ∧ p ≤ 11) : ownN p h.mons ≤ 1 := by
  simp only [f_hostOk, Bool.and_eq_true, f_hostUsed] at e
  obtain ⟨v, hv⟩ := Option.isSome_iff_exists.mp e.2
  obtain ⟨_, e4⟩ := mons_used hp.1 h.mons (by rw [List.length_replicate]; omega) hv
  have : one (el v p.toNat = true) ≤ 1 := by unfold one; split <;> omega
  omega
theorem slotN_set (p : Int) (s : TSlot) : ∀ (l : List TSlot) (k : Nat), k < l.length → slotN p (l.set k s) + one ((el l k).page = p) = slotN p l + one (s.page = p)
  | [], k, h => by simp at h
  | x :: r, 0, h => by rw [List.set_cons_zero, slotN_cons, slotN_cons, show el (x :: r) 0 = x from rfl]; omega
  | x :: r, k + 1, h => by
    have := slotN_set p s r k (by simpa using h)
    rw [List.set_cons_succ, slotN_cons, slotN_cons, show el (x :: r) (k + 1) = el r k by simp [el]]; omega
theorem ownN_set (p : Int) (y : TMon) : ∀ (l : List TMon) (k : Nat), k < l.length → ownN p (l.set k y) + slotN p (el l k).outer = ownN p l + slotN p y.outer
  | [], k, h => by simp at h
  | x :: r, 0, h => by rw [List.set_cons_zero, ownN_cons, ownN_cons, show el (x :: r) 0 = x from rfl]; omega
  | x :: r, k + 1, h => by
    have := ownN_set p y r k (by simpa using h)
    rw [List.set_cons_succ, ownN_cons, ownN_cons, show el (x :: r) (k + 1) = el r k by simp [el]]; omega
theorem slotN_pos {p : Int} : ∀ {l : List TSlot} {k : Nat}, k < l.length → (el l k).page = p → 1 ≤ slotN p l
  | [], k, h, _ => by simp at h
  | x :: r, 0, _, e => by rw [slotN_cons, show one (x.page = p) = 1 from if_pos e]; omega
  | x :: r, k + 1, h, e => by
    have := slotN_pos (l := r) (k := k) (by simpa using h) (by simpa [el] using e)
    rw [slotN_cons]; omega
theorem ownN_el {p : Int} : ∀ {l : List TMon} {k : Nat}, k < l.length → slotN p (el l k).outer ≤ ownN p l
  | [], k, h => by simp at h
  | x :: r, 0, _ => by rw [ownN_cons, show el (x :: r) 0 = x from rfl]; omega
  | x :: r, k + 1, h => by
    have := ownN_el (p := p) (l := r) (k := k) (by simpa using h)
    rw [ownN_cons, show el (x :: r) (k + 1) = el r k by simp [el]]; omega
theorem own1_found {l : List TSlot} {page : Int} {k : Nat} (h : ¬ f_own1 l page k < 0) : f_own1 l page k < l.length ∧ (el l (f_own1 l page k).toNat).page = page := by
  by_cases hk : k < l.length
  · by_cases e : (el l k).page = page
    · rw [own1_hit hk e]; exact ⟨by omega, by simpa using e⟩
    · rw [own1_next hk e] at h ⊢
      exact own1_found h
  · rw [own1_end (by omega)] at h; omega
termination_by l.length - k
theorem own0_found {ms : List TMon} {page : Int} {i : Nat} (h : ¬ (f_own0 ms page i).1 < 0) : (f_own0 ms page i).1 < ms.length ∧ 0 ≤ (f_own0 ms page i).2 ∧ (f_own0 ms page i).2 < (el ms (f_own0 ms page i).1.toNat).outer.length ∧ (el (el ms (f_own0 ms page i).1.toNat).outer (f_own0 ms page i).2.toNat).page = page := by
  by_cases hk : i < ms.length
  · by_cases e : f_own1 (el ms i).outer page 0 < 0
    · have e2 : f_own0 ms page i = f_own0 ms page (i + 1) := by rw [f_own0, if_pos hk, if_pos e]
      rw [e2] at h ⊢
      exact own0_found h
    · have e2 : f_own0 ms page i = ((i : Int), f_own1 (el ms i).outer page 0) := by rw [f_own0, if_pos hk, if_neg e]
      rw [e2]
      have h1 := own1_found e
      exact ⟨by show (i : Int) < _; omega, by show 0 ≤ f_own1 _ _ _; omega, h1.1, h1.2⟩
  · rw [own0_end (by omega)] at h; exact absurd (show (-1 : Int) < 0 by decide) h
termination_by ms.length - i
theorem owner_found {h : THost} {p : Int} (e : ¬ (f_ownerOfPage h p).1 < 0) : (0 ≤ (f_ownerOfPage h p).1 ∧ (f_ownerOfPage h p).1 < h.mons.length) ∧ (0 ≤ (f_ownerOfPage h p).2 ∧ (f_ownerOfPage h p).2 < (el h.mons (f_ownerOfPage h p).1.toNat).outer.length) ∧ (el (el h.mons (f_ownerOfPage h p).1.toNat).outer (f_ownerOfPage h p).2.toNat).page = p := by
  by_cases h0 : p < 0
  · rw [ownerOfPage_neg h0] at e; exact absurd (show (-1 : Int) < 0 by decide) e
  · rw [ownerOfPage_pos h0] at e ⊢
    have h1 := own0_found e
    exact ⟨⟨by omega, h1.1⟩, ⟨h1.2.1, h1.2.2.1⟩, h1.2.2.2⟩
theorem owner_none {h : THost} {p : Int} (e : ownN p h.mons = 0) : (f_ownerOfPage h p).1 < 0 := by
  by_cases h0 : (f_ownerOfPage h p).1 < 0
  · exact h0
  · have h1 := owner_found h0
    have h2 := ownN_el (p := p) (l := h.mons) (k := (f_ownerOfPage h p).1.toNat) (by omega)
    have h3 := slotN_pos (p := p) (l := (el h.mons (f_ownerOfPage h p).1.toNat).outer) (k := (f_ownerOfPage h p).2.toNat) (by omega) h1.2.2
    omega
theorem free_pos {h : THost} {p : Nat} (hp : p < h.mem.length) (e : (f_ownerOfPage h p).1 < 0) : 0 < (f_freeIn h).length := by
  have : (p : Int) ∈ f_freeIn h := by
    unfold f_freeIn f_idx
    exact List.mem_map.mpr ⟨p, List.mem_filter.mpr ⟨List.mem_range.mpr hp, by simpa using e⟩, rfl⟩
  exact List.length_pos_of_mem this
theorem free_none {h : THost} (e : ¬ 0 < (f_freeIn h).length) {p : Nat} (hp : p < h.mem.length) : ¬ (f_ownerOfPage h p).1 < 0 := fun h1 => e (free_pos hp h1)
def lens (x : TMon) : Nat × Nat × Nat × Nat × Nat × Nat := (x.outer.length, x.out.length, x.dirty.length, x.guests.length, x.tables.length, x.outs.length)
theorem set_lens {xs : List TMon} {k : Nat} {y : TMon} (h : lens y = lens (el xs k)) (j : Nat) : lens (el (xs.set k y) j) = lens (el xs j) := by
  by_cases hk : k < xs.length
  · by_cases hj : k = j
    · subst hj; rw [el_set_self hk]; exact h
    · rw [el_set_ne (fun e => hj e.symm)]
  · rw [List.set_eq_of_length_le (by omega)]
theorem lens_t {x y : TMon} (h : lens x = lens y) : x.outer.length = y.outer.length ∧ x.out.length = y.out.length ∧ x.dirty.length = y.dirty.length ∧ x.guests.length = y.guests.length ∧ x.tables.length = y.tables.length ∧ x.outs.length = y.outs.length := by
  simp only [lens, Prod.mk.injEq] at h; exact h
theorem slotTo_lens (h : THost) (m page : Int) (s : TSlot) (j : Nat) : lens (el (f_slotTo h m page s).mons j) = lens (el h.mons j) := by
  unfold f_slotTo
  apply set_lens
  simp only [lens, tabs_len, List.length_set]
theorem setM_lens {h : THost} {m : Int} {x : TMon} (e : lens x = lens (el h.mons m.toNat)) (j : Nat) : lens (el (f_setM h m x).mons j) = lens (el h.mons j) := set_lens e j
theorem send_lens (h : THost) (a b : Int) (j : Nat) : lens (el (f_send h a b).mons j) = lens (el h.mons j) := by
  unfold f_send
  rw [slotTo_lens, setM_lens]
  simp only [lens, List.length_set]
theorem send_len (h : THost) (a b : Int) : (f_send h a b).mons.length = h.mons.length := by simp [f_send, f_slotTo, f_setM]
theorem set_el_of {l A : List TMon} {k : Nat} {y : TMon} (h : A = l.set k y) (hk : k < l.length) : A = l.set k (el A k) := by subst h; rw [el_set_self hk]
theorem send_own {h : THost} {a b p : Int} (ha : a.toNat < h.mons.length) (hb : b.toNat < (el h.mons a.toNat).outer.length) (hp : 0 ≤ p) (e : (el (el h.mons a.toNat).outer b.toNat).page = p) : ownN p (f_send h a b).mons + 1 = ownN p h.mons := by
  have e1 : (f_send h a b).mons = h.mons.set a.toNat (el (f_send h a b).mons a.toNat) := by
    have e0 : (f_send h a b).mons = _ := List.set_set _
    exact set_el_of e0 ha
  have e2 : (el (f_send h a b).mons a.toNat).outer = (el h.mons a.toNat).outer.set b.toNat ⟨-1, 0⟩ := by
    unfold f_send f_slotTo f_setM
    simp only [el_set_self ha, List.set_set]
  have h1 := ownN_set p (el (f_send h a b).mons a.toNat) h.mons a.toNat ha
  have h2 := slotN_set p ⟨-1, 0⟩ (el h.mons a.toNat).outer b.toNat hb
  rw [← e1, e2] at h1
  rw [show one ((el (el h.mons a.toNat).outer b.toNat).page = p) = 1 from if_pos e, show one ((-1 : Int) = p) = 0 from if_neg (by omega)] at h2
  omega
theorem sendFirst_pre {h : THost} (e : f_hostOk h = true) (hf : ¬ 0 < (f_freeIn h).length) : (0 ≤ (f_ownerOfPage h 0).1 ∧ (f_ownerOfPage h 0).1 < h.mons.length) ∧ (0 ≤ (f_ownerOfPage h 0).2 ∧ (f_ownerOfPage h 0).2 ≤ 7) ∧ ((el h.mons (f_ownerOfPage h 0).1.toNat).outer.length = 8 ∧ (el h.mons (f_ownerOfPage h 0).1.toNat).out.length = 8 ∧ (el h.mons (f_ownerOfPage h 0).1.toNat).dirty.length = 8 ∧ (el h.mons (f_ownerOfPage h 0).1.toNat).tables.length = (el h.mons (f_ownerOfPage h 0).1.toNat).guests.length) ∧ (el (el h.mons (f_ownerOfPage h 0).1.toNat).outer (f_ownerOfPage h 0).2.toNat).page = 0 := by
  have h1 := owner_found (free_none hf (p := 0) (by have := hostOk_t e; omega))
  simp only [Int.ofNat_zero, show ((0 : Nat) : Int) = 0 from rfl] at h1
  have h2 := monOk_lens (hostOk_mon e (k := (f_ownerOfPage h 0).1.toNat) (by omega))
  exact ⟨h1.1, ⟨h1.2.1.1, by omega⟩, h2, h1.2.2⟩
def f_sendFirst (h : THost) : THost := f_send h (f_ownerOfPage h 0).1 (f_ownerOfPage h 0).2
theorem sendFirst_free {h : THost} (e : f_hostOk h = true) (hf : ¬ 0 < (f_freeIn h).length) : 0 < (f_freeIn (f_sendFirst h)).length := by
  have h1 := sendFirst_pre e hf
  have h2 := send_own (p := 0) (by omega) (by omega) (Int.le_refl 0) h1.2.2.2
  have h3 := own_le e (p := 0) ⟨by decide, by decide⟩
  refine free_pos (p := 0) ?_ (owner_none ?_)
  · show 0 < h.mem.length
    have := hostOk_t e; omega
  · show ownN 0 (f_send h (f_ownerOfPage h 0).1 (f_ownerOfPage h 0).2).mons = 0
    omega
theorem sendFirst_bd {Y h : THost} (hY : Y = f_sendFirst h) (e : f_hostOk h = true) (hf : ¬ 0 < (f_freeIn h).length) (m : Nat) : 0 < (f_freeIn Y).length ∧ Y.mons.length = h.mons.length ∧ (el Y.mons m).outer.length = (el h.mons m).outer.length ∧ (el Y.mons m).out.length = (el h.mons m).out.length ∧ (el Y.mons m).dirty.length = (el h.mons m).dirty.length ∧ (el Y.mons m).guests.length = (el h.mons m).guests.length ∧ (el Y.mons m).tables.length = (el h.mons m).tables.length := by
  subst hY
  have h1 := lens_t (send_lens h (f_ownerOfPage h 0).1 (f_ownerOfPage h 0).2 m)
  exact ⟨sendFirst_free e hf, send_len _ _ _, h1.1, h1.2.1, h1.2.2.1, h1.2.2.2.1, h1.2.2.2.2.1⟩
def f_withPage (m : List (List Int)) (p : Int) (c : List Int) : List (List Int) := if (0 ≤ p ∧ p < m.length) ∧ f_pageOk c = true then m.set p.toNat c else m
def f_room (h : THost) : THost := if 0 < (f_freeIn h).length then h else f_sendFirst h
def f_putIn (h : THost) (m page : Int) : THost :=
  f_slotTo ⟨f_withPage h.mem (el (f_freeIn h) 0) (el (el h.mons m.toNat).out page.toNat), h.mons.set m.toNat { el h.mons m.toNat with out := (el h.mons m.toNat).out.set page.toNat [] }, h.buf, h.iobuf⟩ m page ⟨el (f_freeIn h) 0, 3⟩
def f_fetch (h : THost) (m page : Int) : THost := f_putIn (f_room h) m page
def f_pageIn (h : THost) (m page : Int) : THost × Bool :=
  if f_hasPage h m page = true ∧ (el (el h.mons m.toNat).outer page.toNat).page = -1 then (f_fetch h m page, true) else (h, false)
theorem hasPage_rights {h : THost} {m page : Int} (e : f_hasPage h m page = true) : 0 ≤ (el (el h.mons m.toNat).outer page.toNat).rights ∧ (el (el h.mons m.toNat).outer page.toNat).rights ≤ 3 := by
  have h2 := hasPage_t e
  simp only [f_hasPage, Bool.and_eq_true] at e
  have h1 := l25Mon_t e.1
  have h3 := tableOk_el (monOk_t (hostOk_mon h1.1 (k := m.toNat) (by omega))).2 (k := page.toNat) (by omega)
  simp only [f_slotOk, Bool.or_eq_true, Bool.and_eq_true, decide_eq_true_eq] at h3
  rcases h3 with h3 | h3
  · rw [h3]; exact ⟨by decide, by decide⟩
  · have := within_t h3.2; omega
theorem hasPage_ok {h : THost} {m page : Int} (e : f_hasPage h m page = true) : f_hostOk h = true := by
  simp only [f_hasPage, Bool.and_eq_true] at e
  exact (l25Mon_t e.1).1
def f_mid (h : THost) (m page : Int) : THost := if (el (el h.mons m.toNat).outer page.toNat).page = -1 then f_fetch h m page else h
def f_wr (h : THost) (m page : Int) : THost :=
  if f_enough (el (el h.mons m.toNat).outer page.toNat).rights 2 = true then f_setM h m { el h.mons m.toNat with dirty := (el h.mons m.toNat).dirty.set page.toNat true }
  else f_slotTo (f_setM h m { el h.mons m.toNat with dirty := (el h.mons m.toNat).dirty.set page.toNat true }) m page ⟨(el (el h.mons m.toNat).outer page.toNat).page, 3⟩
def f_mend (h : THost) (m page need : Int) : THost := if f_enough need 2 = true then f_wr (f_mid h m page) m page else f_mid h m page
def f_mendTop (h : THost) (m page need : Int) : THost × Bool := if f_hasPage h m page = true ∧ f_within need 1 3 = true then (f_mend h m page need, true) else (h, false)
theorem room_bd {h : THost} {m page : Int} (e : f_hasPage h m page = true) : 0 < (f_freeIn (f_room h)).length ∧ (f_room h).mons.length = h.mons.length ∧ lens (el (f_room h).mons m.toNat) = lens (el h.mons m.toNat) := by
  unfold f_room
  split
  · rename_i hf; exact ⟨hf, rfl, rfl⟩
  · rename_i hf; exact ⟨sendFirst_free (hasPage_ok e) hf, send_len _ _ _, send_lens _ _ _ _⟩
theorem room_y {h Y : THost} (e : Y = f_send h (f_ownerOfPage h 0).1 (f_ownerOfPage h 0).2) (hn : ¬ 0 < (f_freeIn h).length) : Y = f_room h := by unfold f_room; rw [if_neg hn]; exact e
theorem room_n {h : THost} (hp : 0 < (f_freeIn h).length) : h = f_room h := by unfold f_room; rw [if_pos hp]
theorem room_bd2 {h Y : THost} {m page : Int} (hY : Y = f_room h) (e : f_hasPage h m page = true) : 0 < (f_freeIn Y).length ∧ Y.mons.length = h.mons.length ∧ (el Y.mons m.toNat).outer.length = 8 ∧ (el Y.mons m.toNat).out.length = 8 ∧ (el Y.mons m.toNat).dirty.length = 8 ∧ (el Y.mons m.toNat).tables.length = (el Y.mons m.toNat).guests.length := by
  subst hY
  have h1 := hasPage_t e
  have h2 := room_bd e
  have h3 := lens_t h2.2.2
  exact ⟨h2.1, h2.2.1, by omega, by omega, by omega, by omega⟩
theorem putIn_slot {h : THost} {m page : Int} (hm : m.toNat < h.mons.length) (hp : page.toNat < (el h.mons m.toNat).outer.length) : el (el (f_putIn h m page).mons m.toNat).outer page.toNat = ⟨el (f_freeIn h) 0, 3⟩ := by
  unfold f_putIn f_slotTo
  simp only [el_set_self hm, el_set_self hp, List.set_set]
theorem putIn_lens (h : THost) (m page : Int) (j : Nat) : lens (el (f_putIn h m page).mons j) = lens (el h.mons j) := by
  unfold f_putIn
  rw [slotTo_lens]
  apply set_lens
  simp only [lens, List.length_set]
theorem fetch_bd {Y h : THost} {m page : Int} (hY : Y = f_fetch h m page) (e : f_hasPage h m page = true) : (Y.mons.length = h.mons.length ∧ (el Y.mons m.toNat).outer.length = 8 ∧ (el Y.mons m.toNat).out.length = 8 ∧ (el Y.mons m.toNat).dirty.length = 8 ∧ (el Y.mons m.toNat).tables.length = (el Y.mons m.toNat).guests.length) ∧ (el (el Y.mons m.toNat).outer page.toNat).rights = 3 := by
  subst hY
  have h1 := hasPage_t e
  have h2 := room_bd e
  have h3 := lens_t h2.2.2
  have h4 := lens_t (putIn_lens (f_room h) m page m.toNat)
  have h5 : (f_putIn (f_room h) m page).mons.length = (f_room h).mons.length := by simp [f_putIn, f_slotTo]
  have h6 := putIn_slot (h := f_room h) (m := m) (page := page) (by omega) (by omega)
  unfold f_fetch
  rw [h6]
  exact ⟨⟨by omega, by omega, by omega, by omega, by omega⟩, rfl⟩
theorem mid_bd {Y h : THost} {m page : Int} (hY : Y = f_mid h m page) (e : f_hasPage h m page = true) : (Y.mons.length = h.mons.length ∧ (el Y.mons m.toNat).outer.length = 8 ∧ (el Y.mons m.toNat).out.length = 8 ∧ (el Y.mons m.toNat).dirty.length = 8 ∧ (el Y.mons m.toNat).tables.length = (el Y.mons m.toNat).guests.length) ∧ 0 ≤ (el (el Y.mons m.toNat).outer page.toNat).rights ∧ (el (el Y.mons m.toNat).outer page.toNat).rights ≤ 3 := by
  unfold f_mid at hY
  split at hY
  · have h1 := fetch_bd hY e; exact ⟨h1.1, by omega, by omega⟩
  · subst hY
    have h1 := hasPage_t e
    exact ⟨⟨rfl, h1.2.2.1, h1.2.2.2.1, h1.2.2.2.2.1, h1.2.2.2.2.2⟩, hasPage_rights e⟩
theorem mid_in {h : THost} {m page : Int} (e : ¬ (el (el h.mons m.toNat).outer page.toNat).page = -1) : f_mid h m page = h := if_neg e
theorem mid_out {h Y : THost} {m page : Int} (hY : Y = f_fetch h m page) (e : (el (el h.mons m.toNat).outer page.toNat).page = -1) : f_mid h m page = Y := by
  unfold f_mid; rw [if_pos e, hY]
theorem mid_outY {h Y : THost} {m page : Int} (hY : Y = f_fetch h m page) (e : el (el h.mons m.toNat).outer page.toNat = ⟨-1, 0⟩) : Y = f_mid h m page := by rw [hY]; exact (if_pos (by rw [e])).symm
theorem mid_inS {h : THost} {m page : Int} (p : f_hasPage h m page = true) (e : ¬ el (el h.mons m.toNat).outer page.toNat = ⟨-1, 0⟩) : f_mid h m page = h := if_neg fun h3 => e (slot_none p h3)
theorem mid_len {h Y : THost} {m page : Int} (p : f_hasPage h m page = true) (h1 : f_mid h m page = Y) : m.toNat < Y.mons.length := by
  have h2 := hasPage_t p
  have h3 := mid_bd h1.symm p
  omega
theorem mend_n {h Y : THost} {m page need : Int} (p : f_hasPage h m page = true) (h1 : f_mid h m page = Y) (h2 : f_enough need 2 = false) : f_mend h m page need = Y := by
  unfold f_mend; rw [if_neg (by rw [h2]; exact fun e => by cases e), h1]
theorem mend_w {h Y : THost} {m page need : Int} {X : List TMon} (p : f_hasPage h m page = true) (h1 : f_mid h m page = Y) (h2 : f_enough need 2 = true) (hX : X = Y.mons.set m.toNat { el Y.mons m.toNat with dirty := (el Y.mons m.toNat).dirty.set page.toNat true })
    (h3 : f_enough (el (el X m.toNat).outer page.toNat).rights 2 = true) : f_mend h m page need = ⟨Y.mem, X, Y.buf, Y.iobuf⟩ := by
  subst hX
  rw [el_set_self (mid_len p h1)] at h3
  unfold f_mend f_wr
  rw [if_pos h2, h1, if_pos h3]
  rfl
theorem mend_s {h Y : THost} {m page need : Int} {X : List TMon} (p : f_hasPage h m page = true) (h1 : f_mid h m page = Y) (h2 : f_enough need 2 = true) (hX : X = Y.mons.set m.toNat { el Y.mons m.toNat with dirty := (el Y.mons m.toNat).dirty.set page.toNat true })
    (h3 : f_enough (el (el X m.toNat).outer page.toNat).rights 2 = false) : f_mend h m page need = f_slotTo ⟨Y.mem, X, Y.buf, Y.iobuf⟩ m page ⟨(el (el X m.toNat).outer page.toNat).page, 3⟩ := by
  subst hX
  rw [el_set_self (mid_len p h1)] at h3 ⊢
  unfold f_mend f_wr
  rw [if_pos h2, h1, if_neg (by rw [h3]; exact fun e => by cases e)]
  rfl
theorem mend_i {h Y Z : THost} {m page need : Int} {X X2 : List TMon} {s : TSlot} (p : f_hasPage h m page = true) (h1 : f_mid h m page = Y) (h2 : f_enough need 2 = true) (hX : X = Y.mons.set m.toNat { el Y.mons m.toNat with dirty := (el Y.mons m.toNat).dirty.set page.toNat true })
    (h3 : f_enough (el (el X m.toNat).outer page.toNat).rights 2 = false) (hX2 : X2 = X.set m.toNat { el X m.toNat with outer := (el X m.toNat).outer.set page.toNat ⟨(el (el X m.toNat).outer page.toNat).page, 3⟩ }) (hs : s = el (el X m.toNat).outer page.toNat) (hZ : Z = f_inval ⟨Y.mem, X2, Y.buf, Y.iobuf⟩ m page s) : f_mend h m page need = Z := by
  rw [mend_s p h1 h2 hX h3, hZ, hX2, hs]
  have hl : m.toNat < X.length := by rw [hX, List.length_set]; exact mid_len p h1
  unfold f_slotTo f_inval
  simp only [el_set_self hl, List.set_set]
theorem mend_lens {h Y : THost} {m page need : Int} (hY : Y = f_mend h m page need) (p : f_hasPage h m page = true) : (Y.mons.length = h.mons.length ∧ (el Y.mons m.toNat).outer.length = 8) := by
  have h1 := mid_bd (rfl : f_mid h m page = f_mid h m page) p
  have h2 : (f_wr (f_mid h m page) m page).mons.length = (f_mid h m page).mons.length ∧ lens (el (f_wr (f_mid h m page) m page).mons m.toNat) = lens (el (f_mid h m page).mons m.toNat) := by
    unfold f_wr
    split
    · exact ⟨by simp [f_setM], setM_lens (by simp only [lens, List.length_set]) _⟩
    · exact ⟨by simp [f_setM, f_slotTo], by rw [slotTo_lens, setM_lens (by simp only [lens, List.length_set])]⟩
  have h3 := lens_t h2.2
  subst hY
  unfold f_mend
  split
  · omega
  · exact ⟨h1.1.1, h1.1.2.1⟩
def f_barePoke (b : TBare) (page cell v : Int) : TBare × Bool :=
  if f_bareOk b = true ∧ (0 ≤ page ∧ page < 8) ∧ (0 ≤ cell ∧ cell < 4) ∧ f_within v 0 99 = true then (⟨f_withCell b.mem page cell v, b.guests, b.outs, b.pend⟩, true) else (b, false)
def f_pokeOk (h : THost) (m page cell v : Int) : Bool := f_hasPage h m page && f_within cell 0 3 && f_within v 0 99
def f_hostPoke (h : THost) (m page cell v : Int) : THost × Bool :=
  if f_pokeOk h m page cell v = true then (⟨f_withCell (f_mend h m page 2).mem (el (el (f_mend h m page 2).mons m.toNat).outer page.toNat).page cell v, (f_mend h m page 2).mons, (f_mend h m page 2).buf, (f_mend h m page 2).iobuf⟩, true) else (h, false)
end Go.Proofs.Ytgonaioedbphgaa
