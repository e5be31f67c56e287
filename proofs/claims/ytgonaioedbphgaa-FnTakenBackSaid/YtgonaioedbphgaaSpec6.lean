/- Hosts in which a bare machine's step is done to a monitor, in plain data. No program is named here. -/
import Derived.Test.YtgonaioedbphgaaSpec5
namespace Go.Proofs.Ytgonaioedbphgaa
open Go
set_option linter.unusedVariables false
set_option linter.unusedSimpArgs false
def f_brought (n a b : Int) : Int := if b < a ∨ n < a then a else if n > b then b else n
theorem brought_bd (n : Int) : 0 ≤ f_brought n 0 24 ∧ f_brought n 0 24 ≤ 24 := by
  unfold f_brought
  split
  · omega
  · split <;> omega
theorem repl_next {α : Type} {n k : Nat} {x : α} (h : n = k + 1) : List.replicate n x = List.replicate k x ++ [x] := by
  subst h; exact List.replicate_succ'
def f_withGuest (b : TBare) (g : Int) (x : TGuest) : TBare := if 0 ≤ g ∧ g < b.guests.length then ⟨b.mem, b.guests.set g.toNat x, b.outs, b.pend⟩ else b
def f_changed (b : TBare) (g : Int) (c : Bool) (F : TGuest → TGuest) : TBare × Bool :=
  if f_bareOk b = true ∧ (0 ≤ g ∧ g < b.guests.length) ∧ c = true then (⟨b.mem, b.guests.set g.toNat (F (el b.guests g.toNat)), b.outs, b.pend⟩, true) else (b, false)
def f_view (x : TMon) : TBare := ⟨List.replicate 8 (List.replicate 4 0), x.guests, x.outs, x.pend⟩
def f_back (h : THost) (m : Int) (b : TBare) : THost := ⟨h.mem, h.mons.set m.toNat { el h.mons m.toNat with guests := b.guests, pend := b.pend }, h.buf, h.iobuf⟩
def f_l25Mon (h : THost) (m : Int) : Bool := f_hostOk h && f_within m 0 ((h.mons.length : Int) - 1)
theorem l25Mon_t {h : THost} {m : Int} (e : f_l25Mon h m = true) : f_hostOk h = true ∧ 0 ≤ m ∧ m < h.mons.length := by
  simp only [f_l25Mon, Bool.and_eq_true] at e
  have := within_t e.2
  exact ⟨e.1, by omega, by omega⟩
theorem l25Mon_mk {h : THost} {m : Int} (e : f_hostOk h = true ∧ 0 ≤ m ∧ m < h.mons.length) : f_l25Mon h m = true := by
  simp only [f_l25Mon, e.1, Bool.true_and, f_within, Bool.and_eq_true, decide_eq_true_eq]
  omega
def f_reflected (h : THost) (m : Int) (r : TBare × Bool) : THost × Bool :=
  if (f_hostOk h = true ∧ 0 ≤ m ∧ m < h.mons.length) ∧ r.2 = true then (f_back h m r.1, true) else (h, false)
theorem back_two {h : THost} {m : Int} {b : TBare} (hm : 0 ≤ m ∧ m < h.mons.length) :
    (h.mons.set m.toNat { el h.mons m.toNat with guests := b.guests }).set m.toNat { el (h.mons.set m.toNat { el h.mons m.toNat with guests := b.guests }) m.toNat with pend := b.pend } = h.mons.set m.toNat { el h.mons m.toNat with guests := b.guests, pend := b.pend } := by
  rw [el_set_self (show m.toNat < h.mons.length by omega), List.set_set]
theorem fold_some {α β : Type} [GT α] {f : Option β → α → Option β} (hn : ∀ x, f none x = none) : ∀ (xs : List α) (z : Option β), (xs.foldl f z).isSome = true → ∀ k, k < xs.length → ∃ u, (f (some u) (el xs k)).isSome = true
  | [], _, _, k, hk => by simp at hk
  | x :: r, z, h, k, hk => by
    have dead : ∀ ys : List α, ys.foldl f none = none := fun ys => by
      induction ys with
      | nil => rfl
      | cons y r ih => simp only [List.foldl_cons, hn, ih]
    rw [List.foldl_cons] at h
    cases k with
    | zero =>
      cases z with
      | none => rw [hn, dead] at h; cases h
      | some u =>
        refine ⟨u, ?_⟩
        show (f (some u) x).isSome = true
        cases e : f (some u) x with
        | none => rw [e, dead] at h; cases h
        | some _ => rfl
    | succ k =>
      obtain ⟨u, hu⟩ := fold_some hn r _ h k (by simpa using hk)
      exact ⟨u, by rw [show el (x :: r) (k + 1) = el r k by simp [el]]; exact hu⟩
theorem hostOk_mon {h : THost} (e : f_hostOk h = true) {k : Nat} (hk : k < h.mons.length) : f_monOk (el h.mons k) = true := by
  simp only [f_hostOk, Bool.and_eq_true] at e
  obtain ⟨u, hu⟩ := fold_some stepMon_none h.mons _ e.2 k hk
  unfold stepMon at hu
  simp only [Option.bind_some] at hu
  split at hu
  · assumption
  · cases hu
structure Loc (r : TBare → TBare × Bool) : Prop where
  eq : ∀ b b', f_bareOk b = f_bareOk b' → b.guests = b'.guests → b.outs = b'.outs → b.pend = b'.pend → (r b).2 = (r b').2 ∧ (r b).1.guests = (r b').1.guests ∧ (r b).1.pend = (r b').1.pend
  no : ∀ b, (r b).2 = false → (r b).1.guests = b.guests ∧ (r b).1.pend = b.pend
def f_bareCtl (b : TBare) (g : Int) (c : TCtl) : TBare × Bool := f_changed b g (f_ctlOk c) (fun x => { x with ctl := c })
def f_hostCtl (h : THost) (m g : Int) (c : TCtl) : THost × Bool := f_reflected h m (f_bareCtl (f_seenAs h m) g c)
def f_hostPost (h : THost) (m n : Int) : THost × Bool := f_reflected h m (f_barePost (f_seenAs h m) n)
def f_bareInject (b : TBare) (g n : Int) : TBare × Bool := f_changed b g (f_postIrq (f_guestAt b g).1.pend n).2 (fun x => { x with pend := (f_postIrq (f_guestAt b g).1.pend n).1 })
def f_hostInject (h : THost) (m g n : Int) : THost × Bool := f_reflected h m (f_bareInject (f_seenAs h m) g n)
def f_moved (g : TGuest) : TGuest := { g with pc := if g.pc ≥ 12 then 12 else g.pc + 1 }
def f_held (g : TGuest) : TGuest := f_moved { g with halted := true }
def f_exitOf (b : TBare) (g : Int) : TExit := (f_guestAt b g).1.exit
def f_resume (kind : Int) (x : TGuest) : TGuest := if kind = 4 then f_held { x with exit := ⟨0, 0, false, 0⟩ } else { x with exit := ⟨0, 0, false, 0⟩ }
def f_bareResume (b : TBare) (g : Int) : TBare × Bool := f_changed b g ((f_exitOf b g).kind == 1 || (f_exitOf b g).kind == 4) (fun x => f_resume (f_exitOf b g).kind x)
def f_hostResume (h : THost) (m g : Int) : THost × Bool := f_reflected h m (f_bareResume (f_seenAs h m) g)
def f_answer (kind v : Int) (x : TGuest) : TGuest := f_moved { (if kind = 2 then { x with acc := v } else x) with exit := ⟨0, 0, false, 0⟩ }
def f_bareAnswer (b : TBare) (g v : Int) : TBare × Bool := f_changed b g (((f_exitOf b g).kind == 2 || (f_exitOf b g).kind == 3) && f_within v 0 99) (fun x => f_answer (f_exitOf b g).kind v x)
def f_hostAnswer (h : THost) (m g v : Int) : THost × Bool := f_reflected h m (f_bareAnswer (f_seenAs h m) g v)
def f_withSlot (t : List TSlot) (p : Int) (s : TSlot) : List TSlot := if 0 ≤ p ∧ p < t.length then t.set p.toNat s else t
def f_bareSet (b : TBare) (g page : Int) (s : TSlot) : TBare × Bool := f_changed b g (f_within page 0 3 && f_slotOk s 8) (fun x => { x with written := f_withSlot x.written page s })
theorem set_has {b : TBare} {g page : Int} {s : TSlot} (h : f_within page 0 (4 - 1) = true) : f_bareSet b g page s = f_changed b g (f_slotOk s 8) (fun x => { x with written := f_withSlot x.written page s }) := by
  unfold f_bareSet
  rw [show f_within page 0 3 = true from h, Bool.true_and]
theorem set_hasnt {b : TBare} {g page : Int} {s : TSlot} (h : f_within page 0 (4 - 1) = false) : f_bareSet b g page s = f_changed b g false (fun x => { x with written := f_withSlot x.written page s }) := by
  unfold f_bareSet
  rw [show f_within page 0 3 = false from h, Bool.false_and]
def f_hostSet (h : THost) (m g page : Int) (s : TSlot) : THost × Bool := f_reflected h m (f_bareSet (f_seenAs h m) g page s)
end Go.Proofs.Ytgonaioedbphgaa
