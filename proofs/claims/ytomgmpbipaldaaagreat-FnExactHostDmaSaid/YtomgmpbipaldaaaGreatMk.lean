/- Marks on nested data: what the statements' held functions compute, and parts of owned lists. No program is named here. -/
import Derived.Test.YtomgmpbipaldaaaGreatOw
import Derived.Test.YtomgmpbipaldaaaGreatSz
import Derived.Test.YtomgmpbipaldaaaGreatSpec3
import Derived.Test.YtomgmpbipaldaaaGreatMarks
namespace Go.Proofs.YtomgmpbipaldaaaGreat
open Go
set_option linter.unusedSimpArgs false
set_option linter.unusedVariables false
def hdi (x : Int) (k : Int) (f : Int → Int) : Int := if x = k then f (IntKind.i64.wrap (k + 1)) else -1
def hdb (x : Bool) (k : Int) (f : Int → Int) : Int := if x = (Int.tmod k 3 == 0) then f (IntKind.i64.wrap (k + 1)) else -1
def hdc (k : Int) (f : Int → Int) : Int := if k < 0 then -1 else f k
theorem hdi_eq {x k : Int} {f : Int → Int} (h : x = k) (h1 : -9223372036854775808 ≤ k + 1) (h2 : k + 1 ≤ 9223372036854775807) : hdi x k f = f (k + 1) := by
  unfold hdi; rw [if_pos h, wrap_in ⟨h1, h2⟩]
theorem hdb_eq {x : Bool} {k : Int} {f : Int → Int} (h : x = (Int.tmod k 3 == 0)) (h1 : -9223372036854775808 ≤ k + 1) (h2 : k + 1 ≤ 9223372036854775807) : hdb x k f = f (k + 1) := by
  unfold hdb; rw [if_pos h, wrap_in ⟨h1, h2⟩]
theorem hdc_pos {k : Int} {f : Int → Int} (h : 0 ≤ k) : hdc k f = f k := by unfold hdc; rw [if_neg (by omega)]
theorem drop_el {α : Type} [GT α] {a : List α} {i : Nat} (h : i < a.length) : a.drop i = el a i :: a.drop (i + 1) := by
  rw [el_lt h, List.drop_eq_getElem_cons h]
theorem el_set_ne {α : Type} [GT α] {xs : List α} {i k : Nat} {y : α} (e : ¬ i = k) : el (xs.set k y) i = el xs i := by
  unfold el
  rw [List.getD_eq_getElem?_getD, List.getD_eq_getElem?_getD, List.getElem?_set_ne (fun h => e h.symm)]
class HE (α : Type) where
  he : α → Int → (Int → Int) → Int
section
variable {α : Type} [HE α]
def hdlc : List α → Int → (Int → Int) → Int
  | [], k, f => f k
  | x :: r, k, f => HE.he x k fun k => hdlc r k f
def hdl (xs : List α) (k : Int) : Int := hdlc xs k id
instance : HE Int := ⟨hdi⟩
instance : HE Bool := ⟨hdb⟩
instance : HE (List α) := ⟨fun x k f => hdc (hdl x k) f⟩
theorem he_list (x : List α) (k : Int) (f : Int → Int) : HE.he x k f = hdc (hdl x k) f := rfl
theorem he_Int (x k : Int) (f : Int → Int) : HE.he x k f = hdi x k f := rfl
theorem he_Bool (x : Bool) (k : Int) (f : Int → Int) : HE.he x k f = hdb x k f := rfl
theorem hdlc_append (xs ys : List α) (k : Int) (f : Int → Int) : hdlc (xs ++ ys) k f = hdlc xs k fun k => hdlc ys k f := by
  induction xs generalizing k with
  | nil => rfl
  | cons x r ih => simp only [List.cons_append, hdlc, ih]
theorem hd_step [GT α] {a : List α} {i : Nat} {j : Int} {f : Int → Int} (h : i < a.length) : hdlc (a.drop i) j f = HE.he (el a i) j fun k => hdlc (a.drop (i + 1)) k f := by
  rw [drop_el h]; rfl
theorem hd_end {a : List α} {i : Nat} {j : Int} (h : a.length ≤ i) : hdlc (a.drop i) j id = j := by
  rw [List.drop_of_length_le h]; rfl
theorem mk_step [GT α] {acc : List α} {i : Nat} {k j j' : Int} (h : i < acc.length) (hM : ∀ f, hdlc (acc.take i) k f = f j) (he : ∀ f, HE.he (el acc i) j f = f j') : ∀ f, hdlc (acc.take (i + 1)) k f = f j' := by
  intro f
  rw [take_el h, hdlc_append, hM]
  exact he f
theorem mk_end {acc : List α} {i : Nat} {k j : Int} (h : acc.length ≤ i) (hM : ∀ f, hdlc (acc.take i) k f = f j) : hdl acc k = j := by
  have := hM id
  rwa [take_all h] at this
end
theorem take_set_self {α : Type} {xs : List α} {k : Nat} {y : α} : (xs.set k y).take k = xs.take k := by
  rw [List.take_set_of_le (Nat.le_refl _)]
theorem drop_set_self {α : Type} {xs : List α} {k : Nat} {y : α} : (xs.set k y).drop (k + 1) = xs.drop (k + 1) := by
  rw [List.drop_set_of_lt (Nat.lt_succ_self _)]
theorem drop_more {α : Type} {xs ys : List α} {k : Nat} (h : xs.drop k = ys.drop k) : xs.drop (k + 1) = ys.drop (k + 1) := by
  rw [← List.drop_drop, ← List.drop_drop, h]
theorem el_of_drop {α : Type} [GT α] {xs ys : List α} {k : Nat} (h : xs.drop k = ys.drop k) : el xs k = el ys k := by
  have e : (xs.drop k)[0]? = (ys.drop k)[0]? := by rw [h]
  rw [List.getElem?_drop, List.getElem?_drop, Nat.add_zero] at e
  unfold el
  rw [List.getD_eq_getElem?_getD, List.getD_eq_getElem?_getD, e]
instance : HE TSlot := ⟨fun x k f => hdi x.page k fun k => hdi x.rights k fun k => f k⟩
theorem he_Slot (x : TSlot) (k : Int) (f : Int → Int) : HE.he x k f = hdi x.page k fun k => hdi x.rights k fun k => f k := rfl
instance : HE TEntry := ⟨fun x k f => hdi x.tag k fun k => hdi x.page k fun k => hdi x.host k fun k => hdi x.rights k fun k => f k⟩
theorem he_Entry (x : TEntry) (k : Int) (f : Int → Int) : HE.he x k f = hdi x.tag k fun k => hdi x.page k fun k => hdi x.host k fun k => hdi x.rights k fun k => f k := rfl
instance : HE TIns := ⟨fun x k f => hdi x.opc k fun k => hdi x.x k fun k => f k⟩
theorem he_Ins (x : TIns) (k : Int) (f : Int → Int) : HE.he x k f = hdi x.opc k fun k => hdi x.x k fun k => f k := rfl
instance : HE TCtl := ⟨fun x k f => hdi x.traps k fun k => hdi x.post k fun k => hdb x.opn k fun k => f k⟩
instance : HE TExit := ⟨fun x k f => hdi x.kind k fun k => hdi x.page k fun k => hdb x.wr k fun k => hdi x.n k fun k => f k⟩
instance : HE TAct := ⟨fun x k f => hdi x.kind k fun k => hdi x.m k fun k => hdi x.g k fun k => hdi x.x k fun k => hdi x.y k fun k => hdi x.z k fun k => f k⟩
instance : HE TTold := ⟨fun x k f => hdb x.ok k fun k => hdi x.n k fun k => f k⟩
instance : HE TKept := ⟨fun x k f => hdc (hdl x.known k) fun k => hdc (hdl x.slots k) fun k => f k⟩
theorem he_Kept (x : TKept) (k : Int) (f : Int → Int) : HE.he x k f = hdc (hdl x.known k) fun k => hdc (hdl x.slots k) fun k => f k := rfl
def hdT_Kept (x : TKept) (k : Int) : Int := hdc (hdl x.known k) fun k => hdc (hdl x.slots k) fun k => k
instance : HE TGuest := ⟨fun x k f => hdc (hdl x.prog k) fun k => hdi x.acc k fun k => hdi x.pc k fun k => hdc (hdl x.written k) fun k => hdc (hdl x.live k) fun k => hdi x.ctl.traps k fun k => hdi x.ctl.post k fun k => hdb x.ctl.opn k fun k => hdi x.pend k fun k => hdi x.exit.kind k fun k => hdi x.exit.page k fun k => hdb x.exit.wr k fun k => hdi x.exit.n k fun k => hdb x.halted k fun k => hdc (hdl x.seen k) fun k => f k⟩
theorem he_Guest (x : TGuest) (k : Int) (f : Int → Int) : HE.he x k f = hdc (hdl x.prog k) fun k => hdi x.acc k fun k => hdi x.pc k fun k => hdc (hdl x.written k) fun k => hdc (hdl x.live k) fun k => hdi x.ctl.traps k fun k => hdi x.ctl.post k fun k => hdb x.ctl.opn k fun k => hdi x.pend k fun k => hdi x.exit.kind k fun k => hdi x.exit.page k fun k => hdb x.exit.wr k fun k => hdi x.exit.n k fun k => hdb x.halted k fun k => hdc (hdl x.seen k) fun k => f k := rfl
def hdT_Guest (x : TGuest) (k : Int) : Int := hdc (hdl x.prog k) fun k => hdc (hdl x.written k) fun k => hdc (hdl x.live k) fun k => hdc (hdl x.seen k) fun k => k
instance : HE TMon := ⟨fun x k f => hdc (hdl x.outer k) fun k => hdc (hdl x.out k) fun k => hdc (hdl x.dirty k) fun k => hdc (hdl x.guests k) fun k => hdc (hdl x.outs k) fun k => hdi x.pend k fun k => hdi x.traps k fun k => hdc (hdl x.tables k) fun k => hdi x.owned k fun k => f k⟩
theorem he_Mon (x : TMon) (k : Int) (f : Int → Int) : HE.he x k f = hdc (hdl x.outer k) fun k => hdc (hdl x.out k) fun k => hdc (hdl x.dirty k) fun k => hdc (hdl x.guests k) fun k => hdc (hdl x.outs k) fun k => hdi x.pend k fun k => hdi x.traps k fun k => hdc (hdl x.tables k) fun k => hdi x.owned k fun k => f k := rfl
def hdT_Mon (x : TMon) (k : Int) : Int := hdc (hdl x.outer k) fun k => hdc (hdl x.out k) fun k => hdc (hdl x.dirty k) fun k => hdc (hdl x.guests k) fun k => hdc (hdl x.outs k) fun k => hdc (hdl x.tables k) fun k => k
instance : HE TBare := ⟨fun x k f => hdc (hdl x.mem k) fun k => hdc (hdl x.guests k) fun k => hdc (hdl x.outs k) fun k => hdi x.pend k fun k => f k⟩
def hdT_Bare (x : TBare) (k : Int) : Int := hdc (hdl x.mem k) fun k => hdc (hdl x.guests k) fun k => hdc (hdl x.outs k) fun k => k
instance : HE THost := ⟨fun x k f => hdc (hdl x.mem k) fun k => hdc (hdl x.mons k) fun k => hdc (hdl x.buf k) fun k => hdc (hdl x.iobuf k) fun k => f k⟩
def hdT_Host (x : THost) (k : Int) : Int := hdc (hdl x.mem k) fun k => hdc (hdl x.mons k) fun k => hdc (hdl x.buf k) fun k => hdc (hdl x.iobuf k) fun k => k
theorem hd_marksInt (k : Int) (h0 : 0 ≤ k) : ∀ n : Nat, k + 1 * (n : Int) ≤ 4611686018427387904 → ∀ f, hdlc (f_marksInt n k) k f = f (k + 1 * (n : Int))
  | 0, _, f => by
    show f k = _
    congr 1; omega
  | n + 1, h, f => by
    have e : f_marksInt (n + 1) k = f_marksInt n k ++ [g_markInt (k + 1 * (n : Int))] := by
      unfold f_marksInt; rw [List.range_succ, List.map_append]; rfl
    rw [e, hdlc_append, hd_marksInt k h0 n (by omega)]
    show HE.he (g_markInt (k + 1 * (n : Int))) (k + 1 * (n : Int)) f = _
    generalize hj : k + 1 * (n : Int) = j
    simp (disch := first | omega | rfl) only [he_Int, g_markInt, hdi_eq, hdb_eq, Int.add_assoc, Int.reduceAdd]
    congr 1; omega
theorem hd_marksBool (k : Int) (h0 : 0 ≤ k) : ∀ n : Nat, k + 1 * (n : Int) ≤ 4611686018427387904 → ∀ f, hdlc (f_marksBool n k) k f = f (k + 1 * (n : Int))
  | 0, _, f => by
    show f k = _
    congr 1; omega
  | n + 1, h, f => by
    have e : f_marksBool (n + 1) k = f_marksBool n k ++ [g_markBool (k + 1 * (n : Int))] := by
      unfold f_marksBool; rw [List.range_succ, List.map_append]; rfl
    rw [e, hdlc_append, hd_marksBool k h0 n (by omega)]
    show HE.he (g_markBool (k + 1 * (n : Int))) (k + 1 * (n : Int)) f = _
    generalize hj : k + 1 * (n : Int) = j
    simp (disch := first | omega | rfl) only [he_Bool, g_markBool, hdi_eq, hdb_eq, Int.add_assoc, Int.reduceAdd]
    congr 1; omega
theorem hd_marksSlot (k : Int) (h0 : 0 ≤ k) : ∀ n : Nat, k + 2 * (n : Int) ≤ 4611686018427387904 → ∀ f, hdlc (f_marksSlot n k) k f = f (k + 2 * (n : Int))
  | 0, _, f => by
    show f k = _
    congr 1; omega
  | n + 1, h, f => by
    have e : f_marksSlot (n + 1) k = f_marksSlot n k ++ [g_markSlot (k + 2 * (n : Int))] := by
      unfold f_marksSlot; rw [List.range_succ, List.map_append]; rfl
    rw [e, hdlc_append, hd_marksSlot k h0 n (by omega)]
    show HE.he (g_markSlot (k + 2 * (n : Int))) (k + 2 * (n : Int)) f = _
    generalize hj : k + 2 * (n : Int) = j
    simp (disch := first | omega | rfl) only [he_Slot, g_markSlot, hdi_eq, hdb_eq, Int.add_assoc, Int.reduceAdd]
    congr 1; omega
theorem hd_marksEntry (k : Int) (h0 : 0 ≤ k) : ∀ n : Nat, k + 4 * (n : Int) ≤ 4611686018427387904 → ∀ f, hdlc (f_marksEntry n k) k f = f (k + 4 * (n : Int))
  | 0, _, f => by
    show f k = _
    congr 1; omega
  | n + 1, h, f => by
    have e : f_marksEntry (n + 1) k = f_marksEntry n k ++ [g_markEntry (k + 4 * (n : Int))] := by
      unfold f_marksEntry; rw [List.range_succ, List.map_append]; rfl
    rw [e, hdlc_append, hd_marksEntry k h0 n (by omega)]
    show HE.he (g_markEntry (k + 4 * (n : Int))) (k + 4 * (n : Int)) f = _
    generalize hj : k + 4 * (n : Int) = j
    simp (disch := first | omega | rfl) only [he_Entry, g_markEntry, hdi_eq, hdb_eq, Int.add_assoc, Int.reduceAdd]
    congr 1; omega
theorem hd_marksIns (k : Int) (h0 : 0 ≤ k) : ∀ n : Nat, k + 2 * (n : Int) ≤ 4611686018427387904 → ∀ f, hdlc (f_marksIns n k) k f = f (k + 2 * (n : Int))
  | 0, _, f => by
    show f k = _
    congr 1; omega
  | n + 1, h, f => by
    have e : f_marksIns (n + 1) k = f_marksIns n k ++ [g_markIns (k + 2 * (n : Int))] := by
      unfold f_marksIns; rw [List.range_succ, List.map_append]; rfl
    rw [e, hdlc_append, hd_marksIns k h0 n (by omega)]
    show HE.he (g_markIns (k + 2 * (n : Int))) (k + 2 * (n : Int)) f = _
    generalize hj : k + 2 * (n : Int) = j
    simp (disch := first | omega | rfl) only [he_Ins, g_markIns, hdi_eq, hdb_eq, Int.add_assoc, Int.reduceAdd]
    congr 1; omega
section
variable {w0 : World} {M : Bl} {u : World} {N : Bl}
theorem Ow.focus {α β : Type} [GT α] [GT β] {xs : List α} {p : LP α} {F : Bl} (o : Ow w0 M u N F xs p) {k : Nat} (hk : k < xs.length) (get : α → β) (pget : GT.Ptr α → GT.Ptr β) (set : α → β → α) (pset : GT.Ptr α → GT.Ptr β → GT.Ptr α)
    (hP : ∀ (G : Bl) (u : World) (x : α) (r : GT.Ptr α), GT.own KK G u x r → ∃ H : Bl, GT.own KK H u (get x) (pget r) ∧ (∀ b, H b → G b) ∧ ∀ (u' : World) (y : β) (q : GT.Ptr β), GT.own KK H u' y q → (∀ b, G b → ¬ H b → u'.heap[b]? = u.heap[b]?) → GT.cells y q = GT.cells (get x) (pget r) → GT.own KK G u' (set x y) (pset r q) ∧ GT.cells (set x y) (pset r q) = GT.cells x r) :
    ∃ H : Bl, Ow w0 M u N H (get (el xs k)) (pget (p.2 k)) ∧ (∀ b, H b → F b) ∧ ∀ (u' : World) (N' : Bl) (y : β) (q : GT.Ptr β), (∀ b, N b → ¬ H b → N' b ∧ u'.heap[b]? = u.heap[b]?) → Ow w0 M u' N' H y q → GT.cells y q = GT.cells (get (el xs k)) (pget (p.2 k)) →
      ∃ p2, Ow w0 M u' N' F (xs.set k (set (el xs k) y)) (p.1, p2) := by
  have ho : LOwn KK F u xs p := o.own
  obtain ⟨G, g1, g2, g3⟩ := ho.el
  obtain ⟨H, h1, h2, h3⟩ := hP (G k) u (el xs k) (p.2 k) (g1 k hk)
  have hHF : ∀ b, H b → F b := fun b hb => (g2 k hk b (h2 b hb)).1
  refine ⟨H, ⟨h1, fun b hb => o.sub b (hHF b hb), fun b hb => o.young b (hHF b hb)⟩, hHF, fun u' N' y q up oy hc => ?_⟩
  have keep : ∀ b, F b → ¬ H b → u'.heap[b]? = u.heap[b]? := fun b hb hn => (up b (o.sub b hb) hn).2
  have hcap := ho.cap
  have hnn : p.1.nil = false := ho.nonil (by omega)
  have hrowb : ¬ H p.1.b := fun hb => (g2 k hk _ (h2 _ hb)).2 rfl
  have hrowF : F p.1.b := (ho.row hnn).1
  obtain ⟨b1, b2⟩ := h3 u' y q oy.own (fun b hb hn => keep b (g2 k hk b hb).1 hn) hc
  refine ⟨fun i => if i = k then pset (p.2 k) q else p.2 i, ⟨?_, ?_, o.young⟩⟩
  · show LOwn KK F u' _ _
    refine ⟨by rw [List.length_set]; exact ho.le, by rw [List.length_set]; exact ho.cap, ho.capm, ho.null, fun z => ⟨(ho.row z).1, ?_⟩, fun i hi => ?_, G, fun i hi => ?_, ?_, ?_⟩
    · rw [keep _ hrowF hrowb]; exact (ho.row z).2
    · rw [List.length_set] at hi
      have hcell : CellsAt u' p.1.b (p.1.off + i * GT.width α) (GT.cells (el xs i) (p.2 i)) := (ho.cell i hi).agree (keep _ hrowF hrowb)
      by_cases e : i = k
      · subst e
        rw [el_set_self hi]
        simp only [if_true]
        rw [b2]; exact hcell
      · rw [el_set_ne e]
        simp only [if_neg e]
        exact hcell
    · rw [List.length_set] at hi
      by_cases e : i = k
      · subst e
        rw [el_set_self hi]
        simp only [if_true]
        exact b1
      · rw [el_set_ne e]
        simp only [if_neg e]
        exact GT.own_agree (g1 i hi) fun b hb _ => keep b (g2 i hi b hb).1 fun hH => g3 i k hi hk e b hb (h2 b hH)
    · intro i hi; rw [List.length_set] at hi; exact g2 i hi
    · intro i j hi hj; rw [List.length_set] at hi hj; exact g3 i j hi hj
  · intro b hb
    by_cases hH : H b
    · exact oy.sub b hH
    · exact (up b (o.sub b hb) hH).1
theorem foc_id {β : Type} [GT β] {xs : List β} {p : LP β} {F : Bl} (o : Ow w0 M u N F xs p) {k : Nat} (hk : k < xs.length) :
    ∃ H : Bl, Ow w0 M u N H (el xs k) (p.2 k) ∧ (∀ b, H b → F b) ∧ ∀ (u' : World) (N' : Bl) (y : β) (q : GT.Ptr β), (∀ b, N b → ¬ H b → N' b ∧ u'.heap[b]? = u.heap[b]?) → Ow w0 M u' N' H y q → GT.cells y q = GT.cells (el xs k) (p.2 k) →
      ∃ p2, Ow w0 M u' N' F (xs.set k y) (p.1, p2) :=
  o.focus hk (fun x => x) (fun r => r) (fun _ y => y) (fun _ q => q) fun G u x r h => ⟨G, h, fun _ z => z, fun _ _ _ h' _ hc => ⟨h', hc⟩⟩
theorem foc_Kept_known {xs : List TKept} {p : LP TKept} {F : Bl} (o : Ow w0 M u N F xs p) {k : Nat} (hk : k < xs.length) :
    ∃ H : Bl, Ow w0 M u N H (el xs k).known (p.2 k).known ∧ (∀ b, H b → F b) ∧ ∀ (u' : World) (N' : Bl) (y : List Bool) (q : GT.Ptr (List Bool)), (∀ b, N b → ¬ H b → N' b ∧ u'.heap[b]? = u.heap[b]?) → Ow w0 M u' N' H y q → GT.cells y q = GT.cells (el xs k).known (p.2 k).known →
      ∃ p2, Ow w0 M u' N' F (xs.set k { el xs k with known := y }) (p.1, p2) :=
  o.focus hk (fun x => x.known) (fun r => r.known) (fun x y => { x with known := y }) (fun r q => { r with known := q }) fun G u x r h => by
    obtain ⟨G0, G1, g0, g1, s⟩ := h
    refine ⟨G0, g0, s.sub _ (by simp), fun u' y q h' hw hc => ⟨⟨G0, G1, h', GT.own_agree g1 fun b hb _ => hw b (s.sub _ (by simp) b hb) fun hH => (pw s.dis (i := 0) (j := 1) (by decide) rfl rfl) b hH hb, s⟩, ?_⟩⟩
    have e := (List.cons.inj hc).1
    show [slv y.length q.1, slv x.slots.length r.slots.1] = [slv x.known.length r.known.1, slv x.slots.length r.slots.1]
    rw [e]
theorem foc_Kept_slots {xs : List TKept} {p : LP TKept} {F : Bl} (o : Ow w0 M u N F xs p) {k : Nat} (hk : k < xs.length) :
    ∃ H : Bl, Ow w0 M u N H (el xs k).slots (p.2 k).slots ∧ (∀ b, H b → F b) ∧ ∀ (u' : World) (N' : Bl) (y : List TSlot) (q : GT.Ptr (List TSlot)), (∀ b, N b → ¬ H b → N' b ∧ u'.heap[b]? = u.heap[b]?) → Ow w0 M u' N' H y q → GT.cells y q = GT.cells (el xs k).slots (p.2 k).slots →
      ∃ p2, Ow w0 M u' N' F (xs.set k { el xs k with slots := y }) (p.1, p2) :=
  o.focus hk (fun x => x.slots) (fun r => r.slots) (fun x y => { x with slots := y }) (fun r q => { r with slots := q }) fun G u x r h => by
    obtain ⟨G0, G1, g0, g1, s⟩ := h
    refine ⟨G1, g1, s.sub _ (by simp), fun u' y q h' hw hc => ⟨⟨G0, G1, GT.own_agree g0 fun b hb _ => hw b (s.sub _ (by simp) b hb) fun hH => (pw s.dis (i := 0) (j := 1) (by decide) rfl rfl) b hb hH, h', s⟩, ?_⟩⟩
    have e := (List.cons.inj hc).1
    show [slv x.known.length r.known.1, slv y.length q.1] = [slv x.known.length r.known.1, slv x.slots.length r.slots.1]
    rw [e]
theorem foc_Guest_prog {xs : List TGuest} {p : LP TGuest} {F : Bl} (o : Ow w0 M u N F xs p) {k : Nat} (hk : k < xs.length) :
    ∃ H : Bl, Ow w0 M u N H (el xs k).prog (p.2 k).prog ∧ (∀ b, H b → F b) ∧ ∀ (u' : World) (N' : Bl) (y : List TIns) (q : GT.Ptr (List TIns)), (∀ b, N b → ¬ H b → N' b ∧ u'.heap[b]? = u.heap[b]?) → Ow w0 M u' N' H y q → GT.cells y q = GT.cells (el xs k).prog (p.2 k).prog →
      ∃ p2, Ow w0 M u' N' F (xs.set k { el xs k with prog := y }) (p.1, p2) :=
  o.focus hk (fun x => x.prog) (fun r => r.prog) (fun x y => { x with prog := y }) (fun r q => { r with prog := q }) fun G u x r h => by
    obtain ⟨G0, G1, G2, G3, g0, g1, g2, g3, s, f0, f1, f2, f3, f4⟩ := h
    refine ⟨G0, g0, s.sub _ (by simp), fun u' y q h' hw hc => ⟨⟨G0, G1, G2, G3, h', GT.own_agree g1 fun b hb _ => hw b (s.sub _ (by simp) b hb) fun hH => (pw s.dis (i := 0) (j := 1) (by decide) rfl rfl) b hH hb, GT.own_agree g2 fun b hb _ => hw b (s.sub _ (by simp) b hb) fun hH => (pw s.dis (i := 0) (j := 2) (by decide) rfl rfl) b hH hb, GT.own_agree g3 fun b hb _ => hw b (s.sub _ (by simp) b hb) fun hH => (pw s.dis (i := 0) (j := 3) (by decide) rfl rfl) b hH hb, s, f0, f1, f2, f3, f4⟩, ?_⟩⟩
    have e := (List.cons.inj hc).1
    show [slv y.length q.1, I x.acc, I x.pc, slv x.written.length r.written.1, slv x.live.length r.live.1, I x.ctl.traps, I x.ctl.post, B x.ctl.opn, I x.pend, I x.exit.kind, I x.exit.page, B x.exit.wr, I x.exit.n, B x.halted, slv x.seen.length r.seen.1] = [slv x.prog.length r.prog.1, I x.acc, I x.pc, slv x.written.length r.written.1, slv x.live.length r.live.1, I x.ctl.traps, I x.ctl.post, B x.ctl.opn, I x.pend, I x.exit.kind, I x.exit.page, B x.exit.wr, I x.exit.n, B x.halted, slv x.seen.length r.seen.1]
    rw [e]
theorem foc_Guest_written {xs : List TGuest} {p : LP TGuest} {F : Bl} (o : Ow w0 M u N F xs p) {k : Nat} (hk : k < xs.length) :
    ∃ H : Bl, Ow w0 M u N H (el xs k).written (p.2 k).written ∧ (∀ b, H b → F b) ∧ ∀ (u' : World) (N' : Bl) (y : List TSlot) (q : GT.Ptr (List TSlot)), (∀ b, N b → ¬ H b → N' b ∧ u'.heap[b]? = u.heap[b]?) → Ow w0 M u' N' H y q → GT.cells y q = GT.cells (el xs k).written (p.2 k).written →
      ∃ p2, Ow w0 M u' N' F (xs.set k { el xs k with written := y }) (p.1, p2) :=
  o.focus hk (fun x => x.written) (fun r => r.written) (fun x y => { x with written := y }) (fun r q => { r with written := q }) fun G u x r h => by
    obtain ⟨G0, G1, G2, G3, g0, g1, g2, g3, s, f0, f1, f2, f3, f4⟩ := h
    refine ⟨G1, g1, s.sub _ (by simp), fun u' y q h' hw hc => ⟨⟨G0, G1, G2, G3, GT.own_agree g0 fun b hb _ => hw b (s.sub _ (by simp) b hb) fun hH => (pw s.dis (i := 0) (j := 1) (by decide) rfl rfl) b hb hH, h', GT.own_agree g2 fun b hb _ => hw b (s.sub _ (by simp) b hb) fun hH => (pw s.dis (i := 1) (j := 2) (by decide) rfl rfl) b hH hb, GT.own_agree g3 fun b hb _ => hw b (s.sub _ (by simp) b hb) fun hH => (pw s.dis (i := 1) (j := 3) (by decide) rfl rfl) b hH hb, s, f0, f1, f2, f3, f4⟩, ?_⟩⟩
    have e := (List.cons.inj hc).1
    show [slv x.prog.length r.prog.1, I x.acc, I x.pc, slv y.length q.1, slv x.live.length r.live.1, I x.ctl.traps, I x.ctl.post, B x.ctl.opn, I x.pend, I x.exit.kind, I x.exit.page, B x.exit.wr, I x.exit.n, B x.halted, slv x.seen.length r.seen.1] = [slv x.prog.length r.prog.1, I x.acc, I x.pc, slv x.written.length r.written.1, slv x.live.length r.live.1, I x.ctl.traps, I x.ctl.post, B x.ctl.opn, I x.pend, I x.exit.kind, I x.exit.page, B x.exit.wr, I x.exit.n, B x.halted, slv x.seen.length r.seen.1]
    rw [e]
theorem foc_Guest_live {xs : List TGuest} {p : LP TGuest} {F : Bl} (o : Ow w0 M u N F xs p) {k : Nat} (hk : k < xs.length) :
    ∃ H : Bl, Ow w0 M u N H (el xs k).live (p.2 k).live ∧ (∀ b, H b → F b) ∧ ∀ (u' : World) (N' : Bl) (y : List TSlot) (q : GT.Ptr (List TSlot)), (∀ b, N b → ¬ H b → N' b ∧ u'.heap[b]? = u.heap[b]?) → Ow w0 M u' N' H y q → GT.cells y q = GT.cells (el xs k).live (p.2 k).live →
      ∃ p2, Ow w0 M u' N' F (xs.set k { el xs k with live := y }) (p.1, p2) :=
  o.focus hk (fun x => x.live) (fun r => r.live) (fun x y => { x with live := y }) (fun r q => { r with live := q }) fun G u x r h => by
    obtain ⟨G0, G1, G2, G3, g0, g1, g2, g3, s, f0, f1, f2, f3, f4⟩ := h
    refine ⟨G2, g2, s.sub _ (by simp), fun u' y q h' hw hc => ⟨⟨G0, G1, G2, G3, GT.own_agree g0 fun b hb _ => hw b (s.sub _ (by simp) b hb) fun hH => (pw s.dis (i := 0) (j := 2) (by decide) rfl rfl) b hb hH, GT.own_agree g1 fun b hb _ => hw b (s.sub _ (by simp) b hb) fun hH => (pw s.dis (i := 1) (j := 2) (by decide) rfl rfl) b hb hH, h', GT.own_agree g3 fun b hb _ => hw b (s.sub _ (by simp) b hb) fun hH => (pw s.dis (i := 2) (j := 3) (by decide) rfl rfl) b hH hb, s, f0, f1, f2, f3, f4⟩, ?_⟩⟩
    have e := (List.cons.inj hc).1
    show [slv x.prog.length r.prog.1, I x.acc, I x.pc, slv x.written.length r.written.1, slv y.length q.1, I x.ctl.traps, I x.ctl.post, B x.ctl.opn, I x.pend, I x.exit.kind, I x.exit.page, B x.exit.wr, I x.exit.n, B x.halted, slv x.seen.length r.seen.1] = [slv x.prog.length r.prog.1, I x.acc, I x.pc, slv x.written.length r.written.1, slv x.live.length r.live.1, I x.ctl.traps, I x.ctl.post, B x.ctl.opn, I x.pend, I x.exit.kind, I x.exit.page, B x.exit.wr, I x.exit.n, B x.halted, slv x.seen.length r.seen.1]
    rw [e]
theorem foc_Guest_seen {xs : List TGuest} {p : LP TGuest} {F : Bl} (o : Ow w0 M u N F xs p) {k : Nat} (hk : k < xs.length) :
    ∃ H : Bl, Ow w0 M u N H (el xs k).seen (p.2 k).seen ∧ (∀ b, H b → F b) ∧ ∀ (u' : World) (N' : Bl) (y : List Int) (q : GT.Ptr (List Int)), (∀ b, N b → ¬ H b → N' b ∧ u'.heap[b]? = u.heap[b]?) → Ow w0 M u' N' H y q → GT.cells y q = GT.cells (el xs k).seen (p.2 k).seen →
      ∃ p2, Ow w0 M u' N' F (xs.set k { el xs k with seen := y }) (p.1, p2) :=
  o.focus hk (fun x => x.seen) (fun r => r.seen) (fun x y => { x with seen := y }) (fun r q => { r with seen := q }) fun G u x r h => by
    obtain ⟨G0, G1, G2, G3, g0, g1, g2, g3, s, f0, f1, f2, f3, f4⟩ := h
    refine ⟨G3, g3, s.sub _ (by simp), fun u' y q h' hw hc => ⟨⟨G0, G1, G2, G3, GT.own_agree g0 fun b hb _ => hw b (s.sub _ (by simp) b hb) fun hH => (pw s.dis (i := 0) (j := 3) (by decide) rfl rfl) b hb hH, GT.own_agree g1 fun b hb _ => hw b (s.sub _ (by simp) b hb) fun hH => (pw s.dis (i := 1) (j := 3) (by decide) rfl rfl) b hb hH, GT.own_agree g2 fun b hb _ => hw b (s.sub _ (by simp) b hb) fun hH => (pw s.dis (i := 2) (j := 3) (by decide) rfl rfl) b hb hH, h', s, f0, f1, f2, f3, f4⟩, ?_⟩⟩
    have e := (List.cons.inj hc).1
    show [slv x.prog.length r.prog.1, I x.acc, I x.pc, slv x.written.length r.written.1, slv x.live.length r.live.1, I x.ctl.traps, I x.ctl.post, B x.ctl.opn, I x.pend, I x.exit.kind, I x.exit.page, B x.exit.wr, I x.exit.n, B x.halted, slv y.length q.1] = [slv x.prog.length r.prog.1, I x.acc, I x.pc, slv x.written.length r.written.1, slv x.live.length r.live.1, I x.ctl.traps, I x.ctl.post, B x.ctl.opn, I x.pend, I x.exit.kind, I x.exit.page, B x.exit.wr, I x.exit.n, B x.halted, slv x.seen.length r.seen.1]
    rw [e]
theorem ows_Guest_acc {K : Nat} {G : Bl} {u : World} {x : TGuest} {p : PGuest} {v : Int} (h : GT.own K G u x p) (hv : In64 v) : GT.own K G u ({ x with acc := v } : TGuest) p := by
  obtain ⟨G0, G1, G2, G3, g0, g1, g2, g3, s, f0, f1, f2, f3, f4⟩ := h
  exact ⟨G0, G1, G2, G3, g0, g1, g2, g3, s, hv, f1, f2, f3, f4⟩
theorem ows_Guest_pc {K : Nat} {G : Bl} {u : World} {x : TGuest} {p : PGuest} {v : Int} (h : GT.own K G u x p) (hv : In64 v) : GT.own K G u ({ x with pc := v } : TGuest) p := by
  obtain ⟨G0, G1, G2, G3, g0, g1, g2, g3, s, f0, f1, f2, f3, f4⟩ := h
  exact ⟨G0, G1, G2, G3, g0, g1, g2, g3, s, f0, hv, f2, f3, f4⟩
theorem ows_Guest_ctl {K : Nat} {G : Bl} {u : World} {x : TGuest} {p : PGuest} {v : TCtl} (h : GT.own K G u x p) (hv : RCtl v) : GT.own K G u ({ x with ctl := v } : TGuest) p := by
  obtain ⟨G0, G1, G2, G3, g0, g1, g2, g3, s, f0, f1, f2, f3, f4⟩ := h
  exact ⟨G0, G1, G2, G3, g0, g1, g2, g3, s, f0, f1, hv, f3, f4⟩
theorem ows_Guest_pend {K : Nat} {G : Bl} {u : World} {x : TGuest} {p : PGuest} {v : Int} (h : GT.own K G u x p) (hv : In64 v) : GT.own K G u ({ x with pend := v } : TGuest) p := by
  obtain ⟨G0, G1, G2, G3, g0, g1, g2, g3, s, f0, f1, f2, f3, f4⟩ := h
  exact ⟨G0, G1, G2, G3, g0, g1, g2, g3, s, f0, f1, f2, hv, f4⟩
theorem ows_Guest_exit {K : Nat} {G : Bl} {u : World} {x : TGuest} {p : PGuest} {v : TExit} (h : GT.own K G u x p) (hv : RExit v) : GT.own K G u ({ x with exit := v } : TGuest) p := by
  obtain ⟨G0, G1, G2, G3, g0, g1, g2, g3, s, f0, f1, f2, f3, f4⟩ := h
  exact ⟨G0, G1, G2, G3, g0, g1, g2, g3, s, f0, f1, f2, f3, hv⟩
theorem ows_Guest_halted {K : Nat} {G : Bl} {u : World} {x : TGuest} {p : PGuest} {v : Bool} (h : GT.own K G u x p) : GT.own K G u ({ x with halted := v } : TGuest) p := by
  obtain ⟨G0, G1, G2, G3, g0, g1, g2, g3, s, f0, f1, f2, f3, f4⟩ := h
  exact ⟨G0, G1, G2, G3, g0, g1, g2, g3, s, f0, f1, f2, f3, f4⟩
theorem foc_Mon_outer {xs : List TMon} {p : LP TMon} {F : Bl} (o : Ow w0 M u N F xs p) {k : Nat} (hk : k < xs.length) :
    ∃ H : Bl, Ow w0 M u N H (el xs k).outer (p.2 k).outer ∧ (∀ b, H b → F b) ∧ ∀ (u' : World) (N' : Bl) (y : List TSlot) (q : GT.Ptr (List TSlot)), (∀ b, N b → ¬ H b → N' b ∧ u'.heap[b]? = u.heap[b]?) → Ow w0 M u' N' H y q → GT.cells y q = GT.cells (el xs k).outer (p.2 k).outer →
      ∃ p2, Ow w0 M u' N' F (xs.set k { el xs k with outer := y }) (p.1, p2) :=
  o.focus hk (fun x => x.outer) (fun r => r.outer) (fun x y => { x with outer := y }) (fun r q => { r with outer := q }) fun G u x r h => by
    obtain ⟨G0, G1, G2, G3, G4, G5, g0, g1, g2, g3, g4, g5, s, f0, f1, f2⟩ := h
    refine ⟨G0, g0, s.sub _ (by simp), fun u' y q h' hw hc => ⟨⟨G0, G1, G2, G3, G4, G5, h', GT.own_agree g1 fun b hb _ => hw b (s.sub _ (by simp) b hb) fun hH => (pw s.dis (i := 0) (j := 1) (by decide) rfl rfl) b hH hb, GT.own_agree g2 fun b hb _ => hw b (s.sub _ (by simp) b hb) fun hH => (pw s.dis (i := 0) (j := 2) (by decide) rfl rfl) b hH hb, GT.own_agree g3 fun b hb _ => hw b (s.sub _ (by simp) b hb) fun hH => (pw s.dis (i := 0) (j := 3) (by decide) rfl rfl) b hH hb, GT.own_agree g4 fun b hb _ => hw b (s.sub _ (by simp) b hb) fun hH => (pw s.dis (i := 0) (j := 4) (by decide) rfl rfl) b hH hb, GT.own_agree g5 fun b hb _ => hw b (s.sub _ (by simp) b hb) fun hH => (pw s.dis (i := 0) (j := 5) (by decide) rfl rfl) b hH hb, s, f0, f1, f2⟩, ?_⟩⟩
    have e := (List.cons.inj hc).1
    show [slv y.length q.1, slv x.out.length r.out.1, slv x.dirty.length r.dirty.1, slv x.guests.length r.guests.1, slv x.outs.length r.outs.1, I x.pend, I x.traps, slv x.tables.length r.tables.1, I x.owned] = [slv x.outer.length r.outer.1, slv x.out.length r.out.1, slv x.dirty.length r.dirty.1, slv x.guests.length r.guests.1, slv x.outs.length r.outs.1, I x.pend, I x.traps, slv x.tables.length r.tables.1, I x.owned]
    rw [e]
theorem foc_Mon_out {xs : List TMon} {p : LP TMon} {F : Bl} (o : Ow w0 M u N F xs p) {k : Nat} (hk : k < xs.length) :
    ∃ H : Bl, Ow w0 M u N H (el xs k).out (p.2 k).out ∧ (∀ b, H b → F b) ∧ ∀ (u' : World) (N' : Bl) (y : List (List Int)) (q : GT.Ptr (List (List Int))), (∀ b, N b → ¬ H b → N' b ∧ u'.heap[b]? = u.heap[b]?) → Ow w0 M u' N' H y q → GT.cells y q = GT.cells (el xs k).out (p.2 k).out →
      ∃ p2, Ow w0 M u' N' F (xs.set k { el xs k with out := y }) (p.1, p2) :=
  o.focus hk (fun x => x.out) (fun r => r.out) (fun x y => { x with out := y }) (fun r q => { r with out := q }) fun G u x r h => by
    obtain ⟨G0, G1, G2, G3, G4, G5, g0, g1, g2, g3, g4, g5, s, f0, f1, f2⟩ := h
    refine ⟨G1, g1, s.sub _ (by simp), fun u' y q h' hw hc => ⟨⟨G0, G1, G2, G3, G4, G5, GT.own_agree g0 fun b hb _ => hw b (s.sub _ (by simp) b hb) fun hH => (pw s.dis (i := 0) (j := 1) (by decide) rfl rfl) b hb hH, h', GT.own_agree g2 fun b hb _ => hw b (s.sub _ (by simp) b hb) fun hH => (pw s.dis (i := 1) (j := 2) (by decide) rfl rfl) b hH hb, GT.own_agree g3 fun b hb _ => hw b (s.sub _ (by simp) b hb) fun hH => (pw s.dis (i := 1) (j := 3) (by decide) rfl rfl) b hH hb, GT.own_agree g4 fun b hb _ => hw b (s.sub _ (by simp) b hb) fun hH => (pw s.dis (i := 1) (j := 4) (by decide) rfl rfl) b hH hb, GT.own_agree g5 fun b hb _ => hw b (s.sub _ (by simp) b hb) fun hH => (pw s.dis (i := 1) (j := 5) (by decide) rfl rfl) b hH hb, s, f0, f1, f2⟩, ?_⟩⟩
    have e := (List.cons.inj hc).1
    show [slv x.outer.length r.outer.1, slv y.length q.1, slv x.dirty.length r.dirty.1, slv x.guests.length r.guests.1, slv x.outs.length r.outs.1, I x.pend, I x.traps, slv x.tables.length r.tables.1, I x.owned] = [slv x.outer.length r.outer.1, slv x.out.length r.out.1, slv x.dirty.length r.dirty.1, slv x.guests.length r.guests.1, slv x.outs.length r.outs.1, I x.pend, I x.traps, slv x.tables.length r.tables.1, I x.owned]
    rw [e]
theorem foc_Mon_dirty {xs : List TMon} {p : LP TMon} {F : Bl} (o : Ow w0 M u N F xs p) {k : Nat} (hk : k < xs.length) :
    ∃ H : Bl, Ow w0 M u N H (el xs k).dirty (p.2 k).dirty ∧ (∀ b, H b → F b) ∧ ∀ (u' : World) (N' : Bl) (y : List Bool) (q : GT.Ptr (List Bool)), (∀ b, N b → ¬ H b → N' b ∧ u'.heap[b]? = u.heap[b]?) → Ow w0 M u' N' H y q → GT.cells y q = GT.cells (el xs k).dirty (p.2 k).dirty →
      ∃ p2, Ow w0 M u' N' F (xs.set k { el xs k with dirty := y }) (p.1, p2) :=
  o.focus hk (fun x => x.dirty) (fun r => r.dirty) (fun x y => { x with dirty := y }) (fun r q => { r with dirty := q }) fun G u x r h => by
    obtain ⟨G0, G1, G2, G3, G4, G5, g0, g1, g2, g3, g4, g5, s, f0, f1, f2⟩ := h
    refine ⟨G2, g2, s.sub _ (by simp), fun u' y q h' hw hc => ⟨⟨G0, G1, G2, G3, G4, G5, GT.own_agree g0 fun b hb _ => hw b (s.sub _ (by simp) b hb) fun hH => (pw s.dis (i := 0) (j := 2) (by decide) rfl rfl) b hb hH, GT.own_agree g1 fun b hb _ => hw b (s.sub _ (by simp) b hb) fun hH => (pw s.dis (i := 1) (j := 2) (by decide) rfl rfl) b hb hH, h', GT.own_agree g3 fun b hb _ => hw b (s.sub _ (by simp) b hb) fun hH => (pw s.dis (i := 2) (j := 3) (by decide) rfl rfl) b hH hb, GT.own_agree g4 fun b hb _ => hw b (s.sub _ (by simp) b hb) fun hH => (pw s.dis (i := 2) (j := 4) (by decide) rfl rfl) b hH hb, GT.own_agree g5 fun b hb _ => hw b (s.sub _ (by simp) b hb) fun hH => (pw s.dis (i := 2) (j := 5) (by decide) rfl rfl) b hH hb, s, f0, f1, f2⟩, ?_⟩⟩
    have e := (List.cons.inj hc).1
    show [slv x.outer.length r.outer.1, slv x.out.length r.out.1, slv y.length q.1, slv x.guests.length r.guests.1, slv x.outs.length r.outs.1, I x.pend, I x.traps, slv x.tables.length r.tables.1, I x.owned] = [slv x.outer.length r.outer.1, slv x.out.length r.out.1, slv x.dirty.length r.dirty.1, slv x.guests.length r.guests.1, slv x.outs.length r.outs.1, I x.pend, I x.traps, slv x.tables.length r.tables.1, I x.owned]
    rw [e]
theorem foc_Mon_guests {xs : List TMon} {p : LP TMon} {F : Bl} (o : Ow w0 M u N F xs p) {k : Nat} (hk : k < xs.length) :
    ∃ H : Bl, Ow w0 M u N H (el xs k).guests (p.2 k).guests ∧ (∀ b, H b → F b) ∧ ∀ (u' : World) (N' : Bl) (y : List TGuest) (q : GT.Ptr (List TGuest)), (∀ b, N b → ¬ H b → N' b ∧ u'.heap[b]? = u.heap[b]?) → Ow w0 M u' N' H y q → GT.cells y q = GT.cells (el xs k).guests (p.2 k).guests →
      ∃ p2, Ow w0 M u' N' F (xs.set k { el xs k with guests := y }) (p.1, p2) :=
  o.focus hk (fun x => x.guests) (fun r => r.guests) (fun x y => { x with guests := y }) (fun r q => { r with guests := q }) fun G u x r h => by
    obtain ⟨G0, G1, G2, G3, G4, G5, g0, g1, g2, g3, g4, g5, s, f0, f1, f2⟩ := h
    refine ⟨G3, g3, s.sub _ (by simp), fun u' y q h' hw hc => ⟨⟨G0, G1, G2, G3, G4, G5, GT.own_agree g0 fun b hb _ => hw b (s.sub _ (by simp) b hb) fun hH => (pw s.dis (i := 0) (j := 3) (by decide) rfl rfl) b hb hH, GT.own_agree g1 fun b hb _ => hw b (s.sub _ (by simp) b hb) fun hH => (pw s.dis (i := 1) (j := 3) (by decide) rfl rfl) b hb hH, GT.own_agree g2 fun b hb _ => hw b (s.sub _ (by simp) b hb) fun hH => (pw s.dis (i := 2) (j := 3) (by decide) rfl rfl) b hb hH, h', GT.own_agree g4 fun b hb _ => hw b (s.sub _ (by simp) b hb) fun hH => (pw s.dis (i := 3) (j := 4) (by decide) rfl rfl) b hH hb, GT.own_agree g5 fun b hb _ => hw b (s.sub _ (by simp) b hb) fun hH => (pw s.dis (i := 3) (j := 5) (by decide) rfl rfl) b hH hb, s, f0, f1, f2⟩, ?_⟩⟩
    have e := (List.cons.inj hc).1
    show [slv x.outer.length r.outer.1, slv x.out.length r.out.1, slv x.dirty.length r.dirty.1, slv y.length q.1, slv x.outs.length r.outs.1, I x.pend, I x.traps, slv x.tables.length r.tables.1, I x.owned] = [slv x.outer.length r.outer.1, slv x.out.length r.out.1, slv x.dirty.length r.dirty.1, slv x.guests.length r.guests.1, slv x.outs.length r.outs.1, I x.pend, I x.traps, slv x.tables.length r.tables.1, I x.owned]
    rw [e]
theorem foc_Mon_outs {xs : List TMon} {p : LP TMon} {F : Bl} (o : Ow w0 M u N F xs p) {k : Nat} (hk : k < xs.length) :
    ∃ H : Bl, Ow w0 M u N H (el xs k).outs (p.2 k).outs ∧ (∀ b, H b → F b) ∧ ∀ (u' : World) (N' : Bl) (y : List Int) (q : GT.Ptr (List Int)), (∀ b, N b → ¬ H b → N' b ∧ u'.heap[b]? = u.heap[b]?) → Ow w0 M u' N' H y q → GT.cells y q = GT.cells (el xs k).outs (p.2 k).outs →
      ∃ p2, Ow w0 M u' N' F (xs.set k { el xs k with outs := y }) (p.1, p2) :=
  o.focus hk (fun x => x.outs) (fun r => r.outs) (fun x y => { x with outs := y }) (fun r q => { r with outs := q }) fun G u x r h => by
    obtain ⟨G0, G1, G2, G3, G4, G5, g0, g1, g2, g3, g4, g5, s, f0, f1, f2⟩ := h
    refine ⟨G4, g4, s.sub _ (by simp), fun u' y q h' hw hc => ⟨⟨G0, G1, G2, G3, G4, G5, GT.own_agree g0 fun b hb _ => hw b (s.sub _ (by simp) b hb) fun hH => (pw s.dis (i := 0) (j := 4) (by decide) rfl rfl) b hb hH, GT.own_agree g1 fun b hb _ => hw b (s.sub _ (by simp) b hb) fun hH => (pw s.dis (i := 1) (j := 4) (by decide) rfl rfl) b hb hH, GT.own_agree g2 fun b hb _ => hw b (s.sub _ (by simp) b hb) fun hH => (pw s.dis (i := 2) (j := 4) (by decide) rfl rfl) b hb hH, GT.own_agree g3 fun b hb _ => hw b (s.sub _ (by simp) b hb) fun hH => (pw s.dis (i := 3) (j := 4) (by decide) rfl rfl) b hb hH, h', GT.own_agree g5 fun b hb _ => hw b (s.sub _ (by simp) b hb) fun hH => (pw s.dis (i := 4) (j := 5) (by decide) rfl rfl) b hH hb, s, f0, f1, f2⟩, ?_⟩⟩
    have e := (List.cons.inj hc).1
    show [slv x.outer.length r.outer.1, slv x.out.length r.out.1, slv x.dirty.length r.dirty.1, slv x.guests.length r.guests.1, slv y.length q.1, I x.pend, I x.traps, slv x.tables.length r.tables.1, I x.owned] = [slv x.outer.length r.outer.1, slv x.out.length r.out.1, slv x.dirty.length r.dirty.1, slv x.guests.length r.guests.1, slv x.outs.length r.outs.1, I x.pend, I x.traps, slv x.tables.length r.tables.1, I x.owned]
    rw [e]
theorem foc_Mon_tables {xs : List TMon} {p : LP TMon} {F : Bl} (o : Ow w0 M u N F xs p) {k : Nat} (hk : k < xs.length) :
    ∃ H : Bl, Ow w0 M u N H (el xs k).tables (p.2 k).tables ∧ (∀ b, H b → F b) ∧ ∀ (u' : World) (N' : Bl) (y : List TKept) (q : GT.Ptr (List TKept)), (∀ b, N b → ¬ H b → N' b ∧ u'.heap[b]? = u.heap[b]?) → Ow w0 M u' N' H y q → GT.cells y q = GT.cells (el xs k).tables (p.2 k).tables →
      ∃ p2, Ow w0 M u' N' F (xs.set k { el xs k with tables := y }) (p.1, p2) :=
  o.focus hk (fun x => x.tables) (fun r => r.tables) (fun x y => { x with tables := y }) (fun r q => { r with tables := q }) fun G u x r h => by
    obtain ⟨G0, G1, G2, G3, G4, G5, g0, g1, g2, g3, g4, g5, s, f0, f1, f2⟩ := h
    refine ⟨G5, g5, s.sub _ (by simp), fun u' y q h' hw hc => ⟨⟨G0, G1, G2, G3, G4, G5, GT.own_agree g0 fun b hb _ => hw b (s.sub _ (by simp) b hb) fun hH => (pw s.dis (i := 0) (j := 5) (by decide) rfl rfl) b hb hH, GT.own_agree g1 fun b hb _ => hw b (s.sub _ (by simp) b hb) fun hH => (pw s.dis (i := 1) (j := 5) (by decide) rfl rfl) b hb hH, GT.own_agree g2 fun b hb _ => hw b (s.sub _ (by simp) b hb) fun hH => (pw s.dis (i := 2) (j := 5) (by decide) rfl rfl) b hb hH, GT.own_agree g3 fun b hb _ => hw b (s.sub _ (by simp) b hb) fun hH => (pw s.dis (i := 3) (j := 5) (by decide) rfl rfl) b hb hH, GT.own_agree g4 fun b hb _ => hw b (s.sub _ (by simp) b hb) fun hH => (pw s.dis (i := 4) (j := 5) (by decide) rfl rfl) b hb hH, h', s, f0, f1, f2⟩, ?_⟩⟩
    have e := (List.cons.inj hc).1
    show [slv x.outer.length r.outer.1, slv x.out.length r.out.1, slv x.dirty.length r.dirty.1, slv x.guests.length r.guests.1, slv x.outs.length r.outs.1, I x.pend, I x.traps, slv y.length q.1, I x.owned] = [slv x.outer.length r.outer.1, slv x.out.length r.out.1, slv x.dirty.length r.dirty.1, slv x.guests.length r.guests.1, slv x.outs.length r.outs.1, I x.pend, I x.traps, slv x.tables.length r.tables.1, I x.owned]
    rw [e]
theorem ows_Mon_pend {K : Nat} {G : Bl} {u : World} {x : TMon} {p : PMon} {v : Int} (h : GT.own K G u x p) (hv : In64 v) : GT.own K G u ({ x with pend := v } : TMon) p := by
  obtain ⟨G0, G1, G2, G3, G4, G5, g0, g1, g2, g3, g4, g5, s, f0, f1, f2⟩ := h
  exact ⟨G0, G1, G2, G3, G4, G5, g0, g1, g2, g3, g4, g5, s, hv, f1, f2⟩
theorem ows_Mon_traps {K : Nat} {G : Bl} {u : World} {x : TMon} {p : PMon} {v : Int} (h : GT.own K G u x p) (hv : In64 v) : GT.own K G u ({ x with traps := v } : TMon) p := by
  obtain ⟨G0, G1, G2, G3, G4, G5, g0, g1, g2, g3, g4, g5, s, f0, f1, f2⟩ := h
  exact ⟨G0, G1, G2, G3, G4, G5, g0, g1, g2, g3, g4, g5, s, f0, hv, f2⟩
theorem ows_Mon_owned {K : Nat} {G : Bl} {u : World} {x : TMon} {p : PMon} {v : Int} (h : GT.own K G u x p) (hv : In64 v) : GT.own K G u ({ x with owned := v } : TMon) p := by
  obtain ⟨G0, G1, G2, G3, G4, G5, g0, g1, g2, g3, g4, g5, s, f0, f1, f2⟩ := h
  exact ⟨G0, G1, G2, G3, G4, G5, g0, g1, g2, g3, g4, g5, s, f0, f1, hv⟩
theorem cc_Host {x y : THost} {p q : PHost} (h0 : GT.cells x.mem p.mem = GT.cells y.mem q.mem) (h1 : GT.cells x.mons p.mons = GT.cells y.mons q.mons) (h2 : GT.cells x.buf p.buf = GT.cells y.buf q.buf) (h3 : GT.cells x.iobuf p.iobuf = GT.cells y.iobuf q.iobuf) : GT.cells x p = GT.cells y q := by
  show [slv x.mem.length p.mem.1, slv x.mons.length p.mons.1, slv x.buf.length p.buf.1, slv x.iobuf.length p.iobuf.1] = [slv y.mem.length q.mem.1, slv y.mons.length q.mons.1, slv y.buf.length q.buf.1, slv y.iobuf.length q.iobuf.1]
  rw [(show slv x.mem.length p.mem.1 = slv y.mem.length q.mem.1 from (List.cons.inj h0).1), (show slv x.mons.length p.mons.1 = slv y.mons.length q.mons.1 from (List.cons.inj h1).1), (show slv x.buf.length p.buf.1 = slv y.buf.length q.buf.1 from (List.cons.inj h2).1), (show slv x.iobuf.length p.iobuf.1 = slv y.iobuf.length q.iobuf.1 from (List.cons.inj h3).1)]
end
def RetX {α : Type} [GT α] [SZ α] (hd : α → Int → Int) (F : Bl) (w : World) (p : GT.Ptr α) (x : α) (k : Int) (e : Ending) (w' : World) : Prop :=
  ∃ (y : α) (k' : Int), e = .returned (I k') ∧ Chg F w w' ∧ (∃ p', GT.cells y p' = GT.cells x p ∧ GT.own KK F w' y p') ∧ hd y k = k' ∧ k ≤ k' ∧ k' ≤ k + 16 * (SZ.sz x : Nat)
section
variable {P : Program} {n : Nat} {w0 : World} {M : Bl} {u : World} {N : Bl} {β : Nat → Nat} {σ : Sy} {a : Act} {w : World} {ops : Array Oper} {K' : Act → World → Prop} {Q : Exit → Act → World → Prop}
theorem St.callX {α : Type} [GT α] [SZ α] {hd : α → Int → Int} {F : Bl} {x : α} {p : GT.Ptr α} {k : Int} (S : St P n w0 M u N β σ a w) (o : Ow w0 M u N F x p) {i : Nat} {f : FuncId} {vals : List Value} {d : Tmp} (hc : Calls P f vals.toArray w (RetX hd F w p x k)) (hcall : callAc P n ops i σ = some (f, vals, d)) (hd' : Nat.blt d n = true)
    (K : ∀ a' w' N' p' y k', St P n w0 M w' N' β ⟨(d, .v (I k')) :: σ.env, σ.bx⟩ a' w' → (∀ b, N b → ¬ F b → N' b ∧ w'.heap[b]? = u.heap[b]?) → Ow w0 M w' N' F y p' → GT.cells y p' = GT.cells x p → hd y k = k' → k ≤ k' → k' ≤ k + 16 * (SZ.sz x : Nat) → K' a' w') : wpOp P ops Q i K' a w :=
  S.call hcall hc fun _ w' ⟨y, k', he, hch, ⟨p', hp, ho⟩, h1, h2, h3⟩ => ⟨_, he, K _ w' _ p' y k' ((S.afterF hch o.sub o.young).put (look_put hd') (fun _ _ e => by cases e)) (S.upF hch) ⟨ho, fun b hb => .inl (o.sub b hb), o.young⟩ hp h1 h2 h3⟩
theorem retX_of {α : Type} [GT α] [SZ α] {hd : α → Int → Int} {F F' : Bl} {x y : α} {p p' : GT.Ptr α} {k k' : Int} (S : St P n w0 F u N β σ a w) (h : hd y k = k') (h1 : k ≤ k') (h2 : k' ≤ k + 16 * (SZ.sz x : Nat)) (hc : GT.cells y p' = GT.cells x p) (o : Ow w0 F u N F' y p') (hs : ∀ b, F' b → F b) :
    RetX hd F w0 p x k (.returned (packed [I k'])) w :=
  ⟨y, k', rfl, S.chg, ⟨p', hc, GT.own_mono (GT.own_agree o.own (fun b hb _ => (S.sep b (o.sub b hb)).2.1)) (Nat.le_refl _) hs⟩, h, h1, h2⟩
end
class SB (α : Type) [GT α] [SZ α] where
  B : Nat
  bd : ∀ {F : Bl} {w : World} {x : α} {p : GT.Ptr α}, GT.rd KK F w x p → SZ.sz x ≤ B
instance : SB Int := ⟨0, fun _ => Nat.le_refl _⟩
instance : SB Bool := ⟨0, fun _ => Nat.le_refl _⟩
theorem szsum_bd {α : Type} [GT α] [SZ α] {m : Nat} : ∀ (xs : List α), (∀ x, x ∈ xs → SZ.sz x ≤ m) → (xs.map SZ.sz).sum ≤ xs.length * m
  | [], _ => by simp
  | x :: r, h => by
    have := szsum_bd r fun y hy => h y (List.mem_cons_of_mem _ hy)
    have := h x List.mem_cons_self
    simp only [List.map_cons, List.sum_cons, List.length_cons, Nat.add_mul]
    omega
instance {α : Type} [GT α] [SZ α] [b : SB α] : SB (List α) := ⟨4194304 + 4194304 * b.B, fun {F w x p} h => by
  have h1 : x.length ≤ 4194304 := LRd.le h
  have h2 := szsum_bd (m := b.B) x fun y hy => by
    obtain ⟨i, hi, rfl⟩ := List.getElem_of_mem hy
    have := LRd.el h i hi
    rw [el_lt hi] at this
    exact b.bd this
  have h3 : x.length * b.B ≤ 4194304 * b.B := Nat.mul_le_mul_right _ h1
  rw [sz_list]
  unfold szsum
  omega⟩
instance : SB TSlot := ⟨0, fun _ => Nat.le_refl _⟩
instance : SB TEntry := ⟨0, fun _ => Nat.le_refl _⟩
instance : SB TIns := ⟨0, fun _ => Nat.le_refl _⟩
instance : SB TCtl := ⟨0, fun _ => Nat.le_refl _⟩
instance : SB TExit := ⟨0, fun _ => Nat.le_refl _⟩
instance : SB TAct := ⟨0, fun _ => Nat.le_refl _⟩
instance : SB TTold := ⟨0, fun _ => Nat.le_refl _⟩
instance : SB TKept := ⟨SB.B (List Bool) + SB.B (List TSlot), fun {F w x p} h => by
  have e := sz_Kept x
  have h0 := SB.bd (RKept.known (d := x) h)
  have h1 := SB.bd (RKept.slots (d := x) h)
  omega⟩
instance : SB TGuest := ⟨SB.B (List TIns) + SB.B (List TSlot) + SB.B (List TSlot) + SB.B (List Int), fun {F w x p} h => by
  have e := sz_Guest x
  have h0 := SB.bd (RGuest.prog (d := x) h)
  have h1 := SB.bd (RGuest.written (d := x) h)
  have h2 := SB.bd (RGuest.live (d := x) h)
  have h3 := SB.bd (RGuest.seen (d := x) h)
  omega⟩
instance : SB TMon := ⟨SB.B (List TSlot) + SB.B (List (List Int)) + SB.B (List Bool) + SB.B (List TGuest) + SB.B (List Int) + SB.B (List TKept), fun {F w x p} h => by
  have e := sz_Mon x
  have h0 := SB.bd (RMon.outer (d := x) h)
  have h1 := SB.bd (RMon.out (d := x) h)
  have h2 := SB.bd (RMon.dirty (d := x) h)
  have h3 := SB.bd (RMon.guests (d := x) h)
  have h4 := SB.bd (RMon.outs (d := x) h)
  have h5 := SB.bd (RMon.tables (d := x) h)
  omega⟩
instance : SB TBare := ⟨SB.B (List (List Int)) + SB.B (List TGuest) + SB.B (List Int), fun {F w x p} h => by
  have e := sz_Bare x
  have h0 := SB.bd (RBare.mem (d := x) h)
  have h1 := SB.bd (RBare.guests (d := x) h)
  have h2 := SB.bd (RBare.outs (d := x) h)
  omega⟩
instance : SB THost := ⟨SB.B (List (List Int)) + SB.B (List TMon) + SB.B (List TEntry) + SB.B (List TEntry), fun {F w x p} h => by
  have e := sz_Host x
  have h0 := SB.bd (RHost.mem (d := x) h)
  have h1 := SB.bd (RHost.mons (d := x) h)
  have h2 := SB.bd (RHost.buf (d := x) h)
  have h3 := SB.bd (RHost.iobuf (d := x) h)
  omega⟩
end Go.Proofs.YtomgmpbipaldaaaGreat
