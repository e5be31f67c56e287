/- Regions that draw their order: what only asks is taken first, the rest in whatever order. No program is named here. -/
import Derived.Test.YtgonaioedbphgaaCore9
import Derived.OrdersHeld
namespace Go.Proofs.Ytgonaioedbphgaa
open Go
def edgeB (ops : Array Oper) (j k : Nat) : Bool :=
  match ops[j]? with
  | some o => o.after.any fun e => Region.binds .any e && Nat.beq e.on k
  | none => false
def pathB (ops : Array Oper) : Nat → List Nat → Bool
  | _, [] => true
  | j, k :: r => edgeB ops j k && pathB ops k r
def Closed (ops : Array Oper) (listed : Array Bool) : Prop := ∀ j k, edgeB ops j k = true → listed.getD j false = true → listed.getD k false = true
theorem edge_spec {ops : Array Oper} {j k : Nat} (h : edgeB ops j k = true) : ∃ o e, ops[j]? = some o ∧ e ∈ o.after ∧ Region.binds .any e = true ∧ e.on = k := by
  unfold edgeB at h
  split at h
  · rename_i o ho
    obtain ⟨e, he, h2⟩ := Array.any_eq_true'.1 h
    simp only [Bool.and_eq_true] at h2
    exact ⟨o, e, ho, he, h2.1, Nat.eq_of_beq_eq_true h2.2⟩
  · cases h
theorem ready_edge {ops : Array Oper} {listed : Array Bool} {j k : Nat} (hj : j ∈ Region.ready .any ops listed) (h : edgeB ops j k = true) : listed.getD k false = true := by
  obtain ⟨o, e, ho, he, hb, rfl⟩ := edge_spec h
  obtain ⟨_, o', ho', hall⟩ := mem_ready.1 hj
  rw [ho] at ho'
  cases ho'
  exact hall e he hb
theorem set_lt {listed : Array Bool} {j i : Nat} (h : (listed.setIfInBounds i true).getD j false = true) : listed.getD j false = true ∨ j = i := by
  by_cases e : i = j
  · exact .inr e.symm
  · left
    rwa [getD_set_ne false e] at h
theorem Closed.set {ops : Array Oper} {listed : Array Bool} {i : Nat} (h : Closed ops listed) (hi : i ∈ Region.ready .any ops listed) : Closed ops (listed.setIfInBounds i true) := fun j k he hj => by
  refine getD_set_true ?_
  rcases set_lt hj with h1 | rfl
  · exact h j k he h1
  · exact ready_edge hi he
theorem Closed.path {ops : Array Oper} {listed : Array Bool} (h : Closed ops listed) : ∀ (l : List Nat) (j i : Nat), pathB ops j l = true → (j :: l).getLast? = some i → listed.getD j false = true → listed.getD i false = true
  | [], j, i, _, hl, hj => by
    simp at hl; subst hl; exact hj
  | k :: r, j, i, hp, hl, hj => by
    simp only [pathB, Bool.and_eq_true] at hp
    rw [List.getLast?_cons_cons] at hl
    exact h.path r k i hp.2 hl (h j k hp.1 hj)
section
variable {P : Program} {ops : Array Oper} {R : Act → World → Prop} {C : World → Prop} {st : Nat}
abbrev NQ (R : Act → World → Prop) : Exit → Act → World → Prop := fun e a w => e = .normal ∧ R a w
def WD (P : Program) (ops : Array Oper) (R : Act → World → Prop) (st : Nat) (C : World → Prop) : Nat → Array Bool → Act → World → Prop
  | 0, listed, a, w => Region.ready .any ops listed = [] ∧ R a w
  | f + 1, listed, a, w => (Region.ready .any ops listed = [] → R a w) ∧
    ∀ i ∈ Region.ready .any ops listed, wpOp P ops (NQ R) i (fun a' w' => ((listed.setIfInBounds i true).getD st false = false → C w') ∧ WD P ops R st C f (listed.setIfInBounds i true) a' w') a w
theorem WD.any : ∀ (f : Nat) (listed : Array Bool) (a : Act) (w : World), WD P ops R st C f listed a w → wpAny P .any ops (NQ R) f listed a w
  | 0, _, _, _, h => ⟨h.1, rfl, h.2⟩
  | f + 1, _, _, _, h => ⟨fun h0 => ⟨rfl, h.1 h0⟩, fun i hi => wpOp_mono (fun a' w' h' => WD.any f _ a' w' h'.2) (h.2 i hi)⟩
theorem WD.mono {C' : World → Prop} (hc : ∀ w, C' w → C w) : ∀ (f : Nat) (listed : Array Bool) (a : Act) (w : World), WD P ops R st C' f listed a w → WD P ops R st C f listed a w
  | 0, _, _, _, h => h
  | f + 1, _, _, _, h => ⟨h.1, fun i hi => wpOp_mono (fun a' w' h' => ⟨fun h0 => hc _ (h'.1 h0), WD.mono hc f _ a' w' h'.2⟩) (h.2 i hi)⟩
theorem WD.first {i : Nat} {oi : Oper} {v : Value} (hi : ops[i]? = some oi) (hsel : Region.noSelect ops = true) (hy0 : ops.size ≤ st ∨ ∃ k l, pathB ops st (k :: l) = true ∧ (k :: l).getLast? = some i) :
    ∀ (f : Nat) (listed : Array Bool) (a : Act) (w : World), Closed ops listed → listed.size ≤ ops.size →
      (∀ j oj, ops[j]? = some oj → j ≠ i → listed.getD j true = false → (∀ e ∈ oj.after, Region.binds .any e = true → e.on ≠ i) → oi.apart ops oj = true) →
      i ∈ Region.ready .any ops listed → YieldsIf P ops C oi v a → C w →
      WD P ops R st C f (listed.setIfInBounds i true) (a.put oi.dst v) w → WD P ops R st C (f + 1) listed a w := by
  intro f
  have hnp : ∀ c a w, NQ R (.panic c) (a.put oi.dst v) w → NQ R (.panic c) a w := fun _ _ _ h => (by cases h.1)
  have unl : ∀ (listed : Array Bool), i ∈ Region.ready .any ops listed → listed.getD i false = false := fun listed hr => by
    have h0 := (mem_ready.1 hr).1
    rcases Nat.lt_or_ge i listed.size with h' | h'
    · simp [h'] at h0 ⊢; exact h0
    · simp [Array.getElem?_eq_none h']
  have hi' : i < ops.size := (Array.getElem?_eq_some_iff.1 hi).1
  have notst : ∀ (listed : Array Bool), Closed ops listed → i ∈ Region.ready .any ops listed → ∀ j, j ∈ Region.ready .any ops listed → j ≠ st := fun listed hcl hr j hj e => by
    subst e
    rcases hy0 with h | ⟨k, l, h1, h2⟩
    · obtain ⟨_, o, ho, _⟩ := mem_ready.1 hj
      have := (Array.getElem?_eq_some_iff.1 ho).1
      omega
    · simp only [pathB, Bool.and_eq_true] at h1
      have := hcl.path l k i h1.2 h2 (ready_edge hj h1.1)
      rw [unl listed hr] at this
      cases this
  have stun : ∀ (listed : Array Bool), Closed ops listed → listed.size ≤ ops.size → i ∈ Region.ready .any ops listed → listed.getD st false = false := fun listed hcl hsz hr => by
    cases h : listed.getD st false with
    | false => rfl
    | true =>
      rcases hy0 with h0 | ⟨k, l, h1, h2⟩
      · simp [Array.getElem?_eq_none (show listed.size ≤ st by omega)] at h
      · simp only [pathB, Bool.and_eq_true] at h1
        have := hcl.path l k i h1.2 h2 (hcl st k h1.1 h)
        rw [unl listed hr] at this
        cases this
  induction f with
  | zero =>
    intro listed a w hcl hsz _ hr hy hC H
    refine ⟨fun h => (by rw [h] at hr; cases hr), fun j hj => ?_⟩
    by_cases hji : j = i
    · subst hji; exact hy.wpOp hi hC ⟨fun _ => hC, H⟩
    · have := ready_mono hj hji
      rw [H.1] at this
      cases this
  | succ f ih =>
    intro listed a w hcl hsz hfree hr hy hC H
    refine ⟨fun h => (by rw [h] at hr; cases hr), fun j hj => ?_⟩
    by_cases hji : j = i
    · subst hji; exact hy.wpOp hi hC ⟨fun _ => hC, H⟩
    have hjst := notst listed hcl hr j hj
    have hist := notst listed hcl hr i hr
    have h1 := H.2 j (ready_mono hj hji)
    obtain ⟨hjun, oj, hoj, hall⟩ := mem_ready.1 hj
    have hnot : ∀ e ∈ oj.after, Region.binds .any e = true → e.on ≠ i := fun e he hb heq => by
      have h2 := hall e he hb
      rw [heq, unl listed hr] at h2
      cases h2
    have h2 := wpOp_putIf hoj (hfree j oj hoj hji hjun hnot) (fun cs b => Region.noSelect_spec hsel i oi cs b hi) (fun cs b => Region.noSelect_spec hsel j oj cs b hoj) hnp hy h1
    have hfree' : ∀ k ok, ops[k]? = some ok → k ≠ i → (listed.setIfInBounds j true).getD k true = false → (∀ e ∈ ok.after, Region.binds .any e = true → e.on ≠ i) → oi.apart ops ok = true := fun k ok hk hki hu hno => by
      refine hfree k ok hk hki ?_ hno
      by_cases hjk : j = k
      · subst hjk; exact hjun
      · rwa [getD_set_ne true hjk] at hu
    refine wpOp_mono (fun a' w' h3 => ?_) h2
    obtain ⟨h4, h5, h6⟩ := h3
    have hst := stun listed hcl hsz hr
    have hC' : C w' := h5 (by rw [getD_set_ne false hjst, getD_set_ne false hist]; exact hst)
    rw [Array.setIfInBounds_comm _ _ (Ne.symm hji)] at h6
    exact ⟨fun _ => hC', ih (listed.setIfInBounds j true) a' w' (hcl.set hj) (by simpa using hsz) hfree' (ready_mono hr (Ne.symm hji)) h4 hC' h6⟩
theorem WD.done {listed : Array Bool} {a : Act} {w : World} (hr : Region.ready .any ops listed = []) (h : R a w) : ∀ f, WD P ops R st C f listed a w
  | 0 => ⟨hr, h⟩
  | _ + 1 => ⟨fun _ => h, by rw [hr]; simp⟩
theorem WD.many {rs : List Nat} {f : Nat} {listed : Array Bool} {a : Act} {w : World} (hr : Region.ready .any ops listed = rs) (hne : rs.isEmpty = false)
    (h : ∀ i ∈ rs, wpOp P ops (NQ R) i (fun a' w' => ((listed.setIfInBounds i true).getD st false = false → C w') ∧ WD P ops R st C f (listed.setIfInBounds i true) a' w') a w) : WD P ops R st C (f + 1) listed a w :=
  ⟨fun h0 => (by rw [h0] at hr; subst hr; cases hne), hr ▸ h⟩
theorem WD.one {i f : Nat} {listed : Array Bool} {a : Act} {w : World} (hr : Region.ready .any ops listed = [i])
    (h : wpOp P ops (NQ R) i (fun a' w' => ((listed.setIfInBounds i true).getD st false = false → C w') ∧ WD P ops R st C f (listed.setIfInBounds i true) a' w') a w) : WD P ops R st C (f + 1) listed a w :=
  WD.many hr rfl fun j hj => by
    simp only [List.mem_cons, List.not_mem_nil, or_false] at hj
    subst hj
    exact h
theorem WD.last {f : Nat} {l : Array Bool} {a : Act} {w : World} (hst : l.getD st false = true) (h : WD P ops R st C f l a w) : (l.getD st false = false → C w) ∧ WD P ops R st C f l a w :=
  ⟨fun h0 => (by rw [hst] at h0; cases h0), h⟩
def closedB (ops : Array Oper) (listed : Array Bool) : Bool :=
  (List.range ops.size).all fun j => !listed.getD j false || (match ops[j]? with | some o => o.after.all fun e => !Region.binds .any e || listed.getD e.on false | none => true)
theorem closedB_spec {listed : Array Bool} (h : closedB ops listed = true) : Closed ops listed := fun j k he hj => by
  obtain ⟨o, e, ho, hm, hb, rfl⟩ := edge_spec he
  have hlt : j < ops.size := (Array.getElem?_eq_some_iff.1 ho).1
  have h1 := List.all_eq_true.1 h j (List.mem_range.2 hlt)
  rw [hj, ho] at h1
  simp only [Bool.not_true, Bool.false_or] at h1
  have h2 := Array.all_eq_true_iff_forall_mem.1 h1 e hm
  rw [hb] at h2
  simpa using h2
def hoistB (ops : Array Oper) (st : Nat) (listed : Array Bool) (i : Nat) (path : List Nat) : Bool :=
  Region.noSelect ops && Region.free .any ops listed i && (Region.ready .any ops listed).contains i && closedB ops listed && Nat.ble listed.size ops.size &&
    (Nat.ble ops.size st || (match path with | [] => false | k :: l => pathB ops st (k :: l) && (match (k :: l).getLast? with | some x => Nat.beq x i | none => false)))
end
section
variable {P : Program} {n : Nat} {w0 : World} {M : Bl} {u : World} {N : Bl} {β : Nat → Nat} {σ σ' : Sy} {a : Act} {w : World} {ops : Array Oper} {R : Act → World → Prop} {C : World → Prop} {st : Nat}
structure RC (w0 : World) (M : Bl) (u : World) (N : Bl) (β : Nat → Nat) (bx : List (List Value)) (w' : World) : Prop where
  box : ∀ (k : Nat) (cs : List Value), bx[k]? = some cs → ∃ T, w'.heap[β k]? = some (.cells cs.toArray T (0, 0))
  sep : ∀ b, N b → b < w'.heap.size ∧ w'.heap[b]? = u.heap[b]?
  chg : Chg M w0 w'
theorem St.rc (S : St P n w0 M u N β σ a w) : RC w0 M u N β σ.bx w := ⟨S.box, fun b hb => ⟨(S.sep b hb).1, (S.sep b hb).2.1⟩, S.chg⟩
theorem St.move (S : St P n w0 M u N β σ a w) {w' : World} (h : RC w0 M u N β σ.bx w') : St P n w0 M u N β σ a w' :=
  ⟨S.df, S.sz, S.env, S.ok, h.box, S.inj, S.new, fun b hb => ⟨(h.sep b hb).1, (h.sep b hb).2, (S.sep b hb).2.2⟩, h.chg, S.old⟩
theorem St.draw0 (S : St P n w0 M u N β σ a w) {Q : Exit → Act → World → Prop} {id f : Nat} (st : Nat) (hm : P.follows .mixedOrders = true) (hf : ops.size = f)
    (h : ∀ w', St P n w0 M u N β σ a w' → WD P ops (fun a w => Q .normal a w) st (RC w0 M u N β σ.bx) f (Array.replicate f false) a w') : (Code.region id ops true).wp P Q a w := by
  refine Code.wp_mono (Q := NQ fun a w => Q .normal a w) (fun e a w hq => hq.1 ▸ hq.2) (wp_region_any hm ?_)
  rw [hf]
  exact WD.any _ _ _ _ (h _ (S.ext (Chg.draw NoB w _)))
theorem WD.next {u' : World} {N' : Bl} {bx : List (List Value)} {f : Nat} {l : Array Bool} (S' : St P n w0 M u' N' β σ' a w) (up : ∀ b, N b → N' b ∧ u'.heap[b]? = u.heap[b]?) (hbx : σ'.bx = bx)
    (h : WD P ops R st (RC w0 M u' N' β σ'.bx) f l a w) : (l.getD st false = false → RC w0 M u N β bx w) ∧ WD P ops R st (RC w0 M u N β bx) f l a w := by
  subst hbx
  have back : ∀ w', RC w0 M u' N' β σ'.bx w' → RC w0 M u N β σ'.bx w' := fun w' h => ⟨h.box, fun b hb => ⟨(h.sep b (up b hb).1).1, (h.sep b (up b hb).1).2.trans (up b hb).2⟩, h.chg⟩
  exact ⟨fun _ => back _ S'.rc, WD.mono back _ _ _ _ h⟩
theorem WD.keep {u' : World} {N' : Bl} {bx : List (List Value)} {f : Nat} {l : Array Bool} (S' : St P n w0 M u' N' β σ' a w) (up : ∀ b, N b → N' b ∧ u'.heap[b]? = u.heap[b]?) (hbx : σ'.bx = bx)
    (h : WD P ops R st (RC w0 M u N β bx) f l a w) : (l.getD st false = false → RC w0 M u N β bx w) ∧ WD P ops R st (RC w0 M u N β bx) f l a w := by
  subst hbx
  have back : ∀ w', RC w0 M u' N' β σ'.bx w' → RC w0 M u N β σ'.bx w' := fun w' h => ⟨h.box, fun b hb => ⟨(h.sep b (up b hb).1).1, (h.sep b (up b hb).1).2.trans (up b hb).2⟩, h.chg⟩
  exact ⟨fun _ => back _ S'.rc, h⟩
def mkL (n : Nat) (l : List Nat) : Array Bool := l.foldl (fun a i => a.setIfInBounds i true) (Array.replicate n false)
theorem WD.nameW {f : Nat} {l : Array Bool} (h : ∀ W : Nat → Array Bool → Act → World → Prop, W = WD P ops R st C → W f l a w) : WD P ops R st C f l a w := h _ rfl
theorem WD.castW {W : Nat → Array Bool → Act → World → Prop} {f : Nat} {l l' : Array Bool} (e : l = l') (h : W f l' a w) : W f l a w := e ▸ h
theorem wp_region_cut {Q : Exit → Act → World → Prop} {c : Code} (I : Act → World → Prop) (h : c.wp P (NQ I) a w) (k : ∀ a w, I a w → Q .normal a w) : c.wp P Q a w :=
  Code.wp_mono (Q := NQ I) (fun _ a w hq => hq.1 ▸ k a w hq.2) h
theorem ev_one {Q : Exit → Act → World → Prop} {K' : Act → World → Prop} {i : Nat} {o : Oper} {claims : List (Ask × Value)} (ho : ops[i]? = some o) (hev : ev P n ops [o] σ (claims.map (·.2)) = some (σ', claims)) (hq : AllQ P u N claims)
    (S : St P n w0 M u N β σ a w) (K : ∀ a' w' β', St P n w0 M u N β' σ' a' w' → (∀ k, k < σ.bx.length → β' k = β k) → K' a' w') : wpOp P ops Q i K' a w := by
  unfold wpOp
  simp only [ho]
  simp only [ev] at hev
  split at hev
  · cases hev
  · rename_i hg
    rw [guard_ok S hg]
    simp only [Bool.false_eq_true, if_false]
    cases hp : σ.put n o.dst (.v undef) with
    | none => rw [hp] at hev; cases hev
    | some σ1 =>
      rw [hp] at hev
      simp only [Option.bind_some, Option.some.injEq, Prod.mk.injEq] at hev
      obtain ⟨rfl, _⟩ := hev
      exact K _ _ _ (S.put hp (fun _ _ e => by cases e)) (fun _ _ => rfl)
  · rename_i hg
    rw [guard_ok S hg]
    simp only [if_true]
    left
    unfold Oper.wp
    split at hev
    · cases hev
    · rename_i x hx
      obtain ⟨h1, h2⟩ := op_says S hx
      rw [h1]
      simp only [Oper.upon]
      cases hp : σ.put n o.dst x with
      | none => rw [hp] at hev; cases hev
      | some σ1 =>
        rw [hp] at hev
        simp only [Option.bind_some, Option.some.injEq, Prod.mk.injEq] at hev
        obtain ⟨rfl, _⟩ := hev
        exact K _ _ _ (S.put hp h2) (fun _ _ => rfl)
    · rename_i q hx
      have h1 := op_says S hx
      split at hev
      · cases hev
      · rename_i v orc he
        cases hp : σ.put n o.dst (.v v) with
        | none => rw [hp] at hev; cases hev
        | some σ1 =>
          rw [hp] at hev
          simp only [Option.bind_some, Option.map_some, Option.some.injEq, Prod.mk.injEq] at hev
          obtain ⟨rfl, e2⟩ := hev
          subst e2
          have hput := S.put hp (fun _ _ e => by cases e)
          cases q with
          | call f args =>
            simp only [Says] at h1
            rw [h1, Oper.upon_enter]
            refine (hq.1 w (fun b hb => ⟨(S.sep b hb).1, (S.sep b hb).2.1⟩)).mono fun e w' ⟨h3, h4⟩ => ?_
            subst h3
            exact K _ _ _ (hput.ext h4) (fun _ _ => rfl)
          | _ =>
            have h2 := h1 v (hq.1 w (fun b hb => (S.sep b hb).2.1))
            rw [h2]
            exact K _ _ _ hput (fun _ _ => rfl)
    · rename_i T cs hx
      have h1 := op_says S hx
      rw [h1]
      simp only [Oper.upon]
      have S1 := S.push cs T
      cases hp : Sy.put n ⟨σ.env, σ.bx ++ [cs]⟩ o.dst (.p σ.bx.length 0) with
      | none => rw [hp] at hev; cases hev
      | some σ1 =>
        rw [hp] at hev
        simp only [Option.bind_some, Option.some.injEq, Prod.mk.injEq] at hev
        obtain ⟨rfl, _⟩ := hev
        have S2 := S1.put hp (fun k o e => by cases e; simp)
        have e : (SV.p σ.bx.length 0).val (fun k => if k = σ.bx.length then w.heap.size else β k) = pt w.heap.size 0 := by simp [SV.val]
        rw [e] at S2
        exact K _ _ _ S2 (fun k hk => by simp [Nat.ne_of_lt hk])
    · rename_i k cs hx
      obtain ⟨h1, old, h2⟩ := op_says S hx
      rw [h1]
      simp only [Oper.upon]
      split at hev
      · rename_i hd
        rw [hd]
        simp only [Option.some.injEq, Prod.mk.injEq] at hev
        obtain ⟨rfl, _⟩ := hev
        exact K _ _ _ (S.poke h2) (fun _ _ => rfl)
      · cases hev
theorem evK_one {i : Nat} {orc : List Value} {claims : List (Ask × Value)} {keep : List Nat} {m : Nat} (h : evK P n ops i 1 σ orc keep m = some (σ', claims)) :
    ∃ o σ1, ops[i]? = some o ∧ ev P n ops [o] σ orc = some (σ1, claims) ∧ σ' = ⟨σ1.keep m keep, σ1.bx.take m⟩ := by
  unfold evK at h
  cases hb : Nat.ble (i + 1) ops.size with
  | false => rw [hb] at h; cases h
  | true =>
    rw [hb] at h
    have hle : i + 1 ≤ ops.size := Nat.le_of_ble_eq_true hb
    have ho : ops[i]? = some ops[i] := Array.getElem?_eq_getElem (by omega)
    have hl : (ops.toList.drop i).take 1 = [ops[i]] := by
      rw [List.drop_eq_getElem_cons (show i < ops.toList.length by simp; omega)]
      simp
    simp only [cond_true, hl] at h
    cases hr : ev P n ops [ops[i]] σ orc with
    | none => rw [hr] at h; cases h
    | some r =>
      rw [hr] at h
      simp only [Option.map_some, Option.some.injEq, Prod.mk.injEq] at h
      exact ⟨_, r.1, ho, by rw [hr, ← h.2], h.1.symm⟩
theorem St.weaken' (S : St P n w0 M u N β σ a w) (m : Nat) (keep : List Nat) : St P n w0 M u N β ⟨σ.keep m keep, σ.bx.take m⟩ a w :=
  S.weaken m keep fun t k' o' h => by
    have h1 := look_keep m keep t _ h
    have h2 := S.ok t k' o' h1.1
    have h3 := h1.2 k' o' rfl
    simp; omega
theorem St.stepq {Q : Exit → Act → World → Prop} {K' : Act → World → Prop} (S : St P n w0 M u N β σ a w) {i : Nat} {claims : List (Ask × Value)} {keep : List Nat} {m : Nat} (hq : AllQ P u N claims)
    (hev : evK P n ops i 1 σ (claims.map (·.2)) keep m = some (σ', claims)) (K : ∀ a' w' β', St P n w0 M u N β' σ' a' w' → (∀ k, k < σ.bx.length → β' k = β k) → K' a' w') : wpOp P ops Q i K' a w := by
  obtain ⟨o, σ1, ho, he, rfl⟩ := evK_one hev
  exact ev_one ho he hq S fun a' w' β' S' hβ => K a' w' β' (S'.weaken' m keep) hβ
def askB (P : Program) (ops : Array Oper) (σ : Sy) (i : Nat) : Bool :=
  match ops[i]? with
  | some o =>
    match guardv ops σ o with
    | some false => true
    | some true =>
      match opAc P σ o with
      | some (.val _) => true
      | some (.ask (.call _ _)) => false
      | some (.ask _) => true
      | _ => false
    | none => false
  | none => false
theorem St.hoist (S : St P n w0 M u N β σ a w) {i f : Nat} {listed : Array Bool} {path : List Nat} {claims : List (Ask × Value)} {keep : List Nat} {m : Nat} (hh : hoistB ops st listed i path = true) (hask : askB P ops σ i = true)
    (hq : AllQ P u N claims) (hev : evK P n ops i 1 σ (claims.map (·.2)) keep m = some (σ', claims))
    (K : ∀ a', St P n w0 M u N β σ' a' w → WD P ops R st (RC w0 M u N β σ.bx) f (listed.setIfInBounds i true) a' w) : WD P ops R st (RC w0 M u N β σ.bx) (f + 1) listed a w := by
  obtain ⟨o, σ1, ho, he, rfl⟩ := evK_one hev
  simp only [hoistB, Bool.and_eq_true, Bool.or_eq_true] at hh
  obtain ⟨⟨⟨⟨⟨b1, b2⟩, b3⟩, b4⟩, b5⟩, b6⟩ := hh
  have hp : ops.size ≤ st ∨ ∃ k l, pathB ops st (k :: l) = true ∧ (k :: l).getLast? = some i := by
    rcases b6 with h | h
    · exact .inl (Nat.le_of_ble_eq_true h)
    · right
      split at h
      · cases h
      · rename_i k l
        simp only [Bool.and_eq_true] at h
        obtain ⟨h1, h2⟩ := h
        split at h2
        · rename_i x hx
          exact ⟨k, l, h1, by rw [hx, Nat.eq_of_beq_eq_true h2]⟩
        · cases h2
  have fin : ∀ v, YieldsIf P ops (RC w0 M u N β σ.bx) o v a → St P n w0 M u N β σ1 (a.put o.dst v) w → WD P ops R st (RC w0 M u N β σ.bx) (f + 1) listed a w := fun v hy S1 =>
    WD.first ho b1 hp f listed a w (closedB_spec b4) (Nat.le_of_ble_eq_true b5) (Region.free_spec ho b2) (by simpa using b3) hy S.rc (K _ (S1.weaken' m keep))
  unfold askB at hask
  rw [ho] at hask
  simp only [ev] at he
  split at he
  · cases he
  · rename_i hg
    cases hput : σ.put n o.dst (.v undef) with
    | none => rw [hput] at he; cases he
    | some σ2 =>
      rw [hput] at he
      simp only [Option.bind_some, Option.some.injEq, Prod.mk.injEq] at he
      obtain ⟨rfl, _⟩ := he
      exact fin undef (.inr ⟨guard_ok S hg, rfl⟩) (S.put hput (fun _ _ e => by cases e))
  · rename_i hg
    simp only [hg] at hask
    have hw := guard_ok S hg
    split at he
    · cases he
    · rename_i x hx
      cases hput : σ.put n o.dst x with
      | none => rw [hput] at he; cases he
      | some σ2 =>
        rw [hput] at he
        simp only [Option.bind_some, Option.some.injEq, Prod.mk.injEq] at he
        obtain ⟨rfl, _⟩ := he
        exact fin (x.val β) (.inl ⟨hw, fun w' h => (op_says (S.move h) hx).1⟩) (S.put hput (op_says S hx).2)
    · rename_i q hx
      split at he
      · cases he
      · rename_i v orc hc
        cases hput : σ.put n o.dst (.v v) with
        | none => rw [hput] at he; cases he
        | some σ2 =>
          rw [hput] at he
          simp only [Option.bind_some, Option.map_some, Option.some.injEq, Prod.mk.injEq] at he
          obtain ⟨rfl, e2⟩ := he
          subst e2
          refine fin v (.inl ⟨hw, fun w' h => ?_⟩) (S.put hput (fun _ _ e => by cases e))
          have S' := S.move h
          have h1 := op_says S' hx
          cases q with
          | call g args => simp only [hx] at hask; cases hask
          | _ => exact h1 v (hq.1 w' (fun b hb => (S'.sep b hb).2.1))
    · rename_i T cs hx
      simp only [hx] at hask
      cases hask
    · rename_i k cs hx
      simp only [hx] at hask
      cases hask
end
end Go.Proofs.Ytgonaioedbphgaa
