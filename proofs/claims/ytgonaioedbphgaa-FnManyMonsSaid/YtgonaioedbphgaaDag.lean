/- Regions that draw their order, in short: what looks at no memory is taken as soon as it can be; the steps of a region whose sets of listed operations have a lemma each. No program is named here. -/
import Derived.Test.YtgonaioedbphgaaDrawO
import Derived.Test.YtgonaioedbphgaaShort
namespace Go.Proofs.Ytgonaioedbphgaa
open Go
set_option linter.unusedVariables false
section
variable {P : Program} {ops : Array Oper} {R : Act → World → Prop} {C : World → Prop} {st : Nat}
theorem WD.firstP {i : Nat} {oi : Oper} {v : Value} (hi : ops[i]? = some oi) (hsel : Region.noSelect ops = true) (his : i ≠ st) :
    ∀ (f : Nat) (listed : Array Bool) (a : Act) (w : World),
      (∀ j oj, ops[j]? = some oj → j ≠ i → listed.getD j true = false → (∀ e ∈ oj.after, Region.binds .any e = true → e.on ≠ i) → oi.apart ops oj = true) →
      i ∈ Region.ready .any ops listed → YieldsIf P ops (fun _ => True) oi v a → (listed.getD st false = false → C w) →
      WD P ops R st C f (listed.setIfInBounds i true) (a.put oi.dst v) w → WD P ops R st C (f + 1) listed a w := by
  intro f
  have hnp : ∀ c a w, NQ R (.panic c) (a.put oi.dst v) w → NQ R (.panic c) a w := fun _ _ _ h => (by cases h.1)
  have unl : ∀ (listed : Array Bool), i ∈ Region.ready .any ops listed → listed.getD i false = false := fun listed hr => by
    have h0 := (mem_ready.1 hr).1
    rcases Nat.lt_or_ge i listed.size with h' | h'
    · simp [h'] at h0 ⊢; exact h0
    · simp [Array.getElem?_eq_none h']
  induction f with
  | zero =>
    intro listed a w _ hr hy hC H
    refine ⟨fun h => (by rw [h] at hr; cases hr), fun j hj => ?_⟩
    by_cases hji : j = i
    · subst hji; exact hy.wpOp hi trivial ⟨fun h => hC (by rwa [getD_set_ne false his] at h), H⟩
    · have := ready_mono hj hji
      rw [H.1] at this
      cases this
  | succ f ih =>
    intro listed a w hfree hr hy hC H
    refine ⟨fun h => (by rw [h] at hr; cases hr), fun j hj => ?_⟩
    by_cases hji : j = i
    · subst hji; exact hy.wpOp hi trivial ⟨fun h => hC (by rwa [getD_set_ne false his] at h), H⟩
    have h1 := H.2 j (ready_mono hj hji)
    obtain ⟨hjun, oj, hoj, hall⟩ := mem_ready.1 hj
    have hnot : ∀ e ∈ oj.after, Region.binds .any e = true → e.on ≠ i := fun e he hb heq => by
      have h2 := hall e he hb
      rw [heq, unl listed hr] at h2
      cases h2
    have h2 := wpOp_putIf hoj (hfree j oj hoj hji hjun hnot) (fun cs b => Region.noSelect_spec hsel i oi cs b hi) (fun cs b => Region.noSelect_spec hsel j oj cs b hoj) hnp hy h1
    have hfree' : ∀ k ok, ops[k]? = some ok → k ≠ i → (listed.setIfInBounds j true).getD k true = false → (∀ e ∈ ok.after, Region.binds .any e = true → e.on ≠ i) → oi.apart ops ok = true := fun k ok hk hki hu hno => by
      refine hfree k ok hk hki ?_ hno
      by_cases hjk : j = k
      · subst hjk; exact hjun
      · rwa [getD_set_ne true hjk] at hu
    refine wpOp_mono (fun a' w' h3 => ?_) h2
    obtain ⟨h4, h5, h6⟩ := h3
    have hC' : (listed.setIfInBounds j true).getD st false = false → C w' := fun h => h5 (by
      rw [Array.setIfInBounds_comm _ _ (Ne.symm hji), getD_set_ne false his]; exact h)
    rw [Array.setIfInBounds_comm _ _ (Ne.symm hji)] at h6
    exact ⟨hC', ih (listed.setIfInBounds j true) a' w' hfree' (ready_mono hr (Ne.symm hji)) h4 hC' h6⟩
end
section
variable {P : Program} {n : Nat} {w0 : World} {M : Bl} {u : World} {N : Bl} {β : Nat → Nat} {σ σ' : Sy} {a : Act} {w : World} {ops : Array Oper} {R : Act → World → Prop} {C : World → Prop} {st : Nat}
def plE (β : Nat → Nat) : Env → Env
  | [] => []
  | (t, s) :: r => (t, .v (s.val β)) :: plE β r
def Sy.pl (σ : Sy) (β : Nat → Nat) : Sy := ⟨plE β σ.env, []⟩
theorem look_plE {t : Nat} : ∀ (e : Env), look (plE β e) t = (look e t).map fun s => .v (s.val β)
  | [] => rfl
  | (s, x) :: r => by
    simp only [plE, look_cons]
    split
    · rfl
    · exact look_plE r
theorem St.anyw (S : St P n w0 M u N β σ a w) (w' : World) : St P n w' (fun _ => True) w' NoB β (σ.pl β) a w' := by
  refine ⟨S.df, S.sz, fun t s ht => ?_, fun t k o ht => ?_, fun k cs hk => by simp [Sy.pl] at hk, fun _ _ hj => by simp [Sy.pl] at hj, fun _ hk => by simp [Sy.pl] at hk, fun b hb => False.elim hb, Chg.refl _ _, fun b _ hm => absurd trivial hm⟩
  · rw [show (σ.pl β).env = plE β σ.env from rfl, look_plE] at ht
    cases hs : look σ.env t with
    | none => rw [hs] at ht; cases ht
    | some s0 =>
      rw [hs] at ht
      simp only [Option.map_some, Option.some.injEq] at ht
      subst ht
      exact S.env t s0 hs
  · rw [show (σ.pl β).env = plE β σ.env from rfl, look_plE] at ht
    cases hs : look σ.env t with
    | none => rw [hs] at ht; cases ht
    | some s0 => rw [hs] at ht; simp at ht
def pureB (P : Program) (ops : Array Oper) (β : Nat → Nat) (σ : Sy) (i : Nat) : Bool :=
  match ops[i]? with
  | some o =>
    match guardv ops σ o with
    | some false => true
    | some true => match opAc P (σ.pl β) o, opAc P σ o with
      | some (.val _), some (.val _) => true
      | _, _ => false
    | none => false
  | none => false
def pureAt (ops : Array Oper) (st : Nat) (listed : Array Bool) (i : Nat) : Bool :=
  Region.noSelect ops && Region.free .any ops listed i && (Region.ready .any ops listed).contains i && !Nat.beq i st
theorem St.hoistP (S : St P n w0 M u N β σ a w) {i f : Nat} {listed : Array Bool} (hh : pureAt ops st listed i = true) (hp : pureB P ops β σ i = true) (hC : listed.getD st false = false → C w) (hev : ev P n ops ((ops.toList.drop i).take 1) σ [] = some (σ', []))
    (K : ∀ a', St P n w0 M u N β σ' a' w → WD P ops R st C f (listed.setIfInBounds i true) a' w) : WD P ops R st C (f + 1) listed a w := by
  unfold pureB at hp
  split at hp
  · rename_i o ho
    have hlt : i < ops.size := (Array.getElem?_eq_some_iff.1 ho).1
    have hl : (ops.toList.drop i).take 1 = [o] := by
      rw [List.drop_eq_getElem_cons (show i < ops.toList.length by simpa using hlt)]
      have := (Array.getElem?_eq_some_iff.1 ho).2
      simp [← this]
    rw [hl] at hev
    simp only [pureAt, Bool.and_eq_true, Bool.not_eq_true'] at hh
    obtain ⟨⟨⟨b1, b2⟩, b3⟩, b4⟩ := hh
    have his : i ≠ st := fun e => by rw [e, Nat.beq_refl] at b4; cases b4
    have fin : ∀ v, YieldsIf P ops (fun _ => True) o v a → St P n w0 M u N β σ' (a.put o.dst v) w → WD P ops R st C (f + 1) listed a w := fun v hy S1 =>
      WD.firstP ho b1 his f listed a w (Region.free_spec ho b2) (by simpa using b3) hy hC (K _ S1)
    simp only [ev] at hev
    split at hev
    · cases hev
    · rename_i hg
      cases hput : σ.put n o.dst (.v undef) with
      | none => rw [hput] at hev; cases hev
      | some σ2 =>
        rw [hput] at hev
        simp only [Option.bind_some, Option.some.injEq, Prod.mk.injEq, and_true] at hev
        subst hev
        exact fin undef (.inr ⟨guard_ok S hg, rfl⟩) (S.put hput (fun _ _ e => by cases e))
    · rename_i hg
      simp only [hg] at hp
      have hw := guard_ok S hg
      split at hp
      · rename_i x2 x3 hx2 hx3
        have hrun : ∀ w', (execOp a.eval o).run P w' = .ok (.value (x2.val β)) w' := fun w' => (op_says (S.anyw w') hx2).1
        split at hev
        · cases hev
        · rename_i x hx
          cases hput : σ.put n o.dst x with
          | none => rw [hput] at hev; cases hev
          | some σ2 =>
            rw [hput] at hev
            simp only [Option.bind_some, Option.some.injEq, Prod.mk.injEq, and_true] at hev
            subst hev
            have h1 := (op_says S hx).1
            rw [hrun w] at h1
            have e : x2.val β = x.val β := by
              injection h1 with h1 _
              injection h1
            exact fin (x.val β) (.inl ⟨hw, fun w' _ => e ▸ hrun w'⟩) (S.put hput (op_says S hx).2)
        · rename_i h0; rw [h0] at hx3; cases hx3
        · rename_i h0; rw [h0] at hx3; cases hx3
        · rename_i h0; rw [h0] at hx3; cases hx3
      · cases hp
  · cases hp
def Sy.dq (σ : Sy) (dr : List Nat) (new : Env) : Sy := ⟨σ.keep 1000 (restK σ.env dr new) ++ new, σ.bx⟩
theorem St.hq {bx : List (List Value)} (S : St P n w0 M u N β σ a w) {f : Nat} {listed : Array Bool} (i : Nat) (path : List Nat) (dr : List Nat) (new : Env) {claims : List (Ask × Value)} (hq : AllQ P u N claims)
    (K : ∀ a', St P n w0 M u N β (σ.dq dr new) a' w → WD P ops R st (RC w0 M u N β bx) f (listed.setIfInBounds i true) a' w)
    (hbx : σ.bx = bx := by kernel_rfl) (hh : hoistB ops st listed i path = true := by kernel_rfl) (hask : askB P ops σ i = true := by kernel_rfl)
    (hev : evK P n ops i 1 σ (claims.map (·.2)) (restK σ.env dr new ++ keysK new) 1000 = some (σ.dq dr new, claims) := by kernel_rfl) : WD P ops R st (RC w0 M u N β bx) (f + 1) listed a w := by
  subst hbx
  exact S.hoist hh hask hq hev K
theorem St.rcx {bx : List (List Value)} (S : St P n w0 M u N β σ a w) (hbx : σ.bx = bx := by kernel_rfl) : RC w0 M u N β bx w := hbx ▸ S.rc
def listL (l : Array Bool) : List Nat → Array Bool
  | [] => l
  | i :: r => listL (l.setIfInBounds i true) r
def ovE (ov : List (Nat × Bool)) (i : Nat) (d : Option Nat) (σ : Sy) : Sy × List (Bool × Bool) :=
  match lookB ov i, d with
  | some b, some d => match look σ.env d with
    | some (.v (.bool c)) => (⟨(d, .v (.bool b)) :: σ.env, σ.bx⟩, [(c, b)])
    | _ => (σ, [])
  | _, _ => (σ, [])
theorem St.ovE (S : St P n w0 M u N β σ a w) {ov : List (Nat × Bool)} {i : Nat} {d : Option Nat} (h : AllB (ovE ov i d σ).2) : St P n w0 M u N β (Go.Proofs.Ytgonaioedbphgaa.ovE ov i d σ).1 a w := by
  unfold Go.Proofs.Ytgonaioedbphgaa.ovE at h ⊢
  split
  · rename_i b d hb
    simp only [hb] at h
    split
    · rename_i c hc
      simp only [hc] at h
      have e : c = b := h.1
      subst e
      refine ⟨S.df, S.sz, fun t s ht => ?_, fun t k o ht => ?_, S.box, S.inj, S.new, S.sep, S.chg, S.old⟩
      · rw [look_cons] at ht
        split at ht
        · rename_i e; subst e
          simp only [Option.some.injEq] at ht
          subst ht
          exact S.env _ _ hc
        · exact S.env t s ht
      · rw [look_cons] at ht
        split at ht
        · simp only [Option.some.injEq] at ht; cases ht
        · exact S.ok t k o ht
    · exact S
  · exact S
def dstAt (ops : Array Oper) (i : Nat) : Option Nat := (ops[i]?).bind (·.dst)
def hsOk (P : Program) (n : Nat) (ops : Array Oper) (st : Nat) (β : Nat → Nat) (ov : List (Nat × Bool)) : List Nat → Array Bool → Sy → Option (Sy × List (Bool × Bool))
  | [], _, σ => some (σ, [])
  | i :: r, l, σ => bif pureAt ops st l i && pureB P ops β σ i then
      match ev P n ops ((ops.toList.drop i).take 1) σ [] with
      | some (σ1, []) => (hsOk P n ops st β ov r (l.setIfInBounds i true) (ovE ov i (dstAt ops i) σ1).1).map fun z => (z.1, (ovE ov i (dstAt ops i) σ1).2 ++ z.2)
      | _ => none
    else none
theorem St.hoists {ov : List (Nat × Bool)} : ∀ (hs : List Nat) (listed : Array Bool) (σ : Sy) (z : Sy × List (Bool × Bool)) (a : Act) (f : Nat), St P n w0 M u N β σ a w → (listed.getD st false = false → C w) → hsOk P n ops st β ov hs listed σ = some z → AllB z.2 →
    (∀ a', St P n w0 M u N β z.1 a' w → WD P ops R st C f (listL listed hs) a' w) → WD P ops R st C (f + hs.length) listed a w
  | [], listed, σ, z, a, f, S, hC, h, hb, K => by
    simp only [hsOk, Option.some.injEq] at h
    subst h
    exact K a S
  | i :: r, listed, σ, z, a, f, S, hC, h, hob, K => by
    simp only [hsOk] at h
    cases hb : (pureAt ops st listed i && pureB P ops β σ i) with
    | false => rw [hb] at h; cases h
    | true =>
      rw [hb] at h
      simp only [cond_true] at h
      simp only [Bool.and_eq_true] at hb
      split at h
      · rename_i σ1 he
        refine S.hoistP hb.1 hb.2 hC he fun a1 S1 => ?_
        have his : i ≠ st := fun e => by
          have h4 := hb.1
          simp only [pureAt, Bool.and_eq_true, Bool.not_eq_true'] at h4
          rw [e, Nat.beq_refl] at h4
          cases h4.2
        cases hz : hsOk P n ops st β ov r (listed.setIfInBounds i true) (Go.Proofs.Ytgonaioedbphgaa.ovE ov i (dstAt ops i) σ1).1 with
        | none => rw [hz] at h; cases h
        | some z1 =>
          rw [hz] at h
          simp only [Option.map_some, Option.some.injEq] at h
          subst h
          exact St.hoists r _ _ z1 a1 f (S1.ovE hob.left) (fun h' => hC (by rwa [getD_set_ne false his] at h')) hz hob.right K
      · cases h
theorem St.who {W : Nat → Array Bool → Act → World → Prop} (S : St P n w0 M u N β σ a w) (hW : W = WD P ops R st C) (hs : List Nat) (ov : List (Nat × Bool)) {obl : List (Bool × Bool)} {f f1 : Nat} {l l2 : Array Bool} (hC : l.getD st false = false → C w) (hob : AllB obl)
    (K : ∀ a', St P n w0 M u N β σ' a' w → W f l2 a' w)
    (hev : ((hsOk P n ops st β ov hs l σ).bind fun s => (pruneK s.1 (keysK σ'.env) σ'.bx.length).map fun x => (x, s.2)) = some (σ', obl) := by kernel_rfl) (hl : listL l hs = l2 := by kernel_rfl) (hf : f1 = f + hs.length := by kernel_rfl) : WD P ops R st C f1 l a w := by
  subst hf hW hl
  cases he : hsOk P n ops st β ov hs l σ with
  | none => rw [he] at hev; cases hev
  | some s =>
    rw [he] at hev
    simp only [Option.bind_some] at hev
    cases hp : pruneK s.1 (keysK σ'.env) σ'.bx.length with
    | none => rw [hp] at hev; cases hev
    | some x =>
      rw [hp] at hev
      simp only [Option.map_some, Option.some.injEq, Prod.mk.injEq] at hev
      obtain ⟨e1, e2⟩ := hev
      subst e1
      exact St.hoists hs l σ s a f S hC he (e2 ▸ hob) fun a' S' => K a' (S'.prune hp)
theorem St.wh {W : Nat → Array Bool → Act → World → Prop} (S : St P n w0 M u N β σ a w) (hW : W = WD P ops R st C) (hs : List Nat) {f f1 : Nat} {l l2 : Array Bool} (hC : l.getD st false = false → C w)
    (K : ∀ a', St P n w0 M u N β σ' a' w → W f l2 a' w)
    (hev : ((hsOk P n ops st β [] hs l σ).bind fun s => (pruneK s.1 (keysK σ'.env) σ'.bx.length).map fun x => (x, s.2)) = some (σ', []) := by kernel_rfl) (hl : listL l hs = l2 := by kernel_rfl) (hf : f1 = f + hs.length := by kernel_rfl) : WD P ops R st C f1 l a w := S.who hW hs [] hC .nil K hev hl hf
abbrev NN (N0 : Bl) (u0 : World) (N : Bl) (u : World) : Prop := ∀ b, N0 b → N b ∧ u.heap[b]? = u0.heap[b]?
abbrev BB (m : Nat) (β0 β : Nat → Nat) : Prop := ∀ k, k < m → β k = β0 k
theorem WD.stayC {u0 : World} {N0 : Bl} {β0 : Nat → Nat} {bx : List (List Value)} {f : Nat} {l : Array Bool} (S : St P n w0 M u N β σ a w) (up : NN N0 u0 N u) (hβ : BB bx.length β0 β) (hbx : σ.bx.take bx.length = bx)
    (h : RC w0 M u0 N0 β0 bx w → WD P ops R st (RC w0 M u0 N0 β0 bx) f l a w) : (l.getD st false = false → RC w0 M u0 N0 β0 bx w) ∧ WD P ops R st (RC w0 M u0 N0 β0 bx) f l a w := by
  have hC : RC w0 M u0 N0 β0 bx w := ⟨fun k cs hk => by
      have hlt := (List.getElem?_eq_some_iff.1 hk).1
      rw [← hβ k hlt]
      refine S.box k cs ?_
      rw [← hbx, List.getElem?_take_of_lt hlt] at hk
      exact hk, fun b hb => ⟨(S.sep b (up b hb).1).1, ((S.sep b (up b hb).1).2.1).trans (up b hb).2⟩, S.chg⟩
  exact ⟨fun _ => hC, h hC⟩
def ev1 (P : Program) (n : Nat) (ops : Array Oper) (i : Nat) (σ : Sy) (orc : List Value) : Option (Sy × List (Ask × Value)) :=
  match (ops.toList.drop i).take 1 with
  | [o] => ev P n ops [o] σ orc
  | _ => none
theorem ev1_of {i : Nat} {orc : List Value} {r : Sy × List (Ask × Value)} (h : ev1 P n ops i σ orc = some r) : ∃ o, ops[i]? = some o ∧ ev P n ops [o] σ orc = some r := by
  unfold ev1 at h
  split at h
  · rename_i o ho
    refine ⟨o, ?_, h⟩
    have h1 : ((ops.toList.drop i).take 1)[0]? = some o := by rw [ho]; rfl
    rw [List.getElem?_take_of_lt (by omega), List.getElem?_drop] at h1
    simpa using h1
  · cases h
def evW (P : Program) (n : Nat) (ops : Array Oper) (st : Nat) (β : Nat → Nat) (i : Nat) (hs : List Nat) (ov : List (Nat × Bool)) (l : Array Bool) (σ : Sy) (orc : List Value) (keep : List Nat) (m : Nat) : Option (Sy × List (Ask × Value) × List (Bool × Bool)) :=
  match ev1 P n ops i σ orc with
  | some r => (hsOk P n ops st β ov hs (l.setIfInBounds i true) (ovE ov i (dstAt ops i) r.1).1).bind fun s => (pruneK s.1 keep m).map fun x => (x, r.2, (ovE ov i (dstAt ops i) r.1).2 ++ s.2)
  | none => none
theorem evW_of {i : Nat} {hs keep : List Nat} {ov : List (Nat × Bool)} {l : Array Bool} {orc : List Value} {m : Nat} {claims : List (Ask × Value)} {obl : List (Bool × Bool)} (h : evW P n ops st β i hs ov l σ orc keep m = some (σ', claims, obl)) :
    ∃ s1 s2, ev1 P n ops i σ orc = some (s1, claims) ∧ hsOk P n ops st β ov hs (l.setIfInBounds i true) (ovE ov i (dstAt ops i) s1).1 = some s2 ∧ pruneK s2.1 keep m = some σ' ∧ obl = (ovE ov i (dstAt ops i) s1).2 ++ s2.2 := by
  unfold evW at h
  split at h
  · rename_i r hr
    cases h2 : hsOk P n ops st β ov hs (l.setIfInBounds i true) (ovE ov i (dstAt ops i) r.1).1 with
    | none => rw [h2] at h; cases h
    | some s2 =>
      rw [h2] at h
      simp only [Option.bind_some] at h
      cases h3 : pruneK s2.1 keep m with
      | none => rw [h3] at h; cases h
      | some s3 =>
        rw [h3] at h
        simp only [Option.map_some, Option.some.injEq, Prod.mk.injEq] at h
        exact ⟨r.1, s2, by rw [hr, ← h.2.1], h2, by rw [h3, h.1], h.2.2.symm⟩
  · cases h
theorem St.wqo {W : Nat → Array Bool → Act → World → Prop} {u0 : World} {N0 : Bl} {β0 : Nat → Nat} {bx : List (List Value)} (S : St P n w0 M u N β σ a w) (hW : W = WD P ops R st (RC w0 M u0 N0 β0 bx)) (up : NN N0 u0 N u) (hβ : BB bx.length β0 β)
    {i : Nat} (hs : List Nat) (ov : List (Nat × Bool)) {obl : List (Bool × Bool)} {claims : List (Ask × Value)} (hq : AllQ P u N claims) (hob : AllB obl) {f f1 : Nat} {l l2 : Array Bool}
    (K : ∀ a' w' β', St P n w0 M u N β' σ' a' w' → BB bx.length β0 β' → W f l2 a' w')
    (hev : ∀ β', evW P n ops st β' i hs ov l σ (claims.map (·.2)) (keysK σ'.env) σ'.bx.length = some (σ', claims, obl) := by intro β'; kernel_rfl)
    (hbx : ((ev1 P n ops i σ (claims.map (·.2))).map fun r => r.1.bx.take bx.length) = some bx := by kernel_rfl) (hbl : Nat.ble bx.length σ.bx.length = true := by kernel_rfl) (hl : listL (l.setIfInBounds i true) hs = l2 := by kernel_rfl) (hf : f1 = f + hs.length := by kernel_rfl) :
    wpOp P ops (NQ R) i (fun a' w' => ((l.setIfInBounds i true).getD st false = false → RC w0 M u0 N0 β0 bx w') ∧ WD P ops R st (RC w0 M u0 N0 β0 bx) f1 (l.setIfInBounds i true) a' w') a w := by
  subst hf hW hl
  obtain ⟨s1, s2, h1, h2, h3, h4⟩ := evW_of (hev β)
  obtain ⟨o, ho, he⟩ := ev1_of h1
  refine ev_one ho he hq S fun a1 w1 β1 S1 hb => ?_
  obtain ⟨s1', s2', h1', h2', h3', h4'⟩ := evW_of (hev β1)
  rw [h1] at h1'
  simp only [Option.some.injEq, Prod.mk.injEq, and_true] at h1'
  subst h1'
  have hbl' : bx.length ≤ σ.bx.length := Nat.le_of_ble_eq_true hbl
  have hβ1 : BB bx.length β0 β1 := fun k hk => (hb k (by omega)).trans (hβ k hk)
  rw [h1] at hbx
  simp only [Option.map_some, Option.some.injEq] at hbx
  rw [h4'] at hob
  exact WD.stayC S1 up hβ1 hbx fun hC => St.hoists hs _ _ s2' a1 f (S1.ovE hob.left) (fun _ => hC) h2' hob.right fun a' S' => K a' w1 β1 (S'.prune h3') hβ1
theorem St.wlo {W : Nat → Array Bool → Act → World → Prop} (S : St P n w0 M u N β σ a w) (hW : W = WD P ops R st C)
    {i : Nat} (hs : List Nat) (ov : List (Nat × Bool)) {obl : List (Bool × Bool)} {claims : List (Ask × Value)} (hq : AllQ P u N claims) (hob : AllB obl) {f f1 : Nat} {l l2 : Array Bool}
    (K : ∀ a' w' β', St P n w0 M u N β' σ' a' w' → W f l2 a' w')
    (hev : ∀ β', evW P n ops st β' i hs ov l σ (claims.map (·.2)) (keysK σ'.env) σ'.bx.length = some (σ', claims, obl) := by intro β'; kernel_rfl)
    (hst : (l.setIfInBounds i true).getD st false = true := by kernel_rfl) (hl : listL (l.setIfInBounds i true) hs = l2 := by kernel_rfl) (hf : f1 = f + hs.length := by kernel_rfl) :
    wpOp P ops (NQ R) i (fun a' w' => ((l.setIfInBounds i true).getD st false = false → C w') ∧ WD P ops R st C f1 (l.setIfInBounds i true) a' w') a w := by
  subst hf hW hl
  obtain ⟨s1, s2, h1, h2, h3, h4⟩ := evW_of (hev β)
  obtain ⟨o, ho, he⟩ := ev1_of h1
  refine ev_one ho he hq S fun a1 w1 β1 S1 hb => ?_
  obtain ⟨s1', s2', h1', h2', h3', h4'⟩ := evW_of (hev β1)
  rw [h1] at h1'
  simp only [Option.some.injEq, Prod.mk.injEq, and_true] at h1'
  subst h1'
  rw [h4'] at hob
  have hC : (l.setIfInBounds i true).getD st false = false → C w1 := fun h => by rw [hst] at h; cases h
  exact ⟨hC, St.hoists hs _ _ s2' a1 f (S1.ovE hob.left) hC h2' hob.right fun a' S' => K a' w1 β1 (S'.prune h3')⟩
theorem St.wq {W : Nat → Array Bool → Act → World → Prop} {u0 : World} {N0 : Bl} {β0 : Nat → Nat} {bx : List (List Value)} (S : St P n w0 M u N β σ a w) (hW : W = WD P ops R st (RC w0 M u0 N0 β0 bx)) (up : NN N0 u0 N u) (hβ : BB bx.length β0 β)
    {i : Nat} (hs : List Nat) {claims : List (Ask × Value)} (hq : AllQ P u N claims) {f f1 : Nat} {l l2 : Array Bool}
    (K : ∀ a' w' β', St P n w0 M u N β' σ' a' w' → BB bx.length β0 β' → W f l2 a' w')
    (hev : ∀ β', evW P n ops st β' i hs [] l σ (claims.map (·.2)) (keysK σ'.env) σ'.bx.length = some (σ', claims, []) := by intro β'; kernel_rfl)
    (hbx : ((ev1 P n ops i σ (claims.map (·.2))).map fun r => r.1.bx.take bx.length) = some bx := by kernel_rfl) (hbl : Nat.ble bx.length σ.bx.length = true := by kernel_rfl) (hl : listL (l.setIfInBounds i true) hs = l2 := by kernel_rfl) (hf : f1 = f + hs.length := by kernel_rfl) :
    wpOp P ops (NQ R) i (fun a' w' => ((l.setIfInBounds i true).getD st false = false → RC w0 M u0 N0 β0 bx w') ∧ WD P ops R st (RC w0 M u0 N0 β0 bx) f1 (l.setIfInBounds i true) a' w') a w := S.wqo hW up hβ hs [] hq .nil K hev hbx hbl hl hf
theorem St.wl {W : Nat → Array Bool → Act → World → Prop} (S : St P n w0 M u N β σ a w) (hW : W = WD P ops R st C)
    {i : Nat} (hs : List Nat) {claims : List (Ask × Value)} (hq : AllQ P u N claims) {f f1 : Nat} {l l2 : Array Bool}
    (K : ∀ a' w' β', St P n w0 M u N β' σ' a' w' → W f l2 a' w')
    (hev : ∀ β', evW P n ops st β' i hs [] l σ (claims.map (·.2)) (keysK σ'.env) σ'.bx.length = some (σ', claims, []) := by intro β'; kernel_rfl)
    (hst : (l.setIfInBounds i true).getD st false = true := by kernel_rfl) (hl : listL (l.setIfInBounds i true) hs = l2 := by kernel_rfl) (hf : f1 = f + hs.length := by kernel_rfl) :
    wpOp P ops (NQ R) i (fun a' w' => ((l.setIfInBounds i true).getD st false = false → C w') ∧ WD P ops R st C f1 (l.setIfInBounds i true) a' w') a w := S.wlo hW hs [] hq .nil K hev hst hl hf
section
variable {W : Nat → Array Bool → Act → World → Prop} {f : Nat} {l : Array Bool}
abbrev WS (P : Program) (ops : Array Oper) (R : Act → World → Prop) (st : Nat) (C : World → Prop) (f : Nat) (l : Array Bool) (a : Act) (w : World) (i : Nat) : Prop :=
  wpOp P ops (NQ R) i (fun a' w' => ((l.setIfInBounds i true).getD st false = false → C w') ∧ WD P ops R st C f (l.setIfInBounds i true) a' w') a w
theorem ox1 (hW : W = WD P ops R st C) (i : Nat) (h : WS P ops R st C f l a w i) (hr : Region.ready .any ops l = [i] := by kernel_rfl) : W (f + 1) l a w := by
  subst hW; exact WD.one hr h
theorem ox2 (hW : W = WD P ops R st C) (i j : Nat) (h : WS P ops R st C f l a w i) (h2 : WS P ops R st C f l a w j) (hr : Region.ready .any ops l = [i, j] := by kernel_rfl) : W (f + 1) l a w := by
  subst hW; exact WD.many hr rfl (List.forall_mem_cons.2 ⟨h, List.forall_mem_cons.2 ⟨h2, List.forall_mem_nil _⟩⟩)
theorem ox3 (hW : W = WD P ops R st C) (i j k : Nat) (h : WS P ops R st C f l a w i) (h2 : WS P ops R st C f l a w j) (h3 : WS P ops R st C f l a w k) (hr : Region.ready .any ops l = [i, j, k] := by kernel_rfl) : W (f + 1) l a w := by
  subst hW; exact WD.many hr rfl (List.forall_mem_cons.2 ⟨h, List.forall_mem_cons.2 ⟨h2, List.forall_mem_cons.2 ⟨h3, List.forall_mem_nil _⟩⟩⟩)
theorem od (hW : W = WD P ops R st C) (h : R a w) (hr : Region.ready .any ops l = [] := by kernel_rfl) : W f l a w := by
  subst hW; exact WD.done hr h f
end
theorem WD.sl {f : Nat} {l : Array Bool} (h : (l.getD st false = false → C w) → WD P ops R st C f l a w) (hst : l.getD st false = true := by kernel_rfl) : (l.getD st false = false → C w) ∧ WD P ops R st C f l a w :=
  ⟨fun h0 => (by rw [hst] at h0; cases h0), h fun h0 => (by rw [hst] at h0; cases h0)⟩
theorem WD.sc {u0 : World} {N0 : Bl} {β0 : Nat → Nat} {bx : List (List Value)} {f : Nat} {l : Array Bool} (S : St P n w0 M u N β σ a w) (up : NN N0 u0 N u) (hβ : BB bx.length β0 β)
    (h : (l.getD st false = false → RC w0 M u0 N0 β0 bx w) → WD P ops R st (RC w0 M u0 N0 β0 bx) f l a w) (hbx : σ.bx.take bx.length = bx := by kernel_rfl) : (l.getD st false = false → RC w0 M u0 N0 β0 bx w) ∧ WD P ops R st (RC w0 M u0 N0 β0 bx) f l a w := WD.stayC S up hβ hbx fun hC => h fun _ => hC
end
end Go.Proofs.Ytgonaioedbphgaa
