/- Runs: control and quiet operations of a walk are reckoned by the kernel, many at a time. No program is named here. -/
import Derived.Test.YtgonaioedbphgaaShort
import Derived.Test.YtgonaioedbphgaaDrawO
namespace Go.Proofs.Ytgonaioedbphgaa
open Go
set_option linter.unusedVariables false
set_option linter.unusedSimpArgs false
inductive Fr where
  | seq (y : Code)
  | blk (id : Nat)
  | sem (f : Act → World → Prop)
def wpF (P : Program) (Q : Exit → Act → World → Prop) : List Fr → Exit → Act → World → Prop
  | [] => Q
  | .seq y :: r => Exit.then (y.wp P (wpF P Q r)) (wpF P Q r)
  | .blk id :: r => Exit.inBlock id (wpF P Q r)
  | .sem f :: r => Exit.then f (wpF P Q r)
inductive Cf where
  | code (c : Code) (ks : List Fr)
  | ops (ops : Array Oper) (i : Nat) (ks : List Fr)
  | ex (e : Exit) (ks : List Fr)
def Cf.wp (P : Program) (Q : Exit → Act → World → Prop) : Cf → Act → World → Prop
  | .code c ks => c.wp P (wpF P Q ks)
  | .ops o i ks => RG P o (wpF P Q ks) i
  | .ex e ks => wpF P Q ks e
structure Rs where
  cf : Cf
  σ : Sy
  asks : List Ask
def adv (P : Program) (n : Nat) : Nat → Cf → Sy → List Value → Rs
  | 0, cf, σ, _ => ⟨cf, σ, []⟩
  | k + 1, .code c ks, σ, orc =>
    match c with
    | .skip => adv P n k (.ex .normal ks) σ orc
    | .seq x y => adv P n k (.code x (.seq y :: ks)) σ orc
    | .block id x => adv P n k (.code x (.blk id :: ks)) σ orc
    | .exit id => adv P n k (.ex (.exit id) ks) σ orc
    | .ret => ⟨.ex .ret [], σ, []⟩
    | .cond c x y =>
      match σ.get c with
      | some (.v (.bool b)) => adv P n k (.code (bif b then x else y) ks) σ orc
      | _ => ⟨.code (.cond c x y) ks, σ, []⟩
    | .region _ ops false => adv P n k (.ops ops 0 ks) σ orc
    | .region id ops true =>
      bif P.follows .mixedOrders && Region.lexB .any ops then
        match evD P n ops ops.toList σ orc with
        | some (σ', l) =>
          let r := adv P n k (.ex .normal ks) σ' (orc.drop l.length)
          ⟨r.cf, r.σ, l.map (·.1) ++ r.asks⟩
        | none => ⟨.code (.region id ops true) ks, σ, []⟩
      else ⟨.code (.region id ops true) ks, σ, []⟩
    | c => ⟨.code c ks, σ, []⟩
  | k + 1, .ops ops i ks, σ, orc =>
    match ops.toList[i]? with
    | none => adv P n k (.ex .normal ks) σ orc
    | some o =>
      match ev P n ops [o] σ (orc.take 1) with
      | none => ⟨.ops ops i ks, σ, []⟩
      | some (σ', []) => adv P n k (.ops ops (i + 1) ks) σ' orc
      | some (σ', (q, _) :: _) =>
        let r := adv P n k (.ops ops (i + 1) ks) σ' (orc.drop 1)
        ⟨r.cf, r.σ, q :: r.asks⟩
  | k + 1, .ex .normal ks, σ, orc =>
    match ks with
    | .seq y :: r => adv P n k (.code y r) σ orc
    | .blk _ :: r => adv P n k (.ex .normal r) σ orc
    | ks => ⟨.ex .normal ks, σ, []⟩
  | k + 1, .ex (.exit id) ks, σ, orc =>
    match ks with
    | .seq _ :: r => adv P n k (.ex (.exit id) r) σ orc
    | .sem _ :: r => adv P n k (.ex (.exit id) r) σ orc
    | .blk id' :: r => bif Nat.beq id id' then adv P n k (.ex .normal r) σ orc else adv P n k (.ex (.exit id) r) σ orc
    | [] => ⟨.ex (.exit id) [], σ, []⟩
  | _ + 1, .ex .ret _, σ, _ => ⟨.ex .ret [], σ, []⟩
  | _ + 1, .ex e ks, σ, _ => ⟨.ex e ks, σ, []⟩
section
variable {P : Program} {n : Nat} {w0 : World} {M : Bl} {u : World} {N : Bl} {β : Nat → Nat} {σ : Sy} {a : Act} {w : World} {Q : Exit → Act → World → Prop} {cf : Cf}
theorem evo1 {ops : Array Oper} {i : Nat} {o : Oper} {σ' : Sy} {claims : List (Ask × Value)} {ks : List Fr} (ho : ops.toList[i]? = some o) (hev : ev P n ops [o] σ (claims.map (·.2)) = some (σ', claims)) (hq : AllQ P u N claims) (S : St P n w0 M u N β σ a w)
    (K : ∀ a' w' β', St P n w0 M u N β' σ' a' w' → Cf.wp P Q (.ops ops (i + 1) ks) a' w') : Cf.wp P Q (.ops ops i ks) a w := by
  have ho' : ops[i]? = some o := by simpa using ho
  have hlt : i < ops.size := (Array.getElem?_eq_some_iff.1 ho').1
  have key := ev_sound (P := P) (n := n) (w0 := w0) (M := M) (u := u) (N := N) (ops := ops) (Q := wpF P Q ks) σ' (List.range' (i + 1) (ops.size - (i + 1))) [o] i σ a w β claims
    (fun t o1 ht => by
      cases t with
      | zero => simp at ht; subst ht; simpa using ho'
      | succ t => simp at ht) hev hq S (fun a' w' β' S' => K a' w' β' S')
  show RG P ops (wpF P Q ks) i a w
  unfold RG
  rw [show ops.size - i = 1 + (ops.size - (i + 1)) by omega, ← List.range'_append_1]
  exact key
theorem ev_asks {ops : Array Oper} {o : Oper} {σ' : Sy} {l : List (Ask × Value)} {claims : List (Ask × Value)} {q : Ask} {v : Value} (h : ev P n ops [o] σ (((q, v) :: claims).map (·.2) |>.take 1) = some (σ', l)) {q' : Ask} {x : Value} {r : List (Ask × Value)} (e : l = (q', x) :: r) : l = [(q', v)] := by
  subst e
  simp only [List.map_cons, List.take_succ_cons, List.take_zero, ev] at h
  split at h
  · cases h
  · cases hp : σ.put n o.dst (.v undef) with
    | none => rw [hp] at h; cases h
    | some σ1 => rw [hp] at h; simp at h
  · split at h
    · cases h
    · rename_i x' hx
      cases hp : σ.put n o.dst x' with
      | none => rw [hp] at h; cases h
      | some σ1 => rw [hp] at h; simp at h
    · rename_i q1 hx
      cases hp : σ.put n o.dst (.v v) with
      | none => rw [hp] at h; cases h
      | some σ1 =>
        rw [hp] at h
        simp only [Option.bind_some, Option.map_some, Option.some.injEq, Prod.mk.injEq, List.cons.injEq] at h
        obtain ⟨_, ⟨h1, h2⟩, h3⟩ := h
        rw [← h2, ← h3]
    · rename_i T cs hx
      cases hp : Sy.put n ⟨σ.env, σ.bx ++ [cs]⟩ o.dst (.p σ.bx.length 0) with
      | none => rw [hp] at h; cases h
      | some σ1 => rw [hp] at h; simp at h
    · split at h
      · simp at h
      · cases h
theorem ev_none {ops : Array Oper} {o : Oper} {σ' : Sy} {orc : List Value} (h : ev P n ops [o] σ orc = some (σ', [])) : ev P n ops [o] σ [] = some (σ', []) := by
  simp only [ev] at h ⊢
  split at h
  · cases h
  · assumption
  · split at h
    · cases h
    · exact h
    · cases orc with
      | nil => cases h
      | cons v r =>
        simp only at h
        cases hp : σ.put n o.dst (.v v) with
        | none => rw [hp] at h; cases h
        | some σ1 => rw [hp] at h; simp at h
    · assumption
    · split at h
      · assumption
      · cases h
theorem ev_nil {ops : Array Oper} {o : Oper} {σ' : Sy} {l : List (Ask × Value)} (h : ev P n ops [o] σ [] = some (σ', l)) : l = [] := by
  simp only [ev] at h
  split at h
  · cases h
  · cases hp : σ.put n o.dst (.v undef) with
    | none => rw [hp] at h; cases h
    | some σ1 => rw [hp] at h; simp at h; exact h.2
  · split at h
    · cases h
    · rename_i x' hx
      cases hp : σ.put n o.dst x' with
      | none => rw [hp] at h; cases h
      | some σ1 => rw [hp] at h; simp at h; exact h.2
    · cases h
    · rename_i T cs hx
      cases hp : Sy.put n ⟨σ.env, σ.bx ++ [cs]⟩ o.dst (.p σ.bx.length 0) with
      | none => rw [hp] at h; cases h
      | some σ1 => rw [hp] at h; simp at h; exact h.2
    · split at h
      · simp at h; exact h.2
      · cases h
theorem wpF_ret : ∀ ks : List Fr, wpF P Q ks .ret a w = Q .ret a w
  | [] => rfl
  | .seq _ :: r => wpF_ret r
  | .blk _ :: r => wpF_ret r
  | .sem _ :: r => wpF_ret r
theorem evD_vals {ops : Array Oper} {σ' : Sy} : ∀ (l : List Oper) (σ : Sy) (orc : List Value) (r : List (Ask × Value)), evD P n ops l σ orc = some (σ', r) → r.map (·.2) = orc.take r.length ∧ evD P n ops l σ (r.map (·.2)) = some (σ', r)
  | [], σ, orc, r, h => by
    simp only [evD, Option.some.injEq, Prod.mk.injEq] at h
    obtain ⟨rfl, rfl⟩ := h
    exact ⟨rfl, rfl⟩
  | o :: l, σ, orc, r, h => by
    have IH := evD_vals (ops := ops) (σ' := σ') l
    simp only [evD] at h ⊢
    split at h
    · cases h
    · cases hp : σ.put n o.dst (.v undef) with
      | none => rw [hp] at h; cases h
      | some σ1 => rw [hp] at h; simp only [Option.bind_some] at h ⊢; exact IH σ1 orc r h
    · split at h
      · rename_i hg x hx
        cases hp : σ.put n o.dst x with
        | none => rw [hp] at h; cases h
        | some σ1 => rw [hp] at h; simp only [Option.bind_some, hx, hp] at h ⊢; exact IH σ1 orc r h
      · rename_i hg q hx
        cases orc with
        | nil => cases h
        | cons v orc =>
          simp only at h
          cases hp : σ.put n o.dst (.v v) with
          | none => rw [hp] at h; cases h
          | some σ1 =>
            rw [hp] at h
            simp only [Option.bind_some] at h
            cases hr : evD P n ops l σ1 orc with
            | none => rw [hr] at h; cases h
            | some r' =>
              rw [hr] at h
              simp only [Option.map_some, Option.some.injEq, Prod.mk.injEq] at h
              obtain ⟨h1, h2⟩ := h
              subst h2
              have := IH σ1 orc r'.2 (by rw [hr, ← h1])
              refine ⟨by simp [this.1], ?_⟩
              simp only [List.map_cons, hx, hp, Option.bind_some, this.2, Option.map_some]
      · cases h
theorem pairs_eq {α β : Type} : ∀ {l m : List (α × β)}, l.map (·.1) = m.map (·.1) → l.map (·.2) = m.map (·.2) → l = m
  | [], [], _, _ => rfl
  | [], _ :: _, h, _ => by simp at h
  | _ :: _, [], h, _ => by simp at h
  | (a, b) :: l, (c, d) :: m, h, h' => by
    simp only [List.map_cons, List.cons.injEq] at h h'
    rw [h.1, h'.1, pairs_eq h.2 h'.2]
theorem AllQ.parts {l m : List (Ask × Value)} (h : AllQ P u N (l ++ m)) : AllQ P u N l ∧ AllQ P u N m := by
  induction l with
  | nil => exact ⟨trivial, h⟩
  | cons c l ih => exact ⟨⟨h.1, (ih h.2).1⟩, (ih h.2).2⟩
theorem St.dq (S : St P n w0 M u N β σ a w) {id : Nat} {ops : Array Oper} {σ' : Sy} {claims : List (Ask × Value)} (hq : AllQ P u N claims)
    (hm : P.follows .mixedOrders = true) (hB : Region.lexB .any ops = true)
    (hev : evD P n ops ops.toList σ (claims.map (·.2)) = some (σ', claims)) (K : ∀ a' w', St P n w0 M u N β σ' a' w' → Q .normal a' w') : (Code.region id ops true).wp P Q a w := by
  have S1 : St P n w0 M u N β σ a { w with drawn := w.drawn + 1 } := S.ext (Chg.draw NoB w _)
  refine wp_region_quiet (C := fun w' => Chg NoB { w with drawn := w.drawn + 1 } w') hm hB (Chg.refl _ _) ?_
  exact evD_sound _ σ' _ ops.toList σ a claims hev hq S1 fun a' S' w' hw' => K a' w' (S'.ext hw')
theorem adv_sound : ∀ (k : Nat) (cf : Cf) (σ : Sy) (claims : List (Ask × Value)) (a : Act) (w : World) (β : Nat → Nat),
    (adv P n k cf σ (claims.map (·.2))).asks = claims.map (·.1) → AllQ P u N claims → St P n w0 M u N β σ a w →
    (∀ a' w' β', St P n w0 M u N β' (adv P n k cf σ (claims.map (·.2))).σ a' w' → Cf.wp P Q (adv P n k cf σ (claims.map (·.2))).cf a' w') → Cf.wp P Q cf a w
  | 0, cf, σ, claims, a, w, β, _, _, S, K => K a w β S
  | k + 1, .code c ks, σ, claims, a, w, β, h, hq, S, K => by
    cases c with
    | skip => exact wp_skip (adv_sound k (.ex .normal ks) σ claims a w β h hq S K)
    | seq x y => exact wp_seq (adv_sound k (.code x (.seq y :: ks)) σ claims a w β h hq S K)
    | block id x => exact wp_block (adv_sound k (.code x (.blk id :: ks)) σ claims a w β h hq S K)
    | exit id => exact wp_exit (adv_sound k (.ex (.exit id) ks) σ claims a w β h hq S K)
    | ret => exact wp_ret (show wpF P Q ks .ret a w by rw [wpF_ret]; exact K a w β S)
    | cond c x y =>
      cases hc : σ.get c with
      | none => simp only [adv, hc] at K; exact K a w β S
      | some s =>
        cases s with
        | p k o => simp only [adv, hc] at K; exact K a w β S
        | v z =>
          cases z with
          | bool b =>
            simp only [adv, hc] at h K
            refine S.cond hc (fun e => ?_) (fun e => ?_) <;> subst e
            · exact adv_sound k (.code x ks) σ claims a w β h hq S K
            · exact adv_sound k (.code y ks) σ claims a w β h hq S K
          | _ => simp only [adv, hc] at K; exact K a w β S
    | region id ops d =>
      cases d with
      | false => exact RG.start (adv_sound k (.ops ops 0 ks) σ claims a w β h hq S K)
      | true =>
        simp only [adv] at h K
        cases hb : (P.follows .mixedOrders && Region.lexB .any ops) with
        | false => simp only [hb, cond_false] at K; exact K a w β S
        | true =>
          simp only [hb, cond_true] at h K
          simp only [Bool.and_eq_true] at hb
          cases he : evD P n ops ops.toList σ (claims.map (·.2)) with
          | none => simp only [he] at K; exact K a w β S
          | some r =>
            obtain ⟨σ', l⟩ := r
            simp only [he] at h K
            obtain ⟨h1, h2⟩ := evD_vals _ _ _ _ he
            have hl : l = claims.take l.length := by
              refine pairs_eq ?_ ?_
              · have := congrArg (List.take l.length) h
                rw [List.take_left' (by simp)] at this
                rw [this, List.map_take]
              · rw [h1, List.map_take]
            have hc : claims = l ++ claims.drop l.length := by
              conv => lhs; rw [← List.take_append_drop l.length claims]
              rw [← hl]
            generalize claims.drop l.length = cl at hc
            subst hc
            have hd : (List.map (fun x => x.2) (l ++ cl)).drop l.length = cl.map (·.2) := by
              rw [List.map_append, List.drop_left' (by simp)]
            rw [hd] at h K
            rw [List.map_append] at h
            have h' := List.append_cancel_left h
            have hq' := hq.parts
            exact S.dq hq'.1 hb.1 hb.2 h2 (fun a' w' S' => adv_sound k (.ex .normal ks) σ' cl a' w' β h' hq'.2 S' K)
    | _ => exact K a w β S
  | k + 1, .ops ops i ks, σ, claims, a, w, β, h, hq, S, K => by
    simp only [adv] at h K
    cases ho : ops.toList[i]? with
    | none =>
      simp only [ho] at h K
      have hle : ops.size ≤ i := by
        have := List.getElem?_eq_none_iff.1 ho
        simpa using this
      refine RG.done (Nat.ble_eq_true_of_le hle) ?_
      exact adv_sound k (.ex .normal ks) σ claims a w β h hq S K
    | some o =>
      simp only [ho] at h K
      cases he : ev P n ops [o] σ ((claims.map (·.2)).take 1) with
      | none => simp only [he] at K; exact K a w β S
      | some r =>
        obtain ⟨σ', l⟩ := r
        simp only [he] at h K
        cases l with
        | nil =>
          simp only at h K
          exact evo1 (claims := []) ho (ev_none he) .nil S (fun a' w' β' S' => adv_sound k _ σ' claims a' w' β' h hq S' K)
        | cons c l =>
          obtain ⟨q, x⟩ := c
          simp only at h K
          cases claims with
          | nil => exact absurd (ev_nil he) (by simp)
          | cons c cl =>
            obtain ⟨q', v⟩ := c
            have hl := ev_asks he rfl
            rw [hl] at he
            simp only [List.map_cons, List.drop_succ_cons, List.drop_zero, List.cons.injEq] at h K
            obtain ⟨h1, h2⟩ := h
            subst h1
            exact evo1 (claims := [(q, v)]) ho he ⟨hq.1, trivial⟩ S (fun a' w' β' S' => adv_sound k _ σ' cl a' w' β' h2 hq.2 S' K)
  | k + 1, .ex e ks, σ, claims, a, w, β, h, hq, S, K => by
    cases e with
    | normal =>
      cases ks with
      | nil => exact K a w β S
      | cons f r =>
        cases f with
        | seq y => exact adv_sound k (.code y r) σ claims a w β h hq S K
        | blk id => exact adv_sound k (.ex .normal r) σ claims a w β h hq S K
        | sem f => exact K a w β S
    | exit id =>
      cases ks with
      | nil => exact K a w β S
      | cons f r =>
        cases f with
        | seq y => exact adv_sound k (.ex (.exit id) r) σ claims a w β h hq S K
        | sem f => exact adv_sound k (.ex (.exit id) r) σ claims a w β h hq S K
        | blk id' =>
          simp only [adv] at h K
          show (if id = id' then wpF P Q r .normal a w else wpF P Q r (.exit id) a w)
          cases hb : Nat.beq id id' with
          | true =>
            simp only [hb, cond_true] at h K
            rw [if_pos (Nat.eq_of_beq_eq_true hb)]
            exact adv_sound k (.ex .normal r) σ claims a w β h hq S K
          | false =>
            simp only [hb, cond_false] at h K
            rw [if_neg (fun e => by subst e; simp at hb)]
            exact adv_sound k (.ex (.exit id) r) σ claims a w β h hq S K
    | ret =>
      show wpF P Q ks .ret a w
      rw [wpF_ret]
      exact K a w β S
    | _ => exact K a w β S
def Rs.go (P : Program) (n k : Nat) (vs : List Value) (r : Rs) : Rs := adv P n k r.cf r.σ vs
structure Gl (P : Program) (Q : Exit → Act → World → Prop) (r : Rs) (a : Act) (w : World) : Prop where
  ok : Cf.wp P Q r.cf a w
def Cf.ks : Cf → List Fr
  | .ops _ _ k => k
  | .code _ k => k
  | .ex _ k => k
structure Aft (P : Program) (Q : Exit → Act → World → Prop) (r : Rs) (e : Exit) (a : Act) (w : World) : Prop where
  ok : wpF P Q r.cf.ks e a w
theorem St.go {r : Rs} (S : St P n w0 M u N β r.σ a w) (k : Nat) {claims : List (Ask × Value)} (hq : AllQ P u N claims)
    (K : ∀ a' w' β', St P n w0 M u N β' (r.go P n k (claims.map (·.2))).σ a' w' → Gl P Q (r.go P n k (claims.map (·.2))) a' w')
    (h : (r.go P n k (claims.map (·.2))).asks = claims.map (·.1) := by kernel_rfl) : Gl P Q r a w := ⟨adv_sound k r.cf r.σ claims a w β h hq S fun a' w' β' S' => (K a' w' β' S').ok⟩
def Cf.tst : Cf → Option Tmp
  | .code (.cond (.tmp t) _ _) _ => some t
  | .ops l i _ => match l.toList[i]? with
    | some o => match o.guard with
      | some (j, _) => (l.toList[j]?).bind (·.dst)
      | none => match o.op with
        | .pick (.tmp t) _ _ => some t
        | _ => none
    | none => none
  | _ => none
def Rs.cval (r : Rs) : Option Bool :=
  match r.cf.tst with
  | some t => match look r.σ.env t with
    | some (.v (.bool e)) => some e
    | _ => none
  | none => none
def Sy.lit (σ : Sy) (t : Option Tmp) (b : Bool) : Sy :=
  match t with
  | some t => ⟨(t, .v (.bool b)) :: σ.env, σ.bx⟩
  | none => σ
def Rs.lit (r : Rs) (b : Bool) : Rs := ⟨r.cf, r.σ.lit r.cf.tst b, []⟩
def Rs.lt (r : Rs) (t : Tmp) (b : Bool) : Rs := ⟨r.cf, r.σ.lit (some t) b, []⟩
theorem St.lit (S : St P n w0 M u N β σ a w) (t : Tmp) {e b : Bool} (h : e = b) (he : look σ.env t = some (.v (.bool e)) := by kernel_rfl) : St P n w0 M u N β (σ.lit (some t) b) a w := by
  subst h
  refine ⟨S.df, S.sz, fun t' s hs => ?_, fun t' k o hs => ?_, S.box, S.inj, S.new, S.sep, S.chg, S.old⟩
  · simp only [Sy.lit, look_cons] at hs
    split at hs
    · rename_i e'; subst e'
      simp at hs; subst hs
      exact S.env _ _ he
    · exact S.env t' s hs
  · simp only [Sy.lit, look_cons] at hs
    split at hs
    · cases hs
    · exact S.ok t' k o hs
theorem St.lt {r : Rs} (S : St P n w0 M u N β r.σ a w) (t : Tmp) {e b : Bool} (h : e = b) (K : St P n w0 M u N β (r.lt t b).σ a w → Gl P Q (r.lt t b) a w) (he : look r.σ.env t = some (.v (.bool e)) := by kernel_rfl) : Gl P Q r a w := ⟨(K (S.lit t h he)).ok⟩
theorem St.gb {r : Rs} (S : St P n w0 M u N β r.σ a w) (k : Nat) {claims : List (Ask × Value)} (hq : AllQ P u N claims) (e : Bool)
    (ht : ∀ a' w' β', e = true → St P n w0 M u N β' ((r.go P n k (claims.map (·.2))).lit true).σ a' w' → Gl P Q ((r.go P n k (claims.map (·.2))).lit true) a' w')
    (hf : ∀ a' w' β', e = false → St P n w0 M u N β' ((r.go P n k (claims.map (·.2))).lit false).σ a' w' → Gl P Q ((r.go P n k (claims.map (·.2))).lit false) a' w')
    (h : (r.go P n k (claims.map (·.2))).asks = claims.map (·.1) := by kernel_rfl) (h' : (r.go P n k (claims.map (·.2))).cval = some e := by kernel_rfl) : Gl P Q r a w :=
  S.go k hq (fun a' w' β' S' => by
    generalize r.go P n k (claims.map (·.2)) = r' at *
    unfold Rs.cval at h'
    split at h'
    · rename_i t h1
      split at h'
      · rename_i e' h2
        simp at h'; subst h'
        have e1 : ∀ b, r'.lit b = ⟨r'.cf, r'.σ.lit (some t) b, []⟩ := fun b => by unfold Rs.lit; rw [h1]
        cases e' with
        | true => rw [e1] at ht; exact ⟨(ht a' w' β' rfl (S'.lit t rfl h2)).ok⟩
        | false => rw [e1] at hf; exact ⟨(hf a' w' β' rfl (S'.lit t rfl h2)).ok⟩
      · cases h'
    · cases h') h
class Rf (e : Bool) (T F : outParam Prop) : Prop where
  t : e = true → T
  f : e = false → F
instance (p : Prop) [Decidable p] : Rf (decide p) p (¬ p) := ⟨of_decide_eq_true, of_decide_eq_false⟩
instance {α : Type} [BEq α] [LawfulBEq α] (x y : α) : Rf (x == y) (x = y) (¬ x = y) := ⟨eq_of_beq, ne_of_beq_false⟩
instance {α : Type} [BEq α] [LawfulBEq α] (x y : α) : Rf (x != y) (¬ x = y) (x = y) := ⟨fun h => bne_iff_ne.1 h, fun h => by simpa using h⟩
theorem St.gd {r : Rs} (S : St P n w0 M u N β r.σ a w) (k : Nat) {claims : List (Ask × Value)} (hq : AllQ P u N claims) (e : Bool) {T F : Prop} [Rf e T F]
    (ht : ∀ a' w' β', e = true → T → St P n w0 M u N β' ((r.go P n k (claims.map (·.2))).lit true).σ a' w' → Gl P Q ((r.go P n k (claims.map (·.2))).lit true) a' w')
    (hf : ∀ a' w' β', e = false → F → St P n w0 M u N β' ((r.go P n k (claims.map (·.2))).lit false).σ a' w' → Gl P Q ((r.go P n k (claims.map (·.2))).lit false) a' w')
    (h : (r.go P n k (claims.map (·.2))).asks = claims.map (·.1) := by kernel_rfl) (h' : (r.go P n k (claims.map (·.2))).cval = some e := by kernel_rfl) : Gl P Q r a w :=
  S.gb k hq e (fun a' w' β' h => ht a' w' β' h (Rf.t h)) (fun a' w' β' h => hf a' w' β' h (Rf.f h)) h h'
def Cf.atRet : Cf → Bool
  | .ex .ret [] => true
  | .ex .normal [] => true
  | _ => false
theorem at_ret {cf : Cf} (h : cf.atRet = true) {fn : Func} {R : Ending → World → Prop} (h1 : bodyPost P fn R .ret a w) (h2 : bodyPost P fn R .normal a w) : Cf.wp P (bodyPost P fn R) cf a w := by
  unfold Cf.atRet at h
  split at h
  · exact h1
  · exact h2
  · cases h
theorem St.gr {r : Rs} (S : St P n w0 M u N β r.σ a w) (k : Nat) {claims : List (Ask × Value)} (hq : AllQ P u N claims) {fn : Func} {R : Ending → World → Prop} (vs : List Value)
    (K : ∀ a' w' β', St P n w0 M u N β' (r.go P n k (claims.map (·.2))).σ a' w' → R (.returned (packed vs)) w')
    (h : (r.go P n k (claims.map (·.2))).asks = claims.map (·.1) := by kernel_rfl) (hr : (r.go P n k (claims.map (·.2))).cf.atRet = true := by kernel_rfl)
    (hv : resVals P (r.go P n k (claims.map (·.2))).σ fn.results.toList = some vs := by kernel_rfl) : Gl P (bodyPost P fn R) r a w :=
  S.go k hq (fun a' w' β' S' => ⟨at_ret hr (S'.ret hv (K a' w' β' S')) (S'.fall hv (K a' w' β' S'))⟩) h
theorem St.gf {X : Ending} {r : Rs} (S : St P n w0 M u N β r.σ a w) (k : Nat) {claims : List (Ask × Value)} (hq : AllQ P u N claims) (vs : List Value) {fn : Func} (e : Ending.returned (packed vs) = X)
    (h : (r.go P n k (claims.map (·.2))).asks = claims.map (·.1) := by kernel_rfl) (hr : (r.go P n k (claims.map (·.2))).cf.atRet = true := by kernel_rfl)
    (hv : resVals P (r.go P n k (claims.map (·.2))).σ fn.results.toList = some vs := by kernel_rfl) : Gl P (bodyPost P fn (fun e w' => e = X ∧ Chg M w0 w')) r a w :=
  S.gr k hq vs (fun a' w' β' S' => ⟨e, S'.chg⟩) h hr hv
def Cf.start (fn : Func) : Cf := .code (fn.body.getD .skip) []
def Rs.start (fn : Func) (args : List Value) : Rs := ⟨.start fn, ⟨argEnv 0 args, []⟩, []⟩
theorem Calls.run {f : FuncId} {fn : Func} {args : List Value} {R : Ending → World → Prop} (M : Bl) (hf : P.funcs[f]? = some fn)
    (h : ∀ a β, St P fn.ntmps w M w (Lt w.heap.size) β (Rs.start fn args).σ a w → Gl P (bodyPost P fn R) (Rs.start fn args) a w)
    (hb : fn.body.isSome = true := by kernel_rfl) (hn : Nat.ble args.length fn.ntmps = true := by kernel_rfl) : Calls P f args.toArray w R := by
  cases e : fn.body with
  | none => rw [e] at hb; cases hb
  | some c =>
    refine Calls.walk M hf e hn fun a β S => ?_
    have := (h a β S).ok
    simp only [Rs.start, Cf.start, e, Option.getD_some] at this
    exact this
def Cf.opsOf : Cf → Array Oper
  | .ops o _ _ => o
  | .code (.region _ o _) _ => o
  | _ => #[]
def Cf.idx : Cf → Nat
  | .ops _ i _ => i
  | _ => 0
def Cf.isOp : Cf → Bool
  | .ops o i _ => Nat.blt i o.size
  | _ => false
def Cf.nxt : Cf → Cf
  | .ops o i k => .ops o (i + 1) k
  | cf => cf
def Rs.put (r : Rs) (d : Tmp) (v : Value) : Rs := ⟨r.cf.nxt, ⟨(d, .v v) :: r.σ.env, r.σ.bx⟩, []⟩
def Rs.nx (r : Rs) : Rs := ⟨r.cf.nxt, r.σ, []⟩
def Rs.tell (r : Rs) (σ : Sy) : Rs := ⟨r.cf, σ, []⟩
def Rs.aft (r : Rs) (σ : Sy) : Rs := ⟨.ex .normal r.cf.ks, σ, []⟩
theorem lo (h : wpOp P cf.opsOf (wpF P Q cf.ks) cf.idx (fun a' w' => Cf.wp P Q cf.nxt a' w') a w) (hb : cf.isOp = true) : Cf.wp P Q cf a w := by
  cases cf with
  | ops o i k => exact RG.op hb h
  | _ => cases hb
abbrev Rs.op (P : Program) (Q : Exit → Act → World → Prop) (r : Rs) (K : Act → World → Prop) (a : Act) (w : World) : Prop := wpOp P r.cf.opsOf (wpF P Q r.cf.ks) r.cf.idx K a w
theorem St.is (S : St P n w0 M u N β σ a w) {r : Rs} (K : St P n w0 M u N β (r.tell σ).σ a w → Gl P Q (r.tell σ) a w) : Gl P Q r a w := ⟨(K S).ok⟩
def Cf.isLoop : Cf → Bool
  | .code (.loop _) _ => true
  | _ => false
def Cf.body : Cf → Code
  | .code (.loop c) _ => c
  | _ => .skip
def Rs.rnd (r : Rs) (f : Act → World → Prop) (σ : Sy) : Rs := ⟨.code r.cf.body (.sem f :: r.cf.ks), σ, []⟩
structure Rd1 (P : Program) (Q : Exit → Act → World → Prop) (r : Rs) (f : Act → World → Prop) (a : Act) (w : World) : Prop where
  ok : Cf.wp P Q (.code r.cf.body (.sem f :: r.cf.ks)) a w
structure Nxt (Inv : Nat → Act → World → Prop) (m : Nat) (f : Act → World → Prop) where
  of : ∀ m' a w, m' < m → Inv m' a w → f a w
theorem lp {r : Rs} (Inv : Nat → Act → World → Prop) (m : Nat) (h0 : Inv m a w) (round : ∀ (f : Act → World → Prop) m, Nxt Inv m f → ∀ a w, Inv m a w → Rd1 P Q r f a w) (h : r.cf.isLoop = true := by kernel_rfl) : Gl P Q r a w := by
  have round' := fun f m hf a w hI => (round f m hf a w hI).ok
  refine ⟨?_⟩
  generalize r.cf = cf at *
  unfold Cf.isLoop at h
  split at h
  · exact wp_loop_down Inv m h0 fun m a w hI => round' _ m ⟨fun m' a w hlt h => ⟨m', hlt, h⟩⟩ a w hI
  · cases h
theorem St.rs (S : St P n w0 M u N β σ a w) {r : Rs} {f : Act → World → Prop} (K : St P n w0 M u N β (r.rnd f σ).σ a w → Gl P Q (r.rnd f σ) a w) : Rd1 P Q r f a w := ⟨(K S).ok⟩
def Cf.atSem : Cf → Option (Act → World → Prop)
  | .ex .normal (.sem f :: _) => some f
  | _ => none
theorem St.ge {r : Rs} (S : St P n w0 M u N β r.σ a w) (k : Nat) {claims : List (Ask × Value)} (hq : AllQ P u N claims) (f : Act → World → Prop)
    (K : ∀ a' w' β', St P n w0 M u N β' (r.go P n k (claims.map (·.2))).σ a' w' → f a' w')
    (h : (r.go P n k (claims.map (·.2))).asks = claims.map (·.1) := by kernel_rfl) (hs : (r.go P n k (claims.map (·.2))).cf.atSem = some f := by kernel_rfl) : Gl P Q r a w :=
  S.go k hq (fun a' w' β' S' => ⟨by
    generalize (r.go P n k (claims.map (·.2))).cf = c at hs
    unfold Cf.atSem at hs
    split at hs
    · simp at hs; subst hs; exact K a' w' β' S'
    · cases hs⟩) h
def Cf.cod : Cf → Code
  | .code c _ => c
  | _ => .skip
def Cf.isCode : Cf → Bool
  | .code _ _ => true
  | _ => false
def Rs.pc (r : Rs) : Rs := ⟨.code r.cf.cod [], r.σ, []⟩
theorem cutC {r : Rs} (S : St P n w0 M u N β r.σ a w) (I : Act → World → Prop) (h : St P n w0 M u N β r.pc.σ a w → Gl P (NQ I) r.pc a w) (k : ∀ a w, I a w → Aft P Q r .normal a w) (hc : r.cf.isCode = true := by kernel_rfl) : Gl P Q r a w := by
  have h := (h S).ok
  have k' := fun a w hI => (k a w hI).ok
  refine ⟨?_⟩
  unfold Rs.pc at h
  simp only at h
  generalize r.cf = cf at *
  cases cf with
  | code c ks => exact wp_region_cut I h k'
  | _ => cases hc
def Cf.rid : Cf → Nat
  | .code (.region id _ _) _ => id
  | _ => 0
def Cf.isDrawn : Cf → Bool
  | .code (.region _ _ true) _ => true
  | _ => false
theorem drw {r : Rs} (h : (Code.region r.cf.rid r.cf.opsOf true).wp P (Aft P Q r) a w) (hc : r.cf.isDrawn = true := by kernel_rfl) : Gl P Q r a w := by
  have h := Code.wp_mono (Q' := wpF P Q r.cf.ks) (fun _ _ _ h => h.ok) h
  refine ⟨?_⟩
  generalize r.cf = cf at *
  unfold Cf.isDrawn at hc
  split at hc
  · exact h
  · cases hc
theorem St.ex (S : St P n w0 M u N β σ a w) {r : Rs} (K : St P n w0 M u N β (r.aft σ).σ a w → Gl P Q (r.aft σ) a w) : Aft P Q r .normal a w := ⟨(K S).ok⟩
def Cf.atEnd : Cf → Bool
  | .ex .normal [] => true
  | _ => false
theorem St.gn {r : Rs} (S : St P n w0 M u N β r.σ a w) (k : Nat) {claims : List (Ask × Value)} (hq : AllQ P u N claims)
    (K : ∀ a' w' β', St P n w0 M u N β' (r.go P n k (claims.map (·.2))).σ a' w' → Q .normal a' w')
    (h : (r.go P n k (claims.map (·.2))).asks = claims.map (·.1) := by kernel_rfl) (hs : (r.go P n k (claims.map (·.2))).cf.atEnd = true := by kernel_rfl) : Gl P Q r a w :=
  S.go k hq (fun a' w' β' S' => ⟨by
    generalize (r.go P n k (claims.map (·.2))).cf = c at hs
    unfold Cf.atEnd at hs
    split at hs
    · exact K a' w' β' S'
    · cases hs⟩) h
end
attribute [irreducible] Rs.go adv
end Go.Proofs.Ytgonaioedbphgaa
