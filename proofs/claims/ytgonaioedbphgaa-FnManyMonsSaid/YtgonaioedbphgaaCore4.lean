/- Steps of a walk over symbolic states: quiet operations, tests, calls, the entry and the end of a function, loops. No program is named here. -/
import Derived.Test.YtgonaioedbphgaaCore3
namespace Go.Proofs.Ytgonaioedbphgaa
open Go
def RG (P : Program) (ops : Array Oper) (Q : Exit → Act → World → Prop) (i : Nat) (a : Act) (w : World) : Prop :=
  wpOps P ops Q (List.range' i (ops.size - i)) a w
section
variable {P : Program} {n : Nat} {w0 : World} {M : Bl} {u : World} {N : Bl} {β : Nat → Nat} {σ σ' : Sy} {a : Act} {w : World} {ops : Array Oper} {Q : Exit → Act → World → Prop}
theorem RG.start {id : Nat} (h : RG P ops Q 0 a w) : (Code.region id ops false).wp P Q a w := by
  refine wp_region ?_
  rw [List.range_eq_range']
  exact h
theorem RG.done {i : Nat} (hi : Nat.ble ops.size i = true) (h : Q .normal a w) : RG P ops Q i a w := by
  have : ops.size ≤ i := Nat.le_of_ble_eq_true hi
  unfold RG
  rw [show ops.size - i = 0 by omega]
  exact h
theorem guard_ok (S : St P n w0 M u N β σ a w) {o : Oper} {b : Bool} (h : guardv ops σ o = some b) : Region.wanted o (yielded ops a.tmps) = b := by
  unfold guardv at h
  unfold Region.wanted
  split at h
  · rename_i hg; rw [hg]; simpa using h
  · rename_i j want hg
    rw [hg]
    split at h
    · cases h
    · rename_i d hd
      have hd' : (ops[j]?).bind (·.dst) = some d := by simpa using hd
      split at h
      · rename_i c hl
        have := S.env d _ hl
        simp only [SV.val] at this
        simp only [yielded, hd', Option.bind_some, this]
        simp at h
        subst h
        cases want <;> cases c <;> rfl
      · rename_i vs hl
        have := S.env d _ hl
        simp only [SV.val] at this
        simp only [yielded, hd', Option.bind_some, this]
        simp at h
        subst h
        cases want <;> rfl
      · cases h
theorem ev_sound (σ' : Sy) (rest : List Nat) : ∀ (l : List Oper) (j : Nat) (σ : Sy) (a : Act) (w : World) (β : Nat → Nat) (claims : List (Ask × Value)),
    (∀ t o, l[t]? = some o → ops[j + t]? = some o) → ev P n ops l σ (claims.map (·.2)) = some (σ', claims) → AllQ P u N claims → St P n w0 M u N β σ a w →
    (∀ a' w' β', St P n w0 M u N β' σ' a' w' → wpOps P ops Q rest a' w') → wpOps P ops Q (List.range' j l.length ++ rest) a w
  | [], j, σ, a, w, β, claims, _, hev, _, S, K => by
    simp only [ev, Option.some.injEq, Prod.mk.injEq] at hev
    obtain ⟨rfl, _⟩ := hev
    exact K a w β S
  | o :: l, j, σ, a, w, β, claims, hl, hev, hq, S, K => by
    have ho : ops[j]? = some o := by simpa using hl 0 o rfl
    have hl' : ∀ t o', l[t]? = some o' → ops[j + 1 + t]? = some o' := fun t o' ht => by
      have := hl (t + 1) o' (by simpa using ht)
      rwa [show j + 1 + t = j + (t + 1) by omega]
    have IH := ev_sound σ' rest l (j + 1)
    simp only [List.length_cons, List.range'_succ, List.cons_append]
    rw [wpOps_cons]
    unfold wpOp
    simp only [ho]
    simp only [ev] at hev
    split at hev
    · cases hev
    · rename_i hg
      rw [guard_ok S hg]
      simp only [Bool.false_eq_true, if_false]
      cases hp : σ.put n o.dst (.v undef) with
      | none => rw [hp] at hev; cases hev
      | some σ1 =>
        rw [hp] at hev
        exact IH σ1 _ w β claims hl' hev hq (S.put hp (fun _ _ e => by cases e)) K
    · rename_i hg
      rw [guard_ok S hg]
      simp only [if_true]
      left
      unfold Oper.wp
      split at hev
      · cases hev
      · rename_i x hx
        obtain ⟨h1, h2⟩ := op_says S hx
        rw [h1]
        simp only [Oper.upon]
        cases hp : σ.put n o.dst x with
        | none => rw [hp] at hev; cases hev
        | some σ1 =>
          rw [hp] at hev
          exact IH σ1 _ w β claims hl' hev hq (S.put hp h2) K
      · rename_i q hx
        have h1 := op_says S hx
        split at hev
        · cases hev
        · rename_i v orc he
          cases hp : σ.put n o.dst (.v v) with
          | none => rw [hp] at hev; cases hev
          | some σ1 =>
            rw [hp] at hev
            simp only [Option.bind_some] at hev
            cases hr : ev P n ops l σ1 orc with
            | none => rw [hr] at hev; cases hev
            | some r =>
              rw [hr] at hev
              simp only [Option.map_some, Option.some.injEq, Prod.mk.injEq] at hev
              obtain ⟨e1, e2⟩ := hev
              subst e2
              simp only [List.map_cons, List.cons.injEq, true_and] at he
              have hput := S.put hp (fun _ _ e => by cases e)
              have fin : ∀ w', Chg NoB w w' → wpOps P ops Q (List.range' (j + 1) l.length ++ rest) (a.put o.dst v) w' := fun w' hch =>
                IH σ1 _ w' β r.2 hl' (by rw [he, hr, ← e1]) hq.2 (hput.ext hch) K
              cases q with
              | call f args =>
                simp only [Says] at h1
                rw [h1, Oper.upon_enter]
                refine (hq.1 w (fun b hb => ⟨(S.sep b hb).1, (S.sep b hb).2.1⟩)).mono fun e w' ⟨h3, h4⟩ => ?_
                subst h3
                exact fin w' h4
              | _ =>
                have h2 := h1 v (hq.1 w (fun b hb => (S.sep b hb).2.1))
                rw [h2]
                exact fin w (Chg.refl _ _)
      · rename_i T cs hx
        have h1 := op_says S hx
        rw [h1]
        simp only [Oper.upon]
        have S1 := S.push cs T
        cases hp : Sy.put n ⟨σ.env, σ.bx ++ [cs]⟩ o.dst (.p σ.bx.length 0) with
        | none => rw [hp] at hev; cases hev
        | some σ1 =>
          rw [hp] at hev
          have S2 := S1.put hp (fun k o e => by cases e; simp)
          have e : (SV.p σ.bx.length 0).val (fun k => if k = σ.bx.length then w.heap.size else β k) = pt w.heap.size 0 := by simp [SV.val]
          rw [e] at S2
          exact IH σ1 _ _ _ claims hl' hev hq S2 K
      · rename_i k cs hx
        obtain ⟨h1, old, h2⟩ := op_says S hx
        rw [h1]
        simp only [Oper.upon]
        split at hev
        · rename_i hd
          rw [hd]
          exact IH _ _ _ β claims hl' hev hq (S.poke h2) K
        · cases hev
theorem look_keep (m : Nat) : ∀ (l : List Nat) (t : Nat) (s : SV), look (σ.keep m l) t = some s → look σ.env t = some s ∧ ∀ k o, s = .p k o → k < m
  | [], t, s, h => by simp [Sy.keep, look] at h
  | x :: r, t, s, h => by
    unfold Sy.keep at h
    split at h
    · rename_i v hv
      rw [look_cons] at h
      split at h
      · rename_i e; subst e
        simp at h; subst h
        exact ⟨hv, fun _ _ e => by cases e⟩
      · exact look_keep m r t s h
    · rename_i k o hv
      cases hb : Nat.blt k m with
      | false => rw [hb] at h; exact look_keep m r t s h
      | true =>
        rw [hb] at h
        simp only [cond_true, look_cons] at h
        split at h
        · rename_i e; subst e
          simp at h; subst h
          exact ⟨hv, fun _ _ e => by cases e; exact Nat.le_of_ble_eq_true hb⟩
        · exact look_keep m r t s h
    · exact look_keep m r t s h
theorem St.weaken (S : St P n w0 M u N β σ a w) (m : Nat) (l : List Nat) (hm : ∀ t k o, look (σ.keep m l) t = some (.p k o) → k < (σ.bx.take m).length) : St P n w0 M u N β ⟨σ.keep m l, σ.bx.take m⟩ a w := by
  have hle : (σ.bx.take m).length ≤ σ.bx.length := by simp; omega
  refine ⟨S.df, S.sz, fun t s h => S.env t s (look_keep m l t s h).1, hm, fun k cs h => S.box k cs ?_, fun j k hj hk => S.inj j k (Nat.lt_of_lt_of_le hj hle) (Nat.lt_of_lt_of_le hk hle), fun k hk => S.new k (Nat.lt_of_lt_of_le hk hle), fun b hb => ?_, S.chg, S.old⟩
  · rw [List.getElem?_take] at h
    split at h
    · exact h
    · cases h
  · obtain ⟨h1, h2, h3⟩ := S.sep b hb
    exact ⟨h1, h2, fun k hk => h3 k (Nat.lt_of_lt_of_le hk hle)⟩
theorem St.quiet (S : St P n w0 M u N β σ a w) {i k : Nat} {claims : List (Ask × Value)} {keep : List Nat} {m : Nat} (hq : AllQ P u N claims)
    (hev : evK P n ops i k σ (claims.map (·.2)) keep m = some (σ', claims)) (K : ∀ a' w' β', St P n w0 M u N β' σ' a' w' → RG P ops Q (i + k) a' w') : RG P ops Q i a w := by
  unfold evK at hev
  cases hb : Nat.ble (i + k) ops.size with
  | false => rw [hb] at hev; cases hev
  | true =>
    rw [hb] at hev
    simp only [cond_true] at hev
    have hle : i + k ≤ ops.size := Nat.le_of_ble_eq_true hb
    cases hr : ev P n ops ((ops.toList.drop i).take k) σ (claims.map (·.2)) with
    | none => rw [hr] at hev; cases hev
    | some r =>
      rw [hr] at hev
      simp only [Option.map_some, Option.some.injEq, Prod.mk.injEq] at hev
      obtain ⟨e1, e2⟩ := hev
      have hlen : ((ops.toList.drop i).take k).length = k := by simp; omega
      have key := ev_sound (P := P) (n := n) (w0 := w0) (M := M) (u := u) (N := N) (ops := ops) (Q := Q) r.1 (List.range' (i + k) (ops.size - (i + k))) ((ops.toList.drop i).take k) i σ a w β claims
        (fun t o ht => by
          rw [List.getElem?_take] at ht
          split at ht
          · rw [List.getElem?_drop] at ht; simpa using ht
          · cases ht) (by rw [hr, ← e2]) hq S (fun a' w' β' S' => ?_)
      · rw [hlen] at key
        unfold RG
        rwa [show ops.size - i = k + (ops.size - (i + k)) by omega, ← List.range'_append_1]
      · subst e1
        refine K a' w' β' (S'.weaken m keep fun t k' o' h => ?_)
        have h1 := look_keep m keep t _ h
        have h2 := S'.ok t k' o' h1.1
        have h3 := h1.2 k' o' rfl
        simp; omega
end
end Go.Proofs.Ytgonaioedbphgaa
