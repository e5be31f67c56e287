/- Steps of a walk, on: entry and return, tests, jumps, loops, calls. No program is named here. -/
import Derived.Test.YtgonaioedbphgaaCore4
namespace Go.Proofs.Ytgonaioedbphgaa
open Go
def KK : Nat := 4194304
def KR : Nat := 9223372036854775807
section jumps
variable {next : Act → World → Prop} {Q : Exit → Act → World → Prop} {a : Act} {w : World}
end jumps
section
variable {P : Program} {n : Nat} {w0 : World} {M : Bl} {u : World} {N : Bl} {β : Nat → Nat} {σ σ' : Sy} {a : Act} {w : World} {ops : Array Oper} {Q : Exit → Act → World → Prop} {K' : Act → World → Prop}
def argEnv : Nat → List Value → Env
  | _, [] => []
  | k, v :: r => (k, .v v) :: argEnv (k + 1) r
theorem look_argEnv : ∀ (l : List Value) (k t : Nat) (s : SV), look (argEnv k l) t = some s → ∃ v, s = .v v ∧ k ≤ t ∧ l[t - k]? = some v
  | [], k, t, s, h => by simp [argEnv, look] at h
  | v :: r, k, t, s, h => by
    simp only [argEnv, look_cons] at h
    split at h
    · rename_i e; subst e
      simp at h
      exact ⟨v, h.symm, Nat.le_refl _, by simp⟩
    · obtain ⟨x, h1, h2, h3⟩ := look_argEnv r (k + 1) t s h
      refine ⟨x, h1, by omega, ?_⟩
      rw [show t - k = (t - (k + 1)) + 1 by omega]
      simpa using h3
theorem Calls.walk {f : FuncId} {fn : Func} {c : Code} {args : List Value} {R : Ending → World → Prop} (M : Bl) (hf : P.funcs[f]? = some fn) (hb : fn.body = some c) (hn : Nat.ble args.length fn.ntmps = true)
    (h : ∀ a β, St P fn.ntmps w M w (Lt w.heap.size) β ⟨argEnv 0 args, []⟩ a w → c.wp P (bodyPost P fn R) a w) : Calls P f args.toArray w R := by
  have hle : args.length ≤ fn.ntmps := Nat.le_of_ble_eq_true hn
  refine calls_of_wp hf hb (h _ (fun _ => 0) ⟨rfl, by simp; omega, fun t s ht => ?_, fun t k o ht => ?_, fun k cs hk => by simp at hk, fun _ _ hj => by simp at hj, fun _ hk => by simp at hk, fun b hb => ⟨hb, rfl, fun _ hk => by simp at hk⟩, Chg.refl _ _, fun b hb _ => ⟨hb, rfl⟩⟩)
  · obtain ⟨v, rfl, _, h3⟩ := look_argEnv args 0 t s ht
    have hlt : t < args.length := by
      have := (List.getElem?_eq_some_iff.1 h3).1; omega
    simp only [Nat.sub_zero] at h3
    simp only [SV.val]
    rw [Array.getElem?_append_left (by simpa using hlt)]
    simpa using h3
  · obtain ⟨v, e, _⟩ := look_argEnv args 0 t _ ht
    cases e
def resVal (P : Program) (σ : Sy) : ResultVar → Option Value
  | .tmp t => match look σ.env t with
    | some (.v v) => some v
    | _ => none
  | .cell t ty => match look σ.env t with
    | some (.p k o) => (σ.bx[k]?).bind fun cs => boxLoad P ty cs o
    | _ => none
def resVals (P : Program) (σ : Sy) : List ResultVar → Option (List Value)
  | [] => some []
  | r :: l => match resVal P σ r with
    | some v => (resVals P σ l).map fun x => v :: x
    | none => none
def packed : List Value → Value
  | [v] => v
  | vs => .tuple vs.toArray
def resSem (a : Act) : ResultVar → Sem Value
  | .tmp t => pure (a.tmps.getD t undef)
  | .cell a' t => do loadVar t (← asAddr (a.tmps.getD a' undef))
theorem resVal_run (S : St P n w0 M u N β σ a w) {r : ResultVar} {v : Value} (h : resVal P σ r = some v) :
    (resSem a r).run P w = .ok v w := by
  cases r with
  | tmp t =>
    simp only [resVal] at h
    split at h
    · rename_i x hx
      simp at h; subst h
      have := S.env t _ hx
      simp [resSem, this, SV.val]
    · cases h
  | cell t ty =>
    simp only [resVal] at h
    split at h
    · rename_i k o hx
      cases hc : σ.bx[k]? with
      | none => simp [hc] at h
      | some cs =>
        simp only [hc, Option.bind_some] at h
        obtain ⟨T, hb⟩ := S.box k cs hc
        have := S.env t _ hx
        have hl := run_boxLoad (P := P) hb h
        simp only [Instr.loadAt, Instr.sureAddr, Sem.run_bind, Sem.run_pure, Result.andThen_ok] at hl
        have e : a.tmps.getD t undef = pt (β k) o := by simp [this, SV.val]
        simp only [resSem, e, asAddr, Sem.run_bind, Sem.run_pure, Result.andThen_ok, hl]
    · cases h
theorem resVals_run (S : St P n w0 M u N β σ a w) : ∀ (l : List ResultVar) (vs : List Value), resVals P σ l = some vs →
    (l.mapM (resSem a)).run P w = .ok vs w
  | [], vs, h => by simp [resVals] at h; subst h; rfl
  | r :: l, vs, h => by
    simp only [resVals] at h
    split at h
    · rename_i v hv
      cases hl : resVals P σ l with
      | none => simp [hl] at h
      | some vs' =>
        simp [hl] at h; subst h
        rw [List.mapM_cons]
        rw [Sem.run_bind, resVal_run S hv]
        simp only [Result.andThen_ok]
        rw [Sem.run_bind, resVals_run S l vs' hl]
        rfl
    · cases h
theorem St.results (S : St P n w0 M u N β σ a w) {fn : Func} {vs : List Value} (h : resVals P σ fn.results.toList = some vs) : (results fn a.tmps).run P w = .ok (packed vs) w := by
  have e : Go.results fn a.tmps = (do let vs ← fn.results.mapM (resSem a); pure (if h : vs.size = 1 then vs[0] else .tuple vs)) := by
    unfold Go.results
    congr 1
  rw [e, Array.mapM_eq_mapM_toList, Sem.run_bind, Sem.run_map, resVals_run S _ _ h]
  simp only [Result.andThen_ok, Sem.run_pure]
  congr 1
  match vs with
  | [] => rfl
  | [v] => rfl
  | _ :: _ :: _ => rfl
theorem St.ret (S : St P n w0 M u N β σ a w) {fn : Func} {R : Ending → World → Prop} {vs : List Value} (hv : resVals P σ fn.results.toList = some vs) (h : R (.returned (packed vs)) w) : bodyPost P fn R .ret a w :=
  ⟨S.df, _, S.results hv, h⟩
theorem St.fall (S : St P n w0 M u N β σ a w) {fn : Func} {R : Ending → World → Prop} {vs : List Value} (hv : resVals P σ fn.results.toList = some vs) (h : R (.returned (packed vs)) w) : bodyPost P fn R .normal a w :=
  ⟨S.df, _, S.results hv, h⟩
theorem St.cond (S : St P n w0 M u N β σ a w) {c : Operand} {e : Bool} {x y : Code} (he : σ.get c = some (.v (.bool e))) (ht : e = true → x.wp P Q a w) (hf : e = false → y.wp P Q a w) : (Code.cond c x y).wp P Q a w :=
  wp_cond_split (S.get he) ht hf
theorem St.cast (S : St P n w0 M u N β σ a w) (h : σ = σ') : St P n w0 M u N β σ' a w := h ▸ S
def pruneK (σ : Sy) (keep : List Nat) (m : Nat) : Option Sy := bif Nat.ble m σ.bx.length then some ⟨σ.keep m keep, σ.bx.take m⟩ else none
theorem St.prune (S : St P n w0 M u N β σ a w) {keep : List Nat} {m : Nat} (h : pruneK σ keep m = some σ') : St P n w0 M u N β σ' a w := by
  unfold pruneK at h
  cases hb : Nat.ble m σ.bx.length with
  | false => rw [hb] at h; cases h
  | true =>
    rw [hb] at h
    simp only [cond_true, Option.some.injEq] at h
    subst h
    have hle : m ≤ σ.bx.length := Nat.le_of_ble_eq_true hb
    refine S.weaken m keep fun t k o hl => ?_
    have := (look_keep m keep t _ hl).2 k o rfl
    simp; omega
theorem wp_loop_down {c : Code} (Inv : Nat → Act → World → Prop) (m : Nat) (h0 : Inv m a w)
    (round : ∀ m a w, Inv m a w → c.wp P (Exit.then (fun a' w' => ∃ m', m' < m ∧ Inv m' a' w') Q) a w) : (Code.loop c).wp P Q a w := by
  intro b k cs
  have key : ∀ n a w, Inv n a w →
      ∃ e a' w', Q e a' w' ∧ Arrives P (lone (b.at a (.code c :: .inLoop c :: k)) cs w) b k cs e a' w' := by
    intro n
    induction n using Nat.strongRecOn with
    | _ n ih =>
      intro a w hI
      obtain ⟨e, a₁, w₁, hq, harr⟩ := round n a w hI b (.inLoop c :: k) cs
      cases e with
      | normal =>
        obtain ⟨m', hlt, hI₁⟩ := hq
        obtain ⟨e₂, a₂, w₂, hq₂, harr₂⟩ := ih m' hlt a₁ w₁ hI₁
        exact ⟨e₂, a₂, w₂, hq₂, .of_steps (Steps.trans harr (.one step_inLoop)) harr₂⟩
      | exit id => exact ⟨_, a₁, w₁, hq, .pass (x := .inLoop c) rfl (fun _ _ => .inl (by simp)) harr⟩
      | goto l => exact ⟨_, a₁, w₁, hq, .pass (x := .inLoop c) rfl (fun _ _ => .inl (by simp)) harr⟩
      | ret => exact ⟨_, a₁, w₁, hq, .pass (x := .inLoop c) rfl (fun _ _ => .inl (by simp)) harr⟩
      | panic ch => exact ⟨_, a₁, w₁, hq, .pass (x := .inLoop c) rfl (fun _ _ => .inl (by simp)) harr⟩
      | outgrown => exact ⟨_, a₁, w₁, hq, .pass (x := .inLoop c) rfl (fun _ _ => .inl (by simp)) harr⟩
  obtain ⟨e, a', w', hq, harr⟩ := key _ a w h0
  exact ⟨e, a', w', hq, .of_steps (.one step_loop) harr⟩
abbrev Rn {α : Type} [GT α] (u : World) (N : Bl) (x : α) (p : GT.Ptr α) : Prop := GT.rd KK N u x p
abbrev Rd {α : Type} [GT α] (w : World) (x : α) (p : GT.Ptr α) : Prop := GT.rd KK (Lt w.heap.size) w x p
structure Ow {α : Type} [GT α] (w0 : World) (M : Bl) (u : World) (N F : Bl) (x : α) (p : GT.Ptr α) : Prop where
  own : GT.own KK F u x p
  sub : ∀ b, F b → N b
  young : ∀ b, F b → w0.heap.size ≤ b ∨ M b
theorem St.nilOw (_ : St P n w0 M u N β σ a w) {α : Type} [GT α] : Ow w0 M u N NoB ([] : List α) (GT.pdflt (α := List α)) :=
  ⟨GT.own_dflt _ _ _, fun _ h => False.elim h, fun _ h => False.elim h⟩
theorem Ow.rn {α : Type} [GT α] {F : Bl} {x : α} {p : GT.Ptr α} (h : Ow w0 M u N F x p) : Rn u N x p := GT.rd_mono (GT.own_rd h.own) (Nat.le_refl _) h.sub
theorem St.arg {α : Type} [GT α] {K : Nat} {x : α} {p : GT.Ptr α} (S : St P n w0 NoB u N β σ a w) (h : GT.rd K (Lt w0.heap.size) w0 x p) : GT.rd K N u x p :=
  GT.rd_mono (GT.rd_agree h (fun b hb _ => (S.old b hb (fun f => f)).2)) (Nat.le_refl _) (fun b hb => (S.old b hb (fun f => f)).1)
theorem St.rd {α : Type} [GT α] {K : Nat} {x : α} {p : GT.Ptr α} (S : St P n w0 M u N β σ a w) (h : GT.rd K N u x p) : GT.rd K (Lt w.heap.size) w x p :=
  GT.rd_mono (GT.rd_lt (GT.rd_agree h (fun b hb _ => (S.sep b hb).2.1))) (Nat.le_refl _) (fun _ hb => hb.2)
def Or (A C : Bl) : Bl := fun b => A b ∨ C b
theorem Ow.up {α : Type} [GT α] {F : Bl} {x : α} {p : GT.Ptr α} {w' : World} {N' : Bl} (h : Ow w0 M u N F x p) (g : ∀ b, N b → N' b ∧ w'.heap[b]? = u.heap[b]?) : Ow w0 M w' N' F x p :=
  ⟨GT.own_agree h.own (fun b hb _ => (g b (h.sub b hb)).2), fun b hb => (g b (h.sub b hb)).1, h.young⟩
def Ret1 {α : Type} [GT α] (Mc : Bl) (w : World) (r : α) (e : Ending) (w' : World) : Prop :=
  ∃ q, e = .returned (GT.val r q) ∧ Chg Mc w w' ∧ GT.own KK (Iv w.heap.size w'.heap.size) w' r q
def Ret2 {α α' : Type} [GT α] [GT α'] (Mc : Bl) (w : World) (r : α) (r' : α') (e : Ending) (w' : World) : Prop :=
  ∃ q q' F F', e = .returned (.tuple #[GT.val r q, GT.val r' q']) ∧ Chg Mc w w' ∧ GT.own KK F w' r q ∧ GT.own KK F' w' r' q' ∧ Disj F F' ∧ ∀ b, F b ∨ F' b → w.heap.size ≤ b ∧ b < w'.heap.size
def Ret3 {α α' α'' : Type} [GT α] [GT α'] [GT α''] (Mc : Bl) (w : World) (r : α) (r' : α') (r'' : α'') (e : Ending) (w' : World) : Prop :=
  ∃ q q' q'' F, e = .returned (.tuple #[GT.val r q, GT.val r' q', GT.val r'' q'']) ∧ Chg Mc w w' ∧ GT.own KK F w' r q ∧ GT.own KK NoB w' r' q' ∧ GT.own KK NoB w' r'' q'' ∧ ∀ b, F b → w.heap.size ≤ b ∧ b < w'.heap.size
def callAc (P : Program) (n : Nat) (ops : Array Oper) (i : Nat) (σ : Sy) : Option (FuncId × List Value × Tmp) :=
  match ops.toList[i]? with
  | some o =>
    match guardv ops σ o, o.op, o.dst with
    | some true, .call ⟨.value (.func f), args, _⟩, some d =>
      match P.funcs[f]? with
      | some fn => bif fn.name == "runtime.NumGoroutine" || fn.body.isNone || !Nat.blt d n then none else (vlist σ args.toList).map fun l => (f, l, d)
      | none => none
    | some true, .call ⟨.value (.tmp t), args, _⟩, some d =>
      match σ.get (.tmp t) with
      | some (.v (.func (.func f) first caps)) => bif callee P f && Nat.blt d n then (vlist σ args.toList).map fun l => (f, first.toList ++ l ++ caps.toList, d) else none
      | _ => none
    | _, _, _ => none
  | none => none
theorem OP.step {i : Nat} {o : Oper} (ho : ops[i]? = some o) (hw : Region.wanted o (yielded ops a.tmps) = true) (h : o.wp P a w K' Q) : wpOp P ops Q i K' a w := by
  unfold wpOp
  simp only [ho, hw, if_true]
  exact .inl h
theorem RG.op {i : Nat} (hi : Nat.blt i ops.size = true) (h : wpOp P ops Q i (fun a' w' => RG P ops Q (i + 1) a' w') a w) : RG P ops Q i a w := by
  have hlt : i < ops.size := Nat.le_of_ble_eq_true hi
  unfold RG
  rw [show ops.size - i = (ops.size - (i + 1)) + 1 by omega, List.range'_succ, wpOps_cons]
  exact h
theorem St.after (S : St P n w0 M u N β σ a w) {w' : World} {d : Tmp} {v : Value} (hd : Nat.blt d n = true) (hc : Chg NoB w w') :
    St P n w0 M w' (Or N (Iv w.heap.size w'.heap.size)) β ⟨(d, .v v) :: σ.env, σ.bx⟩ (a.put (some d) v) w' := by
  have hp : σ.put n (some d) (.v v) = some ⟨(d, .v v) :: σ.env, σ.bx⟩ := by simp [Sy.put, hd]
  have S1 := S.put hp (fun _ _ e => by cases e)
  have hb : ∀ k, k < σ.bx.length → β k < w.heap.size := fun k hk => by
    obtain ⟨T', h⟩ := S.box k _ (List.getElem?_eq_getElem hk)
    rcases Nat.lt_or_ge (β k) w.heap.size with hl | hl
    · exact hl
    · rw [Array.getElem?_eq_none hl] at h; cases h
  refine ⟨S1.df, S1.sz, S1.env, S1.ok, fun k cs hk => ?_, S1.inj, S1.new, fun b hb' => ?_, S.chg.step hc (fun _ _ f => f.elim), fun b hb hm => ?_⟩
  · obtain ⟨T, h⟩ := S1.box k cs hk
    have hk' : k < σ.bx.length := (List.getElem?_eq_some_iff.1 hk).1
    exact ⟨T, (hc.block _ (hb k hk') (fun f => f)).trans h⟩
  · rcases hb' with h | h
    · obtain ⟨h1, h2, h3⟩ := S1.sep b h
      exact ⟨Nat.lt_of_lt_of_le h1 hc.size, rfl, h3⟩
    · refine ⟨h.2, rfl, fun k hk e => ?_⟩
      have := hb k hk
      have := h.1
      omega
  · obtain ⟨h1, h2⟩ := S.old b hb hm
    exact ⟨.inl h1, ((hc.block b (S.sep b h1).1 (fun f => f)).trans (S.sep b h1).2.1).trans h2⟩
theorem St.up (S : St P n w0 M u N β σ a w) {w' : World} (hc : Chg NoB w w') : ∀ b, N b → Or N (Iv w.heap.size w'.heap.size) b ∧ w'.heap[b]? = u.heap[b]? := fun b hb =>
  ⟨.inl hb, (hc.block b (S.sep b hb).1 (fun f => f)).trans (S.sep b hb).2.1⟩
theorem St.call (S : St P n w0 M u N β σ a w) {i : Nat} {f : FuncId} {vals : List Value} {d : Tmp} {R : Ending → World → Prop} (hcall : callAc P n ops i σ = some (f, vals, d)) (hc : Calls P f vals.toArray w R)
    (K : ∀ e w', R e w' → ∃ v, e = .returned v ∧ K' (a.put (some d) v) w') : wpOp P ops Q i K' a w := by
  unfold callAc at hcall
  split at hcall
  · rename_i o ho
    have ho' : ops[i]? = some o := by simpa using ho
    split at hcall
    · rename_i f' args ats d' hg hop hd
      split at hcall
      · rename_i fn hfn
        cases hb : (fn.name == "runtime.NumGoroutine" || fn.body.isNone || !Nat.blt d' n) with
        | true => rw [hb] at hcall; cases hcall
        | false =>
          rw [hb] at hcall
          simp only [cond_false] at hcall
          cases hv : vlist σ args.toList with
          | none => simp [hv] at hcall
          | some l =>
            simp [hv] at hcall
            obtain ⟨rfl, rfl, rfl⟩ := hcall
            simp only [Bool.or_eq_false_iff] at hb
            refine OP.step ho' (guard_ok S hg) ?_
            have hargs : args.map a.eval = l.toArray := by
              rw [← Array.toList_inj]; simpa using vlist_ok S _ _ hv
            have hrun : (execOp a.eval o).run P w = .ok (.enter f' l.toArray) w := by
              unfold execOp
              simp only [hop]
              simp only [resolve, hargs, Act.eval, Deferred.ofValue]
              have n1 : fn.name ≠ "runtime.NumGoroutine" := fun e => by rw [e] at hb; simp at hb
              have n2 : ¬ fn.body = none := fun e => by rw [e] at hb; simp at hb
              simp [invoke, callFunc, hfn, n1, n2]
            unfold Oper.wp
            rw [hrun, Oper.upon_enter]
            refine hc.mono fun e w' hR => ?_
            obtain ⟨v, rfl, h⟩ := K e w' hR
            rw [hd]
            exact h
      · cases hcall
    · rename_i t args ats d' hg hop hd
      split at hcall
      · rename_i f' first caps hx
        have e := S.get hx
        cases hb : (callee P f' && Nat.blt d' n) with
        | false => rw [hb] at hcall; cases hcall
        | true =>
          rw [hb] at hcall
          simp only [cond_true] at hcall
          simp only [Bool.and_eq_true] at hb
          cases hv : vlist σ args.toList with
          | none => simp [hv] at hcall
          | some l =>
            simp only [hv, Option.map_some, Option.some.injEq, Prod.mk.injEq] at hcall
            obtain ⟨rfl, rfl, rfl⟩ := hcall
            refine OP.step ho' (guard_ok S hg) ?_
            have hargs : args.map a.eval = l.toArray := by
              rw [← Array.toList_inj]; simpa using vlist_ok S _ _ hv
            have hrun : (execOp a.eval o).run P w = .ok (.enter f' (first.toList ++ l ++ caps.toList).toArray) w := by
              unfold execOp
              simp only [hop]
              exact run_callv (l := l) (x := .tmp t) e hb.1 hargs _ w
            unfold Oper.wp
            rw [hrun, Oper.upon_enter]
            refine hc.mono fun e w' hR => ?_
            obtain ⟨v, rfl, h⟩ := K e w' hR
            rw [hd]
            exact h
      · cases hcall
    · cases hcall
  · cases hcall
theorem Disj.fresh {F : Bl} (S : St P n w0 M u N β σ a w) (w' : World) (h : ∀ b, F b → w.heap.size ≤ b ∧ b < w'.heap.size) : Disj N F := fun b h1 h2 => by
  have := (S.sep b h1).1
  have := (h b h2).1
  omega
theorem St.call1 {α : Type} [GT α] (S : St P n w0 M u N β σ a w) {i : Nat} {f : FuncId} {vals : List Value} {d : Tmp} {r : α} (hc : Calls P f vals.toArray w (Ret1 NoB w r)) (hcall : callAc P n ops i σ = some (f, vals, d)) (hd : Nat.blt d n = true)
    (K : ∀ a' w' N' q F, St P n w0 M w' N' β ⟨(d, .v (GT.val r q)) :: σ.env, σ.bx⟩ a' w' → (∀ b, N b → N' b ∧ w'.heap[b]? = u.heap[b]?) → Ow w0 M w' N' F r q → Disj N F → K' a' w') : wpOp P ops Q i K' a w :=
  S.call hcall hc fun _ w' ⟨q, he, hch, ho⟩ => ⟨_, he, K _ w' _ q _ (S.after hd hch) (S.up hch) ⟨ho, fun _ h => .inr h, fun _ h => .inl (Nat.le_trans S.chg.size h.1)⟩ (Disj.fresh S w' fun _ h => h)⟩
theorem St.own {α : Type} [GT α] {F : Bl} {x : α} {p : GT.Ptr α} (S : St P n w0 NoB u N β σ a w) (h : Ow w0 NoB u N F x p) : GT.own KK (Iv w0.heap.size w.heap.size) w x p :=
  GT.own_mono (GT.own_agree h.own (fun b hb _ => (S.sep b (h.sub b hb)).2.1)) (Nat.le_refl _) (fun b hb => ⟨(h.young b hb).resolve_right (fun f => f), (S.sep b (h.sub b hb)).1⟩)
theorem St.own' {α : Type} [GT α] {F : Bl} {x : α} {p : GT.Ptr α} (S : St P n w0 NoB u N β σ a w) (h : Ow w0 NoB u N F x p) : GT.own KK F w x p ∧ ∀ b, F b → w0.heap.size ≤ b ∧ b < w.heap.size :=
  ⟨GT.own_agree h.own (fun b hb _ => (S.sep b (h.sub b hb)).2.1), fun b hb => ⟨(h.young b hb).resolve_right (fun f => f), (S.sep b (h.sub b hb)).1⟩⟩
end
end Go.Proofs.Ytgonaioedbphgaa
