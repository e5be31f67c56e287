/- The evaluator of operations is sound. No program is named here. -/
import Derived.Test.YtgonaioedbphgaaCore2
namespace Go.Proofs.Ytgonaioedbphgaa
open Go
section
variable {P : Program} {n : Nat} {w0 : World} {M : Bl} {u : World} {N : Bl} {β : Nat → Nat} {σ : Sy} {a : Act} {w : World}
theorem tsize_some {t : TypeId} {s : Nat} (h : tsize P t = some s) : (P.info? t).map (·.size) = some s := h
theorem run_size {t : TypeId} {s : Nat} (h : tsize P t = some s) (w : World) : (sizeOf t).run P w = .ok s w := by
  unfold tsize at h
  cases hi : P.info? t with
  | none => simp [hi] at h
  | some i => simp [hi] at h; subst h; simp [sizeOf, typeInfo, hi]
theorem tagg_true {t : TypeId} (h : tagg P t = some true) : ∃ d, P.underlying t = some d ∧ d.isRow = true := by
  unfold tagg at h
  split at h <;> first | exact ⟨_, ‹_›, rfl⟩ | cases h
theorem run_agg_false {t : TypeId} (h : tagg P t = some false) (w : World) : (isAgg t).run P w = .ok false w := by
  unfold tagg at h
  split at h
  · cases h
  · cases h
  · rename_i d n1 n2 hd
    unfold isAgg
    rw [Sem.run_bind, run_underlying hd w]
    cases d <;> first | rfl | exact absurd rfl (n1 _) | exact absurd rfl (n2 _ _)
  · cases h
theorem run_boxLoad {t : TypeId} {cs : List Value} {o b : Nat} {v : Value} {T : TypeId} {w : World} (hb : w.heap[b]? = some (.cells cs.toArray T (0, 0))) (h : boxLoad P t cs o = some v) :
    (Instr.loadAt t (pt b o)).run P w = .ok v w := by
  have hc : ∀ j x, cs[j]? = some x → w.cell? ⟨b, j, none⟩ = some x := fun j x hj => by simp [World.cell?, hb, hj]
  unfold boxLoad at h
  split at h
  · rename_i s ha hs
    cases hl : Nat.ble (o + s) cs.length with
    | false => rw [hl] at h; simp at h
    | true =>
      rw [hl] at h
      simp at h
      subst h
      obtain ⟨d, hd, hr⟩ := tagg_true ha
      have hle : o + s ≤ cs.length := Nat.le_of_ble_eq_true hl
      refine run_loadAt_mid w b o t ((cs.drop o).take s) d (fun j x hj => ?_) hd hr (by rw [tsize_some hs]; simp; omega)
      rw [List.getElem?_take] at hj
      split at hj
      · rw [List.getElem?_drop] at hj
        exact hc _ _ hj
      · cases hj
  · rename_i s ha hs
    have hx := hc o v h
    simp only [Instr.loadAt, Instr.sureAddr, Sem.run_bind, Sem.run_pure, Result.andThen_ok, loadVar, run_agg_false ha, Bool.false_eq_true, if_false, run_load, hx]
  · cases h
theorem run_boxStore {t : TypeId} {cs cs' : List Value} {o b : Nat} {v : Value} {T : TypeId} {w : World} (hb : w.heap[b]? = some (.cells cs.toArray T (0, 0))) (h : boxStore P t cs o v = some cs') :
    (Instr.storeAt t (pt b o) v).run P w = .ok () (w.setRow b cs'.toArray) := by
  unfold boxStore at h
  split at h
  · rename_i s hs
    cases hl : (Nat.beq v.cells.toList.length s && Nat.ble (o + s) cs.length && v.cells.toList.all (·.oneCell')) with
    | false => rw [hl] at h; simp at h
    | true =>
      rw [hl] at h
      simp only [cond_true, Option.some.injEq] at h
      simp only [Bool.and_eq_true] at hl
      obtain ⟨⟨h1, h2⟩, h3⟩ := hl
      have e1 : v.cells.toList.length = s := Nat.eq_of_beq_eq_true h1
      have e2 : o + s ≤ cs.length := Nat.le_of_ble_eq_true h2
      have := run_storeCells_at (P := P) b o T v.cells.toList 0 cs.toArray w hb (by simp at e1 ⊢; omega) (fun x hx => List.all_eq_true.1 h3 x hx)
      simp only [Nat.add_zero] at this
      simp only [Instr.storeAt, Instr.sureAddr, Sem.run_bind, Sem.run_pure, Result.andThen_ok, storeVar, run_size hs]
      rw [if_neg (by simp at e1 ⊢; exact e1)]
      rw [this]
      subst h
      rw [e1]
  · cases h
theorem run_part {t : TypeId} {cs : Array Value} {o : Nat} {v : Value} (h : partOf P t cs o = some v) (w : World) : (part t cs o).run P w = .ok v w := by
  unfold partOf at h
  split at h
  · rename_i s ha hs
    simp at h; subst h
    obtain ⟨d, hd, hr⟩ := tagg_true ha
    have hagg : (isAgg t).run P w = .ok true w := by
      unfold isAgg
      rw [Sem.run_bind, run_underlying hd w]
      cases d <;> simp_all
    simp [part, hagg, run_size hs]
  · rename_i s ha hs
    have h' : cs[o]? = some v := by simpa using h
    simp [part, run_agg_false ha, h']
  · cases h
def Says (P : Program) (β : Nat → Nat) (σ : Sy) (s : Sem Next) (w : World) : Ac → Prop
  | .val x => s.run P w = .ok (.value (x.val β)) w ∧ ∀ k f, x = .p k f → k < σ.bx.length
  | .ask (.call f args) => s.run P w = .ok (.enter f args.toArray) w
  | .ask q => ∀ v, q.run.run P w = .ok v w → s.run P w = .ok (.value v) w
  | .new T cs => s.run P w = .ok (.value (pt w.heap.size 0)) { w with heap := w.heap.push (.cells cs.toArray T) }
  | .put k cs => s.run P w = .ok .skip (w.setRow (β k) cs.toArray) ∧ ∃ old, σ.bx[k]? = some old
theorem St.getp (S : St P n w0 M u N β σ a w) {x : Operand} {k f : Nat} (h : σ.get x = some (.p k f)) : k < σ.bx.length := by
  cases x with
  | tmp t => exact S.ok t k f h
  | const v => simp [Sy.get] at h
  | global g => simp [Sy.get] at h
  | func g => simp [Sy.get] at h
theorem intAc_ok {op : BinOp} {k : IntKind} {x y : Int} {ac : Ac} (h : intAc op k x y = some ac) (s : Sem Next) (hs : s.run P w = ((intSem op k x y).run P w).andThen fun v w' => .ok (.value v) w') : Says P β σ s w ac := by
  cases op <;> simp only [intAc, Option.some.injEq, reduceCtorEq] at h <;> subst h <;>
    first
      | (refine ⟨?_, fun _ _ hh => by cases hh⟩; rw [hs]; rfl)
      | (intro v hv; rw [hs]; simp only [Ask.run] at hv; rw [hv]; rfl)
theorem eqGuard_int (op : BinOp) (t : TypeId) (x y : Operand) (k k' : IntKind) (i j : Int) : (eqGuard op t x y (.int k i) (.int k' j)).run P w = .ok () w := by
  cases op <;> simp [eqGuard]
theorem eqGuard_bool (op : BinOp) (t : TypeId) (x y : Operand) (i j : Bool) : (eqGuard op t x y (.bool i) (.bool j)).run P w = .ok () w := by
  cases op <;> simp [eqGuard]
theorem eqGuard_agg (op : BinOp) (t : TypeId) (x y : Operand) (i j : Array Value) (h : P.eqGuardType P.depth t = false) : (eqGuard op t x y (.agg i) (.agg j)).run P w = .ok () w := by
  cases op <;> simp [eqGuard, h]
theorem equalIn_bool {t : TypeId} (hu : P.underlying t = some .bool) (i j : Bool) (w : World) (d : Nat) : (Op.equalIn (d + 1) t (.bool i) (.bool j)).run P w = .ok (i == j) w := by
  simp only [Op.equalIn, Sem.run_bind, run_underlying hu, Result.andThen_ok, Sem.run_pure]
theorem equal_bool {t : TypeId} (hu : P.underlying t = some .bool) (i j : Bool) (w : World) : (Op.equal t (.bool i) (.bool j)).run P w = .ok (i == j) w :=
  equalIn_bool hu i j w 9999
theorem gather_ok (S : St P n w0 M u N β σ a w) : ∀ (ps : List (Nat × Operand)) (l : List (Nat × Value)), gather σ ps = some l → ps.map (fun (i, x) => (i, a.eval x)) = l
  | [], l, h => by simp [gather] at h; subst h; rfl
  | (i, x) :: r, l, h => by
    unfold gather at h
    split at h
    · rename_i v hx
      cases hr : gather σ r with
      | none => simp [hr] at h
      | some l' =>
        simp [hr] at h
        subst h
        simp only [List.map_cons, gather_ok S r l' hr, S.get hx]
        rfl
    · cases h
theorem vlist_ok (S : St P n w0 M u N β σ a w) : ∀ (l : List Operand) (vs : List Value), vlist σ l = some vs → l.map a.eval = vs
  | [], vs, h => by simp [vlist] at h; subst h; rfl
  | x :: r, vs, h => by
    simp only [vlist] at h
    split at h
    · rename_i v hx
      cases hl : vlist σ r with
      | none => simp [hl] at h
      | some l =>
        simp [hl] at h; subst h
        simp [vlist_ok S r l hl, S.get hx, SV.val]
    · cases h
theorem run_call {f : FuncId} {args : Array Operand} {ats : Array TypeId} {l : List Value} (hf : callee P f = true) (hargs : args.map a.eval = l.toArray) (ty : TypeId) (w : World) :
    (do let d ← resolve a.eval ⟨.value (.func f), args, ats⟩ ty; invoke d.target d.args : Sem Next).run P w = .ok (.enter f l.toArray) w := by
  unfold callee at hf
  split at hf
  · rename_i fn hfn
    simp only [Bool.not_eq_true', Bool.or_eq_false_iff] at hf
    have n1 : fn.name ≠ "runtime.NumGoroutine" := fun e => by rw [e] at hf; simp at hf
    have n2 : ¬ fn.body = none := fun e => by rw [e] at hf; simp at hf
    simp only [resolve, hargs, Act.eval, Deferred.ofValue]
    simp [invoke, callFunc, hfn, n1, n2]
  · cases hf
theorem run_callv {x : Operand} {f : FuncId} {first captured : Array Value} {args : Array Operand} {ats : Array TypeId} {l : List Value} (hx : a.eval x = .func (.func f) first captured) (hf : callee P f = true) (hargs : args.map a.eval = l.toArray) (ty : TypeId) (w : World) :
    (do let d ← resolve a.eval ⟨.value x, args, ats⟩ ty; invoke d.target d.args : Sem Next).run P w = .ok (.enter f (first.toList ++ l ++ captured.toList).toArray) w := by
  unfold callee at hf
  split at hf
  · rename_i fn hfn
    simp only [Bool.not_eq_true', Bool.or_eq_false_iff] at hf
    have n1 : fn.name ≠ "runtime.NumGoroutine" := fun e => by rw [e] at hf; simp at hf
    have n2 : ¬ fn.body = none := fun e => by rw [e] at hf; simp at hf
    simp only [resolve, hargs, hx, Deferred.ofValue]
    simp [invoke, callFunc, hfn, n1, n2]
  · cases hf
set_option maxHeartbeats 2000000 in
theorem op_says (S : St P n w0 M u N β σ a w) {o : Oper} {ac : Ac} (h : opAc P σ o = some ac) : Says P β σ (execOp a.eval o) w ac := by
  unfold opAc at h
  unfold execOp
  split at h
  · -- move
    rename_i x ho
    simp only [ho]
    cases hx : σ.get x with
    | none => simp [hx] at h
    | some s => simp [hx] at h; subst h; exact ⟨by rw [S.get hx]; rfl, fun k f e => S.getp (e ▸ hx)⟩
  · rename_i x ho
    simp only [ho]
    cases hx : σ.get x with
    | none => simp [hx] at h
    | some s => simp [hx] at h; subst h; exact ⟨by rw [S.get hx]; rfl, fun k f e => S.getp (e ▸ hx)⟩
  · -- pick
    rename_i c x y ho
    simp only [ho]
    split at h
    · rename_i t hc
      have e := S.get hc
      cases t with
      | true =>
        cases hx : σ.get x with
        | none => simp [hx] at h
        | some s =>
          simp [hx] at h; subst h
          refine ⟨?_, fun k f e => S.getp (e ▸ hx)⟩
          rw [e, S.get hx]; simp [asBool, SV.val]
      | false =>
        cases hx : σ.get y with
        | none => simp [hx] at h
        | some s =>
          simp [hx] at h; subst h
          refine ⟨?_, fun k f e => S.getp (e ▸ hx)⟩
          rw [e, S.get hx]; simp [asBool, SV.val]
    · cases h
  · -- extract
    rename_i x i ho
    simp only [ho]
    split at h
    · rename_i vs hx
      have e := S.get hx
      cases hv : vs.toList[i]? with
      | none => simp only [hv, Option.map_none, reduceCtorEq] at h
      | some v =>
        simp only [hv, Option.map_some, Option.some.injEq] at h
        subst h
        have hv' : vs[i]? = some v := by simpa using hv
        refine ⟨?_, fun _ _ hh => by cases hh⟩
        rw [e]
        simp [Instr.extract, SV.val, hv']
    · cases h
  · -- box
    rename_i T x ho
    simp only [ho]
    split at h
    · rename_i v hx
      simp at h; subst h
      rw [S.get hx]
      show (do pure (.value (← Instr.box T v)) : Sem Next).run P w = _
      simp [Instr.box, newVar, newRow]
    · cases h
  · -- alloc
    rename_i T ho
    simp only [ho]
    split at h
    · rename_i z hz
      simp at h; subst h
      cases hi : P.info? T with
      | none => simp [hi] at hz
      | some i =>
        simp only [hi, Option.bind_some] at hz
        show (do pure (.value (← Instr.alloc T true (.tuple #[]))) : Sem Next).run P w = _
        simp [Instr.alloc, zeroValue, typeInfo, hi, hz, newVar, newRow]
    · cases h
  · -- fieldAddr
    rename_i s x f ho
    simp only [ho]
    split at h
    · rename_i fs hu
      split at h
      · rename_i fd hf
        split at h
        · rename_i q hs
          have hf' : fs[f]? = some fd := by simpa using hf
          have key : ∀ (b o : Nat), a.eval x = pt b o → (do pure (Next.value (← Instr.fieldAt s (a.eval x) f)) : Sem Next).run P w = .ok (.value (pt b (o + fd.offset))) w := fun b o hx => by
            rw [hx]
            simp [Instr.fieldAt, run_underlying hu, hf', Instr.sureAddr, fieldPlace, run_size hs, Addr.add_mid]
          split at h
          · rename_i k o hx
            simp at h; subst h
            exact ⟨key _ _ (S.get hx), fun k' f' e => by cases e; exact S.getp hx⟩
          · rename_i b o hx
            simp at h; subst h
            exact ⟨key _ _ (S.get hx), fun _ _ hh => by cases hh⟩
          · cases h
        · cases h
      · cases h
    · cases h
  · -- load
    rename_i t x ho
    simp only [ho]
    split at h
    · rename_i k f hx
      cases hc : σ.bx[k]? with
      | none => simp [hc] at h
      | some cs =>
        simp only [hc, Option.bind_some] at h
        cases hv : boxLoad P t cs f with
        | none => simp [hv] at h
        | some v =>
          simp [hv] at h; subst h
          obtain ⟨T, hb⟩ := S.box k cs hc
          refine ⟨?_, fun _ _ hh => by cases hh⟩
          rw [S.get hx]
          show (do pure (.value (← Instr.loadAt t (pt (β k) f))) : Sem Next).run P w = _
          rw [Sem.run_bind, run_boxLoad hb hv]
          rfl
    · rename_i v hx
      simp at h; subst h
      intro r hr
      rw [S.get hx]
      show (do pure (.value (← Instr.loadAt t v)) : Sem Next).run P w = _
      rw [Sem.run_bind]
      simp only [Ask.run] at hr
      rw [hr]; rfl
    · cases h
  · -- store
    rename_i t x y ho
    simp only [ho]
    split at h
    · rename_i k f v hx hy
      cases hc : σ.bx[k]? with
      | none => simp [hc] at h
      | some cs =>
        simp only [hc, Option.bind_some] at h
        cases hv : boxStore P t cs f v with
        | none => simp [hv] at h
        | some cs' =>
          simp [hv] at h; subst h
          obtain ⟨T, hb⟩ := S.box k cs hc
          refine ⟨?_, cs, hc⟩
          rw [S.get hx, S.get hy]
          show (do Instr.storeAt t (pt (β k) f) v; pure .skip : Sem Next).run P w = _
          rw [Sem.run_bind, run_boxStore hb hv]
          rfl
    · cases h
  · -- field
    rename_i t x f ho
    simp only [ho]
    split at h
    · rename_i fs cs hu hx
      cases hf : fs.toList[f]? with
      | none => simp only [hf, Option.bind_none, reduceCtorEq] at h
      | some fd =>
        simp only [hf, Option.bind_some] at h
        cases hv : partOf P fd.type cs fd.offset with
        | none => simp [hv] at h
        | some v =>
          simp [hv] at h; subst h
          have hf' : fs[f]? = some fd := by simpa using hf
          refine ⟨?_, fun _ _ hh => by cases hh⟩
          rw [S.get hx]
          show (do pure (.value (← Instr.field t (.agg cs) f)) : Sem Next).run P w = _
          simp [Instr.field, run_underlying hu, hf', asAgg, run_part hv, SV.val]
    · cases h
  · -- indexAddr
    rename_i t x i ho
    simp only [ho]
    split at h
    · rename_i s j hx hi
      simp at h; subst h
      intro r hr
      rw [S.get hx, S.get hi]
      simp only [Ask.run] at hr
      show (do pure (.value (← Instr.indexAt t s j)) : Sem Next).run P w = _
      rw [Sem.run_bind, hr]; rfl
    · cases h
  · -- binOp
    rename_i op t x y yt ho
    simp only [ho]
    split at h
    · rename_i xv yv hx hy
      rw [S.get hx, S.get hy]
      unfold binAc at h
      split at h
      · rename_i k i k' j
        have key : ∀ s : Sem Value, Go.binOp op t (.int k i) (.int k' j) = s → (do pure (.value (← (do eqGuard op t x y (.int k i) (.int k' j); Go.binOp op t (.int k i) (.int k' j)))) : Sem Next).run P w = (s.run P w).andThen fun v w' => .ok (.value v) w' := fun s hs => by
          simp [eqGuard_int, hs]
        split at h
        · simp at h; subst h
          intro v hv
          have := key _ rfl
          simp only [Ask.run] at hv
          refine this.trans ?_
          unfold Go.binOp
          rw [hv]; rfl
        · simp at h; subst h
          intro v hv
          have := key _ rfl
          simp only [Ask.run] at hv
          refine this.trans ?_
          unfold Go.binOp
          rw [hv]; rfl
        · rename_i n1 n2
          split at h
          · rename_i hk
            subst hk
            refine intAc_ok h _ ?_
            refine (key _ rfl).trans ?_
            congr 2
            cases op <;> first | exact absurd rfl n1 | exact absurd rfl n2 | (simp [Go.binOp, intSem])
          · cases h
      · rename_i i j
        split at h
        · rename_i hu
          simp at h; subst h
          refine ⟨?_, fun _ _ hh => by cases hh⟩
          show (do pure (.value (← (do eqGuard .eql t x y (.bool i) (.bool j); pure (.bool (← Op.equal t (.bool i) (.bool j)))))) : Sem Next).run P w = _
          simp only [Sem.run_bind, eqGuard_bool, Result.andThen_ok, equal_bool hu, Sem.run_pure, SV.val]
        · rename_i hu
          simp at h; subst h
          refine ⟨?_, fun _ _ hh => by cases hh⟩
          show (do pure (.value (← (do eqGuard .neq t x y (.bool i) (.bool j); pure (.bool (!(← Op.equal t (.bool i) (.bool j))))))) : Sem Next).run P w = _
          simp only [Sem.run_bind, eqGuard_bool, Result.andThen_ok, equal_bool hu, Sem.run_pure, SV.val]
        · cases h
      · rename_i i j
        unfold eqSem at h
        split at h
        · rename_i hg
          simp only [Option.map_some, Option.some.injEq] at h; subst h
          intro v hv
          simp only [Ask.run] at hv
          show (do pure (.value (← (do eqGuard .eql t x y (.agg i) (.agg j); Go.binOp .eql t (.agg i) (.agg j)))) : Sem Next).run P w = _
          rw [Sem.run_bind, Sem.run_bind, eqGuard_agg _ _ _ _ _ _ hg]
          show ((Go.binOp .eql t (.agg i) (.agg j)).run P w).andThen _ = _
          unfold Go.binOp
          rw [hv]; rfl
        · rename_i hg
          simp only [Option.map_some, Option.some.injEq] at h; subst h
          intro v hv
          simp only [Ask.run] at hv
          show (do pure (.value (← (do eqGuard .neq t x y (.agg i) (.agg j); Go.binOp .neq t (.agg i) (.agg j)))) : Sem Next).run P w = _
          rw [Sem.run_bind, Sem.run_bind, eqGuard_agg _ _ _ _ _ _ hg]
          show ((Go.binOp .neq t (.agg i) (.agg j)).run P w).andThen _ = _
          unfold Go.binOp
          rw [hv]; rfl
        · simp at h
      · cases h
    · cases h
  · -- not
    rename_i t x ho
    simp only [ho]
    split at h
    · rename_i b hx
      simp at h; subst h
      refine ⟨?_, fun _ _ hh => by cases hh⟩
      rw [S.get hx]
      rfl
    · cases h
  · -- neg
    rename_i t x ho
    simp only [ho]
    split at h
    · rename_i k m hx
      simp at h; subst h
      intro v hv
      simp only [Ask.run] at hv
      rw [S.get hx]
      show (do pure (.value (← Op.unary .neg (.int k m))) : Sem Next).run P w = _
      rw [Sem.run_bind]
      show ((Op.intArith .sub k 0 m).run P w).andThen _ = _
      simp only [intSem] at hv
      rw [hv]; rfl
    · cases h
  · -- convert
    rename_i s d x ho
    simp only [ho]
    split at h
    · rename_i v hx
      simp at h; subst h
      intro r hr
      simp only [Ask.run] at hr
      rw [S.get hx]
      show (do pure (.value (← convert s d v)) : Sem Next).run P w = _
      rw [Sem.run_bind, hr]; rfl
    · cases h
  · -- slice
    rename_i t x lo hi ho
    simp only [ho]
    split at h
    · rename_i s hx hl hh
      cases lo <;> simp at hl
      cases hi <;> simp at hh
      simp at h; subst h
      intro r hr
      simp only [Ask.run] at hr
      simp only [S.get hx, Option.map_none]
      show (do pure (.value (← Instr.sliceAt t s none none none)) : Sem Next).run P w = _
      rw [Sem.run_bind, hr]; rfl
    · rename_i s v hx hl hh
      cases lo <;> simp at hl
      cases hi <;> simp at hh
      simp at h; subst h
      intro r hr
      simp only [Ask.run] at hr
      simp only [S.get hx, S.get hl, Option.map_none, Option.map_some]
      show (do pure (.value (← Instr.sliceAt t s (some v) none none)) : Sem Next).run P w = _
      rw [Sem.run_bind, hr]; rfl
    · rename_i s v hx hl hh
      cases lo <;> simp at hl
      cases hi <;> simp at hh
      simp at h; subst h
      intro r hr
      simp only [Ask.run] at hr
      simp only [S.get hx, S.get hh, Option.map_none, Option.map_some]
      show (do pure (.value (← Instr.sliceAt t s none (some v) none)) : Sem Next).run P w = _
      rw [Sem.run_bind, hr]; rfl
    · rename_i s v1 v2 hx hl hh
      cases lo <;> simp at hl
      cases hi <;> simp at hh
      simp at h; subst h
      intro r hr
      simp only [Ask.run] at hr
      simp only [S.get hx, S.get hl, S.get hh, Option.map_none, Option.map_some]
      show (do pure (.value (← Instr.sliceAt t s (some v1) (some v2) none)) : Sem Next).run P w = _
      rw [Sem.run_bind, hr]; rfl
    · cases h
  · -- len
    rename_i args ats ho
    simp only [ho]
    split at h
    · rename_i x t ha ht
      split at h
      · rename_i e q m c hu hx
        simp at h; subst h
        refine ⟨?_, fun _ _ hh => by cases hh⟩
        have e1 : args = #[x] := by rw [← Array.toList_inj]; exact ha
        have e2 : ats = #[t] := by rw [← Array.toList_inj]; exact ht
        subst e1 e2
        simp only [resolve, List.map_toArray, List.map_cons, List.map_nil, S.get hx]
        show (do let v ← Builtin.len_ #[t] o.type #[_]; pure (Next.value v) : Sem Next).run P w = _
        simp [Builtin.len_, run_underlying hu, goInt, SV.val]
      · cases h
    · cases h
  · -- min
    rename_i args ats ho
    simp only [ho]
    split at h
    · rename_i x y ha
      split at h
      · rename_i i j hx hy
        simp at h; subst h
        refine ⟨?_, fun _ _ hh => by cases hh⟩
        have e1 : args = #[x, y] := by rw [← Array.toList_inj]; exact ha
        subst e1
        simp only [resolve, List.map_toArray, List.map_cons, List.map_nil, S.get hx, S.get hy]
        show (do let v ← Builtin.min_ ats o.type #[.int .i64 i, .int .i64 j]; pure (Next.value v) : Sem Next).run P w = _
        simp [Builtin.min_, Builtin.min2, SV.val]
      · cases h
    · cases h
  · -- max
    rename_i args ats ho
    simp only [ho]
    split at h
    · rename_i x y ha
      split at h
      · rename_i i j hx hy
        simp at h; subst h
        refine ⟨?_, fun _ _ hh => by cases hh⟩
        have e1 : args = #[x, y] := by rw [← Array.toList_inj]; exact ha
        subst e1
        simp only [resolve, List.map_toArray, List.map_cons, List.map_nil, S.get hx, S.get hy]
        show (do let v ← Builtin.max_ ats o.type #[.int .i64 i, .int .i64 j]; pure (Next.value v) : Sem Next).run P w = _
        simp [Builtin.max_, Builtin.max2, SV.val]
      · cases h
    · cases h
  · -- call
    rename_i f args ats ho
    simp only [ho]
    cases hc : callee P f with
    | false => rw [hc] at h; cases h
    | true =>
      rw [hc] at h
      simp only [cond_true] at h
      cases hv : vlist σ args.toList with
      | none => simp [hv] at h
      | some l =>
        simp [hv] at h; subst h
        exact run_call hc (by rw [← Array.toList_inj]; simpa using vlist_ok S _ _ hv) _ w
  · -- call of a function value
    rename_i t args ats ho
    simp only [ho]
    split at h
    · rename_i f first captured hx
      have e := S.get hx
      cases hc : callee P f with
      | false => rw [hc] at h; cases h
      | true =>
        rw [hc] at h
        simp only [cond_true] at h
        cases hv : vlist σ args.toList with
        | none => simp [hv] at h
        | some l =>
          rw [hv] at h
          simp only [Option.map_some, Option.some.injEq] at h
          subst h
          exact run_callv (l := l) (x := .tmp t) e hc (by rw [← Array.toList_inj]; simpa using vlist_ok S _ _ hv) _ w
    · cases h
  · -- build
    rename_i t parts ho
    simp only [ho]
    cases hl : gather σ parts.toList with
    | none => simp [hl] at h
    | some l =>
      simp [hl] at h; subst h
      intro r hr
      simp only [Ask.run] at hr
      have e : (parts.map fun (i, x) => (i, a.eval x)) = l.toArray := by
        rw [← Array.toList_inj]
        simpa using gather_ok S _ _ hl
      show (do pure (.value (← Instr.build t (parts.map fun (i, x) => (i, a.eval x)))) : Sem Next).run P w = _
      rw [e, Sem.run_bind, hr]; rfl
  · -- makeFunc
    rename_i f first caps ho
    simp only [ho]
    split at h
    · rename_i l l' h1 h2
      simp only [Option.some.injEq] at h; subst h
      refine ⟨?_, fun _ _ hh => by cases hh⟩
      have e1 : first.map a.eval = l.toArray := by rw [← Array.toList_inj]; simpa using vlist_ok S _ _ h1
      have e2 : caps.map a.eval = l'.toArray := by rw [← Array.toList_inj]; simpa using vlist_ok S _ _ h2
      show (do pure (.value (← Instr.makeFunc (.func f) (first.map a.eval) (caps.map a.eval))) : Sem Next).run P w = _
      rw [e1, e2]; rfl
    · cases h
  · -- nilCheck
    rename_i x ho
    simp only [ho]
    split at h
    · rename_i k o hx
      simp only [Option.some.injEq] at h; subst h
      exact ⟨by rw [S.get hx]; rfl, fun k f e => by cases e; exact S.getp hx⟩
    · rename_i ad hx
      simp only [Option.some.injEq] at h; subst h
      exact ⟨by rw [S.get hx]; rfl, fun _ _ hh => by cases hh⟩
    · cases h
  · cases h
end
end Go.Proofs.Ytgonaioedbphgaa
