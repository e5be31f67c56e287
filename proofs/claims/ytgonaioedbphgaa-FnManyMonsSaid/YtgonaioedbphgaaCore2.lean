/- A symbolic state of a frame (slots, local variables that lie in boxes) and an evaluator of operations over it, in plain Lean; its soundness. No program is named here. -/
import Derived.Test.YtgonaioedbphgaaCore1
import Derived.Orders
namespace Go.Proofs.Ytgonaioedbphgaa
open Go
inductive SV where
  | v (x : Value)
  | p (k off : Nat)
def SV.val (β : Nat → Nat) : SV → Value
  | .v x => x
  | .p k o => pt (β k) o
abbrev Env := List (Nat × SV)
def look : Env → Nat → Option SV
  | [], _ => none
  | (s, x) :: r, t => bif Nat.beq s t then some x else look r t
structure Sy where
  env : Env
  bx : List (List Value)
def Sy.get (σ : Sy) : Operand → Option SV
  | .tmp t => look σ.env t
  | .const v => some (.v v)
  | .func f => some (.v (.func (.func f) #[] #[]))
  | .global _ => none
def Sy.put (n : Nat) (σ : Sy) (dst : Option Nat) (x : SV) : Option Sy :=
  match dst with
  | none => some σ
  | some d => bif Nat.blt d n then some ⟨(d, x) :: σ.env, σ.bx⟩ else none
inductive Ask where
  | int (op : BinOp) (k : IntKind) (x y : Int)
  | load (t : TypeId) (a : Value)
  | idx (t : TypeId) (s i : Value)
  | sem (s : Sem Value)
  | call (f : FuncId) (args : List Value)
def intSem (op : BinOp) (k : IntKind) (x y : Int) : Sem Value :=
  match op with
  | .add | .sub | .mul => Op.intArith op k x y
  | .quo | .rem => Op.intDiv op k x y
  | .and | .or | .xor | .andNot => Op.intBits op k x y
  | _ => Op.intCmp op x y
def Ask.run : Ask → Sem Value
  | .int op k x y => intSem op k x y
  | .load t a => Instr.loadAt t a
  | .idx t s i => Instr.indexAt t s i
  | .sem s => s
  | .call _ _ => .halt .goexit
inductive Ac where
  | val (x : SV)
  | ask (q : Ask)
  | new (T : TypeId) (cs : List Value)
  | put (k : Nat) (cs : List Value)
def tsize (P : Program) (t : TypeId) : Option Nat := (P.info? t).map (·.size)
def tagg (P : Program) (t : TypeId) : Option Bool :=
  match P.underlying t with
  | some (.struct _) | some (.array _ _) => some true
  | some _ => some false
  | none => none
def boxLoad (P : Program) (t : TypeId) (cs : List Value) (o : Nat) : Option Value :=
  match tagg P t, tsize P t with
  | some true, some s => bif Nat.ble (o + s) cs.length then some (.agg ((cs.drop o).take s).toArray) else none
  | some false, some _ => cs[o]?
  | _, _ => none
def boxStore (P : Program) (t : TypeId) (cs : List Value) (o : Nat) (v : Value) : Option (List Value) :=
  match tsize P t with
  | some s => bif Nat.beq v.cells.toList.length s && Nat.ble (o + s) cs.length && v.cells.toList.all (·.oneCell') then some (cs.take o ++ v.cells.toList ++ cs.drop (o + s)) else none
  | none => none
def partOf (P : Program) (t : TypeId) (cs : Array Value) (o : Nat) : Option Value :=
  match tagg P t, tsize P t with
  | some true, some s => some (.agg (cs.extract o (o + s)))
  | some false, some _ => cs.toList[o]?
  | _, _ => none
def intAc (op : BinOp) (k : IntKind) (a b : Int) : Option Ac :=
  match op with
  | .lss => some (.val (.v (.bool (decide (a < b)))))
  | .leq => some (.val (.v (.bool (decide (a ≤ b)))))
  | .gtr => some (.val (.v (.bool (decide (a > b)))))
  | .geq => some (.val (.v (.bool (decide (a ≥ b)))))
  | .eql => some (.val (.v (.bool (a == b))))
  | .neq => some (.val (.v (.bool (a != b))))
  | .shl | .shr => none
  | _ => some (.ask (.int op k a b))
def eqSem (P : Program) (op : BinOp) (t : TypeId) (x y : Value) : Option (Sem Value) :=
  match op, P.eqGuardType P.depth t with
  | .eql, false => some (do pure (.bool (← Op.equal t x y)))
  | .neq, false => some (do pure (.bool (!(← Op.equal t x y))))
  | _, _ => none
def binAc (P : Program) (op : BinOp) (t : TypeId) (x y : Value) : Option Ac :=
  match x, y with
  | .int k a, .int k' b =>
    match op with
    | .shl | .shr => some (.ask (.sem (Op.shift op k a k' b)))
    | _ => if k = k' then intAc op k a b else none
  | .bool a, .bool b =>
    match op, P.underlying t with
    | .eql, some .bool => some (.val (.v (.bool (a == b))))
    | .neq, some .bool => some (.val (.v (.bool (!(a == b)))))
    | _, _ => none
  | .agg a, .agg b => (eqSem P op t (.agg a) (.agg b)).map fun s => .ask (.sem s)
  | _, _ => none
def gather (σ : Sy) : List (Nat × Operand) → Option (List (Nat × Value))
  | [] => some []
  | (i, x) :: r =>
    match σ.get x with
    | some (.v v) => (gather σ r).map fun l => (i, v) :: l
    | _ => none
def vlist (σ : Sy) : List Operand → Option (List Value)
  | [] => some []
  | x :: r => match σ.get x with
    | some (.v v) => (vlist σ r).map fun l => v :: l
    | _ => none
def callee (P : Program) (f : FuncId) : Bool :=
  match P.funcs[f]? with
  | some fn => !(fn.name == "runtime.NumGoroutine" || fn.body.isNone)
  | none => false
def opAc (P : Program) (σ : Sy) (o : Oper) : Option Ac :=
  match o.op with
  | .move x | .assign x => (σ.get x).map .val
  | .pick c a b =>
    match σ.get c with
    | some (.v (.bool t)) => (bif t then σ.get a else σ.get b).map .val
    | _ => none
  | .extract x i =>
    match σ.get x with
    | some (.v (.tuple vs)) => vs.toList[i]?.map fun v => .val (.v v)
    | _ => none
  | .box T x =>
    match σ.get x with
    | some (.v x) => some (.new T x.cells.toList)
    | _ => none
  | .alloc T =>
    match (P.info? T).bind (·.zero) with
    | some z => some (.new T z.cells.toList)
    | none => none
  | .fieldAddr s x f =>
    match P.underlying s with
    | some (.struct fs) =>
      match fs.toList[f]? with
      | some fd =>
        match tsize P fd.type with
        | some (_ + 1) =>
          match σ.get x with
          | some (.p k o) => some (.val (.p k (o + fd.offset)))
          | some (.v (.pointer (some ⟨b, o, none⟩))) => some (.val (.v (pt b (o + fd.offset))))
          | _ => none
        | _ => none
      | none => none
    | _ => none
  | .load t x =>
    match σ.get x with
    | some (.p k o) => (σ.bx[k]?).bind fun cs => (boxLoad P t cs o).map fun v => .val (.v v)
    | some (.v a) => some (.ask (.load t a))
    | none => none
  | .store t x y =>
    match σ.get x, σ.get y with
    | some (.p k o), some (.v v) => (σ.bx[k]?).bind fun cs => (boxStore P t cs o v).map fun cs' => .put k cs'
    | _, _ => none
  | .field t x f =>
    match P.underlying t, σ.get x with
    | some (.struct fs), some (.v (.agg cs)) => (fs.toList[f]?).bind fun fd => (partOf P fd.type cs fd.offset).map fun v => .val (.v v)
    | _, _ => none
  | .indexAddr t x i =>
    match σ.get x, σ.get i with
    | some (.v s), some (.v j) => some (.ask (.idx t s j))
    | _, _ => none
  | .binOp op t x y _ =>
    match σ.get x, σ.get y with
    | some (.v a), some (.v b) => binAc P op t a b
    | _, _ => none
  | .unOp .not _ x =>
    match σ.get x with
    | some (.v (.bool b)) => some (.val (.v (.bool (!b))))
    | _ => none
  | .unOp .neg _ x =>
    match σ.get x with
    | some (.v (.int k n)) => some (.ask (.int .sub k 0 n))
    | _ => none
  | .convert s d x =>
    match σ.get x with
    | some (.v a) => some (.ask (.sem (convert s d a)))
    | _ => none
  | .slice t x lo hi none =>
    match σ.get x, lo.map σ.get, hi.map σ.get with
    | some (.v s), none, none => some (.ask (.sem (Instr.sliceAt t s none none none)))
    | some (.v s), some (some (.v a)), none => some (.ask (.sem (Instr.sliceAt t s (some a) none none)))
    | some (.v s), none, some (some (.v b)) => some (.ask (.sem (Instr.sliceAt t s none (some b) none)))
    | some (.v s), some (some (.v a)), some (some (.v b)) => some (.ask (.sem (Instr.sliceAt t s (some a) (some b) none)))
    | _, _, _ => none
  | .call ⟨.builtin .len, args, ats⟩ =>
    match args.toList, ats.toList with
    | [x], [t] =>
      match P.underlying t, σ.get x with
      | some (.slice _), some (.v (.slice _ n _)) => some (.val (.v (I n)))
      | _, _ => none
    | _, _ => none
  | .call ⟨.builtin .min, args, _⟩ =>
    match args.toList with
    | [x, y] =>
      match σ.get x, σ.get y with
      | some (.v (.int .i64 a)), some (.v (.int .i64 b)) => some (.val (.v (I (if b < a then b else a))))
      | _, _ => none
    | _ => none
  | .call ⟨.builtin .max, args, _⟩ =>
    match args.toList with
    | [x, y] =>
      match σ.get x, σ.get y with
      | some (.v (.int .i64 a)), some (.v (.int .i64 b)) => some (.val (.v (I (if b > a then b else a))))
      | _, _ => none
    | _ => none
  | .call ⟨.value (.func f), args, _⟩ => bif callee P f then (vlist σ args.toList).map fun l => .ask (.call f l) else none
  | .call ⟨.value (.tmp t), args, _⟩ =>
    match σ.get (.tmp t) with
    | some (.v (.func (.func f) first captured)) => bif callee P f then (vlist σ args.toList).map fun l => .ask (.call f (first.toList ++ l ++ captured.toList)) else none
    | _ => none
  | .build t parts => (gather σ parts.toList).map fun l => .ask (.sem (Instr.build t l.toArray))
  | .makeFunc (.func f) first caps =>
    match vlist σ first.toList, vlist σ caps.toList with
    | some l, some l' => some (.val (.v (.func (.func f) l.toArray l'.toArray)))
    | _, _ => none
  | .nilCheck x =>
    match σ.get x with
    | some (.p k o) => some (.val (.p k o))
    | some (.v (.pointer (some ad))) => some (.val (.v (.pointer (some ad))))
    | _ => none
  | _ => none
def guardv (ops : Array Oper) (σ : Sy) (o : Oper) : Option Bool :=
  match o.guard with
  | none => some true
  | some (j, want) =>
    match (ops.toList[j]?).bind (·.dst) with
    | none => none
    | some d =>
      match look σ.env d with
      | some (.v (.bool b)) => some (bif want then b else !b)
      | some (.v (.tuple _)) => some false
      | _ => none
def setL (l : List (List Value)) (k : Nat) (cs : List Value) : List (List Value) := l.set k cs
def ev (P : Program) (n : Nat) (ops : Array Oper) : List Oper → Sy → List Value → Option (Sy × List (Ask × Value))
  | [], σ, _ => some (σ, [])
  | o :: r, σ, orc =>
    match guardv ops σ o with
    | none => none
    | some false => (σ.put n o.dst (.v undef)).bind fun σ' => ev P n ops r σ' orc
    | some true =>
      match opAc P σ o with
      | none => none
      | some (.val x) => (σ.put n o.dst x).bind fun σ' => ev P n ops r σ' orc
      | some (.ask q) =>
        match orc with
        | [] => none
        | v :: orc' => (σ.put n o.dst (.v v)).bind fun σ' => (ev P n ops r σ' orc').map fun x => (x.1, (q, v) :: x.2)
      | some (.new _ cs) => (Sy.put n ⟨σ.env, σ.bx ++ [cs]⟩ o.dst (.p σ.bx.length 0)).bind fun σ' => ev P n ops r σ' orc
      | some (.put k cs) =>
        match o.dst with
        | none => ev P n ops r ⟨σ.env, σ.bx.set k cs⟩ orc
        | some _ => none
def Sy.keep (σ : Sy) (m : Nat) : List Nat → Env
  | [] => []
  | t :: r => match look σ.env t with
    | some (.v x) => (t, .v x) :: σ.keep m r
    | some (.p k o) => bif Nat.blt k m then (t, .p k o) :: σ.keep m r else σ.keep m r
    | none => σ.keep m r
def evK (P : Program) (n : Nat) (ops : Array Oper) (i k : Nat) (σ : Sy) (orc : List Value) (keep : List Nat) (m : Nat) : Option (Sy × List (Ask × Value)) :=
  bif Nat.ble (i + k) ops.size then (ev P n ops ((ops.toList.drop i).take k) σ orc).map fun x => (⟨x.1.keep m keep, x.1.bx.take m⟩, x.2) else none
def Quiet (P : Program) (u : World) (N : Bl) (s : Sem Value) (v : Value) : Prop :=
  ∀ w : World, (∀ b, N b → w.heap[b]? = u.heap[b]?) → s.run P w = .ok v w
def QCall (P : Program) (u : World) (N : Bl) (f : FuncId) (args : List Value) (v : Value) : Prop :=
  ∀ w : World, (∀ b, N b → b < w.heap.size ∧ w.heap[b]? = u.heap[b]?) → Calls P f args.toArray w fun e w' => e = .returned v ∧ Chg NoB w w'
def Quiet1 (P : Program) (u : World) (N : Bl) : Ask → Value → Prop
  | .call f args, v => QCall P u N f args v
  | q, v => Quiet P u N q.run v
def AllQ (P : Program) (u : World) (N : Bl) : List (Ask × Value) → Prop
  | [] => True
  | c :: r => Quiet1 P u N c.1 c.2 ∧ AllQ P u N r
theorem AllQ.nil {P : Program} {u : World} {N : Bl} : AllQ P u N [] := trivial
theorem AllQ.cons {P : Program} {u : World} {N : Bl} {q : Ask} {v : Value} {l : List (Ask × Value)} (h : Quiet1 P u N q v) (t : AllQ P u N l) : AllQ P u N ((q, v) :: l) := ⟨h, t⟩
structure St (P : Program) (n : Nat) (w0 : World) (M : Bl) (u : World) (N : Bl) (β : Nat → Nat) (σ : Sy) (a : Act) (w : World) : Prop where
  df : a.defers = []
  sz : a.tmps.size = n
  env : ∀ t s, look σ.env t = some s → a.tmps[t]? = some (s.val β)
  ok : ∀ t k o, look σ.env t = some (.p k o) → k < σ.bx.length
  box : ∀ k cs, σ.bx[k]? = some cs → ∃ T, w.heap[β k]? = some (.cells cs.toArray T (0, 0))
  inj : ∀ j k, j < σ.bx.length → k < σ.bx.length → β j = β k → j = k
  new : ∀ k, k < σ.bx.length → w0.heap.size ≤ β k ∨ M (β k)
  sep : ∀ b, N b → b < w.heap.size ∧ w.heap[b]? = u.heap[b]? ∧ ∀ k, k < σ.bx.length → β k ≠ b
  chg : Chg M w0 w
  old : ∀ b, b < w0.heap.size → ¬ M b → N b ∧ u.heap[b]? = w0.heap[b]?
section sound
variable {P : Program} {n : Nat} {w0 : World} {M : Bl} {u : World} {N : Bl} {β : Nat → Nat} {σ : Sy} {a : Act} {w : World}
theorem St.get (S : St P n w0 M u N β σ a w) {x : Operand} {s : SV} (h : σ.get x = some s) : a.eval x = s.val β := by
  cases x with
  | tmp t =>
    have := S.env t s h
    simp [Act.eval, this]
  | const v => simp [Sy.get] at h; subst h; rfl
  | global g => simp [Sy.get] at h
  | func f => simp [Sy.get] at h; subst h; rfl
theorem look_cons {s t : Nat} {x : SV} {r : Env} : look ((s, x) :: r) t = if s = t then some x else look r t := by
  show (bif Nat.beq s t then some x else look r t) = _
  by_cases h : s = t
  · subst h; simp
  · have : Nat.beq s t = false := by
      cases e : Nat.beq s t with
      | false => rfl
      | true => exact absurd (Nat.eq_of_beq_eq_true e) h
    simp [this, h]
theorem St.put (S : St P n w0 M u N β σ a w) {dst : Option Nat} {x : SV} {σ' : Sy} (h : σ.put n dst x = some σ') (hx : ∀ k o, x = .p k o → k < σ.bx.length) :
    St P n w0 M u N β σ' (a.put dst (x.val β)) w := by
  cases dst with
  | none => simp [Sy.put] at h; subst h; exact S
  | some d =>
    simp only [Sy.put] at h
    cases hd : Nat.blt d n with
    | false => rw [hd] at h; simp at h
    | true =>
      rw [hd] at h
      simp at h
      subst h
      have hlt : d < n := Nat.le_of_ble_eq_true hd
      refine ⟨S.df, by simp [Act.put, S.sz], fun t s ht => ?_, fun t k o ht => ?_, S.box, S.inj, S.new, S.sep, S.chg, S.old⟩
      · simp only [look_cons] at ht
        by_cases e : d = t
        · subst e
          simp at ht
          subst ht
          simp [Act.put, S.sz, hlt]
        · simp only [e, if_false] at ht
          simp only [Act.put, Array.getElem?_setIfInBounds_ne e]
          exact S.env t s ht
      · simp only [look_cons] at ht
        by_cases e : d = t
        · simp [e] at ht
          exact hx k o ht
        · simp only [e, if_false] at ht
          exact S.ok t k o ht
theorem St.push (S : St P n w0 M u N β σ a w) (cs : List Value) (T : TypeId) :
    St P n w0 M u N (fun k => if k = σ.bx.length then w.heap.size else β k) ⟨σ.env, σ.bx ++ [cs]⟩ a { w with heap := w.heap.push (.cells cs.toArray T) } := by
  have hs : ∀ k, k < σ.bx.length → β k < w.heap.size := fun k hk => by
    obtain ⟨T', h⟩ := S.box k _ (List.getElem?_eq_getElem hk)
    rcases Nat.lt_or_ge (β k) w.heap.size with hl | hl
    · exact hl
    · rw [Array.getElem?_eq_none hl] at h; cases h
  refine ⟨S.df, S.sz, fun t s ht => ?_, fun t k o ht => ?_, fun k cs' hk => ?_, fun j k hj hk he => ?_, fun k hk => ?_, fun b hb => ?_, S.chg.trans (Chg.push M w _), S.old⟩
  · rw [S.env t s ht]
    cases s with
    | v x => rfl
    | p k o =>
      have := S.ok t k o ht
      have hne : k ≠ σ.bx.length := Nat.ne_of_lt this
      simp [SV.val, hne]
  · have := S.ok t k o ht
    simp; omega
  · by_cases e : k = σ.bx.length
    · subst e
      simp at hk
      subst hk
      exact ⟨T, by simp⟩
    · have hlt : k < σ.bx.length := by
        have := (List.getElem?_eq_some_iff.1 hk).1
        simp at this; omega
      rw [List.getElem?_append_left hlt] at hk
      obtain ⟨T', h⟩ := S.box k cs' hk
      refine ⟨T', ?_⟩
      simp only [e, if_false, Array.getElem?_push]
      rw [if_neg (by have := hs k hlt; omega)]
      exact h
  · simp at hj hk
    by_cases e1 : j = σ.bx.length <;> by_cases e2 : k = σ.bx.length
    · omega
    · simp only [e1, e2, if_true, if_false] at he
      have := hs k (by omega); omega
    · simp only [e1, e2, if_true, if_false] at he
      have := hs j (by omega); omega
    · simp only [e1, e2, if_false] at he
      exact S.inj j k (by omega) (by omega) he
  · simp at hk
    by_cases e : k = σ.bx.length
    · simp only [e, if_true]; exact .inl S.chg.size
    · simp only [e, if_false]; exact S.new k (by omega)
  · obtain ⟨h1, h2, h3⟩ := S.sep b hb
    refine ⟨by simp; omega, ?_, fun k hk => ?_⟩
    · simp only [Array.getElem?_push]
      rw [if_neg (by omega)]
      exact h2
    · simp at hk
      by_cases e : k = σ.bx.length
      · simp only [e, if_true]; omega
      · simp only [e, if_false]; exact h3 k (by omega)
theorem St.poke (S : St P n w0 M u N β σ a w) {k : Nat} {cs cs' : List Value} (hk : σ.bx[k]? = some cs) :
    St P n w0 M u N β ⟨σ.env, σ.bx.set k cs'⟩ a (w.setRow (β k) cs'.toArray) := by
  have hlt : k < σ.bx.length := (List.getElem?_eq_some_iff.1 hk).1
  have oth : ∀ b, b ≠ β k → (w.setRow (β k) cs'.toArray).heap[b]? = w.heap[b]? := fun b hb => by
    simp only [World.setRow, Array.getElem?_modify]
    rw [if_neg (fun e => hb e.symm)]
  have hsz : (w.setRow (β k) cs'.toArray).heap.size = w.heap.size := by simp [World.setRow]
  refine ⟨S.df, S.sz, S.env, fun t j o ht => ?_, fun j cs1 hj => ?_, fun i j hi hj => ?_, fun j hj => ?_, fun b hb => ?_, ?_, S.old⟩
  · have := S.ok t j o ht; simpa using this
  · by_cases e : j = k
    · subst e
      obtain ⟨T, h⟩ := S.box j cs hk
      have e1 : (σ.bx.set j cs')[j]? = some cs' := by simp [hlt]
      rw [e1] at hj
      simp at hj
      subst hj
      exact ⟨T, setRow_heap w _ _ _ _ _ h⟩
    · have e1 : (σ.bx.set k cs')[j]? = σ.bx[j]? := by simp [List.getElem?_set_ne (fun q => e q.symm)]
      rw [e1] at hj
      obtain ⟨T, h⟩ := S.box j cs1 hj
      have hjl : j < σ.bx.length := (List.getElem?_eq_some_iff.1 hj).1
      exact ⟨T, (oth _ (fun q => e (S.inj j k hjl hlt q))).trans h⟩
  · exact S.inj i j (by simpa using hi) (by simpa using hj)
  · exact S.new j (by simpa using hj)
  · obtain ⟨h1, h2, h3⟩ := S.sep b hb
    exact ⟨by rw [hsz]; exact h1, (oth b (fun e => h3 k hlt e.symm)).trans h2, fun j hj => h3 j (by simpa using hj)⟩
  · refine ⟨S.chg.os, S.chg.tape, S.chg.output, by rw [hsz]; exact S.chg.size, fun b hb hm => ?_⟩
    rw [oth b (fun e => (S.new k hlt).elim (fun h => by omega) (fun h => hm (e ▸ h)))]
    exact S.chg.block b hb hm
theorem St.ext (S : St P n w0 M u N β σ a w) {w' : World} (hc : Chg NoB w w') : St P n w0 M u N β σ a w' := by
  have hb : ∀ k, k < σ.bx.length → β k < w.heap.size := fun k hk => by
    obtain ⟨T', h⟩ := S.box k _ (List.getElem?_eq_getElem hk)
    rcases Nat.lt_or_ge (β k) w.heap.size with hl | hl
    · exact hl
    · rw [Array.getElem?_eq_none hl] at h; cases h
  refine ⟨S.df, S.sz, S.env, S.ok, fun k cs hk => ?_, S.inj, S.new, fun b hb' => ?_, S.chg.step hc (fun _ _ f => f.elim), S.old⟩
  · obtain ⟨T, h⟩ := S.box k cs hk
    exact ⟨T, (hc.block _ (hb k (List.getElem?_eq_some_iff.1 hk).1) (fun f => f)).trans h⟩
  · obtain ⟨h1, h2, h3⟩ := S.sep b hb'
    exact ⟨Nat.lt_of_lt_of_le h1 hc.size, (hc.block _ h1 (fun f => f)).trans h2, h3⟩
end sound
end Go.Proofs.Ytgonaioedbphgaa
