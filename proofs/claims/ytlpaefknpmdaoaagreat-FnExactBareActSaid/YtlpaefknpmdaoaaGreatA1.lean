/- Worlds that agree on some blocks; typed data read off memory: a class of types whose values are cells given by data and pointers. No program is named here. -/
import Derived.Below
import Derived.Deep.MidRow
import Derived.Laws.CopyRow
import Derived.Orders
import Derived.Deep.Quiet
import Derived.IntWalk
import Derived.Laws.StructEq
import Derived.OpenShut
import Derived.Deep.Slices
import Derived.OrdersHeld
namespace Go.Proofs.YtlpaefknpmdaoaaGreat
open Go
abbrev Bl := Nat → Prop
def Disj (A B : Bl) : Prop := ∀ b, A b → B b → False
theorem Disj.w {A B C : Bl} (d : ∀ b, B b → C b → False) (h : ∀ b, A b → B b) : Disj A C := fun b x y => d b (h b x) y
def Lt (n : Nat) : Bl := fun b => b < n
def Iv (lo hi : Nat) : Bl := fun b => lo ≤ b ∧ b < hi
def NoB : Bl := fun _ => False
theorem Disj.symm {A B : Bl} (h : Disj A B) : Disj B A := fun b x y => h b y x
structure Chg (M : Bl) (w w' : World) : Prop where
  os : w'.os = w.os
  tape : w'.tape = w.tape
  output : w'.output = w.output
  size : w.heap.size ≤ w'.heap.size
  block : ∀ k, k < w.heap.size → ¬ M k → w'.heap[k]? = w.heap[k]?
theorem Chg.refl (M : Bl) (w : World) : Chg M w w := ⟨rfl, rfl, rfl, Nat.le_refl _, fun _ _ _ => rfl⟩
theorem Chg.step {M M' : Bl} {a b c : World} (h : Chg M a b) (k : Chg M' b c) (hm : ∀ x, x < a.heap.size → M' x → M x) : Chg M a c :=
  ⟨k.os.trans h.os, k.tape.trans h.tape, k.output.trans h.output, Nat.le_trans h.size k.size, fun x hx hn =>
    (k.block x (Nat.lt_of_lt_of_le hx h.size) (fun hq => hn (hm x hx hq))).trans (h.block x hx hn)⟩
theorem Chg.mono {M M' : Bl} {a b : World} (h : Chg M a b) (hm : ∀ x, M x → M' x) : Chg M' a b :=
  ⟨h.os, h.tape, h.output, h.size, fun x hx hn => h.block x hx (fun q => hn (hm x q))⟩
theorem Chg.trans {M : Bl} {a b c : World} (h : Chg M a b) (k : Chg M b c) : Chg M a c := h.step k fun _ _ x => x
theorem Chg.below {w w' : World} (h : Chg NoB w w') : RowKit.Below w.heap.size w w' :=
  ⟨h.os, h.tape, h.output, h.size, fun k hk => h.block k hk (fun x => x)⟩
theorem Chg.draw (M : Bl) (w : World) (n : Nat) : Chg M w { w with drawn := n } := ⟨rfl, rfl, rfl, Nat.le_refl _, fun _ _ _ => rfl⟩
theorem Chg.push (M : Bl) (w : World) (o : Obj) : Chg M w { w with heap := w.heap.push o } :=
  ⟨rfl, rfl, rfl, by simp, fun k hk _ => by simp [Array.getElem?_push, Nat.ne_of_lt hk]⟩
theorem heap_setCell (w : World) (a : Addr) (v : Value) (k : Nat) (h : k ≠ a.block) : (w.setCell a v).heap[k]? = w.heap[k]? := by
  simp only [World.setCell, Array.getElem?_modify]
  rw [if_neg (fun e => h e.symm)]
theorem size_setCell (w : World) (a : Addr) (v : Value) : (w.setCell a v).heap.size = w.heap.size := by simp [World.setCell]
theorem Chg.setCell {M : Bl} (w : World) (a : Addr) (v : Value) (h : M a.block) : Chg M w (w.setCell a v) :=
  ⟨rfl, rfl, rfl, by rw [size_setCell]; exact Nat.le_refl _, fun k _ hn => heap_setCell w a v k (fun e => hn (e ▸ h))⟩
abbrev Plain (v : Value) : Prop := v.oneCell' = true
abbrev CellsAt (w : World) (b o : Nat) (cs : List Value) : Prop := w.rangeAt b o cs
theorem cell?_congr {w w' : World} {a : Addr} (h : w'.heap[a.block]? = w.heap[a.block]?) : w'.cell? a = w.cell? a := by
  unfold World.cell?; rw [h]
theorem CellsAt.agree {w w' : World} {b o : Nat} {cs : List Value} (h : CellsAt w b o cs) (e : w'.heap[b]? = w.heap[b]?) : CellsAt w' b o cs :=
  fun j v hj => (cell?_congr (a := ⟨b, o + j, none⟩) e).trans (h j v hj)
theorem cell?_lt {w : World} {a : Addr} {v : Value} (h : w.cell? a = some v) : a.block < w.heap.size := by
  unfold World.cell? at h
  rcases Nat.lt_or_ge a.block w.heap.size with hl | hl
  · exact hl
  · rw [Array.getElem?_eq_none hl] at h; cases h
theorem CellsAt.lt {w : World} {b o : Nat} {cs : List Value} (h : CellsAt w b o cs) (hc : 0 < cs.length) : b < w.heap.size := by
  have := h 0 _ (List.getElem?_eq_getElem hc)
  exact cell?_lt this
def In64 (x : Int) : Prop := -9223372036854775808 ≤ x ∧ x ≤ 9223372036854775807
structure SP where
  nil : Bool
  b : Nat
  off : Nat
  cap : Nat
  ad : Option Addr
def SP.addr (p : SP) : Option Addr := bif p.nil then p.ad else some ⟨p.b, p.off, none⟩
abbrev I (x : Int) : Value := .int .i64 x
abbrev B (b : Bool) : Value := .bool b
abbrev slv (n : Nat) (p : SP) : Value := .slice p.addr n p.cap
abbrev pt (b o : Nat) : Value := .pointer (some ⟨b, o, none⟩)
class GT (α : Type) where
  Ptr : Type
  dflt : α
  pdflt : Ptr
  width : Nat
  agg : Bool
  cells : α → Ptr → List Value
  rd : Nat → Bl → World → α → Ptr → Prop
  own : Nat → Bl → World → α → Ptr → Prop
  wpos : 0 < width
  len : ∀ x p, (cells x p).length = width
  one : agg = false → width = 1
  plain : ∀ x p v, v ∈ cells x p → Plain v
  rd_mono : ∀ {K K' : Nat} {F G : Bl} {w : World} {x : α} {p : Ptr}, rd K F w x p → K ≤ K' → (∀ b, F b → G b) → rd K' G w x p
  rd_agree : ∀ {K : Nat} {F : Bl} {w w' : World} {x : α} {p : Ptr}, rd K F w x p → (∀ b, F b → b < w.heap.size → w'.heap[b]? = w.heap[b]?) → rd K F w' x p
  rd_lt : ∀ {K : Nat} {F : Bl} {w : World} {x : α} {p : Ptr}, rd K F w x p → rd K (fun b => F b ∧ b < w.heap.size) w x p
  own_mono : ∀ {K K' : Nat} {F G : Bl} {w : World} {x : α} {p : Ptr}, own K F w x p → K ≤ K' → (∀ b, F b → G b) → own K' G w x p
  own_agree : ∀ {K : Nat} {F : Bl} {w w' : World} {x : α} {p : Ptr}, own K F w x p → (∀ b, F b → b < w.heap.size → w'.heap[b]? = w.heap[b]?) → own K F w' x p
  own_lt : ∀ {K : Nat} {F : Bl} {w : World} {x : α} {p : Ptr}, own K F w x p → own K (fun b => F b ∧ b < w.heap.size) w x p
  own_rd : ∀ {K : Nat} {F : Bl} {w : World} {x : α} {p : Ptr}, own K F w x p → rd K F w x p
  own_dflt : ∀ (K : Nat) (F : Bl) (w : World), own K F w dflt pdflt
def GT.val {α : Type} [GT α] (x : α) (p : GT.Ptr α) : Value := bif GT.agg α then .agg (GT.cells x p).toArray else (GT.cells x p).headD undef
instance : GT Int where
  Ptr := Unit
  dflt := 0
  pdflt := ()
  width := 1
  agg := false
  cells x _ := [I x]
  rd _ _ _ x _ := In64 x
  own _ _ _ x _ := In64 x
  wpos := Nat.one_pos
  len _ _ := rfl
  one _ := rfl
  plain _ _ v h := by simp at h; subst h; rfl
  rd_mono h _ _ := h
  rd_agree h _ := h
  rd_lt h := h
  own_mono h _ _ := h
  own_agree h _ := h
  own_lt h := h
  own_rd h := h
  own_dflt _ _ _ := ⟨by decide, by decide⟩
instance : GT Bool where
  Ptr := Unit
  dflt := false
  pdflt := ()
  width := 1
  agg := false
  cells x _ := [B x]
  rd _ _ _ _ _ := True
  own _ _ _ _ _ := True
  wpos := Nat.one_pos
  len _ _ := rfl
  one _ := rfl
  plain _ _ v h := by simp at h; subst h; rfl
  rd_mono h _ _ := h
  rd_agree h _ := h
  rd_lt h := h
  own_mono h _ _ := h
  own_agree h _ := h
  own_lt h := h
  own_rd h := h
  own_dflt _ _ _ := trivial
section lists
variable {α : Type} [GT α]
def el (xs : List α) (i : Nat) : α := xs.getD i (GT.dflt)
abbrev LP (α : Type) [GT α] := SP × (Nat → GT.Ptr α)
structure LRd (K : Nat) (F : Bl) (w : World) (xs : List α) (p : LP α) : Prop where
  le : xs.length ≤ K
  cap : xs.length ≤ p.1.cap
  at_ : 0 < xs.length → p.1.nil = false ∧ F p.1.b
  cell : ∀ i, i < xs.length → CellsAt w p.1.b (p.1.off + i * GT.width α) (GT.cells (el xs i) (p.2 i))
  el : ∀ i, i < xs.length → GT.rd K F w (el xs i) (p.2 i)
structure LOwn (K : Nat) (F : Bl) (w : World) (xs : List α) (p : LP α) : Prop where
  le : xs.length ≤ K
  cap : xs.length ≤ p.1.cap
  capm : p.1.cap ≤ 9223372036854775807
  null : p.1.nil = true → p.1.cap = 0
  row : p.1.nil = false → F p.1.b ∧ ∃ (cs : Array Value) (T : TypeId), w.heap[p.1.b]? = some (.cells cs T (0, 0)) ∧ p.1.off + p.1.cap * GT.width α ≤ cs.size
  cell : ∀ i, i < xs.length → CellsAt w p.1.b (p.1.off + i * GT.width α) (GT.cells (Go.Proofs.YtlpaefknpmdaoaaGreat.el xs i) (p.2 i))
  el : ∃ G : Nat → Bl, (∀ i, i < xs.length → GT.own K (G i) w (Go.Proofs.YtlpaefknpmdaoaaGreat.el xs i) (p.2 i)) ∧ (∀ i, i < xs.length → ∀ b, G i b → F b ∧ b ≠ p.1.b) ∧ (∀ i j, i < xs.length → j < xs.length → i ≠ j → Disj (G i) (G j))
instance : GT (List α) where
  Ptr := LP α
  dflt := []
  pdflt := (⟨true, 0, 0, 0, none⟩, fun _ => GT.pdflt)
  width := 1
  agg := false
  cells xs p := [slv xs.length p.1]
  rd := LRd
  own := LOwn
  wpos := Nat.one_pos
  len _ _ := rfl
  one _ := rfl
  plain _ _ v h := by simp at h; subst h; rfl
  rd_mono h hk hf := ⟨Nat.le_trans h.le hk, h.cap, fun z => ⟨(h.at_ z).1, hf _ (h.at_ z).2⟩, h.cell, fun i hi => GT.rd_mono (h.el i hi) hk hf⟩
  rd_agree h hw := ⟨h.le, h.cap, h.at_, fun i hi =>
      (h.cell i hi).agree (hw _ (h.at_ (Nat.lt_of_le_of_lt (Nat.zero_le _) hi)).2 ((h.cell i hi).lt (by rw [GT.len]; exact GT.wpos))),
    fun i hi => GT.rd_agree (h.el i hi) hw⟩
  rd_lt h := ⟨h.le, h.cap, fun z => ⟨(h.at_ z).1, (h.at_ z).2, (h.cell 0 z).lt (by rw [GT.len]; exact GT.wpos)⟩, h.cell, fun i hi => GT.rd_lt (h.el i hi)⟩
  own_mono h hk hf := by
    obtain ⟨G, g1, g2, g3⟩ := h.el
    exact ⟨Nat.le_trans h.le hk, h.cap, h.capm, h.null, fun z => ⟨hf _ (h.row z).1, (h.row z).2⟩, h.cell, G, fun i hi => GT.own_mono (g1 i hi) hk (fun _ x => x), fun i hi b hb => ⟨hf _ (g2 i hi b hb).1, (g2 i hi b hb).2⟩, g3⟩
  own_agree := by
    intro K F w w' xs p h hw
    have nn : ∀ i, i < xs.length → p.1.nil = false := fun i hi => by
      cases hn : p.1.nil with
      | false => rfl
      | true => have := h.null hn; have := h.cap; omega
    have hlt : p.1.nil = false → p.1.b < w.heap.size := fun hn => by
      obtain ⟨_, cs, T, h2, _⟩ := h.row hn
      rcases Nat.lt_or_ge p.1.b w.heap.size with hl | hl
      · exact hl
      · rw [Array.getElem?_eq_none hl] at h2; cases h2
    obtain ⟨G, g1, g2, g3⟩ := h.el
    refine ⟨h.le, h.cap, h.capm, h.null, fun z => ?_, fun i hi => (h.cell i hi).agree (hw _ (h.row (nn i hi)).1 (hlt (nn i hi))), G, fun i hi => GT.own_agree (g1 i hi) (fun b hb hl => hw b (g2 i hi b hb).1 hl), g2, g3⟩
    obtain ⟨h1, cs, T, h2, h3⟩ := h.row z
    exact ⟨h1, cs, T, (hw _ h1 (hlt z)).trans h2, h3⟩
  own_lt := by
    intro K F w xs p h
    have hlt : p.1.nil = false → p.1.b < w.heap.size := fun hn => by
      obtain ⟨_, cs, T, h2, _⟩ := h.row hn
      rcases Nat.lt_or_ge p.1.b w.heap.size with hl | hl
      · exact hl
      · rw [Array.getElem?_eq_none hl] at h2; cases h2
    obtain ⟨G, g1, g2, g3⟩ := h.el
    exact ⟨h.le, h.cap, h.capm, h.null, fun z => ⟨⟨(h.row z).1, hlt z⟩, (h.row z).2⟩, h.cell, fun i b => G i b ∧ b < w.heap.size, fun i hi => GT.own_lt (g1 i hi),
      fun i hi b hb => ⟨⟨(g2 i hi b hb.1).1, hb.2⟩, (g2 i hi b hb.1).2⟩, fun i j hi hj hn b x y => g3 i j hi hj hn b x.1 y.1⟩
  own_rd := by
    intro K F w xs p h
    have nn : 0 < xs.length → p.1.nil = false := fun hi => by
      cases hn : p.1.nil with
      | false => rfl
      | true => have := h.null hn; have := h.cap; omega
    obtain ⟨G, g1, g2, g3⟩ := h.el
    exact ⟨h.le, h.cap, fun z => ⟨nn z, (h.row (nn z)).1⟩, h.cell, fun i hi => GT.own_rd (GT.own_mono (g1 i hi) (Nat.le_refl _) (fun b hb => (g2 i hi b hb).1))⟩
  own_dflt K F w := ⟨Nat.zero_le _, Nat.zero_le _, Nat.zero_le _, fun _ => rfl, fun h => (by cases h), fun i hi => absurd hi (Nat.not_lt_zero _), fun _ => NoB, fun i hi => absurd hi (Nat.not_lt_zero _), fun i hi => absurd hi (Nat.not_lt_zero _), fun i _ hi => absurd hi (Nat.not_lt_zero _)⟩
end lists
end Go.Proofs.YtlpaefknpmdaoaaGreat
namespace Go.Proofs.YtlpaefknpmdaoaaGreat
open Go
inductive SV where
  | v (x : Value)
  | p (k off : Nat)
def SV.val (β : Nat → Nat) : SV → Value
  | .v x => x
  | .p k o => pt (β k) o
abbrev Env := List (Nat × SV)
def look : Env → Nat → Option SV
  | [], _ => none
  | (s, x) :: r, t => bif Nat.beq s t then some x else look r t
structure Sy where
  env : Env
  bx : List (List Value)
def Sy.get (σ : Sy) : Operand → Option SV
  | .tmp t => look σ.env t
  | .const v => some (.v v)
  | .func f => some (.v (.func (.func f) #[] #[]))
  | .global _ => none
def Sy.put (n : Nat) (σ : Sy) (dst : Option Nat) (x : SV) : Option Sy :=
  match dst with
  | none => some σ
  | some d => bif Nat.blt d n then some ⟨(d, x) :: σ.env, σ.bx⟩ else none
inductive Ask where
  | int (op : BinOp) (k : IntKind) (x y : Int)
  | load (t : TypeId) (a : Value)
  | idx (t : TypeId) (s i : Value)
  | sem (s : Sem Value)
  | call (f : FuncId) (args : List Value)
def intSem (op : BinOp) (k : IntKind) (x y : Int) : Sem Value :=
  match op with
  | .add | .sub | .mul => Op.intArith op k x y
  | .quo | .rem => Op.intDiv op k x y
  | .and | .or | .xor | .andNot => Op.intBits op k x y
  | _ => Op.intCmp op x y
def Ask.run : Ask → Sem Value
  | .int op k x y => intSem op k x y
  | .load t a => Instr.loadAt t a
  | .idx t s i => Instr.indexAt t s i
  | .sem s => s
  | .call _ _ => .halt .goexit
inductive Ac where
  | val (x : SV)
  | ask (q : Ask)
  | new (T : TypeId) (cs : List Value)
  | put (k : Nat) (cs : List Value)
def tsize (P : Program) (t : TypeId) : Option Nat := (P.info? t).map (·.size)
def tagg (P : Program) (t : TypeId) : Option Bool :=
  match P.underlying t with
  | some (.struct _) | some (.array _ _) => some true
  | some _ => some false
  | none => none
def boxLoad (P : Program) (t : TypeId) (cs : List Value) (o : Nat) : Option Value :=
  match tagg P t, tsize P t with
  | some true, some s => bif Nat.ble (o + s) cs.length then some (.agg ((cs.drop o).take s).toArray) else none
  | some false, some _ => cs[o]?
  | _, _ => none
def boxStore (P : Program) (t : TypeId) (cs : List Value) (o : Nat) (v : Value) : Option (List Value) :=
  match tsize P t with
  | some s => bif Nat.beq v.cells.toList.length s && Nat.ble (o + s) cs.length && v.cells.toList.all (·.oneCell') then some (cs.take o ++ v.cells.toList ++ cs.drop (o + s)) else none
  | none => none
def partOf (P : Program) (t : TypeId) (cs : Array Value) (o : Nat) : Option Value :=
  match tagg P t, tsize P t with
  | some true, some s => some (.agg (cs.extract o (o + s)))
  | some false, some _ => cs.toList[o]?
  | _, _ => none
def intAc (op : BinOp) (k : IntKind) (a b : Int) : Option Ac :=
  match op with
  | .lss => some (.val (.v (.bool (decide (a < b)))))
  | .leq => some (.val (.v (.bool (decide (a ≤ b)))))
  | .gtr => some (.val (.v (.bool (decide (a > b)))))
  | .geq => some (.val (.v (.bool (decide (a ≥ b)))))
  | .eql => some (.val (.v (.bool (a == b))))
  | .neq => some (.val (.v (.bool (a != b))))
  | .shl | .shr => none
  | _ => some (.ask (.int op k a b))
def eqSem (P : Program) (op : BinOp) (t : TypeId) (x y : Value) : Option (Sem Value) :=
  match op, P.eqGuardType P.depth t with
  | .eql, false => some (do pure (.bool (← Op.equal t x y)))
  | .neq, false => some (do pure (.bool (!(← Op.equal t x y))))
  | _, _ => none
def binAc (P : Program) (op : BinOp) (t : TypeId) (x y : Value) : Option Ac :=
  match x, y with
  | .int k a, .int k' b =>
    match op with
    | .shl | .shr => some (.ask (.sem (Op.shift op k a k' b)))
    | _ => if k = k' then intAc op k a b else none
  | .bool a, .bool b =>
    match op, P.underlying t with
    | .eql, some .bool => some (.val (.v (.bool (a == b))))
    | .neq, some .bool => some (.val (.v (.bool (!(a == b)))))
    | _, _ => none
  | .agg a, .agg b => (eqSem P op t (.agg a) (.agg b)).map fun s => .ask (.sem s)
  | _, _ => none
def gather (σ : Sy) : List (Nat × Operand) → Option (List (Nat × Value))
  | [] => some []
  | (i, x) :: r =>
    match σ.get x with
    | some (.v v) => (gather σ r).map fun l => (i, v) :: l
    | _ => none
def vlist (σ : Sy) : List Operand → Option (List Value)
  | [] => some []
  | x :: r => match σ.get x with
    | some (.v v) => (vlist σ r).map fun l => v :: l
    | _ => none
def callee (P : Program) (f : FuncId) : Bool :=
  match P.funcs[f]? with
  | some fn => !(fn.name == "runtime.NumGoroutine" || fn.body.isNone)
  | none => false
def opAc (P : Program) (σ : Sy) (o : Oper) : Option Ac :=
  match o.op with
  | .move x | .assign x => (σ.get x).map .val
  | .pick c a b =>
    match σ.get c with
    | some (.v (.bool t)) => (bif t then σ.get a else σ.get b).map .val
    | _ => none
  | .extract x i =>
    match σ.get x with
    | some (.v (.tuple vs)) => vs.toList[i]?.map fun v => .val (.v v)
    | _ => none
  | .box T x =>
    match σ.get x with
    | some (.v x) => some (.new T x.cells.toList)
    | _ => none
  | .alloc T =>
    match (P.info? T).bind (·.zero) with
    | some z => some (.new T z.cells.toList)
    | none => none
  | .fieldAddr s x f =>
    match P.underlying s with
    | some (.struct fs) =>
      match fs.toList[f]? with
      | some fd =>
        match tsize P fd.type with
        | some (_ + 1) =>
          match σ.get x with
          | some (.p k o) => some (.val (.p k (o + fd.offset)))
          | some (.v (.pointer (some ⟨b, o, none⟩))) => some (.val (.v (pt b (o + fd.offset))))
          | _ => none
        | _ => none
      | none => none
    | _ => none
  | .load t x =>
    match σ.get x with
    | some (.p k o) => (σ.bx[k]?).bind fun cs => (boxLoad P t cs o).map fun v => .val (.v v)
    | some (.v a) => some (.ask (.load t a))
    | none => none
  | .store t x y =>
    match σ.get x, σ.get y with
    | some (.p k o), some (.v v) => (σ.bx[k]?).bind fun cs => (boxStore P t cs o v).map fun cs' => .put k cs'
    | _, _ => none
  | .field t x f =>
    match P.underlying t, σ.get x with
    | some (.struct fs), some (.v (.agg cs)) => (fs.toList[f]?).bind fun fd => (partOf P fd.type cs fd.offset).map fun v => .val (.v v)
    | _, _ => none
  | .indexAddr t x i =>
    match σ.get x, σ.get i with
    | some (.v s), some (.v j) => some (.ask (.idx t s j))
    | _, _ => none
  | .binOp op t x y _ =>
    match σ.get x, σ.get y with
    | some (.v a), some (.v b) => binAc P op t a b
    | _, _ => none
  | .unOp .not _ x =>
    match σ.get x with
    | some (.v (.bool b)) => some (.val (.v (.bool (!b))))
    | _ => none
  | .unOp .neg _ x =>
    match σ.get x with
    | some (.v (.int k n)) => some (.ask (.int .sub k 0 n))
    | _ => none
  | .convert s d x =>
    match σ.get x with
    | some (.v a) => some (.ask (.sem (convert s d a)))
    | _ => none
  | .slice t x lo hi none =>
    match σ.get x, lo.map σ.get, hi.map σ.get with
    | some (.v s), none, none => some (.ask (.sem (Instr.sliceAt t s none none none)))
    | some (.v s), some (some (.v a)), none => some (.ask (.sem (Instr.sliceAt t s (some a) none none)))
    | some (.v s), none, some (some (.v b)) => some (.ask (.sem (Instr.sliceAt t s none (some b) none)))
    | some (.v s), some (some (.v a)), some (some (.v b)) => some (.ask (.sem (Instr.sliceAt t s (some a) (some b) none)))
    | _, _, _ => none
  | .call ⟨.builtin .len, args, ats⟩ =>
    match args.toList, ats.toList with
    | [x], [t] =>
      match P.underlying t, σ.get x with
      | some (.slice _), some (.v (.slice _ n _)) => some (.val (.v (I n)))
      | _, _ => none
    | _, _ => none
  | .call ⟨.builtin .min, args, _⟩ =>
    match args.toList with
    | [x, y] =>
      match σ.get x, σ.get y with
      | some (.v (.int .i64 a)), some (.v (.int .i64 b)) => some (.val (.v (I (if b < a then b else a))))
      | _, _ => none
    | _ => none
  | .call ⟨.builtin .max, args, _⟩ =>
    match args.toList with
    | [x, y] =>
      match σ.get x, σ.get y with
      | some (.v (.int .i64 a)), some (.v (.int .i64 b)) => some (.val (.v (I (if b > a then b else a))))
      | _, _ => none
    | _ => none
  | .call ⟨.value (.func f), args, _⟩ => bif callee P f then (vlist σ args.toList).map fun l => .ask (.call f l) else none
  | .call ⟨.value (.tmp t), args, _⟩ =>
    match σ.get (.tmp t) with
    | some (.v (.func (.func f) first captured)) => bif callee P f then (vlist σ args.toList).map fun l => .ask (.call f (first.toList ++ l ++ captured.toList)) else none
    | _ => none
  | .build t parts => (gather σ parts.toList).map fun l => .ask (.sem (Instr.build t l.toArray))
  | .makeFunc (.func f) first caps =>
    match vlist σ first.toList, vlist σ caps.toList with
    | some l, some l' => some (.val (.v (.func (.func f) l.toArray l'.toArray)))
    | _, _ => none
  | .nilCheck x =>
    match σ.get x with
    | some (.p k o) => some (.val (.p k o))
    | some (.v (.pointer (some ad))) => some (.val (.v (.pointer (some ad))))
    | _ => none
  | _ => none
def guardv (ops : Array Oper) (σ : Sy) (o : Oper) : Option Bool :=
  match o.guard with
  | none => some true
  | some (j, want) =>
    match (ops.toList[j]?).bind (·.dst) with
    | none => none
    | some d =>
      match look σ.env d with
      | some (.v (.bool b)) => some (bif want then b else !b)
      | some (.v (.tuple _)) => some false
      | _ => none
def setL (l : List (List Value)) (k : Nat) (cs : List Value) : List (List Value) := l.set k cs
def ev (P : Program) (n : Nat) (ops : Array Oper) : List Oper → Sy → List Value → Option (Sy × List (Ask × Value))
  | [], σ, _ => some (σ, [])
  | o :: r, σ, orc =>
    match guardv ops σ o with
    | none => none
    | some false => (σ.put n o.dst (.v undef)).bind fun σ' => ev P n ops r σ' orc
    | some true =>
      match opAc P σ o with
      | none => none
      | some (.val x) => (σ.put n o.dst x).bind fun σ' => ev P n ops r σ' orc
      | some (.ask q) =>
        match orc with
        | [] => none
        | v :: orc' => (σ.put n o.dst (.v v)).bind fun σ' => (ev P n ops r σ' orc').map fun x => (x.1, (q, v) :: x.2)
      | some (.new _ cs) => (Sy.put n ⟨σ.env, σ.bx ++ [cs]⟩ o.dst (.p σ.bx.length 0)).bind fun σ' => ev P n ops r σ' orc
      | some (.put k cs) =>
        match o.dst with
        | none => ev P n ops r ⟨σ.env, σ.bx.set k cs⟩ orc
        | some _ => none
def Sy.keep (σ : Sy) (m : Nat) : List Nat → Env
  | [] => []
  | t :: r => match look σ.env t with
    | some (.v x) => (t, .v x) :: σ.keep m r
    | some (.p k o) => bif Nat.blt k m then (t, .p k o) :: σ.keep m r else σ.keep m r
    | none => σ.keep m r
def evK (P : Program) (n : Nat) (ops : Array Oper) (i k : Nat) (σ : Sy) (orc : List Value) (keep : List Nat) (m : Nat) : Option (Sy × List (Ask × Value)) :=
  bif Nat.ble (i + k) ops.size then (ev P n ops ((ops.toList.drop i).take k) σ orc).map fun x => (⟨x.1.keep m keep, x.1.bx.take m⟩, x.2) else none
def Quiet (P : Program) (u : World) (N : Bl) (s : Sem Value) (v : Value) : Prop :=
  ∀ w : World, (∀ b, N b → w.heap[b]? = u.heap[b]?) → s.run P w = .ok v w
def QCall (P : Program) (u : World) (N : Bl) (f : FuncId) (args : List Value) (v : Value) : Prop :=
  ∀ w : World, (∀ b, N b → b < w.heap.size ∧ w.heap[b]? = u.heap[b]?) → Calls P f args.toArray w fun e w' => e = .returned v ∧ Chg NoB w w'
def Quiet1 (P : Program) (u : World) (N : Bl) : Ask → Value → Prop
  | .call f args, v => QCall P u N f args v
  | q, v => Quiet P u N q.run v
def AllQ (P : Program) (u : World) (N : Bl) : List (Ask × Value) → Prop
  | [] => True
  | c :: r => Quiet1 P u N c.1 c.2 ∧ AllQ P u N r
theorem AllQ.nil {P : Program} {u : World} {N : Bl} : AllQ P u N [] := trivial
theorem AllQ.cons {P : Program} {u : World} {N : Bl} {q : Ask} {v : Value} {l : List (Ask × Value)} (h : Quiet1 P u N q v) (t : AllQ P u N l) : AllQ P u N ((q, v) :: l) := ⟨h, t⟩
structure St (P : Program) (n : Nat) (w0 : World) (M : Bl) (u : World) (N : Bl) (β : Nat → Nat) (σ : Sy) (a : Act) (w : World) : Prop where
  df : a.defers = []
  sz : a.tmps.size = n
  env : ∀ t s, look σ.env t = some s → a.tmps[t]? = some (s.val β)
  ok : ∀ t k o, look σ.env t = some (.p k o) → k < σ.bx.length
  box : ∀ k cs, σ.bx[k]? = some cs → ∃ T, w.heap[β k]? = some (.cells cs.toArray T (0, 0))
  inj : ∀ j k, j < σ.bx.length → k < σ.bx.length → β j = β k → j = k
  new : ∀ k, k < σ.bx.length → w0.heap.size ≤ β k ∨ M (β k)
  sep : ∀ b, N b → b < w.heap.size ∧ w.heap[b]? = u.heap[b]? ∧ ∀ k, k < σ.bx.length → β k ≠ b
  chg : Chg M w0 w
  old : ∀ b, b < w0.heap.size → ¬ M b → N b ∧ u.heap[b]? = w0.heap[b]?
section sound
variable {P : Program} {n : Nat} {w0 : World} {M : Bl} {u : World} {N : Bl} {β : Nat → Nat} {σ : Sy} {a : Act} {w : World}
theorem St.get (S : St P n w0 M u N β σ a w) {x : Operand} {s : SV} (h : σ.get x = some s) : a.eval x = s.val β := by
  cases x with
  | tmp t =>
    have := S.env t s h
    simp [Act.eval, this]
  | const v => simp [Sy.get] at h; subst h; rfl
  | global g => simp [Sy.get] at h
  | func f => simp [Sy.get] at h; subst h; rfl
theorem look_cons {s t : Nat} {x : SV} {r : Env} : look ((s, x) :: r) t = if s = t then some x else look r t := by
  show (bif Nat.beq s t then some x else look r t) = _
  by_cases h : s = t
  · subst h; simp
  · have : Nat.beq s t = false := by
      cases e : Nat.beq s t with
      | false => rfl
      | true => exact absurd (Nat.eq_of_beq_eq_true e) h
    simp [this, h]
theorem St.put (S : St P n w0 M u N β σ a w) {dst : Option Nat} {x : SV} {σ' : Sy} (h : σ.put n dst x = some σ') (hx : ∀ k o, x = .p k o → k < σ.bx.length) :
    St P n w0 M u N β σ' (a.put dst (x.val β)) w := by
  cases dst with
  | none => simp [Sy.put] at h; subst h; exact S
  | some d =>
    simp only [Sy.put] at h
    cases hd : Nat.blt d n with
    | false => rw [hd] at h; simp at h
    | true =>
      rw [hd] at h
      simp at h
      subst h
      have hlt : d < n := Nat.le_of_ble_eq_true hd
      refine ⟨S.df, by simp [Act.put, S.sz], fun t s ht => ?_, fun t k o ht => ?_, S.box, S.inj, S.new, S.sep, S.chg, S.old⟩
      · simp only [look_cons] at ht
        by_cases e : d = t
        · subst e
          simp at ht
          subst ht
          simp [Act.put, S.sz, hlt]
        · simp only [e, if_false] at ht
          simp only [Act.put, Array.getElem?_setIfInBounds_ne e]
          exact S.env t s ht
      · simp only [look_cons] at ht
        by_cases e : d = t
        · simp [e] at ht
          exact hx k o ht
        · simp only [e, if_false] at ht
          exact S.ok t k o ht
theorem St.push (S : St P n w0 M u N β σ a w) (cs : List Value) (T : TypeId) :
    St P n w0 M u N (fun k => if k = σ.bx.length then w.heap.size else β k) ⟨σ.env, σ.bx ++ [cs]⟩ a { w with heap := w.heap.push (.cells cs.toArray T) } := by
  have hs : ∀ k, k < σ.bx.length → β k < w.heap.size := fun k hk => by
    obtain ⟨T', h⟩ := S.box k _ (List.getElem?_eq_getElem hk)
    rcases Nat.lt_or_ge (β k) w.heap.size with hl | hl
    · exact hl
    · rw [Array.getElem?_eq_none hl] at h; cases h
  refine ⟨S.df, S.sz, fun t s ht => ?_, fun t k o ht => ?_, fun k cs' hk => ?_, fun j k hj hk he => ?_, fun k hk => ?_, fun b hb => ?_, S.chg.trans (Chg.push M w _), S.old⟩
  · rw [S.env t s ht]
    cases s with
    | v x => rfl
    | p k o =>
      have := S.ok t k o ht
      have hne : k ≠ σ.bx.length := Nat.ne_of_lt this
      simp [SV.val, hne]
  · have := S.ok t k o ht
    simp; omega
  · by_cases e : k = σ.bx.length
    · subst e
      simp at hk
      subst hk
      exact ⟨T, by simp⟩
    · have hlt : k < σ.bx.length := by
        have := (List.getElem?_eq_some_iff.1 hk).1
        simp at this; omega
      rw [List.getElem?_append_left hlt] at hk
      obtain ⟨T', h⟩ := S.box k cs' hk
      refine ⟨T', ?_⟩
      simp only [e, if_false, Array.getElem?_push]
      rw [if_neg (by have := hs k hlt; omega)]
      exact h
  · simp at hj hk
    by_cases e1 : j = σ.bx.length <;> by_cases e2 : k = σ.bx.length
    · omega
    · simp only [e1, e2, if_true, if_false] at he
      have := hs k (by omega); omega
    · simp only [e1, e2, if_true, if_false] at he
      have := hs j (by omega); omega
    · simp only [e1, e2, if_false] at he
      exact S.inj j k (by omega) (by omega) he
  · simp at hk
    by_cases e : k = σ.bx.length
    · simp only [e, if_true]; exact .inl S.chg.size
    · simp only [e, if_false]; exact S.new k (by omega)
  · obtain ⟨h1, h2, h3⟩ := S.sep b hb
    refine ⟨by simp; omega, ?_, fun k hk => ?_⟩
    · simp only [Array.getElem?_push]
      rw [if_neg (by omega)]
      exact h2
    · simp at hk
      by_cases e : k = σ.bx.length
      · simp only [e, if_true]; omega
      · simp only [e, if_false]; exact h3 k (by omega)
theorem St.poke (S : St P n w0 M u N β σ a w) {k : Nat} {cs cs' : List Value} (hk : σ.bx[k]? = some cs) :
    St P n w0 M u N β ⟨σ.env, σ.bx.set k cs'⟩ a (w.setRow (β k) cs'.toArray) := by
  have hlt : k < σ.bx.length := (List.getElem?_eq_some_iff.1 hk).1
  have oth : ∀ b, b ≠ β k → (w.setRow (β k) cs'.toArray).heap[b]? = w.heap[b]? := fun b hb => by
    simp only [World.setRow, Array.getElem?_modify]
    rw [if_neg (fun e => hb e.symm)]
  have hsz : (w.setRow (β k) cs'.toArray).heap.size = w.heap.size := by simp [World.setRow]
  refine ⟨S.df, S.sz, S.env, fun t j o ht => ?_, fun j cs1 hj => ?_, fun i j hi hj => ?_, fun j hj => ?_, fun b hb => ?_, ?_, S.old⟩
  · have := S.ok t j o ht; simpa using this
  · by_cases e : j = k
    · subst e
      obtain ⟨T, h⟩ := S.box j cs hk
      have e1 : (σ.bx.set j cs')[j]? = some cs' := by simp [hlt]
      rw [e1] at hj
      simp at hj
      subst hj
      exact ⟨T, setRow_heap w _ _ _ _ _ h⟩
    · have e1 : (σ.bx.set k cs')[j]? = σ.bx[j]? := by simp [List.getElem?_set_ne (fun q => e q.symm)]
      rw [e1] at hj
      obtain ⟨T, h⟩ := S.box j cs1 hj
      have hjl : j < σ.bx.length := (List.getElem?_eq_some_iff.1 hj).1
      exact ⟨T, (oth _ (fun q => e (S.inj j k hjl hlt q))).trans h⟩
  · exact S.inj i j (by simpa using hi) (by simpa using hj)
  · exact S.new j (by simpa using hj)
  · obtain ⟨h1, h2, h3⟩ := S.sep b hb
    exact ⟨by rw [hsz]; exact h1, (oth b (fun e => h3 k hlt e.symm)).trans h2, fun j hj => h3 j (by simpa using hj)⟩
  · refine ⟨S.chg.os, S.chg.tape, S.chg.output, by rw [hsz]; exact S.chg.size, fun b hb hm => ?_⟩
    rw [oth b (fun e => (S.new k hlt).elim (fun h => by omega) (fun h => hm (e ▸ h)))]
    exact S.chg.block b hb hm
theorem St.ext (S : St P n w0 M u N β σ a w) {w' : World} (hc : Chg NoB w w') : St P n w0 M u N β σ a w' := by
  have hb : ∀ k, k < σ.bx.length → β k < w.heap.size := fun k hk => by
    obtain ⟨T', h⟩ := S.box k _ (List.getElem?_eq_getElem hk)
    rcases Nat.lt_or_ge (β k) w.heap.size with hl | hl
    · exact hl
    · rw [Array.getElem?_eq_none hl] at h; cases h
  refine ⟨S.df, S.sz, S.env, S.ok, fun k cs hk => ?_, S.inj, S.new, fun b hb' => ?_, S.chg.step hc (fun _ _ f => f.elim), S.old⟩
  · obtain ⟨T, h⟩ := S.box k cs hk
    exact ⟨T, (hc.block _ (hb k (List.getElem?_eq_some_iff.1 hk).1) (fun f => f)).trans h⟩
  · obtain ⟨h1, h2, h3⟩ := S.sep b hb'
    exact ⟨Nat.lt_of_lt_of_le h1 hc.size, (hc.block _ h1 (fun f => f)).trans h2, h3⟩
end sound
end Go.Proofs.YtlpaefknpmdaoaaGreat
namespace Go.Proofs.YtlpaefknpmdaoaaGreat
open Go
section
variable {P : Program} {n : Nat} {w0 : World} {M : Bl} {u : World} {N : Bl} {β : Nat → Nat} {σ : Sy} {a : Act} {w : World}
theorem tsize_some {t : TypeId} {s : Nat} (h : tsize P t = some s) : (P.info? t).map (·.size) = some s := h
theorem run_size {t : TypeId} {s : Nat} (h : tsize P t = some s) (w : World) : (sizeOf t).run P w = .ok s w := by
  unfold tsize at h
  cases hi : P.info? t with
  | none => simp [hi] at h
  | some i => simp [hi] at h; subst h; simp [sizeOf, typeInfo, hi]
theorem tagg_true {t : TypeId} (h : tagg P t = some true) : ∃ d, P.underlying t = some d ∧ d.isRow = true := by
  unfold tagg at h
  split at h <;> first | exact ⟨_, ‹_›, rfl⟩ | cases h
theorem run_agg_false {t : TypeId} (h : tagg P t = some false) (w : World) : (isAgg t).run P w = .ok false w := by
  unfold tagg at h
  split at h
  · cases h
  · cases h
  · rename_i d n1 n2 hd
    unfold isAgg
    rw [Sem.run_bind, run_underlying hd w]
    cases d <;> first | rfl | exact absurd rfl (n1 _) | exact absurd rfl (n2 _ _)
  · cases h
theorem run_boxLoad {t : TypeId} {cs : List Value} {o b : Nat} {v : Value} {T : TypeId} {w : World} (hb : w.heap[b]? = some (.cells cs.toArray T (0, 0))) (h : boxLoad P t cs o = some v) :
    (Instr.loadAt t (pt b o)).run P w = .ok v w := by
  have hc : ∀ j x, cs[j]? = some x → w.cell? ⟨b, j, none⟩ = some x := fun j x hj => by simp [World.cell?, hb, hj]
  unfold boxLoad at h
  split at h
  · rename_i s ha hs
    cases hl : Nat.ble (o + s) cs.length with
    | false => rw [hl] at h; simp at h
    | true =>
      rw [hl] at h
      simp at h
      subst h
      obtain ⟨d, hd, hr⟩ := tagg_true ha
      have hle : o + s ≤ cs.length := Nat.le_of_ble_eq_true hl
      refine run_loadAt_mid w b o t ((cs.drop o).take s) d (fun j x hj => ?_) hd hr (by rw [tsize_some hs]; simp; omega)
      rw [List.getElem?_take] at hj
      split at hj
      · rw [List.getElem?_drop] at hj
        exact hc _ _ hj
      · cases hj
  · rename_i s ha hs
    have hx := hc o v h
    simp only [Instr.loadAt, Instr.sureAddr, Sem.run_bind, Sem.run_pure, Result.andThen_ok, loadVar, run_agg_false ha, Bool.false_eq_true, if_false, run_load, hx]
  · cases h
theorem run_boxStore {t : TypeId} {cs cs' : List Value} {o b : Nat} {v : Value} {T : TypeId} {w : World} (hb : w.heap[b]? = some (.cells cs.toArray T (0, 0))) (h : boxStore P t cs o v = some cs') :
    (Instr.storeAt t (pt b o) v).run P w = .ok () (w.setRow b cs'.toArray) := by
  unfold boxStore at h
  split at h
  · rename_i s hs
    cases hl : (Nat.beq v.cells.toList.length s && Nat.ble (o + s) cs.length && v.cells.toList.all (·.oneCell')) with
    | false => rw [hl] at h; simp at h
    | true =>
      rw [hl] at h
      simp only [cond_true, Option.some.injEq] at h
      simp only [Bool.and_eq_true] at hl
      obtain ⟨⟨h1, h2⟩, h3⟩ := hl
      have e1 : v.cells.toList.length = s := Nat.eq_of_beq_eq_true h1
      have e2 : o + s ≤ cs.length := Nat.le_of_ble_eq_true h2
      have := run_storeCells_at (P := P) b o T v.cells.toList 0 cs.toArray w hb (by simp at e1 ⊢; omega) (fun x hx => List.all_eq_true.1 h3 x hx)
      simp only [Nat.add_zero] at this
      simp only [Instr.storeAt, Instr.sureAddr, Sem.run_bind, Sem.run_pure, Result.andThen_ok, storeVar, run_size hs]
      rw [if_neg (by simp at e1 ⊢; exact e1)]
      rw [this]
      subst h
      rw [e1]
  · cases h
theorem run_part {t : TypeId} {cs : Array Value} {o : Nat} {v : Value} (h : partOf P t cs o = some v) (w : World) : (part t cs o).run P w = .ok v w := by
  unfold partOf at h
  split at h
  · rename_i s ha hs
    simp at h; subst h
    obtain ⟨d, hd, hr⟩ := tagg_true ha
    have hagg : (isAgg t).run P w = .ok true w := by
      unfold isAgg
      rw [Sem.run_bind, run_underlying hd w]
      cases d <;> simp_all
    simp [part, hagg, run_size hs]
  · rename_i s ha hs
    have h' : cs[o]? = some v := by simpa using h
    simp [part, run_agg_false ha, h']
  · cases h
def Says (P : Program) (β : Nat → Nat) (σ : Sy) (s : Sem Next) (w : World) : Ac → Prop
  | .val x => s.run P w = .ok (.value (x.val β)) w ∧ ∀ k f, x = .p k f → k < σ.bx.length
  | .ask (.call f args) => s.run P w = .ok (.enter f args.toArray) w
  | .ask q => ∀ v, q.run.run P w = .ok v w → s.run P w = .ok (.value v) w
  | .new T cs => s.run P w = .ok (.value (pt w.heap.size 0)) { w with heap := w.heap.push (.cells cs.toArray T) }
  | .put k cs => s.run P w = .ok .skip (w.setRow (β k) cs.toArray) ∧ ∃ old, σ.bx[k]? = some old
theorem St.getp (S : St P n w0 M u N β σ a w) {x : Operand} {k f : Nat} (h : σ.get x = some (.p k f)) : k < σ.bx.length := by
  cases x with
  | tmp t => exact S.ok t k f h
  | const v => simp [Sy.get] at h
  | global g => simp [Sy.get] at h
  | func g => simp [Sy.get] at h
theorem intAc_ok {op : BinOp} {k : IntKind} {x y : Int} {ac : Ac} (h : intAc op k x y = some ac) (s : Sem Next) (hs : s.run P w = ((intSem op k x y).run P w).andThen fun v w' => .ok (.value v) w') : Says P β σ s w ac := by
  cases op <;> simp only [intAc, Option.some.injEq, reduceCtorEq] at h <;> subst h <;>
    first
      | (refine ⟨?_, fun _ _ hh => by cases hh⟩; rw [hs]; rfl)
      | (intro v hv; rw [hs]; simp only [Ask.run] at hv; rw [hv]; rfl)
theorem eqGuard_int (op : BinOp) (t : TypeId) (x y : Operand) (k k' : IntKind) (i j : Int) : (eqGuard op t x y (.int k i) (.int k' j)).run P w = .ok () w := by
  cases op <;> simp [eqGuard]
theorem eqGuard_bool (op : BinOp) (t : TypeId) (x y : Operand) (i j : Bool) : (eqGuard op t x y (.bool i) (.bool j)).run P w = .ok () w := by
  cases op <;> simp [eqGuard]
theorem eqGuard_agg (op : BinOp) (t : TypeId) (x y : Operand) (i j : Array Value) (h : P.eqGuardType P.depth t = false) : (eqGuard op t x y (.agg i) (.agg j)).run P w = .ok () w := by
  cases op <;> simp [eqGuard, h]
theorem equalIn_bool {t : TypeId} (hu : P.underlying t = some .bool) (i j : Bool) (w : World) (d : Nat) : (Op.equalIn (d + 1) t (.bool i) (.bool j)).run P w = .ok (i == j) w := by
  simp only [Op.equalIn, Sem.run_bind, run_underlying hu, Result.andThen_ok, Sem.run_pure]
theorem equal_bool {t : TypeId} (hu : P.underlying t = some .bool) (i j : Bool) (w : World) : (Op.equal t (.bool i) (.bool j)).run P w = .ok (i == j) w :=
  equalIn_bool hu i j w 9999
theorem gather_ok (S : St P n w0 M u N β σ a w) : ∀ (ps : List (Nat × Operand)) (l : List (Nat × Value)), gather σ ps = some l → ps.map (fun (i, x) => (i, a.eval x)) = l
  | [], l, h => by simp [gather] at h; subst h; rfl
  | (i, x) :: r, l, h => by
    unfold gather at h
    split at h
    · rename_i v hx
      cases hr : gather σ r with
      | none => simp [hr] at h
      | some l' =>
        simp [hr] at h
        subst h
        simp only [List.map_cons, gather_ok S r l' hr, S.get hx]
        rfl
    · cases h
theorem vlist_ok (S : St P n w0 M u N β σ a w) : ∀ (l : List Operand) (vs : List Value), vlist σ l = some vs → l.map a.eval = vs
  | [], vs, h => by simp [vlist] at h; subst h; rfl
  | x :: r, vs, h => by
    simp only [vlist] at h
    split at h
    · rename_i v hx
      cases hl : vlist σ r with
      | none => simp [hl] at h
      | some l =>
        simp [hl] at h; subst h
        simp [vlist_ok S r l hl, S.get hx, SV.val]
    · cases h
theorem run_call {f : FuncId} {args : Array Operand} {ats : Array TypeId} {l : List Value} (hf : callee P f = true) (hargs : args.map a.eval = l.toArray) (ty : TypeId) (w : World) :
    (do let d ← resolve a.eval ⟨.value (.func f), args, ats⟩ ty; invoke d.target d.args : Sem Next).run P w = .ok (.enter f l.toArray) w := by
  unfold callee at hf
  split at hf
  · rename_i fn hfn
    simp only [Bool.not_eq_true', Bool.or_eq_false_iff] at hf
    have n1 : fn.name ≠ "runtime.NumGoroutine" := fun e => by rw [e] at hf; simp at hf
    have n2 : ¬ fn.body = none := fun e => by rw [e] at hf; simp at hf
    simp only [resolve, hargs, Act.eval, Deferred.ofValue]
    simp [invoke, callFunc, hfn, n1, n2]
  · cases hf
theorem run_callv {x : Operand} {f : FuncId} {first captured : Array Value} {args : Array Operand} {ats : Array TypeId} {l : List Value} (hx : a.eval x = .func (.func f) first captured) (hf : callee P f = true) (hargs : args.map a.eval = l.toArray) (ty : TypeId) (w : World) :
    (do let d ← resolve a.eval ⟨.value x, args, ats⟩ ty; invoke d.target d.args : Sem Next).run P w = .ok (.enter f (first.toList ++ l ++ captured.toList).toArray) w := by
  unfold callee at hf
  split at hf
  · rename_i fn hfn
    simp only [Bool.not_eq_true', Bool.or_eq_false_iff] at hf
    have n1 : fn.name ≠ "runtime.NumGoroutine" := fun e => by rw [e] at hf; simp at hf
    have n2 : ¬ fn.body = none := fun e => by rw [e] at hf; simp at hf
    simp only [resolve, hargs, hx, Deferred.ofValue]
    simp [invoke, callFunc, hfn, n1, n2]
  · cases hf
set_option maxHeartbeats 2000000 in
theorem op_says (S : St P n w0 M u N β σ a w) {o : Oper} {ac : Ac} (h : opAc P σ o = some ac) : Says P β σ (execOp a.eval o) w ac := by
  unfold opAc at h
  unfold execOp
  split at h
  · -- move
    rename_i x ho
    simp only [ho]
    cases hx : σ.get x with
    | none => simp [hx] at h
    | some s => simp [hx] at h; subst h; exact ⟨by rw [S.get hx]; rfl, fun k f e => S.getp (e ▸ hx)⟩
  · rename_i x ho
    simp only [ho]
    cases hx : σ.get x with
    | none => simp [hx] at h
    | some s => simp [hx] at h; subst h; exact ⟨by rw [S.get hx]; rfl, fun k f e => S.getp (e ▸ hx)⟩
  · -- pick
    rename_i c x y ho
    simp only [ho]
    split at h
    · rename_i t hc
      have e := S.get hc
      cases t with
      | true =>
        cases hx : σ.get x with
        | none => simp [hx] at h
        | some s =>
          simp [hx] at h; subst h
          refine ⟨?_, fun k f e => S.getp (e ▸ hx)⟩
          rw [e, S.get hx]; simp [asBool, SV.val]
      | false =>
        cases hx : σ.get y with
        | none => simp [hx] at h
        | some s =>
          simp [hx] at h; subst h
          refine ⟨?_, fun k f e => S.getp (e ▸ hx)⟩
          rw [e, S.get hx]; simp [asBool, SV.val]
    · cases h
  · -- extract
    rename_i x i ho
    simp only [ho]
    split at h
    · rename_i vs hx
      have e := S.get hx
      cases hv : vs.toList[i]? with
      | none => simp only [hv, Option.map_none, reduceCtorEq] at h
      | some v =>
        simp only [hv, Option.map_some, Option.some.injEq] at h
        subst h
        have hv' : vs[i]? = some v := by simpa using hv
        refine ⟨?_, fun _ _ hh => by cases hh⟩
        rw [e]
        simp [Instr.extract, SV.val, hv']
    · cases h
  · -- box
    rename_i T x ho
    simp only [ho]
    split at h
    · rename_i v hx
      simp at h; subst h
      rw [S.get hx]
      show (do pure (.value (← Instr.box T v)) : Sem Next).run P w = _
      simp [Instr.box, newVar, newRow]
    · cases h
  · -- alloc
    rename_i T ho
    simp only [ho]
    split at h
    · rename_i z hz
      simp at h; subst h
      cases hi : P.info? T with
      | none => simp [hi] at hz
      | some i =>
        simp only [hi, Option.bind_some] at hz
        show (do pure (.value (← Instr.alloc T true (.tuple #[]))) : Sem Next).run P w = _
        simp [Instr.alloc, zeroValue, typeInfo, hi, hz, newVar, newRow]
    · cases h
  · -- fieldAddr
    rename_i s x f ho
    simp only [ho]
    split at h
    · rename_i fs hu
      split at h
      · rename_i fd hf
        split at h
        · rename_i q hs
          have hf' : fs[f]? = some fd := by simpa using hf
          have key : ∀ (b o : Nat), a.eval x = pt b o → (do pure (Next.value (← Instr.fieldAt s (a.eval x) f)) : Sem Next).run P w = .ok (.value (pt b (o + fd.offset))) w := fun b o hx => by
            rw [hx]
            simp [Instr.fieldAt, run_underlying hu, hf', Instr.sureAddr, fieldPlace, run_size hs, Addr.add_mid]
          split at h
          · rename_i k o hx
            simp at h; subst h
            exact ⟨key _ _ (S.get hx), fun k' f' e => by cases e; exact S.getp hx⟩
          · rename_i b o hx
            simp at h; subst h
            exact ⟨key _ _ (S.get hx), fun _ _ hh => by cases hh⟩
          · cases h
        · cases h
      · cases h
    · cases h
  · -- load
    rename_i t x ho
    simp only [ho]
    split at h
    · rename_i k f hx
      cases hc : σ.bx[k]? with
      | none => simp [hc] at h
      | some cs =>
        simp only [hc, Option.bind_some] at h
        cases hv : boxLoad P t cs f with
        | none => simp [hv] at h
        | some v =>
          simp [hv] at h; subst h
          obtain ⟨T, hb⟩ := S.box k cs hc
          refine ⟨?_, fun _ _ hh => by cases hh⟩
          rw [S.get hx]
          show (do pure (.value (← Instr.loadAt t (pt (β k) f))) : Sem Next).run P w = _
          rw [Sem.run_bind, run_boxLoad hb hv]
          rfl
    · rename_i v hx
      simp at h; subst h
      intro r hr
      rw [S.get hx]
      show (do pure (.value (← Instr.loadAt t v)) : Sem Next).run P w = _
      rw [Sem.run_bind]
      simp only [Ask.run] at hr
      rw [hr]; rfl
    · cases h
  · -- store
    rename_i t x y ho
    simp only [ho]
    split at h
    · rename_i k f v hx hy
      cases hc : σ.bx[k]? with
      | none => simp [hc] at h
      | some cs =>
        simp only [hc, Option.bind_some] at h
        cases hv : boxStore P t cs f v with
        | none => simp [hv] at h
        | some cs' =>
          simp [hv] at h; subst h
          obtain ⟨T, hb⟩ := S.box k cs hc
          refine ⟨?_, cs, hc⟩
          rw [S.get hx, S.get hy]
          show (do Instr.storeAt t (pt (β k) f) v; pure .skip : Sem Next).run P w = _
          rw [Sem.run_bind, run_boxStore hb hv]
          rfl
    · cases h
  · -- field
    rename_i t x f ho
    simp only [ho]
    split at h
    · rename_i fs cs hu hx
      cases hf : fs.toList[f]? with
      | none => simp only [hf, Option.bind_none, reduceCtorEq] at h
      | some fd =>
        simp only [hf, Option.bind_some] at h
        cases hv : partOf P fd.type cs fd.offset with
        | none => simp [hv] at h
        | some v =>
          simp [hv] at h; subst h
          have hf' : fs[f]? = some fd := by simpa using hf
          refine ⟨?_, fun _ _ hh => by cases hh⟩
          rw [S.get hx]
          show (do pure (.value (← Instr.field t (.agg cs) f)) : Sem Next).run P w = _
          simp [Instr.field, run_underlying hu, hf', asAgg, run_part hv, SV.val]
    · cases h
  · -- indexAddr
    rename_i t x i ho
    simp only [ho]
    split at h
    · rename_i s j hx hi
      simp at h; subst h
      intro r hr
      rw [S.get hx, S.get hi]
      simp only [Ask.run] at hr
      show (do pure (.value (← Instr.indexAt t s j)) : Sem Next).run P w = _
      rw [Sem.run_bind, hr]; rfl
    · cases h
  · -- binOp
    rename_i op t x y yt ho
    simp only [ho]
    split at h
    · rename_i xv yv hx hy
      rw [S.get hx, S.get hy]
      unfold binAc at h
      split at h
      · rename_i k i k' j
        have key : ∀ s : Sem Value, Go.binOp op t (.int k i) (.int k' j) = s → (do pure (.value (← (do eqGuard op t x y (.int k i) (.int k' j); Go.binOp op t (.int k i) (.int k' j)))) : Sem Next).run P w = (s.run P w).andThen fun v w' => .ok (.value v) w' := fun s hs => by
          simp [eqGuard_int, hs]
        split at h
        · simp at h; subst h
          intro v hv
          have := key _ rfl
          simp only [Ask.run] at hv
          refine this.trans ?_
          unfold Go.binOp
          rw [hv]; rfl
        · simp at h; subst h
          intro v hv
          have := key _ rfl
          simp only [Ask.run] at hv
          refine this.trans ?_
          unfold Go.binOp
          rw [hv]; rfl
        · rename_i n1 n2
          split at h
          · rename_i hk
            subst hk
            refine intAc_ok h _ ?_
            refine (key _ rfl).trans ?_
            congr 2
            cases op <;> first | exact absurd rfl n1 | exact absurd rfl n2 | (simp [Go.binOp, intSem])
          · cases h
      · rename_i i j
        split at h
        · rename_i hu
          simp at h; subst h
          refine ⟨?_, fun _ _ hh => by cases hh⟩
          show (do pure (.value (← (do eqGuard .eql t x y (.bool i) (.bool j); pure (.bool (← Op.equal t (.bool i) (.bool j)))))) : Sem Next).run P w = _
          simp only [Sem.run_bind, eqGuard_bool, Result.andThen_ok, equal_bool hu, Sem.run_pure, SV.val]
        · rename_i hu
          simp at h; subst h
          refine ⟨?_, fun _ _ hh => by cases hh⟩
          show (do pure (.value (← (do eqGuard .neq t x y (.bool i) (.bool j); pure (.bool (!(← Op.equal t (.bool i) (.bool j))))))) : Sem Next).run P w = _
          simp only [Sem.run_bind, eqGuard_bool, Result.andThen_ok, equal_bool hu, Sem.run_pure, SV.val]
        · cases h
      · rename_i i j
        unfold eqSem at h
        split at h
        · rename_i hg
          simp only [Option.map_some, Option.some.injEq] at h; subst h
          intro v hv
          simp only [Ask.run] at hv
          show (do pure (.value (← (do eqGuard .eql t x y (.agg i) (.agg j); Go.binOp .eql t (.agg i) (.agg j)))) : Sem Next).run P w = _
          rw [Sem.run_bind, Sem.run_bind, eqGuard_agg _ _ _ _ _ _ hg]
          show ((Go.binOp .eql t (.agg i) (.agg j)).run P w).andThen _ = _
          unfold Go.binOp
          rw [hv]; rfl
        · rename_i hg
          simp only [Option.map_some, Option.some.injEq] at h; subst h
          intro v hv
          simp only [Ask.run] at hv
          show (do pure (.value (← (do eqGuard .neq t x y (.agg i) (.agg j); Go.binOp .neq t (.agg i) (.agg j)))) : Sem Next).run P w = _
          rw [Sem.run_bind, Sem.run_bind, eqGuard_agg _ _ _ _ _ _ hg]
          show ((Go.binOp .neq t (.agg i) (.agg j)).run P w).andThen _ = _
          unfold Go.binOp
          rw [hv]; rfl
        · simp at h
      · cases h
    · cases h
  · -- not
    rename_i t x ho
    simp only [ho]
    split at h
    · rename_i b hx
      simp at h; subst h
      refine ⟨?_, fun _ _ hh => by cases hh⟩
      rw [S.get hx]
      rfl
    · cases h
  · -- neg
    rename_i t x ho
    simp only [ho]
    split at h
    · rename_i k m hx
      simp at h; subst h
      intro v hv
      simp only [Ask.run] at hv
      rw [S.get hx]
      show (do pure (.value (← Op.unary .neg (.int k m))) : Sem Next).run P w = _
      rw [Sem.run_bind]
      show ((Op.intArith .sub k 0 m).run P w).andThen _ = _
      simp only [intSem] at hv
      rw [hv]; rfl
    · cases h
  · -- convert
    rename_i s d x ho
    simp only [ho]
    split at h
    · rename_i v hx
      simp at h; subst h
      intro r hr
      simp only [Ask.run] at hr
      rw [S.get hx]
      show (do pure (.value (← convert s d v)) : Sem Next).run P w = _
      rw [Sem.run_bind, hr]; rfl
    · cases h
  · -- slice
    rename_i t x lo hi ho
    simp only [ho]
    split at h
    · rename_i s hx hl hh
      cases lo <;> simp at hl
      cases hi <;> simp at hh
      simp at h; subst h
      intro r hr
      simp only [Ask.run] at hr
      simp only [S.get hx, Option.map_none]
      show (do pure (.value (← Instr.sliceAt t s none none none)) : Sem Next).run P w = _
      rw [Sem.run_bind, hr]; rfl
    · rename_i s v hx hl hh
      cases lo <;> simp at hl
      cases hi <;> simp at hh
      simp at h; subst h
      intro r hr
      simp only [Ask.run] at hr
      simp only [S.get hx, S.get hl, Option.map_none, Option.map_some]
      show (do pure (.value (← Instr.sliceAt t s (some v) none none)) : Sem Next).run P w = _
      rw [Sem.run_bind, hr]; rfl
    · rename_i s v hx hl hh
      cases lo <;> simp at hl
      cases hi <;> simp at hh
      simp at h; subst h
      intro r hr
      simp only [Ask.run] at hr
      simp only [S.get hx, S.get hh, Option.map_none, Option.map_some]
      show (do pure (.value (← Instr.sliceAt t s none (some v) none)) : Sem Next).run P w = _
      rw [Sem.run_bind, hr]; rfl
    · rename_i s v1 v2 hx hl hh
      cases lo <;> simp at hl
      cases hi <;> simp at hh
      simp at h; subst h
      intro r hr
      simp only [Ask.run] at hr
      simp only [S.get hx, S.get hl, S.get hh, Option.map_none, Option.map_some]
      show (do pure (.value (← Instr.sliceAt t s (some v1) (some v2) none)) : Sem Next).run P w = _
      rw [Sem.run_bind, hr]; rfl
    · cases h
  · -- len
    rename_i args ats ho
    simp only [ho]
    split at h
    · rename_i x t ha ht
      split at h
      · rename_i e q m c hu hx
        simp at h; subst h
        refine ⟨?_, fun _ _ hh => by cases hh⟩
        have e1 : args = #[x] := by rw [← Array.toList_inj]; exact ha
        have e2 : ats = #[t] := by rw [← Array.toList_inj]; exact ht
        subst e1 e2
        simp only [resolve, List.map_toArray, List.map_cons, List.map_nil, S.get hx]
        show (do let v ← Builtin.len_ #[t] o.type #[_]; pure (Next.value v) : Sem Next).run P w = _
        simp [Builtin.len_, run_underlying hu, goInt, SV.val]
      · cases h
    · cases h
  · -- min
    rename_i args ats ho
    simp only [ho]
    split at h
    · rename_i x y ha
      split at h
      · rename_i i j hx hy
        simp at h; subst h
        refine ⟨?_, fun _ _ hh => by cases hh⟩
        have e1 : args = #[x, y] := by rw [← Array.toList_inj]; exact ha
        subst e1
        simp only [resolve, List.map_toArray, List.map_cons, List.map_nil, S.get hx, S.get hy]
        show (do let v ← Builtin.min_ ats o.type #[.int .i64 i, .int .i64 j]; pure (Next.value v) : Sem Next).run P w = _
        simp [Builtin.min_, Builtin.min2, SV.val]
      · cases h
    · cases h
  · -- max
    rename_i args ats ho
    simp only [ho]
    split at h
    · rename_i x y ha
      split at h
      · rename_i i j hx hy
        simp at h; subst h
        refine ⟨?_, fun _ _ hh => by cases hh⟩
        have e1 : args = #[x, y] := by rw [← Array.toList_inj]; exact ha
        subst e1
        simp only [resolve, List.map_toArray, List.map_cons, List.map_nil, S.get hx, S.get hy]
        show (do let v ← Builtin.max_ ats o.type #[.int .i64 i, .int .i64 j]; pure (Next.value v) : Sem Next).run P w = _
        simp [Builtin.max_, Builtin.max2, SV.val]
      · cases h
    · cases h
  · -- call
    rename_i f args ats ho
    simp only [ho]
    cases hc : callee P f with
    | false => rw [hc] at h; cases h
    | true =>
      rw [hc] at h
      simp only [cond_true] at h
      cases hv : vlist σ args.toList with
      | none => simp [hv] at h
      | some l =>
        simp [hv] at h; subst h
        exact run_call hc (by rw [← Array.toList_inj]; simpa using vlist_ok S _ _ hv) _ w
  · -- call of a function value
    rename_i t args ats ho
    simp only [ho]
    split at h
    · rename_i f first captured hx
      have e := S.get hx
      cases hc : callee P f with
      | false => rw [hc] at h; cases h
      | true =>
        rw [hc] at h
        simp only [cond_true] at h
        cases hv : vlist σ args.toList with
        | none => simp [hv] at h
        | some l =>
          rw [hv] at h
          simp only [Option.map_some, Option.some.injEq] at h
          subst h
          exact run_callv (l := l) (x := .tmp t) e hc (by rw [← Array.toList_inj]; simpa using vlist_ok S _ _ hv) _ w
    · cases h
  · -- build
    rename_i t parts ho
    simp only [ho]
    cases hl : gather σ parts.toList with
    | none => simp [hl] at h
    | some l =>
      simp [hl] at h; subst h
      intro r hr
      simp only [Ask.run] at hr
      have e : (parts.map fun (i, x) => (i, a.eval x)) = l.toArray := by
        rw [← Array.toList_inj]
        simpa using gather_ok S _ _ hl
      show (do pure (.value (← Instr.build t (parts.map fun (i, x) => (i, a.eval x)))) : Sem Next).run P w = _
      rw [e, Sem.run_bind, hr]; rfl
  · -- makeFunc
    rename_i f first caps ho
    simp only [ho]
    split at h
    · rename_i l l' h1 h2
      simp only [Option.some.injEq] at h; subst h
      refine ⟨?_, fun _ _ hh => by cases hh⟩
      have e1 : first.map a.eval = l.toArray := by rw [← Array.toList_inj]; simpa using vlist_ok S _ _ h1
      have e2 : caps.map a.eval = l'.toArray := by rw [← Array.toList_inj]; simpa using vlist_ok S _ _ h2
      show (do pure (.value (← Instr.makeFunc (.func f) (first.map a.eval) (caps.map a.eval))) : Sem Next).run P w = _
      rw [e1, e2]; rfl
    · cases h
  · -- nilCheck
    rename_i x ho
    simp only [ho]
    split at h
    · rename_i k o hx
      simp only [Option.some.injEq] at h; subst h
      exact ⟨by rw [S.get hx]; rfl, fun k f e => by cases e; exact S.getp hx⟩
    · rename_i ad hx
      simp only [Option.some.injEq] at h; subst h
      exact ⟨by rw [S.get hx]; rfl, fun _ _ hh => by cases hh⟩
    · cases h
  · cases h
end
end Go.Proofs.YtlpaefknpmdaoaaGreat
namespace Go.Proofs.YtlpaefknpmdaoaaGreat
open Go
def RG (P : Program) (ops : Array Oper) (Q : Exit → Act → World → Prop) (i : Nat) (a : Act) (w : World) : Prop :=
  wpOps P ops Q (List.range' i (ops.size - i)) a w
section
variable {P : Program} {n : Nat} {w0 : World} {M : Bl} {u : World} {N : Bl} {β : Nat → Nat} {σ σ' : Sy} {a : Act} {w : World} {ops : Array Oper} {Q : Exit → Act → World → Prop}
theorem RG.start {id : Nat} (h : RG P ops Q 0 a w) : (Code.region id ops false).wp P Q a w := by
  refine wp_region ?_
  rw [List.range_eq_range']
  exact h
theorem RG.done {i : Nat} (hi : Nat.ble ops.size i = true) (h : Q .normal a w) : RG P ops Q i a w := by
  have : ops.size ≤ i := Nat.le_of_ble_eq_true hi
  unfold RG
  rw [show ops.size - i = 0 by omega]
  exact h
theorem guard_ok (S : St P n w0 M u N β σ a w) {o : Oper} {b : Bool} (h : guardv ops σ o = some b) : Region.wanted o (yielded ops a.tmps) = b := by
  unfold guardv at h
  unfold Region.wanted
  split at h
  · rename_i hg; rw [hg]; simpa using h
  · rename_i j want hg
    rw [hg]
    split at h
    · cases h
    · rename_i d hd
      have hd' : (ops[j]?).bind (·.dst) = some d := by simpa using hd
      split at h
      · rename_i c hl
        have := S.env d _ hl
        simp only [SV.val] at this
        simp only [yielded, hd', Option.bind_some, this]
        simp at h
        subst h
        cases want <;> cases c <;> rfl
      · rename_i vs hl
        have := S.env d _ hl
        simp only [SV.val] at this
        simp only [yielded, hd', Option.bind_some, this]
        simp at h
        subst h
        cases want <;> rfl
      · cases h
theorem ev_sound (σ' : Sy) (rest : List Nat) : ∀ (l : List Oper) (j : Nat) (σ : Sy) (a : Act) (w : World) (β : Nat → Nat) (claims : List (Ask × Value)),
    (∀ t o, l[t]? = some o → ops[j + t]? = some o) → ev P n ops l σ (claims.map (·.2)) = some (σ', claims) → AllQ P u N claims → St P n w0 M u N β σ a w →
    (∀ a' w' β', St P n w0 M u N β' σ' a' w' → wpOps P ops Q rest a' w') → wpOps P ops Q (List.range' j l.length ++ rest) a w
  | [], j, σ, a, w, β, claims, _, hev, _, S, K => by
    simp only [ev, Option.some.injEq, Prod.mk.injEq] at hev
    obtain ⟨rfl, _⟩ := hev
    exact K a w β S
  | o :: l, j, σ, a, w, β, claims, hl, hev, hq, S, K => by
    have ho : ops[j]? = some o := by simpa using hl 0 o rfl
    have hl' : ∀ t o', l[t]? = some o' → ops[j + 1 + t]? = some o' := fun t o' ht => by
      have := hl (t + 1) o' (by simpa using ht)
      rwa [show j + 1 + t = j + (t + 1) by omega]
    have IH := ev_sound σ' rest l (j + 1)
    simp only [List.length_cons, List.range'_succ, List.cons_append]
    rw [wpOps_cons]
    unfold wpOp
    simp only [ho]
    simp only [ev] at hev
    split at hev
    · cases hev
    · rename_i hg
      rw [guard_ok S hg]
      simp only [Bool.false_eq_true, if_false]
      cases hp : σ.put n o.dst (.v undef) with
      | none => rw [hp] at hev; cases hev
      | some σ1 =>
        rw [hp] at hev
        exact IH σ1 _ w β claims hl' hev hq (S.put hp (fun _ _ e => by cases e)) K
    · rename_i hg
      rw [guard_ok S hg]
      simp only [if_true]
      left
      unfold Oper.wp
      split at hev
      · cases hev
      · rename_i x hx
        obtain ⟨h1, h2⟩ := op_says S hx
        rw [h1]
        simp only [Oper.upon]
        cases hp : σ.put n o.dst x with
        | none => rw [hp] at hev; cases hev
        | some σ1 =>
          rw [hp] at hev
          exact IH σ1 _ w β claims hl' hev hq (S.put hp h2) K
      · rename_i q hx
        have h1 := op_says S hx
        split at hev
        · cases hev
        · rename_i v orc he
          cases hp : σ.put n o.dst (.v v) with
          | none => rw [hp] at hev; cases hev
          | some σ1 =>
            rw [hp] at hev
            simp only [Option.bind_some] at hev
            cases hr : ev P n ops l σ1 orc with
            | none => rw [hr] at hev; cases hev
            | some r =>
              rw [hr] at hev
              simp only [Option.map_some, Option.some.injEq, Prod.mk.injEq] at hev
              obtain ⟨e1, e2⟩ := hev
              subst e2
              simp only [List.map_cons, List.cons.injEq, true_and] at he
              have hput := S.put hp (fun _ _ e => by cases e)
              have fin : ∀ w', Chg NoB w w' → wpOps P ops Q (List.range' (j + 1) l.length ++ rest) (a.put o.dst v) w' := fun w' hch =>
                IH σ1 _ w' β r.2 hl' (by rw [he, hr, ← e1]) hq.2 (hput.ext hch) K
              cases q with
              | call f args =>
                simp only [Says] at h1
                rw [h1, Oper.upon_enter]
                refine (hq.1 w (fun b hb => ⟨(S.sep b hb).1, (S.sep b hb).2.1⟩)).mono fun e w' ⟨h3, h4⟩ => ?_
                subst h3
                exact fin w' h4
              | _ =>
                have h2 := h1 v (hq.1 w (fun b hb => (S.sep b hb).2.1))
                rw [h2]
                exact fin w (Chg.refl _ _)
      · rename_i T cs hx
        have h1 := op_says S hx
        rw [h1]
        simp only [Oper.upon]
        have S1 := S.push cs T
        cases hp : Sy.put n ⟨σ.env, σ.bx ++ [cs]⟩ o.dst (.p σ.bx.length 0) with
        | none => rw [hp] at hev; cases hev
        | some σ1 =>
          rw [hp] at hev
          have S2 := S1.put hp (fun k o e => by cases e; simp)
          have e : (SV.p σ.bx.length 0).val (fun k => if k = σ.bx.length then w.heap.size else β k) = pt w.heap.size 0 := by simp [SV.val]
          rw [e] at S2
          exact IH σ1 _ _ _ claims hl' hev hq S2 K
      · rename_i k cs hx
        obtain ⟨h1, old, h2⟩ := op_says S hx
        rw [h1]
        simp only [Oper.upon]
        split at hev
        · rename_i hd
          rw [hd]
          exact IH _ _ _ β claims hl' hev hq (S.poke h2) K
        · cases hev
theorem look_keep (m : Nat) : ∀ (l : List Nat) (t : Nat) (s : SV), look (σ.keep m l) t = some s → look σ.env t = some s ∧ ∀ k o, s = .p k o → k < m
  | [], t, s, h => by simp [Sy.keep, look] at h
  | x :: r, t, s, h => by
    unfold Sy.keep at h
    split at h
    · rename_i v hv
      rw [look_cons] at h
      split at h
      · rename_i e; subst e
        simp at h; subst h
        exact ⟨hv, fun _ _ e => by cases e⟩
      · exact look_keep m r t s h
    · rename_i k o hv
      cases hb : Nat.blt k m with
      | false => rw [hb] at h; exact look_keep m r t s h
      | true =>
        rw [hb] at h
        simp only [cond_true, look_cons] at h
        split at h
        · rename_i e; subst e
          simp at h; subst h
          exact ⟨hv, fun _ _ e => by cases e; exact Nat.le_of_ble_eq_true hb⟩
        · exact look_keep m r t s h
    · exact look_keep m r t s h
theorem St.weaken (S : St P n w0 M u N β σ a w) (m : Nat) (l : List Nat) (hm : ∀ t k o, look (σ.keep m l) t = some (.p k o) → k < (σ.bx.take m).length) : St P n w0 M u N β ⟨σ.keep m l, σ.bx.take m⟩ a w := by
  have hle : (σ.bx.take m).length ≤ σ.bx.length := by simp; omega
  refine ⟨S.df, S.sz, fun t s h => S.env t s (look_keep m l t s h).1, hm, fun k cs h => S.box k cs ?_, fun j k hj hk => S.inj j k (Nat.lt_of_lt_of_le hj hle) (Nat.lt_of_lt_of_le hk hle), fun k hk => S.new k (Nat.lt_of_lt_of_le hk hle), fun b hb => ?_, S.chg, S.old⟩
  · rw [List.getElem?_take] at h
    split at h
    · exact h
    · cases h
  · obtain ⟨h1, h2, h3⟩ := S.sep b hb
    exact ⟨h1, h2, fun k hk => h3 k (Nat.lt_of_lt_of_le hk hle)⟩
theorem St.quiet (S : St P n w0 M u N β σ a w) {i k : Nat} {claims : List (Ask × Value)} {keep : List Nat} {m : Nat} (hq : AllQ P u N claims)
    (hev : evK P n ops i k σ (claims.map (·.2)) keep m = some (σ', claims)) (K : ∀ a' w' β', St P n w0 M u N β' σ' a' w' → RG P ops Q (i + k) a' w') : RG P ops Q i a w := by
  unfold evK at hev
  cases hb : Nat.ble (i + k) ops.size with
  | false => rw [hb] at hev; cases hev
  | true =>
    rw [hb] at hev
    simp only [cond_true] at hev
    have hle : i + k ≤ ops.size := Nat.le_of_ble_eq_true hb
    cases hr : ev P n ops ((ops.toList.drop i).take k) σ (claims.map (·.2)) with
    | none => rw [hr] at hev; cases hev
    | some r =>
      rw [hr] at hev
      simp only [Option.map_some, Option.some.injEq, Prod.mk.injEq] at hev
      obtain ⟨e1, e2⟩ := hev
      have hlen : ((ops.toList.drop i).take k).length = k := by simp; omega
      have key := ev_sound (P := P) (n := n) (w0 := w0) (M := M) (u := u) (N := N) (ops := ops) (Q := Q) r.1 (List.range' (i + k) (ops.size - (i + k))) ((ops.toList.drop i).take k) i σ a w β claims
        (fun t o ht => by
          rw [List.getElem?_take] at ht
          split at ht
          · rw [List.getElem?_drop] at ht; simpa using ht
          · cases ht) (by rw [hr, ← e2]) hq S (fun a' w' β' S' => ?_)
      · rw [hlen] at key
        unfold RG
        rwa [show ops.size - i = k + (ops.size - (i + k)) by omega, ← List.range'_append_1]
      · subst e1
        refine K a' w' β' (S'.weaken m keep fun t k' o' h => ?_)
        have h1 := look_keep m keep t _ h
        have h2 := S'.ok t k' o' h1.1
        have h3 := h1.2 k' o' rfl
        simp; omega
end
end Go.Proofs.YtlpaefknpmdaoaaGreat
namespace Go.Proofs.YtlpaefknpmdaoaaGreat
open Go
def KK : Nat := 4194304
def KR : Nat := 9223372036854775807
section jumps
variable {next : Act → World → Prop} {Q : Exit → Act → World → Prop} {a : Act} {w : World}
end jumps
section
variable {P : Program} {n : Nat} {w0 : World} {M : Bl} {u : World} {N : Bl} {β : Nat → Nat} {σ σ' : Sy} {a : Act} {w : World} {ops : Array Oper} {Q : Exit → Act → World → Prop} {K' : Act → World → Prop}
def argEnv : Nat → List Value → Env
  | _, [] => []
  | k, v :: r => (k, .v v) :: argEnv (k + 1) r
theorem look_argEnv : ∀ (l : List Value) (k t : Nat) (s : SV), look (argEnv k l) t = some s → ∃ v, s = .v v ∧ k ≤ t ∧ l[t - k]? = some v
  | [], k, t, s, h => by simp [argEnv, look] at h
  | v :: r, k, t, s, h => by
    simp only [argEnv, look_cons] at h
    split at h
    · rename_i e; subst e
      simp at h
      exact ⟨v, h.symm, Nat.le_refl _, by simp⟩
    · obtain ⟨x, h1, h2, h3⟩ := look_argEnv r (k + 1) t s h
      refine ⟨x, h1, by omega, ?_⟩
      rw [show t - k = (t - (k + 1)) + 1 by omega]
      simpa using h3
theorem Calls.walk {f : FuncId} {fn : Func} {c : Code} {args : List Value} {R : Ending → World → Prop} (M : Bl) (hf : P.funcs[f]? = some fn) (hb : fn.body = some c) (hn : Nat.ble args.length fn.ntmps = true)
    (h : ∀ a β, St P fn.ntmps w M w (Lt w.heap.size) β ⟨argEnv 0 args, []⟩ a w → c.wp P (bodyPost P fn R) a w) : Calls P f args.toArray w R := by
  have hle : args.length ≤ fn.ntmps := Nat.le_of_ble_eq_true hn
  refine calls_of_wp hf hb (h _ (fun _ => 0) ⟨rfl, by simp; omega, fun t s ht => ?_, fun t k o ht => ?_, fun k cs hk => by simp at hk, fun _ _ hj => by simp at hj, fun _ hk => by simp at hk, fun b hb => ⟨hb, rfl, fun _ hk => by simp at hk⟩, Chg.refl _ _, fun b hb _ => ⟨hb, rfl⟩⟩)
  · obtain ⟨v, rfl, _, h3⟩ := look_argEnv args 0 t s ht
    have hlt : t < args.length := by
      have := (List.getElem?_eq_some_iff.1 h3).1; omega
    simp only [Nat.sub_zero] at h3
    simp only [SV.val]
    rw [Array.getElem?_append_left (by simpa using hlt)]
    simpa using h3
  · obtain ⟨v, e, _⟩ := look_argEnv args 0 t _ ht
    cases e
def resVal (P : Program) (σ : Sy) : ResultVar → Option Value
  | .tmp t => match look σ.env t with
    | some (.v v) => some v
    | _ => none
  | .cell t ty => match look σ.env t with
    | some (.p k o) => (σ.bx[k]?).bind fun cs => boxLoad P ty cs o
    | _ => none
def resVals (P : Program) (σ : Sy) : List ResultVar → Option (List Value)
  | [] => some []
  | r :: l => match resVal P σ r with
    | some v => (resVals P σ l).map fun x => v :: x
    | none => none
def packed : List Value → Value
  | [v] => v
  | vs => .tuple vs.toArray
def resSem (a : Act) : ResultVar → Sem Value
  | .tmp t => pure (a.tmps.getD t undef)
  | .cell a' t => do loadVar t (← asAddr (a.tmps.getD a' undef))
theorem resVal_run (S : St P n w0 M u N β σ a w) {r : ResultVar} {v : Value} (h : resVal P σ r = some v) :
    (resSem a r).run P w = .ok v w := by
  cases r with
  | tmp t =>
    simp only [resVal] at h
    split at h
    · rename_i x hx
      simp at h; subst h
      have := S.env t _ hx
      simp [resSem, this, SV.val]
    · cases h
  | cell t ty =>
    simp only [resVal] at h
    split at h
    · rename_i k o hx
      cases hc : σ.bx[k]? with
      | none => simp [hc] at h
      | some cs =>
        simp only [hc, Option.bind_some] at h
        obtain ⟨T, hb⟩ := S.box k cs hc
        have := S.env t _ hx
        have hl := run_boxLoad (P := P) hb h
        simp only [Instr.loadAt, Instr.sureAddr, Sem.run_bind, Sem.run_pure, Result.andThen_ok] at hl
        have e : a.tmps.getD t undef = pt (β k) o := by simp [this, SV.val]
        simp only [resSem, e, asAddr, Sem.run_bind, Sem.run_pure, Result.andThen_ok, hl]
    · cases h
theorem resVals_run (S : St P n w0 M u N β σ a w) : ∀ (l : List ResultVar) (vs : List Value), resVals P σ l = some vs →
    (l.mapM (resSem a)).run P w = .ok vs w
  | [], vs, h => by simp [resVals] at h; subst h; rfl
  | r :: l, vs, h => by
    simp only [resVals] at h
    split at h
    · rename_i v hv
      cases hl : resVals P σ l with
      | none => simp [hl] at h
      | some vs' =>
        simp [hl] at h; subst h
        rw [List.mapM_cons]
        rw [Sem.run_bind, resVal_run S hv]
        simp only [Result.andThen_ok]
        rw [Sem.run_bind, resVals_run S l vs' hl]
        rfl
    · cases h
theorem St.results (S : St P n w0 M u N β σ a w) {fn : Func} {vs : List Value} (h : resVals P σ fn.results.toList = some vs) : (results fn a.tmps).run P w = .ok (packed vs) w := by
  have e : Go.results fn a.tmps = (do let vs ← fn.results.mapM (resSem a); pure (if h : vs.size = 1 then vs[0] else .tuple vs)) := by
    unfold Go.results
    congr 1
  rw [e, Array.mapM_eq_mapM_toList, Sem.run_bind, Sem.run_map, resVals_run S _ _ h]
  simp only [Result.andThen_ok, Sem.run_pure]
  congr 1
  match vs with
  | [] => rfl
  | [v] => rfl
  | _ :: _ :: _ => rfl
theorem St.ret (S : St P n w0 M u N β σ a w) {fn : Func} {R : Ending → World → Prop} {vs : List Value} (hv : resVals P σ fn.results.toList = some vs) (h : R (.returned (packed vs)) w) : bodyPost P fn R .ret a w :=
  ⟨S.df, _, S.results hv, h⟩
theorem St.fall (S : St P n w0 M u N β σ a w) {fn : Func} {R : Ending → World → Prop} {vs : List Value} (hv : resVals P σ fn.results.toList = some vs) (h : R (.returned (packed vs)) w) : bodyPost P fn R .normal a w :=
  ⟨S.df, _, S.results hv, h⟩
theorem St.cond (S : St P n w0 M u N β σ a w) {c : Operand} {e : Bool} {x y : Code} (he : σ.get c = some (.v (.bool e))) (ht : e = true → x.wp P Q a w) (hf : e = false → y.wp P Q a w) : (Code.cond c x y).wp P Q a w :=
  wp_cond_split (S.get he) ht hf
theorem St.cast (S : St P n w0 M u N β σ a w) (h : σ = σ') : St P n w0 M u N β σ' a w := h ▸ S
def pruneK (σ : Sy) (keep : List Nat) (m : Nat) : Option Sy := bif Nat.ble m σ.bx.length then some ⟨σ.keep m keep, σ.bx.take m⟩ else none
theorem St.prune (S : St P n w0 M u N β σ a w) {keep : List Nat} {m : Nat} (h : pruneK σ keep m = some σ') : St P n w0 M u N β σ' a w := by
  unfold pruneK at h
  cases hb : Nat.ble m σ.bx.length with
  | false => rw [hb] at h; cases h
  | true =>
    rw [hb] at h
    simp only [cond_true, Option.some.injEq] at h
    subst h
    have hle : m ≤ σ.bx.length := Nat.le_of_ble_eq_true hb
    refine S.weaken m keep fun t k o hl => ?_
    have := (look_keep m keep t _ hl).2 k o rfl
    simp; omega
theorem wp_loop_down {c : Code} (Inv : Nat → Act → World → Prop) (m : Nat) (h0 : Inv m a w)
    (round : ∀ m a w, Inv m a w → c.wp P (Exit.then (fun a' w' => ∃ m', m' < m ∧ Inv m' a' w') Q) a w) : (Code.loop c).wp P Q a w := by
  intro b k cs
  have key : ∀ n a w, Inv n a w →
      ∃ e a' w', Q e a' w' ∧ Arrives P (lone (b.at a (.code c :: .inLoop c :: k)) cs w) b k cs e a' w' := by
    intro n
    induction n using Nat.strongRecOn with
    | _ n ih =>
      intro a w hI
      obtain ⟨e, a₁, w₁, hq, harr⟩ := round n a w hI b (.inLoop c :: k) cs
      cases e with
      | normal =>
        obtain ⟨m', hlt, hI₁⟩ := hq
        obtain ⟨e₂, a₂, w₂, hq₂, harr₂⟩ := ih m' hlt a₁ w₁ hI₁
        exact ⟨e₂, a₂, w₂, hq₂, .of_steps (Steps.trans harr (.one step_inLoop)) harr₂⟩
      | exit id => exact ⟨_, a₁, w₁, hq, .pass (x := .inLoop c) rfl (fun _ _ => .inl (by simp)) harr⟩
      | goto l => exact ⟨_, a₁, w₁, hq, .pass (x := .inLoop c) rfl (fun _ _ => .inl (by simp)) harr⟩
      | ret => exact ⟨_, a₁, w₁, hq, .pass (x := .inLoop c) rfl (fun _ _ => .inl (by simp)) harr⟩
      | panic ch => exact ⟨_, a₁, w₁, hq, .pass (x := .inLoop c) rfl (fun _ _ => .inl (by simp)) harr⟩
      | outgrown => exact ⟨_, a₁, w₁, hq, .pass (x := .inLoop c) rfl (fun _ _ => .inl (by simp)) harr⟩
  obtain ⟨e, a', w', hq, harr⟩ := key _ a w h0
  exact ⟨e, a', w', hq, .of_steps (.one step_loop) harr⟩
abbrev Rn {α : Type} [GT α] (u : World) (N : Bl) (x : α) (p : GT.Ptr α) : Prop := GT.rd KK N u x p
abbrev Rd {α : Type} [GT α] (w : World) (x : α) (p : GT.Ptr α) : Prop := GT.rd KK (Lt w.heap.size) w x p
structure Ow {α : Type} [GT α] (w0 : World) (M : Bl) (u : World) (N F : Bl) (x : α) (p : GT.Ptr α) : Prop where
  own : GT.own KK F u x p
  sub : ∀ b, F b → N b
  young : ∀ b, F b → w0.heap.size ≤ b ∨ M b
theorem St.nilOw (_ : St P n w0 M u N β σ a w) {α : Type} [GT α] : Ow w0 M u N NoB ([] : List α) (GT.pdflt (α := List α)) :=
  ⟨GT.own_dflt _ _ _, fun _ h => False.elim h, fun _ h => False.elim h⟩
theorem Ow.rn {α : Type} [GT α] {F : Bl} {x : α} {p : GT.Ptr α} (h : Ow w0 M u N F x p) : Rn u N x p := GT.rd_mono (GT.own_rd h.own) (Nat.le_refl _) h.sub
theorem St.arg {α : Type} [GT α] {K : Nat} {x : α} {p : GT.Ptr α} (S : St P n w0 NoB u N β σ a w) (h : GT.rd K (Lt w0.heap.size) w0 x p) : GT.rd K N u x p :=
  GT.rd_mono (GT.rd_agree h (fun b hb _ => (S.old b hb (fun f => f)).2)) (Nat.le_refl _) (fun b hb => (S.old b hb (fun f => f)).1)
theorem St.rd {α : Type} [GT α] {K : Nat} {x : α} {p : GT.Ptr α} (S : St P n w0 M u N β σ a w) (h : GT.rd K N u x p) : GT.rd K (Lt w.heap.size) w x p :=
  GT.rd_mono (GT.rd_lt (GT.rd_agree h (fun b hb _ => (S.sep b hb).2.1))) (Nat.le_refl _) (fun _ hb => hb.2)
def Or (A C : Bl) : Bl := fun b => A b ∨ C b
theorem Ow.up {α : Type} [GT α] {F : Bl} {x : α} {p : GT.Ptr α} {w' : World} {N' : Bl} (h : Ow w0 M u N F x p) (g : ∀ b, N b → N' b ∧ w'.heap[b]? = u.heap[b]?) : Ow w0 M w' N' F x p :=
  ⟨GT.own_agree h.own (fun b hb _ => (g b (h.sub b hb)).2), fun b hb => (g b (h.sub b hb)).1, h.young⟩
def Ret1 {α : Type} [GT α] (Mc : Bl) (w : World) (r : α) (e : Ending) (w' : World) : Prop :=
  ∃ q, e = .returned (GT.val r q) ∧ Chg Mc w w' ∧ GT.own KK (Iv w.heap.size w'.heap.size) w' r q
def Ret2 {α α' : Type} [GT α] [GT α'] (Mc : Bl) (w : World) (r : α) (r' : α') (e : Ending) (w' : World) : Prop :=
  ∃ q q' F F', e = .returned (.tuple #[GT.val r q, GT.val r' q']) ∧ Chg Mc w w' ∧ GT.own KK F w' r q ∧ GT.own KK F' w' r' q' ∧ Disj F F' ∧ ∀ b, F b ∨ F' b → w.heap.size ≤ b ∧ b < w'.heap.size
def Ret3 {α α' α'' : Type} [GT α] [GT α'] [GT α''] (Mc : Bl) (w : World) (r : α) (r' : α') (r'' : α'') (e : Ending) (w' : World) : Prop :=
  ∃ q q' q'' F, e = .returned (.tuple #[GT.val r q, GT.val r' q', GT.val r'' q'']) ∧ Chg Mc w w' ∧ GT.own KK F w' r q ∧ GT.own KK NoB w' r' q' ∧ GT.own KK NoB w' r'' q'' ∧ ∀ b, F b → w.heap.size ≤ b ∧ b < w'.heap.size
def callAc (P : Program) (n : Nat) (ops : Array Oper) (i : Nat) (σ : Sy) : Option (FuncId × List Value × Tmp) :=
  match ops.toList[i]? with
  | some o =>
    match guardv ops σ o, o.op, o.dst with
    | some true, .call ⟨.value (.func f), args, _⟩, some d =>
      match P.funcs[f]? with
      | some fn => bif fn.name == "runtime.NumGoroutine" || fn.body.isNone || !Nat.blt d n then none else (vlist σ args.toList).map fun l => (f, l, d)
      | none => none
    | some true, .call ⟨.value (.tmp t), args, _⟩, some d =>
      match σ.get (.tmp t) with
      | some (.v (.func (.func f) first caps)) => bif callee P f && Nat.blt d n then (vlist σ args.toList).map fun l => (f, first.toList ++ l ++ caps.toList, d) else none
      | _ => none
    | _, _, _ => none
  | none => none
theorem OP.step {i : Nat} {o : Oper} (ho : ops[i]? = some o) (hw : Region.wanted o (yielded ops a.tmps) = true) (h : o.wp P a w K' Q) : wpOp P ops Q i K' a w := by
  unfold wpOp
  simp only [ho, hw, if_true]
  exact .inl h
theorem RG.op {i : Nat} (hi : Nat.blt i ops.size = true) (h : wpOp P ops Q i (fun a' w' => RG P ops Q (i + 1) a' w') a w) : RG P ops Q i a w := by
  have hlt : i < ops.size := Nat.le_of_ble_eq_true hi
  unfold RG
  rw [show ops.size - i = (ops.size - (i + 1)) + 1 by omega, List.range'_succ, wpOps_cons]
  exact h
theorem St.after (S : St P n w0 M u N β σ a w) {w' : World} {d : Tmp} {v : Value} (hd : Nat.blt d n = true) (hc : Chg NoB w w') :
    St P n w0 M w' (Or N (Iv w.heap.size w'.heap.size)) β ⟨(d, .v v) :: σ.env, σ.bx⟩ (a.put (some d) v) w' := by
  have hp : σ.put n (some d) (.v v) = some ⟨(d, .v v) :: σ.env, σ.bx⟩ := by simp [Sy.put, hd]
  have S1 := S.put hp (fun _ _ e => by cases e)
  have hb : ∀ k, k < σ.bx.length → β k < w.heap.size := fun k hk => by
    obtain ⟨T', h⟩ := S.box k _ (List.getElem?_eq_getElem hk)
    rcases Nat.lt_or_ge (β k) w.heap.size with hl | hl
    · exact hl
    · rw [Array.getElem?_eq_none hl] at h; cases h
  refine ⟨S1.df, S1.sz, S1.env, S1.ok, fun k cs hk => ?_, S1.inj, S1.new, fun b hb' => ?_, S.chg.step hc (fun _ _ f => f.elim), fun b hb hm => ?_⟩
  · obtain ⟨T, h⟩ := S1.box k cs hk
    have hk' : k < σ.bx.length := (List.getElem?_eq_some_iff.1 hk).1
    exact ⟨T, (hc.block _ (hb k hk') (fun f => f)).trans h⟩
  · rcases hb' with h | h
    · obtain ⟨h1, h2, h3⟩ := S1.sep b h
      exact ⟨Nat.lt_of_lt_of_le h1 hc.size, rfl, h3⟩
    · refine ⟨h.2, rfl, fun k hk e => ?_⟩
      have := hb k hk
      have := h.1
      omega
  · obtain ⟨h1, h2⟩ := S.old b hb hm
    exact ⟨.inl h1, ((hc.block b (S.sep b h1).1 (fun f => f)).trans (S.sep b h1).2.1).trans h2⟩
theorem St.up (S : St P n w0 M u N β σ a w) {w' : World} (hc : Chg NoB w w') : ∀ b, N b → Or N (Iv w.heap.size w'.heap.size) b ∧ w'.heap[b]? = u.heap[b]? := fun b hb =>
  ⟨.inl hb, (hc.block b (S.sep b hb).1 (fun f => f)).trans (S.sep b hb).2.1⟩
theorem St.call (S : St P n w0 M u N β σ a w) {i : Nat} {f : FuncId} {vals : List Value} {d : Tmp} {R : Ending → World → Prop} (hcall : callAc P n ops i σ = some (f, vals, d)) (hc : Calls P f vals.toArray w R)
    (K : ∀ e w', R e w' → ∃ v, e = .returned v ∧ K' (a.put (some d) v) w') : wpOp P ops Q i K' a w := by
  unfold callAc at hcall
  split at hcall
  · rename_i o ho
    have ho' : ops[i]? = some o := by simpa using ho
    split at hcall
    · rename_i f' args ats d' hg hop hd
      split at hcall
      · rename_i fn hfn
        cases hb : (fn.name == "runtime.NumGoroutine" || fn.body.isNone || !Nat.blt d' n) with
        | true => rw [hb] at hcall; cases hcall
        | false =>
          rw [hb] at hcall
          simp only [cond_false] at hcall
          cases hv : vlist σ args.toList with
          | none => simp [hv] at hcall
          | some l =>
            simp [hv] at hcall
            obtain ⟨rfl, rfl, rfl⟩ := hcall
            simp only [Bool.or_eq_false_iff] at hb
            refine OP.step ho' (guard_ok S hg) ?_
            have hargs : args.map a.eval = l.toArray := by
              rw [← Array.toList_inj]; simpa using vlist_ok S _ _ hv
            have hrun : (execOp a.eval o).run P w = .ok (.enter f' l.toArray) w := by
              unfold execOp
              simp only [hop]
              simp only [resolve, hargs, Act.eval, Deferred.ofValue]
              have n1 : fn.name ≠ "runtime.NumGoroutine" := fun e => by rw [e] at hb; simp at hb
              have n2 : ¬ fn.body = none := fun e => by rw [e] at hb; simp at hb
              simp [invoke, callFunc, hfn, n1, n2]
            unfold Oper.wp
            rw [hrun, Oper.upon_enter]
            refine hc.mono fun e w' hR => ?_
            obtain ⟨v, rfl, h⟩ := K e w' hR
            rw [hd]
            exact h
      · cases hcall
    · rename_i t args ats d' hg hop hd
      split at hcall
      · rename_i f' first caps hx
        have e := S.get hx
        cases hb : (callee P f' && Nat.blt d' n) with
        | false => rw [hb] at hcall; cases hcall
        | true =>
          rw [hb] at hcall
          simp only [cond_true] at hcall
          simp only [Bool.and_eq_true] at hb
          cases hv : vlist σ args.toList with
          | none => simp [hv] at hcall
          | some l =>
            simp only [hv, Option.map_some, Option.some.injEq, Prod.mk.injEq] at hcall
            obtain ⟨rfl, rfl, rfl⟩ := hcall
            refine OP.step ho' (guard_ok S hg) ?_
            have hargs : args.map a.eval = l.toArray := by
              rw [← Array.toList_inj]; simpa using vlist_ok S _ _ hv
            have hrun : (execOp a.eval o).run P w = .ok (.enter f' (first.toList ++ l ++ caps.toList).toArray) w := by
              unfold execOp
              simp only [hop]
              exact run_callv (l := l) (x := .tmp t) e hb.1 hargs _ w
            unfold Oper.wp
            rw [hrun, Oper.upon_enter]
            refine hc.mono fun e w' hR => ?_
            obtain ⟨v, rfl, h⟩ := K e w' hR
            rw [hd]
            exact h
      · cases hcall
    · cases hcall
  · cases hcall
theorem Disj.fresh {F : Bl} (S : St P n w0 M u N β σ a w) (w' : World) (h : ∀ b, F b → w.heap.size ≤ b ∧ b < w'.heap.size) : Disj N F := fun b h1 h2 => by
  have := (S.sep b h1).1
  have := (h b h2).1
  omega
theorem St.call1 {α : Type} [GT α] (S : St P n w0 M u N β σ a w) {i : Nat} {f : FuncId} {vals : List Value} {d : Tmp} {r : α} (hc : Calls P f vals.toArray w (Ret1 NoB w r)) (hcall : callAc P n ops i σ = some (f, vals, d)) (hd : Nat.blt d n = true)
    (K : ∀ a' w' N' q F, St P n w0 M w' N' β ⟨(d, .v (GT.val r q)) :: σ.env, σ.bx⟩ a' w' → (∀ b, N b → N' b ∧ w'.heap[b]? = u.heap[b]?) → Ow w0 M w' N' F r q → Disj N F → K' a' w') : wpOp P ops Q i K' a w :=
  S.call hcall hc fun _ w' ⟨q, he, hch, ho⟩ => ⟨_, he, K _ w' _ q _ (S.after hd hch) (S.up hch) ⟨ho, fun _ h => .inr h, fun _ h => .inl (Nat.le_trans S.chg.size h.1)⟩ (Disj.fresh S w' fun _ h => h)⟩
theorem St.call2 {α α' : Type} [GT α] [GT α'] (S : St P n w0 M u N β σ a w) {i : Nat} {f : FuncId} {vals : List Value} {d : Tmp} {r : α} {r' : α'} (hc : Calls P f vals.toArray w (Ret2 NoB w r r')) (hcall : callAc P n ops i σ = some (f, vals, d)) (hd : Nat.blt d n = true)
    (K : ∀ a' w' N' q q' F F', St P n w0 M w' N' β ⟨(d, .v (.tuple #[GT.val r q, GT.val r' q'])) :: σ.env, σ.bx⟩ a' w' → (∀ b, N b → N' b ∧ w'.heap[b]? = u.heap[b]?) → Ow w0 M w' N' F r q → Ow w0 M w' N' F' r' q' → Disj N F → Disj N F' → Disj F F' → K' a' w') : wpOp P ops Q i K' a w :=
  S.call hcall hc fun _ w' ⟨q, q', F, F', he, hch, ho, ho', hd', hf⟩ => ⟨_, he, K _ w' _ q q' F F' (S.after hd hch) (S.up hch)
    ⟨ho, fun b h => .inr (hf b (.inl h)), fun b h => .inl (Nat.le_trans S.chg.size (hf b (.inl h)).1)⟩ ⟨ho', fun b h => .inr (hf b (.inr h)), fun b h => .inl (Nat.le_trans S.chg.size (hf b (.inr h)).1)⟩
    (Disj.fresh S w' fun b h => hf b (.inl h)) (Disj.fresh S w' fun b h => hf b (.inr h)) hd'⟩
theorem St.own {α : Type} [GT α] {F : Bl} {x : α} {p : GT.Ptr α} (S : St P n w0 NoB u N β σ a w) (h : Ow w0 NoB u N F x p) : GT.own KK (Iv w0.heap.size w.heap.size) w x p :=
  GT.own_mono (GT.own_agree h.own (fun b hb _ => (S.sep b (h.sub b hb)).2.1)) (Nat.le_refl _) (fun b hb => ⟨(h.young b hb).resolve_right (fun f => f), (S.sep b (h.sub b hb)).1⟩)
theorem St.own' {α : Type} [GT α] {F : Bl} {x : α} {p : GT.Ptr α} (S : St P n w0 NoB u N β σ a w) (h : Ow w0 NoB u N F x p) : GT.own KK F w x p ∧ ∀ b, F b → w0.heap.size ≤ b ∧ b < w.heap.size :=
  ⟨GT.own_agree h.own (fun b hb _ => (S.sep b (h.sub b hb)).2.1), fun b hb => ⟨(h.young b hb).resolve_right (fun f => f), (S.sep b (h.sub b hb)).1⟩⟩
end
end Go.Proofs.YtlpaefknpmdaoaaGreat
namespace Go.Proofs.YtlpaefknpmdaoaaGreat
open Go
def evD (P : Program) (n : Nat) (ops : Array Oper) : List Oper → Sy → List Value → Option (Sy × List (Ask × Value))
  | [], σ, _ => some (σ, [])
  | o :: r, σ, orc =>
    match guardv ops σ o with
    | none => none
    | some false => (σ.put n o.dst (.v undef)).bind fun σ' => evD P n ops r σ' orc
    | some true =>
      match opAc P σ o with
      | some (.val x) => (σ.put n o.dst x).bind fun σ' => evD P n ops r σ' orc
      | some (.ask q) =>
        match orc with
        | [] => none
        | v :: orc' => (σ.put n o.dst (.v v)).bind fun σ' => (evD P n ops r σ' orc').map fun x => (x.1, (q, v) :: x.2)
      | _ => none
def evDK (P : Program) (n : Nat) (ops : Array Oper) (σ : Sy) (orc : List Value) (keep : List Nat) (m : Nat) : Option (Sy × List (Ask × Value)) :=
  (evD P n ops ops.toList σ orc).map fun x => (⟨x.1.keep m keep, x.1.bx.take m⟩, x.2)
section
variable {P : Program} {n : Nat} {w0 : World} {M : Bl} {u : World} {N : Bl} {β : Nat → Nat} {σ σ' : Sy} {a : Act} {w : World} {ops : Array Oper} {Q : Exit → Act → World → Prop}
theorem evD_sound (wd : World) (σ' : Sy) (Q' : Act → Prop) : ∀ (l : List Oper) (σ : Sy) (a : Act) (claims : List (Ask × Value)),
    evD P n ops l σ (claims.map (·.2)) = some (σ', claims) → AllQ P u N claims → St P n w0 M u N β σ a wd →
    (∀ a', St P n w0 M u N β σ' a' wd → Q' a') → wpQuiet P ops (fun w' => Chg NoB wd w') Q' l a
  | [], σ, a, claims, hev, _, S, K => by
    simp only [evD, Option.some.injEq, Prod.mk.injEq] at hev
    obtain ⟨rfl, _⟩ := hev
    exact K a S
  | o :: l, σ, a, claims, hev, hq, S, K => by
    have IH := evD_sound wd σ' Q' l
    simp only [wpQuiet]
    simp only [evD] at hev
    split at hev
    · cases hev
    · rename_i hg
      rw [guard_ok S hg]
      simp only [Bool.false_eq_true, if_false]
      cases hp : σ.put n o.dst (.v undef) with
      | none => rw [hp] at hev; cases hev
      | some σ1 =>
        rw [hp] at hev
        exact IH σ1 _ claims hev hq (S.put hp (fun _ _ e => by cases e)) K
    · rename_i hg
      rw [guard_ok S hg]
      simp only [if_true]
      split at hev
      · rename_i x hx
        cases hp : σ.put n o.dst x with
        | none => rw [hp] at hev; cases hev
        | some σ1 =>
          rw [hp] at hev
          refine ⟨x.val β, fun w hw => ?_, IH σ1 _ claims hev hq (S.put hp (op_says S hx).2) K⟩
          unfold Oper.quietAt
          rw [(op_says (S.ext hw) hx).1]
          exact ⟨rfl, rfl⟩
      · rename_i q hx
        split at hev
        · cases hev
        · rename_i v orc he
          cases hp : σ.put n o.dst (.v v) with
          | none => rw [hp] at hev; cases hev
          | some σ1 =>
            rw [hp] at hev
            simp only [Option.bind_some] at hev
            cases hr : evD P n ops l σ1 orc with
            | none => rw [hr] at hev; cases hev
            | some r =>
              rw [hr] at hev
              simp only [Option.map_some, Option.some.injEq, Prod.mk.injEq] at hev
              obtain ⟨e1, e2⟩ := hev
              subst e2
              simp only [List.map_cons, List.cons.injEq, true_and] at he
              refine ⟨v, fun w hw => ?_, IH σ1 _ r.2 (by rw [he, hr, ← e1]) hq.2 (S.put hp (fun _ _ e => by cases e)) K⟩
              have S' := S.ext hw
              have h1 := op_says S' hx
              unfold Oper.quietAt
              cases q with
              | call f args =>
                simp only [Says] at h1
                rw [h1]
                exact ⟨rfl, (hq.1 w (fun b hb => ⟨(S'.sep b hb).1, (S'.sep b hb).2.1⟩)).mono fun e w' ⟨h3, h4⟩ => ⟨h3, hw.trans h4⟩⟩
              | _ =>
                rw [h1 v (hq.1 w (fun b hb => (S'.sep b hb).2.1))]
                exact ⟨rfl, rfl⟩
      · cases hev
theorem St.drawn (S : St P n w0 M u N β σ a w) {id : Nat} {claims : List (Ask × Value)} {keep : List Nat} {m : Nat} (hq : AllQ P u N claims)
    (hm : P.follows .mixedOrders = true) (hB : Region.lexB .any ops = true)
    (hev : evDK P n ops σ (claims.map (·.2)) keep m = some (σ', claims)) (K : ∀ a' w', St P n w0 M u N β σ' a' w' → Q .normal a' w') : (Code.region id ops true).wp P Q a w := by
  unfold evDK at hev
  cases hr : evD P n ops ops.toList σ (claims.map (·.2)) with
  | none => rw [hr] at hev; cases hev
  | some r =>
    rw [hr] at hev
    simp only [Option.map_some, Option.some.injEq, Prod.mk.injEq] at hev
    obtain ⟨e1, e2⟩ := hev
    have S1 : St P n w0 M u N β σ a { w with drawn := w.drawn + 1 } := S.ext (Chg.draw NoB w _)
    refine wp_region_quiet (C := fun w' => Chg NoB { w with drawn := w.drawn + 1 } w') hm hB (Chg.refl _ _) ?_
    refine evD_sound _ r.1 _ ops.toList σ a claims (by rw [hr, ← e2]) hq S1 fun a' S' w' hw' => ?_
    subst e1
    refine K a' w' ((S'.ext hw').weaken m keep fun t k o h => ?_)
    have h1 := look_keep m keep t _ h
    have h2 := S'.ok t k o h1.1
    have h3 := h1.2 k o rfl
    simp; omega
end
section
variable {P : Program} {u : World} {N : Bl}
theorem In64.lo {x : Int} (h : In64 x) : -9223372036854775808 ≤ x := h.1
theorem In64.hi {x : Int} (h : In64 x) : x ≤ 9223372036854775807 := h.2
theorem wrap_in {x : Int} (h : In64 x) : IntKind.i64.wrap x = x := Go.IntWalk.i64_in x ⟨h.1, by have := h.2; omega⟩
theorem Q_add {x y : Int} (h : In64 (x + y)) : Quiet1 P u N (.int .add .i64 x y) (I (x + y)) := fun w _ => by
  show Result.ok (Value.int .i64 (IntKind.i64.wrap (x + y))) w = _
  rw [wrap_in h]
theorem Q_addw {x y : Int} : Quiet1 P u N (.int .add .i64 x y) (I (IntKind.i64.wrap (x + y))) := fun _ _ => rfl
theorem Q_subw {x y : Int} : Quiet1 P u N (.int .sub .i64 x y) (I (IntKind.i64.wrap (x - y))) := fun _ _ => rfl
theorem Q_sub {x y : Int} (h : In64 (x - y)) : Quiet1 P u N (.int .sub .i64 x y) (I (x - y)) := fun w _ => by
  show Result.ok (Value.int .i64 (IntKind.i64.wrap (x - y))) w = _
  rw [wrap_in h]
theorem Q_rem {x y : Int} (h : y ≠ 0) : Quiet1 P u N (.int .rem .i64 x y) (I (x.tmod y)) := fun w _ => by
  show (Op.intDiv .rem .i64 x y).run P w = _
  unfold Op.intDiv
  rw [if_neg h]; rfl
theorem Q_quo {x y : Int} (h : y ≠ 0) (h' : In64 (x.tdiv y)) : Quiet1 P u N (.int .quo .i64 x y) (I (x.tdiv y)) := fun w _ => by
  show (Op.intDiv .quo .i64 x y).run P w = _
  unfold Op.intDiv
  rw [if_neg h]
  show Result.ok (Value.int .i64 (IntKind.i64.wrap (x.tdiv y))) w = _
  rw [wrap_in h']
def land64 (x y : Int) : Int := IntKind.i64.wrap ((BitVec.ofInt 64 x &&& BitVec.ofInt 64 y).toNat)
def lor64 (x y : Int) : Int := IntKind.i64.wrap ((BitVec.ofInt 64 x ||| BitVec.ofInt 64 y).toNat)
def lxor64 (x y : Int) : Int := IntKind.i64.wrap ((BitVec.ofInt 64 x ^^^ BitVec.ofInt 64 y).toNat)
def landn64 (x y : Int) : Int := IntKind.i64.wrap ((BitVec.ofInt 64 x &&& ~~~ BitVec.ofInt 64 y).toNat)
theorem wrap_in64 (x : Int) : In64 (IntKind.i64.wrap x) := by
  rw [IntKind.wrap_i64]; exact ⟨by omega, by omega⟩
theorem lor64_in64 (x y : Int) : In64 (lor64 x y) := wrap_in64 _
theorem landn64_in64 (x y : Int) : In64 (landn64 x y) := wrap_in64 _
theorem Q_land64 {x y : Int} : Quiet1 P u N (.int .and .i64 x y) (I (land64 x y)) := fun _ _ => rfl
theorem Q_lor64 {x y : Int} : Quiet1 P u N (.int .or .i64 x y) (I (lor64 x y)) := fun _ _ => rfl
theorem Q_landn64 {x y : Int} : Quiet1 P u N (.int .andNot .i64 x y) (I (landn64 x y)) := fun _ _ => rfl
def shl64 (x y : Int) : Int := IntKind.i64.wrap (x * 2 ^ (min y.toNat 64))
def shr64 (x y : Int) : Int := x.fdiv (2 ^ (min y.toNat 64))
theorem Q_shl {yk : IntKind} {x y : Int} (h : 0 ≤ y) : Quiet1 P u N (.sem (Op.shift .shl .i64 x yk y)) (I (shl64 x y)) := fun w _ => by
  show (Op.shift .shl .i64 x yk y).run P w = _
  unfold Op.shift
  rw [if_neg (by omega)]; rfl
theorem Q_shr {yk : IntKind} {x y : Int} (h : 0 ≤ y) : Quiet1 P u N (.sem (Op.shift .shr .i64 x yk y)) (I (shr64 x y)) := fun w _ => by
  show (Op.shift .shr .i64 x yk y).run P w = _
  unfold Op.shift
  rw [if_neg (by omega)]; rfl
theorem Q_convu {s d : TypeId} {ts : TypeDesc} {x : Int} (hs : P.underlying s = some ts) (hd : P.underlying d = some (.int .u64)) (h0 : 0 ≤ x) (h1 : x ≤ 9223372036854775807) : Quiet1 P u N (.sem (Go.convert s d (I x))) (.int .u64 x) := fun w _ => by
  show (Go.convert s d (.int .i64 x)).run P w = _
  unfold Go.convert
  simp only [Sem.run_bind, run_underlying hs, run_underlying hd, Result.andThen_ok]
  have e : IntKind.u64.wrap x = x := Go.IntWalk.u64_in x ⟨h0, by omega⟩
  unfold Conv.intToInt
  rw [e]
  cases ts <;> rfl
section lists
variable {α : Type} [GT α] {xs : List α} {p : GT.Ptr (List α)}
theorem Q_idx {K : Nat} (h : GT.rd K N u xs p) {t e : TypeId} {i : Int} {k l : Nat} (hl : l = xs.length) (hk : i = k) (hi : k < xs.length) (ht : P.underlying t = some (.slice e)) (he : tsize P e = some (GT.width α)) :
    Quiet1 P u N (.idx t (slv l p.1) (I i)) (pt p.1.b (p.1.off + k * GT.width α)) := fun w _ => by
  subst hl
  have hnn := (LRd.at_ h (by omega)).1
  subst hk
  have ea : p.1.addr = some ⟨p.1.b, p.1.off, none⟩ := by unfold SP.addr; rw [hnn]; rfl
  show (Instr.indexAt t (.slice p.1.addr xs.length p.1.cap) (.int .i64 k)).run P w = _
  unfold Instr.indexAt
  simp only [asIntOf, Sem.run_bind, Sem.run_pure, Result.andThen_ok, run_underlying ht, ea]
  have hlt : 0 ≤ (k : Int) ∧ (k : Int) < xs.length := ⟨by omega, by omega⟩
  simp only [hlt, and_self, if_true, Sem.run_bind, run_size he, Result.andThen_ok, Sem.run_pure, Int.toNat_natCast, Addr.add_mid]
theorem cells_of {K : Nat} (h : GT.rd K N u xs p) {k : Nat} (hi : k < xs.length) {w : World} (hw : ∀ b, N b → w.heap[b]? = u.heap[b]?) : CellsAt w p.1.b (p.1.off + k * GT.width α) (GT.cells (el xs k) (p.2 k)) := by
  have h1 := LRd.cell h k hi
  intro j v hj
  rw [← h1 j v hj]
  exact cell?_congr (hw _ (LRd.at_ h (by omega)).2)
theorem Q_cell {K : Nat} (h : GT.rd K N u xs p) {t : TypeId} {k j : Nat} {v : Value} (hi : k < xs.length) (hj : (GT.cells (el xs k) (p.2 k))[j]? = some v) (ht : tagg P t = some false) :
    Quiet1 P u N (.load t (pt p.1.b (p.1.off + k * GT.width α + j))) v := fun w hw => by
  have := cells_of h hi hw j v hj
  show (Instr.loadAt t (.pointer (some ⟨p.1.b, _, none⟩))).run P w = _
  simp only [Instr.loadAt, Instr.sureAddr, Sem.run_bind, Sem.run_pure, Result.andThen_ok, loadVar, run_agg_false ht, Bool.false_eq_true, if_false, run_load, this]
theorem Q_el1 {K : Nat} (h : GT.rd K N u xs p) {t : TypeId} {k : Nat} (hi : k < xs.length) (ha : GT.agg α = false) (ht : tagg P t = some false) :
    Quiet1 P u N (.load t (pt p.1.b (p.1.off + k * GT.width α))) (GT.val (el xs k) (p.2 k)) := by
  have hl := GT.len (el xs k) (p.2 k)
  rw [GT.one ha] at hl
  match hc : GT.cells (el xs k) (p.2 k), hl with
  | [v], _ =>
    have e : GT.val (el xs k) (p.2 k) = v := by unfold GT.val; rw [ha, hc]; rfl
    rw [e]
    have := Q_cell (P := P) (j := 0) h hi (v := v) (by rw [hc]; rfl) ht
    simpa using this
theorem Q_sub_el {K : Nat} (h : GT.rd K N u xs p) {t : TypeId} {k j s : Nat} (hi : k < xs.length) (ha : tagg P t = some true) (hs : tsize P t = some s) (hjs : j + s ≤ GT.width α) :
    Quiet1 P u N (.load t (pt p.1.b (p.1.off + k * GT.width α + j))) (.agg (((GT.cells (el xs k) (p.2 k)).drop j).take s).toArray) := fun w hw => by
  obtain ⟨d, hd, hr⟩ := tagg_true ha
  have hc := cells_of h hi hw
  refine run_loadAt_mid w _ _ t _ d (fun i v hv => ?_) hd hr ?_
  · rw [List.getElem?_take] at hv
    split at hv
    · rw [List.getElem?_drop] at hv
      have := hc _ _ hv
      rwa [← Nat.add_assoc] at this
    · cases hv
  · rw [tsize_some hs, List.length_take, List.length_drop, GT.len]
    congr 1
    omega
theorem Q_el {K : Nat} (h : GT.rd K N u xs p) {t : TypeId} {k : Nat} (hi : k < xs.length) (hg : GT.agg α = true) (ha : tagg P t = some true) (hs : tsize P t = some (GT.width α)) :
    Quiet1 P u N (.load t (pt p.1.b (p.1.off + k * GT.width α))) (GT.val (el xs k) (p.2 k)) := by
  have := Q_sub_el (P := P) (j := 0) h hi ha hs (by omega)
  have e : GT.val (el xs k) (p.2 k) = .agg (((GT.cells (el xs k) (p.2 k)).drop 0).take (GT.width α)).toArray := by
    unfold GT.val
    rw [hg, List.drop_zero, List.take_of_length_le (by rw [GT.len]; exact Nat.le_refl _)]
    rfl
  rw [e]
  simpa using this
end lists
theorem Q_sem {s : Sem Value} {v : Value} (h : ∀ w, s.run P w = .ok v w) : Quiet1 P u N (.sem s) v := fun w _ => h w
theorem tmod_in64 {x y : Int} (hy : 0 < y ∧ y ≤ 9223372036854775807) : In64 (Int.tmod x y) := by
  have h1 := Int.tmod_lt_of_pos x hy.1
  rcases Int.le_total 0 x with h0 | h0
  · have := Int.tmod_nonneg y h0
    exact ⟨by omega, by omega⟩
  · have e : Int.tmod x y = - Int.tmod (-x) y := by rw [Int.neg_tmod]; omega
    have h3 := Int.tmod_lt_of_pos (-x) hy.1
    exact ⟨by omega, by omega⟩
theorem Q_call {f : FuncId} {args : List Value} {v : Value} (h : ∀ w, (∀ b, N b → b < w.heap.size ∧ w.heap[b]? = u.heap[b]?) → Calls P f args.toArray w fun e w' => e = .returned v ∧ Chg NoB w w') : Quiet1 P u N (.call f args) v := h
theorem rd_of {α : Type} [GT α] {K : Nat} {x : α} {p : GT.Ptr α} (h : GT.rd K N u x p) {w : World} (hw : ∀ b, N b → b < w.heap.size ∧ w.heap[b]? = u.heap[b]?) : GT.rd K (Lt w.heap.size) w x p :=
  GT.rd_mono (GT.rd_agree h (fun b hb _ => (hw b hb).2)) (Nat.le_refl _) (fun b hb => (hw b hb).1)
end
end Go.Proofs.YtlpaefknpmdaoaaGreat
namespace Go.Proofs.YtlpaefknpmdaoaaGreat
open Go
structure Sepd (F : Bl) (l : List Bl) : Prop where
  sub : ∀ G, G ∈ l → ∀ b, G b → F b
  dis : l.Pairwise Disj
theorem Sepd.mono {F F' : Bl} {l : List Bl} (h : Sepd F l) (hf : ∀ b, F b → F' b) : Sepd F' l := ⟨fun G hG b hb => hf b (h.sub G hG b hb), h.dis⟩
theorem Sepd.lt {F : Bl} {l : List Bl} (h : Sepd F l) (n : Nat) : Sepd (fun b => F b ∧ b < n) (l.map fun G b => G b ∧ b < n) :=
  ⟨fun G hG b hb => by
      obtain ⟨G', h1, rfl⟩ := List.mem_map.1 hG
      exact ⟨h.sub G' h1 b hb.1, hb.2⟩,
    List.pairwise_map.2 (h.dis.imp fun hd b x y => hd b x.1 y.1)⟩
structure TSlot where
  page : Int
  rights : Int
  deriving DecidableEq
theorem TSlot.ext_iff {a b : TSlot} : a = b ↔ a.page = b.page ∧ a.rights = b.rights := by
  cases a; cases b; simp
structure RSlot (d : TSlot) : Prop where
  page : In64 d.page
  rights : In64 d.rights
instance : GT TSlot where
  Ptr := Unit
  dflt := ⟨0, 0⟩
  pdflt := ()
  width := 2
  agg := true
  cells x _ := [I x.page, I x.rights]
  rd _ _ _ x _ := RSlot x
  own _ _ _ x _ := RSlot x
  wpos := by decide
  len _ _ := rfl
  one h := by cases h
  plain _ _ v h := by simp only [List.mem_cons, List.not_mem_nil, or_false] at h; rcases h with rfl | rfl <;> rfl
  rd_mono h _ _ := h
  rd_agree h _ := h
  rd_lt h := h
  own_mono h _ _ := h
  own_agree h _ := h
  own_lt h := h
  own_rd h := h
  own_dflt _ _ _ := ⟨⟨by decide, by decide⟩, ⟨by decide, by decide⟩⟩
structure TKept where
  known : List Bool
  slots : List TSlot
  deriving DecidableEq
theorem TKept.ext_iff {a b : TKept} : a = b ↔ a.known = b.known ∧ a.slots = b.slots := by
  cases a; cases b; simp
structure PKept where
  known : LP Bool
  slots : LP TSlot
structure RKept (K : Nat) (F : Bl) (w : World) (d : TKept) (p : PKept) : Prop where
  known : GT.rd K F w d.known p.known
  slots : GT.rd K F w d.slots p.slots
def OKept (K : Nat) (F : Bl) (w : World) (x : TKept) (p : PKept) : Prop :=
  ∃ G0 G1 : Bl, GT.own K G0 w x.known p.known ∧ GT.own K G1 w x.slots p.slots ∧ Sepd F [G0, G1]
instance : GT TKept where
  Ptr := PKept
  dflt := ⟨[], []⟩
  pdflt := ⟨GT.pdflt (α := List Bool), GT.pdflt (α := List TSlot)⟩
  width := 2
  agg := true
  cells x p := [slv x.known.length p.known.1, slv x.slots.length p.slots.1]
  rd := RKept
  own := OKept
  wpos := by decide
  len _ _ := rfl
  one h := by cases h
  plain _ _ v h := by simp only [List.mem_cons, List.not_mem_nil, or_false] at h; rcases h with rfl | rfl <;> rfl
  rd_mono h hk hf := ⟨GT.rd_mono h.known hk hf, GT.rd_mono h.slots hk hf⟩
  rd_agree h hw := ⟨GT.rd_agree h.known hw, GT.rd_agree h.slots hw⟩
  rd_lt h := ⟨GT.rd_lt h.known, GT.rd_lt h.slots⟩
  own_mono := by
    rintro K K' F G w x p ⟨G0, G1, h0, h1, s⟩ hk hf
    exact ⟨G0, G1, GT.own_mono h0 hk (fun _ y => y), GT.own_mono h1 hk (fun _ y => y), s.mono hf⟩
  own_agree := by
    rintro K F w w' x p ⟨G0, G1, h0, h1, s⟩ hw
    exact ⟨G0, G1, GT.own_agree h0 (fun b hb => hw b (s.sub _ (by simp) b hb)), GT.own_agree h1 (fun b hb => hw b (s.sub _ (by simp) b hb)), s⟩
  own_lt := by
    rintro K F w x p ⟨G0, G1, h0, h1, s⟩
    exact ⟨_, _, GT.own_lt h0, GT.own_lt h1, s.lt _⟩
  own_rd := by
    rintro K F w x p ⟨G0, G1, h0, h1, s⟩
    exact ⟨GT.rd_mono (GT.own_rd h0) (Nat.le_refl _) (s.sub _ (by simp)), GT.rd_mono (GT.own_rd h1) (Nat.le_refl _) (s.sub _ (by simp))⟩
  own_dflt K F w := ⟨NoB, NoB, GT.own_dflt _ _ _, GT.own_dflt _ _ _, ⟨fun G hG b hb => by simp at hG; rcases hG with rfl <;> exact hb.elim, by simp [Disj, NoB]⟩⟩
structure TEntry where
  tag : Int
  page : Int
  host : Int
  rights : Int
  deriving DecidableEq
theorem TEntry.ext_iff {a b : TEntry} : a = b ↔ a.tag = b.tag ∧ a.page = b.page ∧ a.host = b.host ∧ a.rights = b.rights := by
  cases a; cases b; simp
structure REntry (d : TEntry) : Prop where
  tag : In64 d.tag
  page : In64 d.page
  host : In64 d.host
  rights : In64 d.rights
instance : GT TEntry where
  Ptr := Unit
  dflt := ⟨0, 0, 0, 0⟩
  pdflt := ()
  width := 4
  agg := true
  cells x _ := [I x.tag, I x.page, I x.host, I x.rights]
  rd _ _ _ x _ := REntry x
  own _ _ _ x _ := REntry x
  wpos := by decide
  len _ _ := rfl
  one h := by cases h
  plain _ _ v h := by simp only [List.mem_cons, List.not_mem_nil, or_false] at h; rcases h with rfl | rfl | rfl | rfl <;> rfl
  rd_mono h _ _ := h
  rd_agree h _ := h
  rd_lt h := h
  own_mono h _ _ := h
  own_agree h _ := h
  own_lt h := h
  own_rd h := h
  own_dflt _ _ _ := ⟨⟨by decide, by decide⟩, ⟨by decide, by decide⟩, ⟨by decide, by decide⟩, ⟨by decide, by decide⟩⟩
structure TIns where
  opc : Int
  x : Int
  deriving DecidableEq
theorem TIns.ext_iff {a b : TIns} : a = b ↔ a.opc = b.opc ∧ a.x = b.x := by
  cases a; cases b; simp
structure RIns (d : TIns) : Prop where
  opc : In64 d.opc
  x : In64 d.x
instance : GT TIns where
  Ptr := Unit
  dflt := ⟨0, 0⟩
  pdflt := ()
  width := 2
  agg := true
  cells x _ := [I x.opc, I x.x]
  rd _ _ _ x _ := RIns x
  own _ _ _ x _ := RIns x
  wpos := by decide
  len _ _ := rfl
  one h := by cases h
  plain _ _ v h := by simp only [List.mem_cons, List.not_mem_nil, or_false] at h; rcases h with rfl | rfl <;> rfl
  rd_mono h _ _ := h
  rd_agree h _ := h
  rd_lt h := h
  own_mono h _ _ := h
  own_agree h _ := h
  own_lt h := h
  own_rd h := h
  own_dflt _ _ _ := ⟨⟨by decide, by decide⟩, ⟨by decide, by decide⟩⟩
structure TCtl where
  traps : Int
  post : Int
  opn : Bool
  deriving DecidableEq
theorem TCtl.ext_iff {a b : TCtl} : a = b ↔ a.traps = b.traps ∧ a.post = b.post ∧ a.opn = b.opn := by
  cases a; cases b; simp
structure RCtl (d : TCtl) : Prop where
  traps : In64 d.traps
  post : In64 d.post
instance : GT TCtl where
  Ptr := Unit
  dflt := ⟨0, 0, false⟩
  pdflt := ()
  width := 3
  agg := true
  cells x _ := [I x.traps, I x.post, B x.opn]
  rd _ _ _ x _ := RCtl x
  own _ _ _ x _ := RCtl x
  wpos := by decide
  len _ _ := rfl
  one h := by cases h
  plain _ _ v h := by simp only [List.mem_cons, List.not_mem_nil, or_false] at h; rcases h with rfl | rfl | rfl <;> rfl
  rd_mono h _ _ := h
  rd_agree h _ := h
  rd_lt h := h
  own_mono h _ _ := h
  own_agree h _ := h
  own_lt h := h
  own_rd h := h
  own_dflt _ _ _ := ⟨⟨by decide, by decide⟩, ⟨by decide, by decide⟩⟩
structure TExit where
  kind : Int
  page : Int
  wr : Bool
  n : Int
  deriving DecidableEq
theorem TExit.ext_iff {a b : TExit} : a = b ↔ a.kind = b.kind ∧ a.page = b.page ∧ a.wr = b.wr ∧ a.n = b.n := by
  cases a; cases b; simp
structure RExit (d : TExit) : Prop where
  kind : In64 d.kind
  page : In64 d.page
  n : In64 d.n
instance : GT TExit where
  Ptr := Unit
  dflt := ⟨0, 0, false, 0⟩
  pdflt := ()
  width := 4
  agg := true
  cells x _ := [I x.kind, I x.page, B x.wr, I x.n]
  rd _ _ _ x _ := RExit x
  own _ _ _ x _ := RExit x
  wpos := by decide
  len _ _ := rfl
  one h := by cases h
  plain _ _ v h := by simp only [List.mem_cons, List.not_mem_nil, or_false] at h; rcases h with rfl | rfl | rfl | rfl <;> rfl
  rd_mono h _ _ := h
  rd_agree h _ := h
  rd_lt h := h
  own_mono h _ _ := h
  own_agree h _ := h
  own_lt h := h
  own_rd h := h
  own_dflt _ _ _ := ⟨⟨by decide, by decide⟩, ⟨by decide, by decide⟩, ⟨by decide, by decide⟩⟩
structure TGuest where
  prog : List TIns
  acc : Int
  pc : Int
  written : List TSlot
  live : List TSlot
  ctl : TCtl
  pend : Int
  exit : TExit
  halted : Bool
  seen : List Int
  deriving DecidableEq
theorem TGuest.ext_iff {a b : TGuest} : a = b ↔ a.prog = b.prog ∧ a.acc = b.acc ∧ a.pc = b.pc ∧ a.written = b.written ∧ a.live = b.live ∧ a.ctl = b.ctl ∧ a.pend = b.pend ∧ a.exit = b.exit ∧ a.halted = b.halted ∧ a.seen = b.seen := by
  cases a; cases b; simp
structure PGuest where
  prog : LP TIns
  written : LP TSlot
  live : LP TSlot
  seen : LP Int
structure RGuest (K : Nat) (F : Bl) (w : World) (d : TGuest) (p : PGuest) : Prop where
  prog : GT.rd K F w d.prog p.prog
  acc : In64 d.acc
  pc : In64 d.pc
  written : GT.rd K F w d.written p.written
  live : GT.rd K F w d.live p.live
  ctl : RCtl d.ctl
  pend : In64 d.pend
  exit : RExit d.exit
  seen : GT.rd K F w d.seen p.seen
def OGuest (K : Nat) (F : Bl) (w : World) (x : TGuest) (p : PGuest) : Prop :=
  ∃ G0 G1 G2 G3 : Bl, GT.own K G0 w x.prog p.prog ∧ GT.own K G1 w x.written p.written ∧ GT.own K G2 w x.live p.live ∧ GT.own K G3 w x.seen p.seen ∧ Sepd F [G0, G1, G2, G3] ∧ In64 x.acc ∧ In64 x.pc ∧ RCtl x.ctl ∧ In64 x.pend ∧ RExit x.exit
instance : GT TGuest where
  Ptr := PGuest
  dflt := ⟨[], 0, 0, [], [], ⟨0, 0, false⟩, 0, ⟨0, 0, false, 0⟩, false, []⟩
  pdflt := ⟨GT.pdflt (α := List TIns), GT.pdflt (α := List TSlot), GT.pdflt (α := List TSlot), GT.pdflt (α := List Int)⟩
  width := 15
  agg := true
  cells x p := [slv x.prog.length p.prog.1, I x.acc, I x.pc, slv x.written.length p.written.1, slv x.live.length p.live.1, I x.ctl.traps, I x.ctl.post, B x.ctl.opn, I x.pend, I x.exit.kind, I x.exit.page, B x.exit.wr, I x.exit.n, B x.halted, slv x.seen.length p.seen.1]
  rd := RGuest
  own := OGuest
  wpos := by decide
  len _ _ := rfl
  one h := by cases h
  plain _ _ v h := by simp only [List.mem_cons, List.not_mem_nil, or_false] at h; rcases h with rfl | rfl | rfl | rfl | rfl | rfl | rfl | rfl | rfl | rfl | rfl | rfl | rfl | rfl | rfl <;> rfl
  rd_mono h hk hf := ⟨GT.rd_mono h.prog hk hf, h.acc, h.pc, GT.rd_mono h.written hk hf, GT.rd_mono h.live hk hf, h.ctl, h.pend, h.exit, GT.rd_mono h.seen hk hf⟩
  rd_agree h hw := ⟨GT.rd_agree h.prog hw, h.acc, h.pc, GT.rd_agree h.written hw, GT.rd_agree h.live hw, h.ctl, h.pend, h.exit, GT.rd_agree h.seen hw⟩
  rd_lt h := ⟨GT.rd_lt h.prog, h.acc, h.pc, GT.rd_lt h.written, GT.rd_lt h.live, h.ctl, h.pend, h.exit, GT.rd_lt h.seen⟩
  own_mono := by
    rintro K K' F G w x p ⟨G0, G1, G2, G3, h0, h1, h2, h3, s, f0, f1, f2, f3, f4⟩ hk hf
    exact ⟨G0, G1, G2, G3, GT.own_mono h0 hk (fun _ y => y), GT.own_mono h1 hk (fun _ y => y), GT.own_mono h2 hk (fun _ y => y), GT.own_mono h3 hk (fun _ y => y), s.mono hf, f0, f1, f2, f3, f4⟩
  own_agree := by
    rintro K F w w' x p ⟨G0, G1, G2, G3, h0, h1, h2, h3, s, f0, f1, f2, f3, f4⟩ hw
    exact ⟨G0, G1, G2, G3, GT.own_agree h0 (fun b hb => hw b (s.sub _ (by simp) b hb)), GT.own_agree h1 (fun b hb => hw b (s.sub _ (by simp) b hb)), GT.own_agree h2 (fun b hb => hw b (s.sub _ (by simp) b hb)), GT.own_agree h3 (fun b hb => hw b (s.sub _ (by simp) b hb)), s, f0, f1, f2, f3, f4⟩
  own_lt := by
    rintro K F w x p ⟨G0, G1, G2, G3, h0, h1, h2, h3, s, f0, f1, f2, f3, f4⟩
    exact ⟨_, _, _, _, GT.own_lt h0, GT.own_lt h1, GT.own_lt h2, GT.own_lt h3, s.lt _, f0, f1, f2, f3, f4⟩
  own_rd := by
    rintro K F w x p ⟨G0, G1, G2, G3, h0, h1, h2, h3, s, f0, f1, f2, f3, f4⟩
    exact ⟨GT.rd_mono (GT.own_rd h0) (Nat.le_refl _) (s.sub _ (by simp)), f0, f1, GT.rd_mono (GT.own_rd h1) (Nat.le_refl _) (s.sub _ (by simp)), GT.rd_mono (GT.own_rd h2) (Nat.le_refl _) (s.sub _ (by simp)), f2, f3, f4, GT.rd_mono (GT.own_rd h3) (Nat.le_refl _) (s.sub _ (by simp))⟩
  own_dflt K F w := ⟨NoB, NoB, NoB, NoB, GT.own_dflt _ _ _, GT.own_dflt _ _ _, GT.own_dflt _ _ _, GT.own_dflt _ _ _, ⟨fun G hG b hb => by simp at hG; rcases hG with rfl <;> exact hb.elim, by simp [Disj, NoB]⟩, ⟨by decide, by decide⟩, ⟨by decide, by decide⟩, ⟨⟨by decide, by decide⟩, ⟨by decide, by decide⟩⟩, ⟨by decide, by decide⟩, ⟨⟨by decide, by decide⟩, ⟨by decide, by decide⟩, ⟨by decide, by decide⟩⟩⟩
structure TBare where
  mem : List (List Int)
  guests : List TGuest
  outs : List Int
  pend : Int
  deriving DecidableEq
theorem TBare.ext_iff {a b : TBare} : a = b ↔ a.mem = b.mem ∧ a.guests = b.guests ∧ a.outs = b.outs ∧ a.pend = b.pend := by
  cases a; cases b; simp
structure PBare where
  mem : LP (List Int)
  guests : LP TGuest
  outs : LP Int
structure RBare (K : Nat) (F : Bl) (w : World) (d : TBare) (p : PBare) : Prop where
  mem : GT.rd K F w d.mem p.mem
  guests : GT.rd K F w d.guests p.guests
  outs : GT.rd K F w d.outs p.outs
  pend : In64 d.pend
def OBare (K : Nat) (F : Bl) (w : World) (x : TBare) (p : PBare) : Prop :=
  ∃ G0 G1 G2 : Bl, GT.own K G0 w x.mem p.mem ∧ GT.own K G1 w x.guests p.guests ∧ GT.own K G2 w x.outs p.outs ∧ Sepd F [G0, G1, G2] ∧ In64 x.pend
instance : GT TBare where
  Ptr := PBare
  dflt := ⟨[], [], [], 0⟩
  pdflt := ⟨GT.pdflt (α := List (List Int)), GT.pdflt (α := List TGuest), GT.pdflt (α := List Int)⟩
  width := 4
  agg := true
  cells x p := [slv x.mem.length p.mem.1, slv x.guests.length p.guests.1, slv x.outs.length p.outs.1, I x.pend]
  rd := RBare
  own := OBare
  wpos := by decide
  len _ _ := rfl
  one h := by cases h
  plain _ _ v h := by simp only [List.mem_cons, List.not_mem_nil, or_false] at h; rcases h with rfl | rfl | rfl | rfl <;> rfl
  rd_mono h hk hf := ⟨GT.rd_mono h.mem hk hf, GT.rd_mono h.guests hk hf, GT.rd_mono h.outs hk hf, h.pend⟩
  rd_agree h hw := ⟨GT.rd_agree h.mem hw, GT.rd_agree h.guests hw, GT.rd_agree h.outs hw, h.pend⟩
  rd_lt h := ⟨GT.rd_lt h.mem, GT.rd_lt h.guests, GT.rd_lt h.outs, h.pend⟩
  own_mono := by
    rintro K K' F G w x p ⟨G0, G1, G2, h0, h1, h2, s, f0⟩ hk hf
    exact ⟨G0, G1, G2, GT.own_mono h0 hk (fun _ y => y), GT.own_mono h1 hk (fun _ y => y), GT.own_mono h2 hk (fun _ y => y), s.mono hf, f0⟩
  own_agree := by
    rintro K F w w' x p ⟨G0, G1, G2, h0, h1, h2, s, f0⟩ hw
    exact ⟨G0, G1, G2, GT.own_agree h0 (fun b hb => hw b (s.sub _ (by simp) b hb)), GT.own_agree h1 (fun b hb => hw b (s.sub _ (by simp) b hb)), GT.own_agree h2 (fun b hb => hw b (s.sub _ (by simp) b hb)), s, f0⟩
  own_lt := by
    rintro K F w x p ⟨G0, G1, G2, h0, h1, h2, s, f0⟩
    exact ⟨_, _, _, GT.own_lt h0, GT.own_lt h1, GT.own_lt h2, s.lt _, f0⟩
  own_rd := by
    rintro K F w x p ⟨G0, G1, G2, h0, h1, h2, s, f0⟩
    exact ⟨GT.rd_mono (GT.own_rd h0) (Nat.le_refl _) (s.sub _ (by simp)), GT.rd_mono (GT.own_rd h1) (Nat.le_refl _) (s.sub _ (by simp)), GT.rd_mono (GT.own_rd h2) (Nat.le_refl _) (s.sub _ (by simp)), f0⟩
  own_dflt K F w := ⟨NoB, NoB, NoB, GT.own_dflt _ _ _, GT.own_dflt _ _ _, GT.own_dflt _ _ _, ⟨fun G hG b hb => by simp at hG; rcases hG with rfl <;> exact hb.elim, by simp [Disj, NoB]⟩, ⟨by decide, by decide⟩⟩
structure TMon where
  outer : List TSlot
  out : List (List Int)
  dirty : List Bool
  guests : List TGuest
  outs : List Int
  pend : Int
  traps : Int
  tables : List TKept
  owned : Int
  deriving DecidableEq
theorem TMon.ext_iff {a b : TMon} : a = b ↔ a.outer = b.outer ∧ a.out = b.out ∧ a.dirty = b.dirty ∧ a.guests = b.guests ∧ a.outs = b.outs ∧ a.pend = b.pend ∧ a.traps = b.traps ∧ a.tables = b.tables ∧ a.owned = b.owned := by
  cases a; cases b; simp
structure PMon where
  outer : LP TSlot
  out : LP (List Int)
  dirty : LP Bool
  guests : LP TGuest
  outs : LP Int
  tables : LP TKept
structure RMon (K : Nat) (F : Bl) (w : World) (d : TMon) (p : PMon) : Prop where
  outer : GT.rd K F w d.outer p.outer
  out : GT.rd K F w d.out p.out
  dirty : GT.rd K F w d.dirty p.dirty
  guests : GT.rd K F w d.guests p.guests
  outs : GT.rd K F w d.outs p.outs
  pend : In64 d.pend
  traps : In64 d.traps
  tables : GT.rd K F w d.tables p.tables
  owned : In64 d.owned
def OMon (K : Nat) (F : Bl) (w : World) (x : TMon) (p : PMon) : Prop :=
  ∃ G0 G1 G2 G3 G4 G5 : Bl, GT.own K G0 w x.outer p.outer ∧ GT.own K G1 w x.out p.out ∧ GT.own K G2 w x.dirty p.dirty ∧ GT.own K G3 w x.guests p.guests ∧ GT.own K G4 w x.outs p.outs ∧ GT.own K G5 w x.tables p.tables ∧ Sepd F [G0, G1, G2, G3, G4, G5] ∧ In64 x.pend ∧ In64 x.traps ∧ In64 x.owned
instance : GT TMon where
  Ptr := PMon
  dflt := ⟨[], [], [], [], [], 0, 0, [], 0⟩
  pdflt := ⟨GT.pdflt (α := List TSlot), GT.pdflt (α := List (List Int)), GT.pdflt (α := List Bool), GT.pdflt (α := List TGuest), GT.pdflt (α := List Int), GT.pdflt (α := List TKept)⟩
  width := 9
  agg := true
  cells x p := [slv x.outer.length p.outer.1, slv x.out.length p.out.1, slv x.dirty.length p.dirty.1, slv x.guests.length p.guests.1, slv x.outs.length p.outs.1, I x.pend, I x.traps, slv x.tables.length p.tables.1, I x.owned]
  rd := RMon
  own := OMon
  wpos := by decide
  len _ _ := rfl
  one h := by cases h
  plain _ _ v h := by simp only [List.mem_cons, List.not_mem_nil, or_false] at h; rcases h with rfl | rfl | rfl | rfl | rfl | rfl | rfl | rfl | rfl <;> rfl
  rd_mono h hk hf := ⟨GT.rd_mono h.outer hk hf, GT.rd_mono h.out hk hf, GT.rd_mono h.dirty hk hf, GT.rd_mono h.guests hk hf, GT.rd_mono h.outs hk hf, h.pend, h.traps, GT.rd_mono h.tables hk hf, h.owned⟩
  rd_agree h hw := ⟨GT.rd_agree h.outer hw, GT.rd_agree h.out hw, GT.rd_agree h.dirty hw, GT.rd_agree h.guests hw, GT.rd_agree h.outs hw, h.pend, h.traps, GT.rd_agree h.tables hw, h.owned⟩
  rd_lt h := ⟨GT.rd_lt h.outer, GT.rd_lt h.out, GT.rd_lt h.dirty, GT.rd_lt h.guests, GT.rd_lt h.outs, h.pend, h.traps, GT.rd_lt h.tables, h.owned⟩
  own_mono := by
    rintro K K' F G w x p ⟨G0, G1, G2, G3, G4, G5, h0, h1, h2, h3, h4, h5, s, f0, f1, f2⟩ hk hf
    exact ⟨G0, G1, G2, G3, G4, G5, GT.own_mono h0 hk (fun _ y => y), GT.own_mono h1 hk (fun _ y => y), GT.own_mono h2 hk (fun _ y => y), GT.own_mono h3 hk (fun _ y => y), GT.own_mono h4 hk (fun _ y => y), GT.own_mono h5 hk (fun _ y => y), s.mono hf, f0, f1, f2⟩
  own_agree := by
    rintro K F w w' x p ⟨G0, G1, G2, G3, G4, G5, h0, h1, h2, h3, h4, h5, s, f0, f1, f2⟩ hw
    exact ⟨G0, G1, G2, G3, G4, G5, GT.own_agree h0 (fun b hb => hw b (s.sub _ (by simp) b hb)), GT.own_agree h1 (fun b hb => hw b (s.sub _ (by simp) b hb)), GT.own_agree h2 (fun b hb => hw b (s.sub _ (by simp) b hb)), GT.own_agree h3 (fun b hb => hw b (s.sub _ (by simp) b hb)), GT.own_agree h4 (fun b hb => hw b (s.sub _ (by simp) b hb)), GT.own_agree h5 (fun b hb => hw b (s.sub _ (by simp) b hb)), s, f0, f1, f2⟩
  own_lt := by
    rintro K F w x p ⟨G0, G1, G2, G3, G4, G5, h0, h1, h2, h3, h4, h5, s, f0, f1, f2⟩
    exact ⟨_, _, _, _, _, _, GT.own_lt h0, GT.own_lt h1, GT.own_lt h2, GT.own_lt h3, GT.own_lt h4, GT.own_lt h5, s.lt _, f0, f1, f2⟩
  own_rd := by
    rintro K F w x p ⟨G0, G1, G2, G3, G4, G5, h0, h1, h2, h3, h4, h5, s, f0, f1, f2⟩
    exact ⟨GT.rd_mono (GT.own_rd h0) (Nat.le_refl _) (s.sub _ (by simp)), GT.rd_mono (GT.own_rd h1) (Nat.le_refl _) (s.sub _ (by simp)), GT.rd_mono (GT.own_rd h2) (Nat.le_refl _) (s.sub _ (by simp)), GT.rd_mono (GT.own_rd h3) (Nat.le_refl _) (s.sub _ (by simp)), GT.rd_mono (GT.own_rd h4) (Nat.le_refl _) (s.sub _ (by simp)), f0, f1, GT.rd_mono (GT.own_rd h5) (Nat.le_refl _) (s.sub _ (by simp)), f2⟩
  own_dflt K F w := ⟨NoB, NoB, NoB, NoB, NoB, NoB, GT.own_dflt _ _ _, GT.own_dflt _ _ _, GT.own_dflt _ _ _, GT.own_dflt _ _ _, GT.own_dflt _ _ _, GT.own_dflt _ _ _, ⟨fun G hG b hb => by simp at hG; rcases hG with rfl <;> exact hb.elim, by simp [Disj, NoB]⟩, ⟨by decide, by decide⟩, ⟨by decide, by decide⟩, ⟨by decide, by decide⟩⟩
structure THost where
  mem : List (List Int)
  mons : List TMon
  buf : List TEntry
  iobuf : List TEntry
  deriving DecidableEq
theorem THost.ext_iff {a b : THost} : a = b ↔ a.mem = b.mem ∧ a.mons = b.mons ∧ a.buf = b.buf ∧ a.iobuf = b.iobuf := by
  cases a; cases b; simp
structure PHost where
  mem : LP (List Int)
  mons : LP TMon
  buf : LP TEntry
  iobuf : LP TEntry
structure RHost (K : Nat) (F : Bl) (w : World) (d : THost) (p : PHost) : Prop where
  mem : GT.rd K F w d.mem p.mem
  mons : GT.rd K F w d.mons p.mons
  buf : GT.rd K F w d.buf p.buf
  iobuf : GT.rd K F w d.iobuf p.iobuf
def OHost (K : Nat) (F : Bl) (w : World) (x : THost) (p : PHost) : Prop :=
  ∃ G0 G1 G2 G3 : Bl, GT.own K G0 w x.mem p.mem ∧ GT.own K G1 w x.mons p.mons ∧ GT.own K G2 w x.buf p.buf ∧ GT.own K G3 w x.iobuf p.iobuf ∧ Sepd F [G0, G1, G2, G3]
instance : GT THost where
  Ptr := PHost
  dflt := ⟨[], [], [], []⟩
  pdflt := ⟨GT.pdflt (α := List (List Int)), GT.pdflt (α := List TMon), GT.pdflt (α := List TEntry), GT.pdflt (α := List TEntry)⟩
  width := 4
  agg := true
  cells x p := [slv x.mem.length p.mem.1, slv x.mons.length p.mons.1, slv x.buf.length p.buf.1, slv x.iobuf.length p.iobuf.1]
  rd := RHost
  own := OHost
  wpos := by decide
  len _ _ := rfl
  one h := by cases h
  plain _ _ v h := by simp only [List.mem_cons, List.not_mem_nil, or_false] at h; rcases h with rfl | rfl | rfl | rfl <;> rfl
  rd_mono h hk hf := ⟨GT.rd_mono h.mem hk hf, GT.rd_mono h.mons hk hf, GT.rd_mono h.buf hk hf, GT.rd_mono h.iobuf hk hf⟩
  rd_agree h hw := ⟨GT.rd_agree h.mem hw, GT.rd_agree h.mons hw, GT.rd_agree h.buf hw, GT.rd_agree h.iobuf hw⟩
  rd_lt h := ⟨GT.rd_lt h.mem, GT.rd_lt h.mons, GT.rd_lt h.buf, GT.rd_lt h.iobuf⟩
  own_mono := by
    rintro K K' F G w x p ⟨G0, G1, G2, G3, h0, h1, h2, h3, s⟩ hk hf
    exact ⟨G0, G1, G2, G3, GT.own_mono h0 hk (fun _ y => y), GT.own_mono h1 hk (fun _ y => y), GT.own_mono h2 hk (fun _ y => y), GT.own_mono h3 hk (fun _ y => y), s.mono hf⟩
  own_agree := by
    rintro K F w w' x p ⟨G0, G1, G2, G3, h0, h1, h2, h3, s⟩ hw
    exact ⟨G0, G1, G2, G3, GT.own_agree h0 (fun b hb => hw b (s.sub _ (by simp) b hb)), GT.own_agree h1 (fun b hb => hw b (s.sub _ (by simp) b hb)), GT.own_agree h2 (fun b hb => hw b (s.sub _ (by simp) b hb)), GT.own_agree h3 (fun b hb => hw b (s.sub _ (by simp) b hb)), s⟩
  own_lt := by
    rintro K F w x p ⟨G0, G1, G2, G3, h0, h1, h2, h3, s⟩
    exact ⟨_, _, _, _, GT.own_lt h0, GT.own_lt h1, GT.own_lt h2, GT.own_lt h3, s.lt _⟩
  own_rd := by
    rintro K F w x p ⟨G0, G1, G2, G3, h0, h1, h2, h3, s⟩
    exact ⟨GT.rd_mono (GT.own_rd h0) (Nat.le_refl _) (s.sub _ (by simp)), GT.rd_mono (GT.own_rd h1) (Nat.le_refl _) (s.sub _ (by simp)), GT.rd_mono (GT.own_rd h2) (Nat.le_refl _) (s.sub _ (by simp)), GT.rd_mono (GT.own_rd h3) (Nat.le_refl _) (s.sub _ (by simp))⟩
  own_dflt K F w := ⟨NoB, NoB, NoB, NoB, GT.own_dflt _ _ _, GT.own_dflt _ _ _, GT.own_dflt _ _ _, GT.own_dflt _ _ _, ⟨fun G hG b hb => by simp at hG; rcases hG with rfl <;> exact hb.elim, by simp [Disj, NoB]⟩⟩
structure TAct where
  kind : Int
  m : Int
  g : Int
  x : Int
  y : Int
  z : Int
  deriving DecidableEq
theorem TAct.ext_iff {a b : TAct} : a = b ↔ a.kind = b.kind ∧ a.m = b.m ∧ a.g = b.g ∧ a.x = b.x ∧ a.y = b.y ∧ a.z = b.z := by
  cases a; cases b; simp
structure RAct (d : TAct) : Prop where
  kind : In64 d.kind
  m : In64 d.m
  g : In64 d.g
  x : In64 d.x
  y : In64 d.y
  z : In64 d.z
instance : GT TAct where
  Ptr := Unit
  dflt := ⟨0, 0, 0, 0, 0, 0⟩
  pdflt := ()
  width := 6
  agg := true
  cells x _ := [I x.kind, I x.m, I x.g, I x.x, I x.y, I x.z]
  rd _ _ _ x _ := RAct x
  own _ _ _ x _ := RAct x
  wpos := by decide
  len _ _ := rfl
  one h := by cases h
  plain _ _ v h := by simp only [List.mem_cons, List.not_mem_nil, or_false] at h; rcases h with rfl | rfl | rfl | rfl | rfl | rfl <;> rfl
  rd_mono h _ _ := h
  rd_agree h _ := h
  rd_lt h := h
  own_mono h _ _ := h
  own_agree h _ := h
  own_lt h := h
  own_rd h := h
  own_dflt _ _ _ := ⟨⟨by decide, by decide⟩, ⟨by decide, by decide⟩, ⟨by decide, by decide⟩, ⟨by decide, by decide⟩, ⟨by decide, by decide⟩, ⟨by decide, by decide⟩⟩
structure TTold where
  ok : Bool
  n : Int
  deriving DecidableEq
theorem TTold.ext_iff {a b : TTold} : a = b ↔ a.ok = b.ok ∧ a.n = b.n := by
  cases a; cases b; simp
structure RTold (d : TTold) : Prop where
  n : In64 d.n
instance : GT TTold where
  Ptr := Unit
  dflt := ⟨false, 0⟩
  pdflt := ()
  width := 2
  agg := true
  cells x _ := [B x.ok, I x.n]
  rd _ _ _ x _ := RTold x
  own _ _ _ x _ := RTold x
  wpos := by decide
  len _ _ := rfl
  one h := by cases h
  plain _ _ v h := by simp only [List.mem_cons, List.not_mem_nil, or_false] at h; rcases h with rfl | rfl <;> rfl
  rd_mono h _ _ := h
  rd_agree h _ := h
  rd_lt h := h
  own_mono h _ _ := h
  own_agree h _ := h
  own_lt h := h
  own_rd h := h
  own_dflt _ _ _ := ⟨⟨by decide, by decide⟩⟩
end Go.Proofs.YtlpaefknpmdaoaaGreat
namespace Go.Proofs.YtlpaefknpmdaoaaGreat
open Go
section
variable {P : Program} {n : Nat} {w0 : World} {M : Bl} {u : World} {N : Bl} {β : Nat → Nat} {σ σ' : Sy} {a : Act} {w : World} {ops : Array Oper} {Q : Exit → Act → World → Prop} {K' : Act → World → Prop}
theorem St.afterF (S : St P n w0 M u N β σ a w) {w' : World} {Mc : Bl} (hc : Chg Mc w w') (h1 : ∀ b, Mc b → N b) (h2 : ∀ b, Mc b → w0.heap.size ≤ b ∨ M b) :
    St P n w0 M w' (Or N (Iv w.heap.size w'.heap.size)) β σ a w' := by
  have hb : ∀ k, k < σ.bx.length → β k < w.heap.size := fun k hk => by
    obtain ⟨T', h⟩ := S.box k _ (List.getElem?_eq_getElem hk)
    rcases Nat.lt_or_ge (β k) w.heap.size with hl | hl
    · exact hl
    · rw [Array.getElem?_eq_none hl] at h; cases h
  refine ⟨S.df, S.sz, S.env, S.ok, fun k cs hk => ?_, S.inj, S.new, fun b hb' => ?_, S.chg.step hc (fun b hb' hm => (h2 b hm).resolve_left (by omega)), fun b hb' hm => ?_⟩
  · obtain ⟨T, h⟩ := S.box k cs hk
    have hk' : k < σ.bx.length := (List.getElem?_eq_some_iff.1 hk).1
    exact ⟨T, (hc.block _ (hb k hk') (fun f => (S.sep _ (h1 _ f)).2.2 k hk' rfl)).trans h⟩
  · rcases hb' with h | h
    · obtain ⟨e1, e2, e3⟩ := S.sep b h
      exact ⟨Nat.lt_of_lt_of_le e1 hc.size, rfl, e3⟩
    · refine ⟨h.2, rfl, fun k hk e => ?_⟩
      have := hb k hk
      have := h.1
      omega
  · obtain ⟨e1, e2⟩ := S.old b hb' hm
    have hn : ¬ Mc b := fun f => by
      rcases h2 b f with h | h
      · omega
      · exact hm h
    exact ⟨.inl e1, ((hc.block b (S.sep b e1).1 hn).trans (S.sep b e1).2.1).trans e2⟩
theorem St.upF (S : St P n w0 M u N β σ a w) {w' : World} {Mc : Bl} (hc : Chg Mc w w') : ∀ b, N b → ¬ Mc b → Or N (Iv w.heap.size w'.heap.size) b ∧ w'.heap[b]? = u.heap[b]? := fun b hb hm =>
  ⟨.inl hb, (hc.block b (S.sep b hb).1 hm).trans (S.sep b hb).2.1⟩
theorem Ow.upF {α : Type} [GT α] {F Mc : Bl} {x : α} {p : GT.Ptr α} {w' : World} {N' : Bl} (h : Ow w0 M u N F x p) (hd : Disj F Mc) (g : ∀ b, N b → ¬ Mc b → N' b ∧ w'.heap[b]? = u.heap[b]?) : Ow w0 M w' N' F x p :=
  ⟨GT.own_agree h.own (fun b hb _ => (g b (h.sub b hb) (fun m => hd b hb m)).2), fun b hb => (g b (h.sub b hb) (fun m => hd b hb m)).1, h.young⟩
theorem look_put {d : Tmp} {v : Value} (hd : Nat.blt d n = true) : σ.put n (some d) (.v v) = some ⟨(d, .v v) :: σ.env, σ.bx⟩ := by simp [Sy.put, hd]
def sameOpd : Operand → Operand → Bool
  | .tmp s, .tmp r => Nat.beq s r
  | .const (.int .i64 x), .const (.int .i64 y) => decide (x = y)
  | _, _ => false
theorem sameOpd_ok {l c : Operand} (h : sameOpd l c = true) : σ.get l = σ.get c := by
  unfold sameOpd at h
  split at h
  · rw [Nat.eq_of_beq_eq_true h]
  · rw [of_decide_eq_true h]
  · cases h
def makeAc (P : Program) (n : Nat) (ops : Array Oper) (i : Nat) (σ : Sy) : Option (Value × List Value × Nat × Nat × Tmp) :=
  match ops.toList[i]? with
  | some o =>
    match guardv ops σ o, o.op, o.dst with
    | some true, .makeSlice t l c, some d =>
      match P.underlying t, σ.get l with
      | some (.slice e), some (.v (.int .i64 m)) =>
        match P.info? e with
        | some i =>
          match i.zero with
          | some z => bif Nat.blt d n && sameOpd l c then some (.int .i64 m, z.cells.toList, i.bytes, i.size, d) else none
          | _ => none
        | none => none
      | _, _ => none
    | _, _, _ => none
  | none => none
theorem zeros_cells {α : Type} [GT α] (zs : List Value) (hz : zs.length = GT.width α) (m : Nat) (b : Nat) (T : TypeId) (w : World) (hw : w.heap[b]? = some (.cells ((Array.range (m * GT.width α)).map (zs.toArray[· % zs.toArray.size]!)) T (0, 0))) (i : Nat) (hi : i < m) :
    CellsAt w b (0 + i * GT.width α) zs := by
  intro j v hj
  have hjl : j < GT.width α := by rw [← hz]; exact (List.getElem?_eq_some_iff.1 hj).1
  have hlt : i * GT.width α + j < m * GT.width α := by
    have := Nat.mul_le_mul_right (GT.width α) (show i + 1 ≤ m from hi)
    rw [Nat.add_mul] at this; omega
  simp only [World.cell?, hw, Nat.zero_add, Option.isSome_none, Bool.false_eq_true, if_false]
  rw [Array.getElem?_map, Array.getElem?_range]
  simp only [hlt, if_true, Option.map_some, Option.some.injEq]
  have hmod : (i * GT.width α + j) % GT.width α = j := by rw [Nat.mul_comm, Nat.mul_add_mod]; exact Nat.mod_eq_of_lt hjl
  simp only [List.size_toArray, hz, hmod]
  simp [hj]
theorem run_make {t e : TypeId} {info : TypeInfo} {z : Value} {m : Nat} (ht : P.underlying t = some (.slice e)) (hi : P.info? e = some info) (hz : info.zero = some z) (hb : info.bytes * m ≤ 281474976710656) (hm : m ≤ 9223372036854775807) (w : World)
    (hs : 0 < info.size) (hzl : z.cells.size = info.size) :
    (Instr.makeSlice t (I m) (I m)).run P w = .ok (.slice (some ⟨w.heap.size, 0, none⟩) m m) { w with heap := w.heap.push (.cells ((Array.range (m * info.size)).map (z.cells[· % z.cells.size]!)) e) } := by
  unfold Instr.makeSlice
  have hw : IntKind.i64.wrap (m : Int) = m := wrap_in ⟨by omega, by omega⟩
  have h1 : ¬ ((m : Int) < 0) := by omega
  have h2 : ¬ ((info.bytes : Int) * m > 2 ^ 48) := by
    have : ((info.bytes * m : Nat) : Int) ≤ (281474976710656 : Nat) := Int.ofNat_le.2 hb
    simp only [Int.natCast_mul] at this
    omega
  have hzero : (zeroValue e).run P w = .ok z w := by simp [zeroValue, typeInfo, hi, hz]
  simp only [Sem.run_bind, run_underlying ht, Result.andThen_ok, asInt, asIntOf, Sem.run_pure, typeInfo, run_program, hi, hw, h1, h2, decide_false, Bool.or_self, Bool.false_eq_true, Int.lt_irrefl, gt_iff_lt, if_false, Int.toNat_natCast]
  have hroom : ∀ k : Nat, (askRoom k).run P w = .ok () w := fun k => by
    unfold askRoom; split <;> rfl
  simp only [hroom, Result.andThen_ok, sizeOf, typeInfo, Sem.run_bind, run_program, hi, Sem.run_pure]
  by_cases h0 : m * info.size = 0
  · have : m = 0 := by
      rcases Nat.mul_eq_zero.1 h0 with h | h
      · exact h
      · omega
    subst this
    have hr : Array.range 0 = #[] := rfl
    simp [newRow, hr]
  · simp only [h0, if_false, Sem.run_bind, hzero, Result.andThen_ok, Sem.run_pure, newRow, run_newObj]
theorem St.make {α : Type} [GT α] (S : St P n w0 M u N β σ a w) {i : Nat} {m by' : Nat} {d : Tmp} (hop : makeAc P n ops i σ = some (I m, GT.cells (GT.dflt : α) GT.pdflt, by', GT.width α, d)) (hb : by' * m ≤ 281474976710656) (hm : m ≤ KK)
    (K : ∀ a' w' N' q F, St P n w0 M w' N' β ⟨(d, .v (slv m q.1)) :: σ.env, σ.bx⟩ a' w' → (∀ b, N b → N' b ∧ w'.heap[b]? = u.heap[b]?) →
      Ow w0 M w' N' F (List.replicate m (GT.dflt : α)) q → Disj N F → K' a' w') : wpOp P ops Q i K' a w := by
  unfold makeAc at hop
  split at hop
  · rename_i o ho
    have ho' : ops[i]? = some o := by simpa using ho
    split at hop
    · rename_i t l c d' hg hopq hd
      split at hop
      · rename_i e m' hu hx
        split at hop
        · rename_i info hinfo
          split at hop
          · rename_i z hz
            cases hbb : (Nat.blt d' n && sameOpd l c) with
            | false => rw [hbb] at hop; cases hop
            | true =>
                  rw [hbb] at hop
                  simp only [Bool.and_eq_true] at hbb
                  obtain ⟨hdn, hso⟩ := hbb
                  have hy := hx
                  rw [sameOpd_ok (σ := σ) hso] at hy
                  simp only [cond_true, Option.some.injEq, Prod.mk.injEq, Value.int.injEq, true_and] at hop
                  obtain ⟨rfl, hzc, rfl, hsz, rfl⟩ := hop
                  have hzl : z.cells.size = info.size := by
                    have := GT.len (GT.dflt : α) GT.pdflt
                    rw [← hzc] at this
                    rw [hsz]; simpa using this
                  have hrun := run_make (P := P) hu hinfo hz hb (by unfold KK at hm; omega) w (by rw [hsz]; exact GT.wpos) hzl
                  refine OP.step ho' (guard_ok S hg) ?_
                  have hex : (execOp a.eval o).run P w = .ok (.value (.slice (some ⟨w.heap.size, 0, none⟩) m m)) { w with heap := w.heap.push (.cells ((Array.range (m * info.size)).map (z.cells[· % z.cells.size]!)) e) } := by
                    unfold execOp
                    simp only [hopq, S.get hx, S.get hy]
                    show (do pure (.value (← Instr.makeSlice t (I m) (I m))) : Sem Next).run P w = _
                    rw [Sem.run_bind, hrun]
                    rfl
                  unfold Oper.wp
                  rw [hex]
                  simp only [Oper.upon, hd]
                  have hch : Chg NoB w { w with heap := w.heap.push (.cells ((Array.range (m * info.size)).map (z.cells[· % z.cells.size]!)) e) } := Chg.push NoB w _
                  have hrow : ({ w with heap := w.heap.push (.cells ((Array.range (m * info.size)).map (z.cells[· % z.cells.size]!)) e) } : World).heap[w.heap.size]? = some (.cells ((Array.range (m * info.size)).map (z.cells[· % z.cells.size]!)) e) := by simp
                  refine K _ _ _ (⟨false, w.heap.size, 0, m, none⟩, fun _ => GT.pdflt) (Iv w.heap.size _) (S.after hdn hch) (S.up hch) ⟨?_, fun _ h => .inr h, fun _ h => .inl (Nat.le_trans S.chg.size h.1)⟩ (Disj.fresh S _ fun _ h => h)
                  have hel : ∀ k, k < m → el (List.replicate m (GT.dflt : α)) k = GT.dflt := fun k hk => by simp [el, hk]
                  refine ⟨by simpa using hm, by simp, by unfold KK at hm; simp; omega, fun h => (by cases h), fun _ => ⟨⟨Nat.le_refl _, by simp⟩, _, e, hrow, by simp [hsz]⟩, fun k hk => ?_, fun _ => NoB, fun k hk => ?_, fun _ _ b hb' => hb'.elim, fun _ _ _ _ _ b hb' => hb'.elim⟩
                  · simp only [List.length_replicate] at hk
                    rw [hel k hk]
                    have e1 : z.cells = (GT.cells (GT.dflt : α) GT.pdflt).toArray := by rw [← hzc]
                    refine zeros_cells (α := α) _ (GT.len _ _) m w.heap.size e _ ?_ k hk
                    rw [hrow, e1, hsz]
                  · simp only [List.length_replicate] at hk
                    rw [hel k hk]
                    exact GT.own_dflt _ _ _
          · cases hop
        · cases hop
      · cases hop
    · cases hop
  · cases hop
end
end Go.Proofs.YtlpaefknpmdaoaaGreat
namespace Go.Proofs.YtlpaefknpmdaoaaGreat
open Go
section
variable {P : Program} {n : Nat} {w0 : World} {M : Bl} {u : World} {N : Bl} {β : Nat → Nat} {σ σ' : Sy} {a : Act} {w : World} {ops : Array Oper} {Q : Exit → Act → World → Prop} {K' : Act → World → Prop}
def storeAc (ops : Array Oper) (i : Nat) (σ : Sy) : Option (TypeId × Value × Value) :=
  match ops.toList[i]? with
  | some o =>
    match guardv ops σ o, o.op, o.dst with
    | some true, .store t x y, none =>
      match σ.get x, σ.get y with
      | some (.v a), some (.v v) => some (t, a, v)
      | _, _ => none
    | _, _, _ => none
  | none => none
theorem storeAc_run (S : St P n w0 M u N β σ a w) {i : Nat} {t : TypeId} {b o : Nat} {v : Value} {cs : Array Value} {T : TypeId} (hop : storeAc ops i σ = some (t, pt b o, v)) (hs : tsize P t = some v.cells.toList.length) (hpl : v.cells.toList.all (·.oneCell') = true)
    (hb : w.heap[b]? = some (.cells cs T (0, 0))) (hle : o + v.cells.toList.length ≤ cs.size)
    (h : K' a (w.setRow b (cs.toList.take o ++ v.cells.toList ++ cs.toList.drop (o + v.cells.toList.length)).toArray)) : wpOp P ops Q i K' a w := by
  unfold storeAc at hop
  split at hop
  · rename_i oo ho
    have ho' : ops[i]? = some oo := by simpa using ho
    split at hop
    · rename_i t' x y hg hopq hd
      split at hop
      · rename_i x' y' hx hy
        simp only [Option.some.injEq, Prod.mk.injEq] at hop
        obtain ⟨rfl, rfl, rfl⟩ := hop
        refine OP.step ho' (guard_ok S hg) ?_
        have hrun := run_storeCells_at (P := P) b o T y'.cells.toList 0 cs w hb (by simp at hle ⊢; exact hle) (fun z hz => List.all_eq_true.1 hpl z hz)
        simp only [Nat.add_zero] at hrun
        have hex : (execOp a.eval oo).run P w = .ok .skip (w.setRow b (cs.toList.take o ++ y'.cells.toList ++ cs.toList.drop (o + y'.cells.toList.length)).toArray) := by
          unfold execOp
          simp only [hopq, S.get hx, S.get hy]
          show (do Instr.storeAt t' (pt b o) y'; pure .skip : Sem Next).run P w = _
          rw [Sem.run_bind]
          simp only [Instr.storeAt, Instr.sureAddr, Sem.run_bind, Sem.run_pure, Result.andThen_ok, storeVar, run_size hs]
          rw [if_neg (by simp), hrun]
          rfl
        unfold Oper.wp
        rw [hex]
        simp only [Oper.upon, hd]
        exact h
      · cases hop
    · cases hop
  · cases hop
theorem splice_get (l vs : List Value) (o i : Nat) (h : o + vs.length ≤ l.length) : (l.take o ++ vs ++ l.drop (o + vs.length))[i]? = if i < o then l[i]? else if i < o + vs.length then vs[i - o]? else l[i]? := by
  have hl : (l.take o).length = o := by simp; omega
  by_cases h1 : i < o
  · rw [if_pos h1, List.append_assoc, List.getElem?_append_left (by omega), List.getElem?_take, if_pos h1]
  · rw [if_neg h1]
    by_cases h2 : i < o + vs.length
    · rw [if_pos h2, List.append_assoc, List.getElem?_append_right (by omega), hl, List.getElem?_append_left (by omega)]
    · rw [if_neg h2, List.append_assoc, List.getElem?_append_right (by omega), hl, List.getElem?_append_right (by omega), List.getElem?_drop]
      congr 1
      omega
theorem el_set {α : Type} [GT α] (xs : List α) (k i : Nat) (y : α) (hk : k < xs.length) : el (xs.set k y) i = if i = k then y else el xs i := by
  unfold el
  simp only [List.getD_eq_getElem?_getD, List.getElem?_set]
  by_cases h : i = k
  · subst h; simp [hk]
  · rw [if_neg (fun e => h e.symm), if_neg h]
theorem LOwn.nonil {α : Type} [GT α] {K : Nat} {F : Bl} {w : World} {xs : List α} {p : LP α} (h : LOwn K F w xs p) (hl : 0 < p.1.cap) : p.1.nil = false := by
  cases hn : p.1.nil with
  | false => rfl
  | true => have := h.null hn; omega
theorem St.setElE {α : Type} [GT α] {xs : List α} {p : LP α} {F Fy : Bl} (S : St P n w0 M u N β σ a w) (hx : Ow w0 M u N F xs p) {i k j off : Nat} {t : TypeId} {v : Value} {y : α} {q : GT.Ptr α} (hop : storeAc ops i σ = some (t, pt p.1.b off, v))
    (hoff : off = p.1.off + k * GT.width α + j) (hk : k < xs.length) (hs : tsize P t = some v.cells.toList.length) (hpl : v.cells.toList.all (·.oneCell') = true) (hjw : j + v.cells.toList.length ≤ GT.width α)
    (hc : GT.cells y q = (GT.cells (el xs k) (p.2 k)).take j ++ v.cells.toList ++ (GT.cells (el xs k) (p.2 k)).drop (j + v.cells.toList.length))
    (hy : ∀ G, GT.own KK G u (el xs k) (p.2 k) → (∀ b, G b → F b) → ∃ G', GT.own KK G' u y q ∧ ∀ b, G' b → G b ∨ Fy b) (hd : Disj F Fy) (hyN : ∀ b, Fy b → N b) (hyY : ∀ b, Fy b → w0.heap.size ≤ b ∨ M b)
    (K : ∀ w' N' F', St P n w0 M w' N' β σ a w' → (∀ b, N b → ¬ F b → N' b ∧ w'.heap[b]? = u.heap[b]?) →
      Ow w0 M w' N' F' (xs.set k y) ((p.1, fun i => if i = k then q else p.2 i) : LP α) → (∀ G : Bl, Disj G F → Disj G Fy → (∀ b, G b → N b) → Disj G F') → (∀ b, F' b → F b ∨ Fy b) → (∀ b, N b → N' b) → K' a w') : wpOp P ops Q i K' a w := by
  have ho : LOwn KK F u xs p := hx.own
  have hcap := ho.cap
  have hnn : p.1.nil = false := ho.nonil (by omega)
  obtain ⟨hF, cs, T, hrow, hsz⟩ := ho.row hnn
  obtain ⟨hlt, hwu, _⟩ := S.sep _ (hx.sub _ hF)
  have hwrow : w.heap[p.1.b]? = some (.cells cs T (0, 0)) := hwu.trans hrow
  have hmul : (k + 1) * GT.width α ≤ p.1.cap * GT.width α := Nat.mul_le_mul_right _ (by omega)
  rw [Nat.add_mul, Nat.one_mul] at hmul
  have hle : off + v.cells.toList.length ≤ cs.size := by omega
  refine storeAc_run S hop hs hpl hwrow hle ?_
  have hnew := setRow_heap w p.1.b cs (cs.toList.take off ++ v.cells.toList ++ cs.toList.drop (off + v.cells.toList.length)).toArray T (0, 0) hwrow
  have hoth : ∀ b, b ≠ p.1.b → (w.setRow p.1.b (cs.toList.take off ++ v.cells.toList ++ cs.toList.drop (off + v.cells.toList.length)).toArray).heap[b]? = w.heap[b]? := fun b hb => by
    simp only [World.setRow, Array.getElem?_modify]
    rw [if_neg (fun e => hb e.symm)]
  have hwsz : (w.setRow p.1.b (cs.toList.take off ++ v.cells.toList ++ cs.toList.drop (off + v.cells.toList.length)).toArray).heap.size = w.heap.size := by simp [World.setRow]
  generalize hw' : w.setRow p.1.b (cs.toList.take off ++ v.cells.toList ++ cs.toList.drop (off + v.cells.toList.length)).toArray = w' at *
  have hch : Chg F w w' := by
    subst hw'
    exact ⟨rfl, rfl, rfl, by rw [hwsz]; exact Nat.le_refl _, fun b _ hn => hoth b (fun e => hn (e ▸ hF))⟩
  have hcell : ∀ pos, w'.cell? ⟨p.1.b, pos, none⟩ = if pos < off then cs[pos]? else if pos < off + v.cells.toList.length then v.cells.toList[pos - off]? else cs[pos]? := fun pos => by
    simp only [World.cell?, hnew, Option.isSome_none, Bool.false_eq_true, if_false]
    have := splice_get cs.toList v.cells.toList off pos (by simpa using hle)
    simpa using this
  have hold : ∀ pos x, u.cell? ⟨p.1.b, pos, none⟩ = some x → cs[pos]? = some x := fun pos x h => by
    simpa [World.cell?, hrow] using h
  refine K w' _ (Or F Fy) (S.afterF hch hx.sub hx.young) (S.upF hch) ⟨?_, fun b hb => .inl (hb.elim (hx.sub b) (hyN b)), fun b hb => hb.elim (hx.young b) (hyY b)⟩ (fun G g1 g2 _ b hb h => h.elim (g1 b hb) (g2 b hb)) (fun _ h => h) (fun _ h => .inl h)
  obtain ⟨G, g1, g2, g3⟩ := ho.el
  obtain ⟨G', gy, gs⟩ := hy (G k) (g1 k hk) (fun b hb => (g2 k hk b hb).1)
  have hag : ∀ b, F b → b ≠ p.1.b → w'.heap[b]? = u.heap[b]? := fun b hb hne => (hoth b hne).trans (S.sep b (hx.sub b hb)).2.1
  have hagy : ∀ b, Fy b → w'.heap[b]? = u.heap[b]? := fun b hb => (hoth b (fun e => hd _ (e ▸ hF) hb)).trans (S.sep b (hyN b hb)).2.1
  refine ⟨by rw [List.length_set]; exact ho.le, by rw [List.length_set]; exact ho.cap, ho.capm, ho.null, fun _ => ⟨.inl hF, _, T, hnew, ?_⟩, fun i hi => ?_, fun i => if i = k then G' else G i, fun i hi => ?_, fun i hi b hb => ?_, fun i i' hi hi' hne => ?_⟩
  · have : (cs.toList.take off ++ v.cells.toList ++ cs.toList.drop (off + v.cells.toList.length)).toArray.size = cs.size := by simp at hle ⊢; omega
    rw [this]; exact hsz
  · rw [List.length_set] at hi
    rw [el_set _ _ _ _ hk]
    by_cases e : i = k
    · subst e
      simp only [if_true]
      intro z x hz
      have hzl : z < GT.width α := by
        have := (List.getElem?_eq_some_iff.1 hz).1
        rwa [GT.len] at this
      rw [hc, splice_get _ _ _ _ (by rw [GT.len]; exact hjw)] at hz
      rw [hcell]
      by_cases z1 : z < j
      · rw [if_pos z1] at hz
        rw [if_pos (by omega)]
        exact hold _ _ (ho.cell i hk z x hz)
      · rw [if_neg z1] at hz
        rw [if_neg (by omega)]
        by_cases z2 : z < j + v.cells.toList.length
        · rw [if_pos z2] at hz
          rw [if_pos (by omega), ← hz]
          congr 1
          omega
        · rw [if_neg z2] at hz
          rw [if_neg (by omega)]
          exact hold _ _ (ho.cell i hk z x hz)
    · simp only [e, if_false]
      intro z x hz
      have hzl : z < GT.width α := by
        have := (List.getElem?_eq_some_iff.1 hz).1
        rwa [GT.len] at this
      have h1 := hold _ _ (ho.cell i hi z x hz)
      rw [hcell]
      rcases Nat.lt_or_gt_of_ne e with h | h
      · have := Nat.mul_le_mul_right (GT.width α) (show i + 1 ≤ k from h)
        rw [Nat.add_mul, Nat.one_mul] at this
        rw [if_pos (by omega)]
        exact h1
      · have := Nat.mul_le_mul_right (GT.width α) (show k + 1 ≤ i from h)
        rw [Nat.add_mul, Nat.one_mul] at this
        rw [if_neg (by omega), if_neg (by omega)]
        exact h1
  · rw [List.length_set] at hi
    rw [el_set _ _ _ _ hk]
    by_cases e : i = k
    · subst e
      simp only [if_true]
      exact GT.own_agree gy fun b hb _ => by
        rcases gs b hb with h | h
        · obtain ⟨h1, h2⟩ := g2 i hk b h
          exact hag b h1 h2
        · exact hagy b h
    · simp only [e, if_false]
      exact GT.own_agree (g1 i hi) fun b hb _ => hag b (g2 i hi b hb).1 (g2 i hi b hb).2
  · rw [List.length_set] at hi
    by_cases e : i = k
    · subst e
      simp only [if_true] at hb
      rcases gs b hb with h | h
      · exact ⟨.inl (g2 i hk b h).1, (g2 i hk b h).2⟩
      · exact ⟨.inr h, fun e => hd _ (e ▸ hF) h⟩
    · simp only [e, if_false] at hb
      exact ⟨.inl (g2 i hi b hb).1, (g2 i hi b hb).2⟩
  · rw [List.length_set] at hi hi'
    intro b hb hb'
    by_cases e : i = k
    · by_cases e' : i' = k
      · exact hne (e.trans e'.symm)
      · simp only [e, if_true] at hb
        simp only [e', if_false] at hb'
        rcases gs b hb with h | h
        · exact g3 k i' hk hi' (fun q => e' q.symm) b h hb'
        · exact hd b (g2 i' hi' b hb').1 h
    · by_cases e' : i' = k
      · simp only [e, if_false] at hb
        simp only [e', if_true] at hb'
        rcases gs b hb' with h | h
        · exact g3 i k hi hk e b hb h
        · exact hd b (g2 i hi b hb).1 h
      · simp only [e, e', if_false] at hb hb'
        exact g3 i i' hi hi' hne b hb hb'
theorem St.setEl {α : Type} [GT α] {xs : List α} {p : LP α} {F Fy : Bl} (S : St P n w0 M u N β σ a w) (hx : Ow w0 M u N F xs p) {i k j off : Nat} {t : TypeId} {v : Value} {y : α} {q : GT.Ptr α} (hop : storeAc ops i σ = some (t, pt p.1.b off, v))
    (hoff : off = p.1.off + k * GT.width α + j) (hk : k < xs.length) (hs : tsize P t = some v.cells.toList.length) (hpl : v.cells.toList.all (·.oneCell') = true) (hjw : j + v.cells.toList.length ≤ GT.width α)
    (hc : GT.cells y q = (GT.cells (el xs k) (p.2 k)).take j ++ v.cells.toList ++ (GT.cells (el xs k) (p.2 k)).drop (j + v.cells.toList.length))
    (hy : ∀ G, GT.own KK G u (el xs k) (p.2 k) → (∀ b, G b → F b) → ∃ G', GT.own KK G' u y q ∧ ∀ b, G' b → G b ∨ Fy b) (hd : Disj F Fy) (hyN : ∀ b, Fy b → N b) (hyY : ∀ b, Fy b → w0.heap.size ≤ b ∨ M b)
    (K : ∀ w' N' F' p2, St P n w0 M w' N' β σ a w' → (∀ b, N b → ¬ F b → N' b ∧ w'.heap[b]? = u.heap[b]?) →
      Ow w0 M w' N' F' (xs.set k y) (p.1, p2) → (∀ G : Bl, Disj G F → Disj G Fy → (∀ b, G b → N b) → Disj G F') → (∀ b, F' b → F b ∨ Fy b) → (∀ b, N b → N' b) → K' a w') : wpOp P ops Q i K' a w :=
  S.setElE hx hop hoff hk hs hpl hjw hc hy hd hyN hyY fun w' N' F' => K w' N' F' _
theorem St.sE {α : Type} [GT α] {xs : List α} {p : LP α} {F Fy : Bl} (S : St P n w0 M u N β σ a w) (hx : Ow w0 M u N F xs p) {i k j off : Nat} {t : TypeId} {v : Value} {y : α} {q : GT.Ptr α}
    (hy : ∀ G, GT.own KK G u (el xs k) (p.2 k) → (∀ b, G b → F b) → ∃ G', GT.own KK G' u y q ∧ ∀ b, G' b → G b ∨ Fy b) (hd : Disj F Fy) (hyN : ∀ b, Fy b → N b) (hyY : ∀ b, Fy b → w0.heap.size ≤ b ∨ M b)
    (K : ∀ w' N' F' p2, St P n w0 M w' N' β σ a w' → (∀ b, N b → ¬ F b → N' b ∧ w'.heap[b]? = u.heap[b]?) →
      Ow w0 M w' N' F' (xs.set k y) (p.1, p2) → (∀ G : Bl, Disj G F → Disj G Fy → (∀ b, G b → N b) → Disj G F') → (∀ b, F' b → F b ∨ Fy b) → (∀ b, N b → N' b) → K' a w')
    (hop : storeAc ops i σ = some (t, pt p.1.b off, v) := by kernel_rfl) (hoff : off = p.1.off + k * GT.width α + j := by kernel_rfl) (hk : k < xs.length := by omega) (hs : tsize P t = some v.cells.toList.length := by kernel_rfl) (hpl : v.cells.toList.all (·.oneCell') = true := by kernel_rfl) (hjw : Nat.ble (j + v.cells.toList.length) (GT.width α) = true := by kernel_rfl)
    (hc : GT.cells y q = (GT.cells (el xs k) (p.2 k)).take j ++ v.cells.toList ++ (GT.cells (el xs k) (p.2 k)).drop (j + v.cells.toList.length) := by kernel_rfl) : wpOp P ops Q i K' a w :=
  S.setEl hx hop hoff hk hs hpl (Nat.le_of_ble_eq_true hjw) hc hy hd hyN hyY K
theorem St.sF {α : Type} [GT α] {xs : List α} {p : LP α} {F : Bl} (S : St P n w0 M u N β σ a w) (hx : Ow w0 M u N F xs p) {i k j off : Nat} {t : TypeId} {v : Value} {y : α} {q : GT.Ptr α}
    (hy : ∀ G, GT.own KK G u (el xs k) (p.2 k) → (∀ b, G b → F b) → ∃ G', GT.own KK G' u y q ∧ ∀ b, G' b → G b ∨ NoB b)
    (K : ∀ w' N' F' p2, St P n w0 M w' N' β σ a w' → (∀ b, N b → ¬ F b → N' b ∧ w'.heap[b]? = u.heap[b]?) →
      Ow w0 M w' N' F' (xs.set k y) (p.1, p2) → (∀ G : Bl, Disj G F → Disj G NoB → (∀ b, G b → N b) → Disj G F') → (∀ b, F' b → F b ∨ NoB b) → (∀ b, N b → N' b) → K' a w')
    (hop : storeAc ops i σ = some (t, pt p.1.b off, v) := by kernel_rfl) (hoff : off = p.1.off + k * GT.width α + j := by kernel_rfl) (hk : k < xs.length := by omega) (hs : tsize P t = some v.cells.toList.length := by kernel_rfl) (hpl : v.cells.toList.all (·.oneCell') = true := by kernel_rfl) (hjw : Nat.ble (j + v.cells.toList.length) (GT.width α) = true := by kernel_rfl)
    (hc : GT.cells y q = (GT.cells (el xs k) (p.2 k)).take j ++ v.cells.toList ++ (GT.cells (el xs k) (p.2 k)).drop (j + v.cells.toList.length) := by kernel_rfl) : wpOp P ops Q i K' a w :=
  S.setEl hx hop hoff hk hs hpl (Nat.le_of_ble_eq_true hjw) hc hy (fun _ _ h => False.elim h) (fun _ h => False.elim h) (fun _ h => False.elim h) K
theorem St.sV {α : Type} [GT α] {xs : List α} {p : LP α} {F Fy : Bl} (S : St P n w0 M u N β σ a w) (hx : Ow w0 M u N F xs p) {i k off : Nat} {t : TypeId} {y : α} {q : GT.Ptr α} (hy : Ow w0 M u N Fy y q) (hd : Disj F Fy)
    (K : ∀ w' N' F' p2, St P n w0 M w' N' β σ a w' → (∀ b, N b → ¬ F b → N' b ∧ w'.heap[b]? = u.heap[b]?) →
      Ow w0 M w' N' F' (xs.set k y) (p.1, p2) → (∀ G : Bl, Disj G F → Disj G Fy → (∀ b, G b → N b) → Disj G F') → (∀ b, F' b → F b ∨ Fy b) → (∀ b, N b → N' b) → K' a w')
    (hop : storeAc ops i σ = some (t, pt p.1.b off, GT.val y q) := by kernel_rfl) (hoff : off = p.1.off + k * GT.width α + 0 := by kernel_rfl) (hk : k < xs.length := by omega) (hs : tsize P t = some (GT.val y q).cells.toList.length := by kernel_rfl) (hpl : (GT.val y q).cells.toList.all (·.oneCell') = true := by kernel_rfl) (hjw : Nat.ble (0 + (GT.val y q).cells.toList.length) (GT.width α) = true := by kernel_rfl)
    (hc : GT.cells y q = (GT.cells (el xs k) (p.2 k)).take 0 ++ (GT.val y q).cells.toList ++ (GT.cells (el xs k) (p.2 k)).drop (0 + (GT.val y q).cells.toList.length) := by kernel_rfl) : wpOp P ops Q i K' a w :=
  S.setEl hx hop hoff hk hs hpl (Nat.le_of_ble_eq_true hjw) hc (fun _ _ _ => ⟨Fy, hy.own, fun _ h => .inr h⟩) hd hy.sub hy.young K
end
end Go.Proofs.YtlpaefknpmdaoaaGreat
namespace Go.Proofs.YtlpaefknpmdaoaaGreat
open Go
section
variable {P : Program} {n : Nat} {w0 : World} {M : Bl} {u : World} {N : Bl} {β : Nat → Nat} {σ σ' : Sy} {a : Act} {w : World} {ops : Array Oper} {Q : Exit → Act → World → Prop} {K' : Act → World → Prop}
def rowOf (s : Nat) : Nat → List (Nat × Value) → Option (List Value)
  | _, [] => some []
  | k, (i, v) :: r => bif Nat.beq i k && Nat.beq v.cells.toList.length s then (rowOf s (k + 1) r).map fun l => v.cells.toList ++ l else none
theorem fold_set (off : Nat) : ∀ (l : List Value) (j : Nat) (pre x suf : List Value), pre.length = off + j → x.length = l.length →
    (l.zipIdx j).foldl (fun (cs : Array Value) (c : Value × Nat) => cs.setIfInBounds (off + c.2) c.1) (pre ++ x ++ suf).toArray = (pre ++ l ++ suf).toArray
  | [], j, pre, x, suf, h1, h2 => by
    have : x = [] := List.length_eq_zero_iff.1 (by simpa using h2)
    subst this; simp
  | v :: l, j, pre, x, suf, h1, h2 => by
    match x, h2 with
    | y :: x', h2 =>
      simp only [List.zipIdx_cons, List.foldl_cons]
      have e : ((pre ++ y :: x' ++ suf).toArray.setIfInBounds (off + j) v) = ((pre ++ [v]) ++ x' ++ suf).toArray := by
        simp only [List.setIfInBounds_toArray]
        congr 1
        rw [List.append_assoc, List.set_append_right _ _ (by omega), h1]
        simp
      rw [e, fold_set off l (j + 1) (pre ++ [v]) x' suf (by simp; omega) (by simpa using h2)]
      simp
theorem fill_row (s : Nat) : ∀ (l : List (Nat × Value)) (k : Nat) (row pre rest : List Value), rowOf s k l = some row → pre.length = k * s → rest.length = l.length * s →
    Instr.fill (fun i => some (i * s, s)) (pre ++ rest).toArray l = some (pre ++ row).toArray
  | [], k, row, pre, rest, h, h1, h2 => by
    simp only [rowOf, Option.some.injEq] at h
    subst h
    have : rest = [] := List.length_eq_zero_iff.1 (by simpa using h2)
    subst this
    simp [Instr.fill]
  | (i, v) :: r, k, row, pre, rest, h, h1, h2 => by
    simp only [rowOf] at h
    cases hb : (Nat.beq i k && Nat.beq v.cells.toList.length s) with
    | false => rw [hb] at h; cases h
    | true =>
      rw [hb] at h
      simp only [Bool.and_eq_true] at hb
      have e1 : i = k := Nat.eq_of_beq_eq_true hb.1
      have e2 : v.cells.toList.length = s := Nat.eq_of_beq_eq_true hb.2
      subst e1
      simp only [cond_true] at h
      cases hr : rowOf s (i + 1) r with
      | none => rw [hr] at h; cases h
      | some row' =>
        rw [hr] at h
        simp only [Option.map_some, Option.some.injEq] at h
        subst h
        have hlen : rest.length = s + r.length * s := by rw [h2, List.length_cons, Nat.add_mul, Nat.one_mul, Nat.add_comm]
        have hs : v.cells.size = s := by simpa using e2
        unfold Instr.fill
        have c : (v.cells.size ≠ s || decide (i * s + v.cells.size > (pre ++ rest).toArray.size)) = false := by
          simp [hs, h1, hlen]
        simp only [c, Bool.false_eq_true, if_false]
        have hf : v.cells.zipIdx.foldl (fun (cs : Array Value) (x : Value × Nat) => cs.setIfInBounds (i * s + x.2) x.1) (pre ++ rest).toArray = (pre ++ v.cells.toList ++ rest.drop s).toArray := by
          rw [← Array.foldl_toList, Array.toList_zipIdx]
          have := fold_set (i * s) v.cells.toList 0 pre (rest.take s) (rest.drop s) (by omega) (by simp; omega)
          simpa using this
        have := fill_row s r (i + 1) row' (pre ++ v.cells.toList) (rest.drop s) hr (by simp [Nat.add_mul, h1] at e2 ⊢; omega) (by simp; omega)
        have e3 : (fun (cs : Array Value) (x : Value × Nat) => match x with | (c, j) => cs.setIfInBounds (i * s + j) c) = fun cs x => cs.setIfInBounds (i * s + x.2) x.1 := by
          funext cs x; rfl
        rw [e3, hf, this]
        simp
def bsAc (P : Program) (n : Nat) (ops : Array Oper) (i : Nat) (σ : Sy) : Option (List Value × Nat × Tmp) :=
  match ops.toList[i]? with
  | some o =>
    match guardv ops σ o, o.op, o.dst with
    | some true, .buildSlice t len parts, some d =>
      match P.underlying t with
      | some (.slice e) =>
        match P.info? e with
        | some info =>
          match info.zero, gather σ parts.toList with
          | some z, some l => bif Nat.blt d n && Nat.beq z.cells.toList.length info.size && Nat.beq l.length len && Nat.ble (len * info.size) 16777216 && Nat.blt 0 info.size then (rowOf info.size 0 l).map fun r => (r, len, d) else none
          | _, _ => none
        | none => none
      | _ => none
    | _, _, _ => none
  | none => none
theorem St.bs (S : St P n w0 M u N β σ a w) {i : Nat} {row : List Value} {m : Nat} {d : Tmp} (hop : bsAc P n ops i σ = some (row, m, d))
    (K : ∀ a' w' T, St P n w0 M w' (Or N (Iv w.heap.size w'.heap.size)) β ⟨(d, .v (slv m ⟨false, w.heap.size, 0, m, none⟩)) :: σ.env, σ.bx⟩ a' w' → (∀ b, N b → Or N (Iv w.heap.size w'.heap.size) b ∧ w'.heap[b]? = u.heap[b]?) →
      w'.heap[w.heap.size]? = some (.cells row.toArray T (0, 0)) → w'.heap.size = w.heap.size + 1 → K' a' w') : wpOp P ops Q i K' a w := by
  unfold bsAc at hop
  split at hop
  · rename_i o ho
    have ho' : ops[i]? = some o := by simpa using ho
    split at hop
    · rename_i t len parts d' hg hopq hd
      split at hop
      · rename_i e hu
        split at hop
        · rename_i info hinfo
          split at hop
          · rename_i z l hz hl
            cases hbb : (Nat.blt d' n && Nat.beq z.cells.toList.length info.size && Nat.beq l.length len && Nat.ble (len * info.size) 16777216 && Nat.blt 0 info.size) with
            | false => rw [hbb] at hop; cases hop
            | true =>
              rw [hbb] at hop
              simp only [cond_true] at hop
              simp only [Bool.and_eq_true] at hbb
              obtain ⟨⟨⟨⟨b1, b2⟩, b3⟩, b4⟩, b5⟩ := hbb
              have e2 : z.cells.toList.length = info.size := Nat.eq_of_beq_eq_true b2
              have e3 : l.length = len := Nat.eq_of_beq_eq_true b3
              have e4 : len * info.size ≤ 16777216 := Nat.le_of_ble_eq_true b4
              have e5 : 0 < info.size := Nat.le_of_ble_eq_true b5
              cases hr : rowOf info.size 0 l with
              | none => rw [hr] at hop; cases hop
              | some row' =>
                rw [hr] at hop
                simp only [Option.map_some, Option.some.injEq, Prod.mk.injEq] at hop
                obtain ⟨rfl, rfl, rfl⟩ := hop
                refine OP.step ho' (guard_ok S hg) ?_
                have hparts : (parts.map fun (i, x) => (i, a.eval x)) = l.toArray := by
                  rw [← Array.toList_inj]
                  simpa using gather_ok S _ _ hl
                have hzero : (zeroValue e).run P w = .ok z w := by simp [zeroValue, typeInfo, hinfo, hz]
                have hfill : ∀ c0 : Array Value, c0.size = len * info.size → Instr.fill (fun i => some (i * info.size, info.size)) c0 l = some row'.toArray := fun c0 hc => by
                  have := fill_row info.size l 0 row' [] c0.toList hr (by simp) (by rw [e3]; simpa using hc)
                  simpa using this
                have hex : (execOp a.eval o).run P w = .ok (.value (.slice (some ⟨w.heap.size, 0, none⟩) len len)) { w with heap := w.heap.push (.cells row'.toArray e) } := by
                  unfold execOp
                  simp only [hopq]
                  show (do pure (.value (← Instr.buildSlice t len (parts.map fun (i, x) => (i, a.eval x)))) : Sem Next).run P w = _
                  rw [hparts]
                  unfold Instr.buildSlice
                  have hn : ¬ (len * info.size > 2 ^ 24) := by omega
                  simp only [Sem.run_bind, run_underlying hu, Result.andThen_ok, sizeOf, typeInfo, run_program, hinfo, Sem.run_pure]
                  simp only [hn, if_false]
                  by_cases h0 : len * info.size = 0
                  · simp only [h0, if_true, Sem.run_bind, Sem.run_pure, Result.andThen_ok]
                    rw [hfill _ (by simp [h0])]
                    simp [newRow]
                  · simp only [h0, if_false, Sem.run_bind, hzero, Sem.run_pure, Result.andThen_ok]
                    rw [hfill _ (by simp)]
                    simp [newRow]
                unfold Oper.wp
                rw [hex]
                simp only [Oper.upon, hd]
                have hch : Chg NoB w { w with heap := w.heap.push (.cells row'.toArray e) } := Chg.push NoB w _
                exact K _ _ e (S.after b1 hch) (S.up hch) (by simp) (by simp)
          · cases hop
        · cases hop
      · cases hop
    · cases hop
  · cases hop
theorem St.bs0 {α : Type} [GT α] (S : St P n w0 M u N β σ a w) {i : Nat} {d : Tmp} (hop : bsAc P n ops i σ = some ([], 0, d))
    (K : ∀ a' w' N' q F, St P n w0 M w' N' β ⟨(d, .v (slv 0 q.1)) :: σ.env, σ.bx⟩ a' w' → (∀ b, N b → N' b ∧ w'.heap[b]? = u.heap[b]?) →
      Ow w0 M w' N' F ([] : List α) q → Disj N F → K' a' w') : wpOp P ops Q i K' a w := by
  refine S.bs hop fun a' w' T S' up hrow hsz => K a' w' _ (⟨false, w.heap.size, 0, 0, none⟩, fun _ => GT.pdflt) (Iv w.heap.size w'.heap.size) S' up ⟨?_, fun _ h => .inr h, fun _ h => .inl (Nat.le_trans S.chg.size h.1)⟩ (Disj.fresh S w' fun _ h => h)
  exact ⟨Nat.zero_le _, Nat.zero_le _, Nat.zero_le _, fun h => (by cases h), fun _ => ⟨⟨Nat.le_refl _, (by show w.heap.size < w'.heap.size; omega)⟩, _, T, hrow, by simp⟩, fun i hi => absurd hi (Nat.not_lt_zero _), fun _ => NoB, fun i hi => absurd hi (Nat.not_lt_zero _), fun i hi => absurd hi (Nat.not_lt_zero _), fun i _ hi => absurd hi (Nat.not_lt_zero _)⟩
theorem St.bs1 {α : Type} [GT α] {x : α} {p : GT.Ptr α} {F : Bl} (S : St P n w0 M u N β σ a w) (hx : GT.own KK F u x p) (hN : ∀ b, F b → N b) (hY : ∀ b, F b → w0.heap.size ≤ b ∨ M b) {i : Nat} {d : Tmp} (hop : bsAc P n ops i σ = some (GT.cells x p, 1, d))
    (K : ∀ a' w' N' q F', St P n w0 M w' N' β ⟨(d, .v (slv 1 q.1)) :: σ.env, σ.bx⟩ a' w' → (∀ b, N b → N' b ∧ w'.heap[b]? = u.heap[b]?) →
      Ow w0 M w' N' F' [x] q → (∀ G : Bl, Disj G F → (∀ b, G b → N b) → Disj G F') → K' a' w') : wpOp P ops Q i K' a w := by
  refine S.bs hop fun a' w' T S' up hrow hsz => K a' w' _ (⟨false, w.heap.size, 0, 1, none⟩, fun _ => p) (Or F (Iv w.heap.size w'.heap.size)) S' up ⟨?_, fun b h => h.elim (fun h => .inl (hN b h)) .inr, fun b h => h.elim (hY b) (fun h => .inl (Nat.le_trans S.chg.size h.1))⟩
    (fun G g1 g2 b hb h => h.elim (g1 b hb) (Disj.fresh S w' (fun _ h => h) b (g2 b hb)))
  have hlt : ∀ b, F b → b < w.heap.size := fun b hb => (S.sep b (hN b hb)).1
  refine ⟨(show 1 ≤ KK by decide), Nat.le_refl _, (show 1 ≤ 9223372036854775807 by decide), fun h => (by cases h), fun _ => ⟨.inr ⟨Nat.le_refl _, (by show w.heap.size < w'.heap.size; omega)⟩, _, T, hrow, by simp [GT.len]⟩, fun i hi => ?_, fun _ => F, fun i hi => ?_, fun i hi b hb => ⟨.inl hb, fun e => by have := hlt b hb; simp only [] at e; omega⟩, fun i j hi hj hne => ?_⟩
  · simp at hi; subst hi
    intro j v hj
    have hj' : (GT.cells x p)[j]? = some v := hj
    simp only [World.cell?, hrow, Option.isSome_none, Bool.false_eq_true, if_false]
    simpa using hj'
  · simp at hi; subst hi
    exact GT.own_agree hx fun b hb _ => (up b (hN b hb)).2
  · simp at hi hj; omega
theorem growBy_le (m : Nat) : ∀ (r c : Nat), Builtin.growBy m r c ≤ 2 * m + 400 ∨ Builtin.growBy m r c ≤ c
  | 0, c => .inr (by simp [Builtin.growBy])
  | r + 1, c => by
    unfold Builtin.growBy
    split
    · exact .inr (Nat.le_refl _)
    · rename_i h
      rcases growBy_le m r (c + (c + 768) / 4) with h' | h'
      · exact .inl h'
      · exact .inl (by omega)
theorem nextcap_le (need cap : Nat) (h : cap < need) : Builtin.nextslicecap need cap ≤ 2 * need + 400 := by
  unfold Builtin.nextslicecap
  split
  · omega
  · split
    · omega
    · rcases growBy_le need 4 cap with h' | h' <;> omega
def appAc (P : Program) (n : Nat) (ops : Array Oper) (i : Nat) (σ : Sy) : Option (Value × Value × Nat × Nat × Tmp) :=
  match ops.toList[i]? with
  | some o =>
    match guardv ops σ o, o.op, o.dst with
    | some true, .call ⟨.builtin .append, args, ats⟩, some d =>
      match args.toList, ats.toList with
      | [x, y], [t1, t2] =>
        match P.underlying t1, P.underlying t2, σ.get x, σ.get y with
        | some (.slice e), some (.slice _), some (.v s), some (.v r) =>
          match P.info? e with
          | some info =>
            match info.zero with
            | some z => bif Nat.blt d n && Nat.beq z.cells.toList.length info.size && Nat.ble info.bytes 4096 && Nat.blt 0 info.bytes then some (s, r, info.size, info.bytes, d) else none
            | none => none
          | none => none
        | _, _, _, _ => none
      | _, _ => none
    | _, _, _ => none
  | none => none
def flatCells {α : Type} [GT α] (xs : List α) (p : Nat → GT.Ptr α) (m : Nat) : List Value := (List.range m).flatMap fun i => GT.cells (el xs i) (p i)
theorem flatCells_len {α : Type} [GT α] (xs : List α) (p : Nat → GT.Ptr α) (m : Nat) : (flatCells xs p m).length = m * GT.width α := by
  unfold flatCells
  induction m with
  | zero => simp
  | succ m ih => rw [List.range_succ, List.flatMap_append, List.length_append, ih]; simp [GT.len, Nat.add_mul]
theorem flatCells_get {α : Type} [GT α] (xs : List α) (p : Nat → GT.Ptr α) (m : Nat) : ∀ (i j : Nat), i < m → j < GT.width α → (flatCells xs p m)[i * GT.width α + j]? = (GT.cells (el xs i) (p i))[j]? := by
  induction m with
  | zero => intro i j h; omega
  | succ m ih =>
    intro i j hi hj
    have hs : flatCells xs p (m + 1) = flatCells xs p m ++ GT.cells (el xs m) (p m) := by
      unfold flatCells; rw [List.range_succ, List.flatMap_append]; simp
    rw [hs]
    have hl := flatCells_len xs p m
    by_cases h : i < m
    · have := Nat.mul_le_mul_right (GT.width α) (show i + 1 ≤ m from h)
      rw [Nat.add_mul, Nat.one_mul] at this
      rw [List.getElem?_append_left (by omega)]
      exact ih i j h hj
    · have : i = m := by omega
      subst this
      rw [List.getElem?_append_right (by omega), hl]
      congr 1
      omega
theorem flatCells_plain {α : Type} [GT α] (xs : List α) (p : Nat → GT.Ptr α) (m : Nat) : ∀ v ∈ flatCells xs p m, v.oneCell' = true := by
  intro v hv
  unfold flatCells at hv
  rw [List.mem_flatMap] at hv
  obtain ⟨i, _, h⟩ := hv
  exact GT.plain _ _ v h
theorem run_firstCells {α : Type} [GT α] {xs : List α} {p : LP α} {w : World} (hc : ∀ i, i < xs.length → CellsAt w p.1.b (p.1.off + i * GT.width α) (GT.cells (el xs i) (p.2 i))) (hn : p.1.nil = true → xs.length = 0) (s : Nat) (hs : s = GT.width α) :
    (Builtin.firstCells s xs.length (slv xs.length p.1)).run P w = .ok (flatCells xs p.2 xs.length).toArray w := by
  subst hs
  unfold slv SP.addr
  cases h : p.1.nil with
  | true =>
    have := hn h
    simp only [cond_true, Builtin.firstCells, this]
    cases p.1.ad <;> simp [flatCells, loadCells, loadCellsFrom]
  | false =>
    simp only [cond_false, Builtin.firstCells]
    have := run_loadCells_list (P := P) w ⟨p.1.b, p.1.off, none⟩ (flatCells xs p.2 xs.length) (fun k v hk => by
      have hkl : k < xs.length * GT.width α := by
        have := (List.getElem?_eq_some_iff.1 hk).1
        rwa [flatCells_len] at this
      have hdm := Nat.div_add_mod k (GT.width α)
      have hml := Nat.mod_lt k (GT.wpos (α := α))
      have hdl : k / GT.width α < xs.length := by
        rw [Nat.div_lt_iff_lt_mul GT.wpos]; exact hkl
      have e : k = k / GT.width α * GT.width α + k % GT.width α := by rw [Nat.mul_comm]; exact hdm.symm
      rw [e, flatCells_get xs p.2 xs.length _ _ hdl hml] at hk
      have := hc _ hdl _ _ hk
      rw [Addr.add_mid]
      rwa [Nat.add_assoc, ← e] at this)
    rw [flatCells_len] at this
    exact this
theorem run_append {α : Type} [GT α] {xs ys : List α} {p q : LP α} {t1 t2 e e2 ty : TypeId} {info : TypeInfo} {z : Value} {w : World} {cs : Array Value} {T : TypeId}
    (h1 : P.underlying t1 = some (.slice e)) (h2 : P.underlying t2 = some (.slice e2)) (hi : P.info? e = some info) (hz : info.zero = some z) (hzl : z.cells.toList.length = info.size) (hsz : info.size = GT.width α) (hby : info.bytes ≤ 4096) (hby0 : 0 < info.bytes)
    (hx : ∀ i, i < xs.length → CellsAt w p.1.b (p.1.off + i * GT.width α) (GT.cells (el xs i) (p.2 i))) (hxn : p.1.nil = true → p.1.cap = 0) (hxc : xs.length ≤ p.1.cap)
    (hrow : p.1.nil = false → w.heap[p.1.b]? = some (.cells cs T (0, 0)) ∧ p.1.off + p.1.cap * GT.width α ≤ cs.size)
    (hy : ∀ i, i < ys.length → CellsAt w q.1.b (q.1.off + i * GT.width α) (GT.cells (el ys i) (q.2 i))) (hyn : q.1.nil = true → ys.length = 0) (hl : xs.length + ys.length ≤ KK) :
    (p.1.nil = false ∧ xs.length + ys.length ≤ p.1.cap ∧ (Builtin.append_ #[t1, t2] ty #[slv xs.length p.1, slv ys.length q.1]).run P w = .ok (slv (xs.length + ys.length) p.1)
        (w.setRow p.1.b (cs.toList.take (p.1.off + xs.length * GT.width α) ++ flatCells ys q.2 ys.length ++ cs.toList.drop (p.1.off + xs.length * GT.width α + ys.length * GT.width α)).toArray)) ∨
    (xs.length + ys.length = 0 ∧ p.1.nil = true ∧ (Builtin.append_ #[t1, t2] ty #[slv xs.length p.1, slv ys.length q.1]).run P w = .ok (slv (xs.length + ys.length) p.1) w) ∨
    ∃ (cap : Nat) (dr : Nat) (zs : List Value), xs.length + ys.length ≤ cap ∧ cap ≤ 9223372036854775807 ∧ zs.length = (cap - (xs.length + ys.length)) * GT.width α ∧ (Builtin.append_ #[t1, t2] ty #[slv xs.length p.1, slv ys.length q.1]).run P w =
      .ok (slv (xs.length + ys.length) ⟨false, w.heap.size, 0, cap, none⟩) { w with heap := w.heap.push (.cells (flatCells xs p.2 xs.length ++ flatCells ys q.2 ys.length ++ zs).toArray e), drawn := dr } := by
  have hxnl : p.1.nil = true → xs.length = 0 := fun h => by have := hxn h; omega
  have fx := run_firstCells (P := P) hx hxnl info.size hsz
  have fy := run_firstCells (P := P) hy hyn info.size hsz
  rw [hsz] at fx fy
  have hnint : ∀ k, TypeDesc.slice e2 ≠ .int k := fun k h => by cases h
  have hmatch : (match (TypeDesc.slice e2 : TypeDesc) with | .int _ => true | _ => false) = false := rfl
  unfold KK at hl
  by_cases hfit : xs.length + ys.length ≤ p.1.cap
  · cases hnil : p.1.nil with
    | true =>
      have hc0 := hxn hnil
      right; left
      refine ⟨by omega, rfl, ?_⟩
      have ea : p.1.addr = p.1.ad := by unfold SP.addr; rw [hnil]; rfl
      have e0 : ys.length = 0 := by omega
      rw [e0] at fy
      simp only [flatCells, List.range_zero, List.flatMap_nil] at fy
      rw [e0]
      have e1 : xs.length + 0 ≤ p.1.cap := by omega
      simp only [slv, ea] at fy ⊢
      cases hadd : p.1.ad <;> simp only [Builtin.append_, List.getElem?_toArray, List.getElem?_cons_zero, List.getElem?_cons_succ, Sem.run_bind, run_underlying h1, run_underlying h2, Result.andThen_ok, sizeOf, typeInfo, run_program, hi, Sem.run_pure, Bool.false_eq_true, if_false, Builtin.lenOf, e1, if_true, Bool.not_false, hsz, fy]
      rfl
    | false =>
      left
      obtain ⟨hr, hrs⟩ := hrow hnil
      refine ⟨rfl, hfit, ?_⟩
      have ea : p.1.addr = some ⟨p.1.b, p.1.off, none⟩ := by unfold SP.addr; rw [hnil]; rfl
      have hmul : (xs.length + ys.length) * GT.width α ≤ p.1.cap * GT.width α := Nat.mul_le_mul_right _ hfit
      rw [Nat.add_mul] at hmul
      have hst := run_storeCells_at (P := P) p.1.b (p.1.off + xs.length * GT.width α) T (flatCells ys q.2 ys.length) 0 cs w hr (by rw [flatCells_len]; simp only [Nat.add_zero]; omega) (flatCells_plain _ _ _)
      simp only [Nat.add_zero] at hst
      simp only [slv, ea] at fy ⊢
      simp only [Builtin.append_, List.getElem?_toArray, List.getElem?_cons_zero, List.getElem?_cons_succ, Sem.run_bind, run_underlying h1, run_underlying h2, Result.andThen_ok, sizeOf, typeInfo, run_program, hi, Sem.run_pure, Bool.false_eq_true, if_false, Builtin.lenOf, hfit, if_true, Bool.not_false, fy, Addr.add_mid, hsz]
      rw [hst, flatCells_len]
      rfl
  · right; right
    have hnc := nextcap_le (xs.length + ys.length) p.1.cap (by omega)
    have hb : Builtin.nextslicecap (xs.length + ys.length) p.1.cap * info.bytes ≤ (2 * 4194304 + 400) * 4096 := Nat.mul_le_mul (by omega) hby
    have g1 : ¬ (((xs.length + ys.length : Nat) : Int) > IntKind.i64.max ∧ (False ∨ info.bytes = 0)) := fun h => by
      rcases h.2 with h | h
      · exact h
      · omega
    have g2 : ¬ (Builtin.nextslicecap (xs.length + ys.length) p.1.cap * info.bytes > 2 ^ 48) := by omega
    have hq : (Question.appendCap (xs.length + ys.length) p.1.cap e).forced = false := rfl
    let cap := (Question.appendCap (xs.length + ys.length) p.1.cap e).cut (w.tape w.drawn (.appendCap (xs.length + ys.length) p.1.cap e))
    have hcap : cap = (xs.length + ys.length) + w.tape w.drawn (.appendCap (xs.length + ys.length) p.1.cap e) % (2 ^ 63 - (xs.length + ys.length)) := rfl
    have hml : w.tape w.drawn (.appendCap (xs.length + ys.length) p.1.cap e) % (2 ^ 63 - (xs.length + ys.length)) < 2 ^ 63 - (xs.length + ys.length) := Nat.mod_lt _ (by omega)
    have hzero : (zeroValue e).run P { w with drawn := w.drawn + 1 } = .ok z { w with drawn := w.drawn + 1 } := by simp [zeroValue, typeInfo, hi, hz]
    have fx' := run_firstCells (P := P) (w := { w with drawn := w.drawn + 1 }) (xs := xs) (p := p) hx hxnl info.size hsz
    have fy' := run_firstCells (P := P) (w := { w with drawn := w.drawn + 1 }) (xs := ys) (p := q) hy hyn info.size hsz
    rw [hsz] at fx' fy'
    have hroom : ∀ (k : Nat) (w : World), (askRoom k).run P w = .ok () w := fun k w => by unfold askRoom; split <;> rfl
    refine ⟨cap, w.drawn + 1, (Builtin.zeroCells z.cells (cap - (xs.length + ys.length))).toList, by omega, by omega, ?_, ?_⟩
    · unfold Builtin.zeroCells
      have : z.cells.size = GT.width α := by rw [← hsz, ← hzl]; simp
      simp [this]
    · have hch : (choose (.appendCap (xs.length + ys.length) p.1.cap e)).run P w = .ok cap { w with drawn := w.drawn + 1 } := rfl
      simp only [slv] at fx' fy' ⊢
      simp only [Builtin.append_, List.getElem?_toArray, List.getElem?_cons_zero, List.getElem?_cons_succ, Sem.run_bind, run_underlying h1, run_underlying h2, Result.andThen_ok, sizeOf, typeInfo, run_program, hi, Sem.run_pure, Bool.false_eq_true, if_false, Builtin.lenOf, hfit, Bool.not_false, if_true, g1, g2, hch, hroom, hsz, fx', fy', hzero, newRow, run_newObj]
      have earr : (flatCells xs p.2 xs.length).toArray ++ (flatCells ys q.2 ys.length).toArray ++ Builtin.zeroCells z.cells (cap - (xs.length + ys.length)) = (flatCells xs p.2 xs.length ++ flatCells ys q.2 ys.length ++ (Builtin.zeroCells z.cells (cap - (xs.length + ys.length))).toList).toArray := by
        apply Array.ext'
        simp
      rw [earr]
      rfl
theorem St.append {α : Type} [GT α] {xs ys : List α} {p q : LP α} {F Fy : Bl} (S : St P n w0 M u N β σ a w) (hx : Ow w0 M u N F xs p) (hyr : Rn u N ys q)
    (hye : ∃ G : Nat → Bl, (∀ i, i < ys.length → GT.own KK (G i) u (el ys i) (q.2 i)) ∧ (∀ i, i < ys.length → ∀ b, G i b → Fy b) ∧ (∀ i j, i < ys.length → j < ys.length → i ≠ j → Disj (G i) (G j)))
    (hd : Disj F Fy) (hyN : ∀ b, Fy b → N b) (hyY : ∀ b, Fy b → w0.heap.size ≤ b ∨ M b) {i : Nat} {by' : Nat} {d : Tmp} (hop : appAc P n ops i σ = some (slv xs.length p.1, slv ys.length q.1, GT.width α, by', d)) (hl : xs.length + ys.length ≤ KK)
    (K : ∀ a' w' N' r F', St P n w0 M w' N' β ⟨(d, .v (slv (xs.length + ys.length) r.1)) :: σ.env, σ.bx⟩ a' w' → (∀ b, N b → ¬ F b → N' b ∧ w'.heap[b]? = u.heap[b]?) →
      Ow w0 M w' N' F' (xs ++ ys) r → (∀ G : Bl, Disj G F → Disj G Fy → (∀ b, G b → N b) → Disj G F') → ((∀ b, N b → N' b) ∧ (∀ i, i < xs.length → r.2 i = p.2 i) ∧ (r.1 = p.1 ∨ ∀ b, N b → w'.heap[b]? = u.heap[b]?)) → K' a' w') : wpOp P ops Q i K' a w := by
  unfold appAc at hop
  split at hop
  · rename_i o ho
    have ho' : ops[i]? = some o := by simpa using ho
    split at hop
    · rename_i args ats d' hg hopq hdst
      split at hop
      · rename_i x y t1 t2 ha ht
        split at hop
        · rename_i e e2 s r hu1 hu2 hsx hsy
          split at hop
          · rename_i info hinfo
            split at hop
            · rename_i z hz
              cases hbb : (Nat.blt d' n && Nat.beq z.cells.toList.length info.size && Nat.ble info.bytes 4096 && Nat.blt 0 info.bytes) with
              | false => rw [hbb] at hop; cases hop
              | true =>
                rw [hbb] at hop
                simp only [cond_true, Option.some.injEq, Prod.mk.injEq] at hop
                obtain ⟨rfl, rfl, hsz, _, rfl⟩ := hop
                simp only [Bool.and_eq_true] at hbb
                obtain ⟨⟨⟨b1, b2⟩, b3⟩, b4⟩ := hbb
                have e1 : args = #[x, y] := by rw [← Array.toList_inj]; exact ha
                have e2' : ats = #[t1, t2] := by rw [← Array.toList_inj]; exact ht
                subst e1 e2'
                have hox : LOwn KK F u xs p := hx.own
                have hyr' : LRd KK N u ys q := hyr
                obtain ⟨G, g1, g2, g3⟩ := hox.el
                obtain ⟨Gy, gy1, gy2, gy3⟩ := hye
                have hsep : ∀ b, N b → w.heap[b]? = u.heap[b]? := fun b hb => (S.sep b hb).2.1
                have hxc : ∀ i, i < xs.length → CellsAt w p.1.b (p.1.off + i * GT.width α) (GT.cells (el xs i) (p.2 i)) := fun i hi => by
                  have hnn := hox.nonil (by have := hox.cap; omega)
                  exact (hox.cell i hi).agree (hsep _ (hx.sub _ (hox.row hnn).1))
                have hyc : ∀ i, i < ys.length → CellsAt w q.1.b (q.1.off + i * GT.width α) (GT.cells (el ys i) (q.2 i)) := fun i hi =>
                  (hyr'.cell i hi).agree (hsep _ (hyr'.at_ (by omega)).2)
                have hyn : q.1.nil = true → ys.length = 0 := fun h => by
                  rcases Nat.eq_zero_or_pos ys.length with h0 | h0
                  · exact h0
                  · have := (hyr'.at_ h0).1; rw [h] at this; cases this
                obtain ⟨cs, T, hcs⟩ : ∃ (cs : Array Value) (T : TypeId), p.1.nil = false → w.heap[p.1.b]? = some (.cells cs T (0, 0)) ∧ p.1.off + p.1.cap * GT.width α ≤ cs.size := by
                  cases hn : p.1.nil with
                  | true => exact ⟨#[], 0, fun h => by cases h⟩
                  | false =>
                    obtain ⟨hF, cs, T, h1, h2⟩ := hox.row hn
                    exact ⟨cs, T, fun _ => ⟨(hsep _ (hx.sub _ hF)).trans h1, h2⟩⟩
                have hrun := run_append (P := P) (ty := o.type) hu1 hu2 hinfo hz (Nat.eq_of_beq_eq_true b2) hsz (Nat.le_of_ble_eq_true b3) (Nat.le_of_ble_eq_true b4) hxc hox.null hox.cap hcs hyc hyn hl
                have step : ∀ (v : Value) (w' : World), (Builtin.append_ #[t1, t2] o.type #[slv xs.length p.1, slv ys.length q.1]).run P w = .ok v w' → K' (a.put (some d') v) w' → wpOp P ops Q i K' a w := fun v w' hr hk => by
                  refine OP.step ho' (guard_ok S hg) ?_
                  have hex : (execOp a.eval o).run P w = .ok (.value v) w' := by
                    unfold execOp
                    simp only [hopq]
                    simp only [resolve, List.map_toArray, List.map_cons, List.map_nil, S.get hsx, S.get hsy]
                    show (do let v ← Builtin.append_ #[t1, t2] o.type #[slv xs.length p.1, slv ys.length q.1]; pure (Next.value v) : Sem Next).run P w = _
                    rw [Sem.run_bind, hr]
                    rfl
                  unfold Oper.wp
                  rw [hex]
                  simp only [Oper.upon, hdst]
                  exact hk
                have elapp : ∀ i, el (xs ++ ys) i = if i < xs.length then el xs i else el ys (i - xs.length) := fun i => by
                  unfold el
                  simp only [List.getD_eq_getElem?_getD, List.getElem?_append]
                  split <;> rfl
                let rp : Nat → GT.Ptr α := fun i => if i < xs.length then p.2 i else q.2 (i - xs.length)
                have hrp : ∀ i, i < xs.length → rp i = p.2 i := fun i hi => if_pos hi
                let GG : Nat → Bl := fun i => if i < xs.length then G i else Gy (i - xs.length)
                -- the elements' own blocks, in any world that leaves them as they were
                have hels : ∀ (w' : World) (b0 : Nat), (∀ b, N b → b ≠ p.1.b ∨ ¬ F b → w'.heap[b]? = u.heap[b]?) → (∀ i, i < xs.length → ∀ b, G i b → b ≠ b0) → (∀ i, i < ys.length → ∀ b, Gy i b → b ≠ b0) →
                    ∃ GG : Nat → Bl, (∀ i, i < (xs ++ ys).length → GT.own KK (GG i) w' (el (xs ++ ys) i) (rp i)) ∧ (∀ i, i < (xs ++ ys).length → ∀ b, GG i b → Or F (Or Fy (Iv w.heap.size w'.heap.size)) b ∧ b ≠ b0) ∧ (∀ i j, i < (xs ++ ys).length → j < (xs ++ ys).length → i ≠ j → Disj (GG i) (GG j)) := fun w' b0 hw' hne hney => by
                  refine ⟨GG, fun i hi => ?_, fun i hi b hb => ?_, fun i j hi hj hij => ?_⟩
                  · rw [List.length_append] at hi
                    rw [elapp]
                    by_cases h : i < xs.length
                    · simp only [GG, rp, h, if_true]
                      exact GT.own_agree (g1 i h) fun b hb _ => hw' b (hx.sub b (g2 i h b hb).1) (.inl (g2 i h b hb).2)
                    · simp only [GG, rp, h, if_false]
                      have hi' : i - xs.length < ys.length := by omega
                      exact GT.own_agree (gy1 _ hi') fun b hb _ => hw' b (hyN b (gy2 _ hi' b hb)) (.inr fun hF => hd b hF (gy2 _ hi' b hb))
                  · rw [List.length_append] at hi
                    by_cases h : i < xs.length
                    · simp only [GG, h, if_true] at hb
                      exact ⟨.inl (g2 i h b hb).1, hne i h b hb⟩
                    · simp only [GG, h, if_false] at hb
                      have hi' : i - xs.length < ys.length := by omega
                      exact ⟨.inr (.inl (gy2 _ hi' b hb)), hney _ hi' b hb⟩
                  · rw [List.length_append] at hi hj
                    intro b hb hb'
                    by_cases h : i < xs.length <;> by_cases h' : j < xs.length
                    · simp only [GG, h, h', if_true] at hb hb'
                      exact g3 i j h h' hij b hb hb'
                    · simp only [GG, h, h', if_true, if_false] at hb hb'
                      exact hd b (g2 i h b hb).1 (gy2 _ (by omega) b hb')
                    · simp only [GG, h, h', if_true, if_false] at hb hb'
                      exact hd b (g2 j h' b hb').1 (gy2 _ (by omega) b hb)
                    · simp only [GG, h, h', if_false] at hb hb'
                      exact gy3 _ _ (by omega) (by omega) (by omega) b hb hb'
                have hfr : ∀ w' : World, ∀ b, Or F (Or Fy (Iv w.heap.size w'.heap.size)) b → Or N (Iv w.heap.size w'.heap.size) b := fun w' b h => by
                  rcases h with h | h | h
                  · exact .inl (hx.sub b h)
                  · exact .inl (hyN b h)
                  · exact .inr h
                have hyo : ∀ w' : World, ∀ b, Or F (Or Fy (Iv w.heap.size w'.heap.size)) b → w0.heap.size ≤ b ∨ M b := fun w' b h => by
                  rcases h with h | h | h
                  · exact hx.young b h
                  · exact hyY b h
                  · exact .inl (Nat.le_trans S.chg.size h.1)
                have hdis : ∀ (w' : World) (G : Bl), Disj G F → Disj G Fy → (∀ b, G b → N b) → Disj G (Or F (Or Fy (Iv w.heap.size w'.heap.size))) := fun w' G d1 d2 hs b hb h => by
                  rcases h with h | h | h
                  · exact d1 b hb h
                  · exact d2 b hb h
                  · have := (S.sep b (hs b hb)).1
                    have := h.1
                    omega
                have hput : ∀ (w' : World) (N' : Bl) (v : Value), St P n w0 M w' N' β σ a w' → St P n w0 M w' N' β ⟨(d', .v v) :: σ.env, σ.bx⟩ (a.put (some d') v) w' := fun w' N' v S' =>
                  S'.put (look_put b1) (fun _ _ e => by cases e)
                rcases hrun with ⟨hnil, hfit, hr⟩ | ⟨h0, hnil, hr⟩ | ⟨cap, dr, zs, hc1, hc2, hzs, hr⟩
                · -- in place
                  obtain ⟨hrow, hrsz⟩ := hcs hnil
                  have hFb := (hox.row hnil).1
                  refine step _ _ hr ?_
                  have hoth : ∀ b, b ≠ p.1.b → (w.setRow p.1.b (cs.toList.take (p.1.off + xs.length * GT.width α) ++ flatCells ys q.2 ys.length ++ cs.toList.drop (p.1.off + xs.length * GT.width α + ys.length * GT.width α)).toArray).heap[b]? = w.heap[b]? := fun b hb => by
                    simp only [World.setRow, Array.getElem?_modify]
                    rw [if_neg (fun e => hb e.symm)]
                  have hwsz : (w.setRow p.1.b (cs.toList.take (p.1.off + xs.length * GT.width α) ++ flatCells ys q.2 ys.length ++ cs.toList.drop (p.1.off + xs.length * GT.width α + ys.length * GT.width α)).toArray).heap.size = w.heap.size := by simp [World.setRow]
                  have hnew := setRow_heap w p.1.b cs (cs.toList.take (p.1.off + xs.length * GT.width α) ++ flatCells ys q.2 ys.length ++ cs.toList.drop (p.1.off + xs.length * GT.width α + ys.length * GT.width α)).toArray T (0, 0) hrow
                  have hmul : (xs.length + ys.length) * GT.width α ≤ p.1.cap * GT.width α := Nat.mul_le_mul_right _ hfit
                  rw [Nat.add_mul] at hmul
                  have hlen := flatCells_len ys q.2 ys.length
                  have hcell : ∀ pos, (w.setRow p.1.b (cs.toList.take (p.1.off + xs.length * GT.width α) ++ flatCells ys q.2 ys.length ++ cs.toList.drop (p.1.off + xs.length * GT.width α + ys.length * GT.width α)).toArray).cell? ⟨p.1.b, pos, none⟩ =
                      if pos < p.1.off + xs.length * GT.width α then cs[pos]? else if pos < p.1.off + xs.length * GT.width α + ys.length * GT.width α then (flatCells ys q.2 ys.length)[pos - (p.1.off + xs.length * GT.width α)]? else cs[pos]? := fun pos => by
                    simp only [World.cell?, hnew, Option.isSome_none, Bool.false_eq_true, if_false]
                    have := splice_get cs.toList (flatCells ys q.2 ys.length) (p.1.off + xs.length * GT.width α) pos (by rw [hlen]; simp; omega)
                    rw [hlen] at this
                    simpa using this
                  generalize hw' : w.setRow p.1.b (cs.toList.take (p.1.off + xs.length * GT.width α) ++ flatCells ys q.2 ys.length ++ cs.toList.drop (p.1.off + xs.length * GT.width α + ys.length * GT.width α)).toArray = w' at *
                  have hch : Chg F w w' := by
                    subst hw'
                    exact ⟨rfl, rfl, rfl, by rw [hwsz]; exact Nat.le_refl _, fun b _ hn => hoth b (fun e => hn (e ▸ hFb))⟩
                  have hwu : ∀ b, N b → b ≠ p.1.b ∨ ¬ F b → w'.heap[b]? = u.heap[b]? := fun b hb hne => (hoth b (hne.elim id (fun h e => h (e ▸ hFb)))).trans (hsep b hb)
                  obtain ⟨GG', e1, e2, e3⟩ := hels w' p.1.b hwu (fun i hi b hb => (g2 i hi b hb).2) (fun i hi b hb e => hd _ (e ▸ hFb) (gy2 i hi b hb))
                  refine K _ w' _ (p.1, rp) (Or F (Or Fy (Iv w.heap.size w'.heap.size))) (hput w' _ _ (S.afterF hch hx.sub hx.young)) (S.upF hch) ⟨?_, hfr w', hyo w'⟩ (hdis w') ⟨fun _ => .inl, hrp, .inl rfl⟩
                  refine ⟨by rw [List.length_append]; exact hl, by rw [List.length_append]; exact hfit, hox.capm, hox.null, fun _ => ⟨.inl hFb, _, T, hnew, ?_⟩, fun i hi => ?_, GG', e1, e2, e3⟩
                  · have : (cs.toList.take (p.1.off + xs.length * GT.width α) ++ flatCells ys q.2 ys.length ++ cs.toList.drop (p.1.off + xs.length * GT.width α + ys.length * GT.width α)).toArray.size = cs.size := by simp [hlen]; omega
                    rw [this]; exact hrsz
                  · rw [List.length_append] at hi
                    rw [elapp]
                    intro j v hv
                    have hjl : j < GT.width α := by
                      have := (List.getElem?_eq_some_iff.1 hv).1
                      rwa [GT.len] at this
                    rw [hcell]
                    by_cases h : i < xs.length
                    · simp only [h, if_true, rp] at hv
                      have := Nat.mul_le_mul_right (GT.width α) (show i + 1 ≤ xs.length from h)
                      rw [Nat.add_mul, Nat.one_mul] at this
                      simp only []
                      rw [if_pos (by omega)]
                      have := hxc i h j v hv
                      simpa [World.cell?, hrow] using this
                    · simp only [h, if_false, rp] at hv
                      have hi' : i - xs.length < ys.length := by omega
                      have h1 := Nat.mul_le_mul_right (GT.width α) (show i - xs.length + 1 ≤ ys.length from hi')
                      rw [Nat.add_mul, Nat.one_mul] at h1
                      have h2 : i * GT.width α = xs.length * GT.width α + (i - xs.length) * GT.width α := by
                        rw [← Nat.add_mul]; congr 1; omega
                      simp only []
                      rw [if_neg (by omega), if_pos (by omega)]
                      have := flatCells_get ys q.2 ys.length (i - xs.length) j hi' hjl
                      rw [← hv, ← this]
                      congr 1
                      omega
                · -- nothing at all
                  refine step _ _ hr ?_
                  have hch : Chg F w w := Chg.refl _ _
                  have ex : xs.length = 0 := by omega
                  have ey : ys.length = 0 := by omega
                  refine K _ w _ (p.1, rp) (Or F (Or Fy (Iv w.heap.size w.heap.size))) (hput w _ _ (S.afterF hch hx.sub hx.young)) (S.upF hch) ⟨?_, hfr w, hyo w⟩ (hdis w) ⟨fun _ => .inl, hrp, .inl rfl⟩
                  have hlen : (xs ++ ys).length = 0 := by rw [List.length_append]; exact h0
                  exact ⟨by rw [hlen]; exact Nat.zero_le _, by rw [hlen]; exact Nat.zero_le _, hox.capm, hox.null, fun h => (by rw [hnil] at h; cases h), fun i hi => (by omega), fun _ => NoB, fun i hi => (by omega), fun i hi => (by omega), fun i j hi => (by omega)⟩
                · -- a new block
                  refine step _ _ hr ?_
                  have hch0 : Chg NoB w { w with heap := w.heap.push (.cells (flatCells xs p.2 xs.length ++ flatCells ys q.2 ys.length ++ zs).toArray e), drawn := dr } :=
                    ⟨rfl, rfl, rfl, by simp, fun k hk _ => by simp [Array.getElem?_push, Nat.ne_of_lt hk]⟩
                  have hnew : ({ w with heap := w.heap.push (.cells (flatCells xs p.2 xs.length ++ flatCells ys q.2 ys.length ++ zs).toArray e), drawn := dr } : World).heap[w.heap.size]? = some (.cells (flatCells xs p.2 xs.length ++ flatCells ys q.2 ys.length ++ zs).toArray e) := by simp
                  have hwsz : ({ w with heap := w.heap.push (.cells (flatCells xs p.2 xs.length ++ flatCells ys q.2 ys.length ++ zs).toArray e), drawn := dr } : World).heap.size = w.heap.size + 1 := by simp
                  generalize hw' : ({ w with heap := w.heap.push (.cells (flatCells xs p.2 xs.length ++ flatCells ys q.2 ys.length ++ zs).toArray e), drawn := dr } : World) = w' at *
                  have hch : Chg F w w' := hch0.mono fun _ f => f.elim
                  have hall : ∀ b, N b → w'.heap[b]? = u.heap[b]? := fun b hb => (hch0.block b (S.sep b hb).1 (fun f => f)).trans (hsep b hb)
                  have hwu : ∀ b, N b → b ≠ p.1.b ∨ ¬ F b → w'.heap[b]? = u.heap[b]? := fun b hb _ => hall b hb
                  have hltN : ∀ b, N b → b ≠ w.heap.size := fun b hb => Nat.ne_of_lt (S.sep b hb).1
                  obtain ⟨GG', e1, e2, e3⟩ := hels w' w.heap.size hwu (fun i hi b hb => hltN b (hx.sub b (g2 i hi b hb).1)) (fun i hi b hb => hltN b (hyN b (gy2 i hi b hb)))
                  refine K _ w' _ (⟨false, w.heap.size, 0, cap, none⟩, rp) (Or F (Or Fy (Iv w.heap.size w'.heap.size))) (hput w' _ _ (S.afterF hch hx.sub hx.young)) (S.upF hch) ⟨?_, hfr w', hyo w'⟩ (hdis w') ⟨fun _ => .inl, hrp, .inr hall⟩
                  have hlx := flatCells_len xs p.2 xs.length
                  have hly := flatCells_len ys q.2 ys.length
                  refine ⟨by rw [List.length_append]; exact hl, by rw [List.length_append]; exact hc1, hc2, fun h => (by cases h), fun _ => ⟨.inr (.inr ⟨Nat.le_refl _, by show w.heap.size < w'.heap.size; omega⟩), _, e, hnew, ?_⟩, fun i hi => ?_, GG', e1, e2, e3⟩
                  · simp only [List.size_toArray, List.length_append, hlx, hly, hzs, Nat.zero_add]
                    rw [← Nat.add_mul, ← Nat.add_mul]
                    exact Nat.mul_le_mul_right _ (by omega)
                  · rw [List.length_append] at hi
                    rw [elapp]
                    intro j v hv
                    have hjl : j < GT.width α := by
                      have := (List.getElem?_eq_some_iff.1 hv).1
                      rwa [GT.len] at this
                    simp only [World.cell?, hnew, Option.isSome_none, Bool.false_eq_true, if_false, Nat.zero_add, List.getElem?_toArray]
                    by_cases h : i < xs.length
                    · simp only [h, if_true, rp] at hv
                      have := Nat.mul_le_mul_right (GT.width α) (show i + 1 ≤ xs.length from h)
                      rw [Nat.add_mul, Nat.one_mul] at this
                      rw [List.append_assoc, List.getElem?_append_left (by omega), flatCells_get xs p.2 xs.length i j h hjl]
                      exact hv
                    · simp only [h, if_false, rp] at hv
                      have hi' : i - xs.length < ys.length := by omega
                      have h1 := Nat.mul_le_mul_right (GT.width α) (show i - xs.length + 1 ≤ ys.length from hi')
                      rw [Nat.add_mul, Nat.one_mul] at h1
                      have h2 : i * GT.width α = xs.length * GT.width α + (i - xs.length) * GT.width α := by
                        rw [← Nat.add_mul]; congr 1; omega
                      rw [List.append_assoc, List.getElem?_append_right (by omega), hlx, List.getElem?_append_left (by omega)]
                      have := flatCells_get ys q.2 ys.length (i - xs.length) j hi' hjl
                      rw [← hv, ← this]
                      congr 1
                      omega
            · cases hop
          · cases hop
        · cases hop
      · cases hop
    · cases hop
  · cases hop
theorem St.appFlat {α : Type} [GT α] {xs ys : List α} {p q : LP α} {F : Bl} (S : St P n w0 M u N β σ a w) (hx : Ow w0 M u N F xs p) (hyr : Rn u N ys q) (hfl : ∀ (x : α) (r : GT.Ptr α), GT.rd KK N u x r → GT.own KK NoB u x r)
    {i : Nat} {by' lx ly : Nat} {d : Tmp} (hlx : lx = xs.length) (hly : ly = ys.length) (hop : appAc P n ops i σ = some (slv lx p.1, slv ly q.1, GT.width α, by', d)) (hl : xs.length + ys.length ≤ KK)
    (K : ∀ a' w' N' r F', St P n w0 M w' N' β ⟨(d, .v (slv (xs ++ ys).length r.1)) :: σ.env, σ.bx⟩ a' w' → (∀ b, N b → ¬ F b → N' b ∧ w'.heap[b]? = u.heap[b]?) →
      Ow w0 M w' N' F' (xs ++ ys) r → (∀ G : Bl, Disj G F → (∀ b, G b → N b) → Disj G F') → K' a' w') : wpOp P ops Q i K' a w := by
  subst hlx hly
  exact S.append hx hyr (Fy := NoB) ⟨fun _ => NoB, fun i hi => hfl _ _ (LRd.el hyr i hi), fun _ _ b h => False.elim h, fun _ _ _ _ _ b h => False.elim h⟩ (fun b _ h => False.elim h) (fun b h => False.elim h) (fun b h => False.elim h) hop hl
    fun a' w' N' r F' h1 h2 h3 h4 _ => K a' w' N' r F' (by rw [List.length_append]; exact h1) h2 h3 fun G g1 g2 => h4 G g1 (fun b _ h => False.elim h) g2
theorem St.appFlat0 {α : Type} [GT α] {ys : List α} {p q : LP α} {F : Bl} (S : St P n w0 M u N β σ a w) (hx : Ow w0 M u N F ([] : List α) p) (hyr : Rn u N ys q) (hfl : ∀ (x : α) (r : GT.Ptr α), GT.rd KK N u x r → GT.own KK NoB u x r)
    {i : Nat} {by' lx ly : Nat} {d : Tmp} (hly : ly = ys.length)
    (K : ∀ a' w' N' r F', St P n w0 M w' N' β ⟨(d, .v (slv ys.length r.1)) :: σ.env, σ.bx⟩ a' w' → (∀ b, N b → ¬ F b → N' b ∧ w'.heap[b]? = u.heap[b]?) →
      Ow w0 M w' N' F' ys r → (∀ G : Bl, Disj G F → (∀ b, G b → N b) → Disj G F') → K' a' w') (hlx : lx = 0 := by rfl) (hop : appAc P n ops i σ = some (slv lx p.1, slv ly q.1, GT.width α, by', d) := by kernel_rfl) : wpOp P ops Q i K' a w :=
  S.appFlat hx hyr hfl (lx := lx) (ly := ly) hlx hly hop (by rw [List.length_nil, Nat.zero_add]; exact LRd.le hyr) K
theorem St.appOwn {α : Type} [GT α] {xs ys : List α} {p q : LP α} {F Fy : Bl} (S : St P n w0 M u N β σ a w) (hx : Ow w0 M u N F xs p) (hy : Ow w0 M u N Fy ys q) (hd : Disj F Fy)
    {i : Nat} {by' lx ly : Nat} {d : Tmp} (hlx : lx = xs.length) (hly : ly = ys.length) (hop : appAc P n ops i σ = some (slv lx p.1, slv ly q.1, GT.width α, by', d)) (hl : xs.length + ys.length ≤ KK)
    (K : ∀ a' w' N' r F', St P n w0 M w' N' β ⟨(d, .v (slv (xs ++ ys).length r.1)) :: σ.env, σ.bx⟩ a' w' → (∀ b, N b → ¬ F b → N' b ∧ w'.heap[b]? = u.heap[b]?) →
      Ow w0 M w' N' F' (xs ++ ys) r → (∀ G : Bl, Disj G F → Disj G Fy → (∀ b, G b → N b) → Disj G F') → K' a' w') : wpOp P ops Q i K' a w := by
  subst hlx hly
  obtain ⟨G, g1, g2, g3⟩ := LOwn.el hy.own
  exact S.append hx hy.rn ⟨G, g1, fun i hi b hb => (g2 i hi b hb).1, g3⟩ hd hy.sub hy.young hop hl
    fun a' w' N' r F' h1 h2 h3 h4 _ => K a' w' N' r F' (by rw [List.length_append]; exact h1) h2 h3 h4
abbrev Zc (α : Type) [GT α] : List Value := GT.cells (GT.dflt : α) GT.pdflt
theorem retI {x y : Int} (h : x = y) : Ending.returned (packed [I x]) = .returned (I y) := by rw [h]; rfl
theorem retB {x y : Bool} (h : x = y) : Ending.returned (packed [B x]) = .returned (B y) := by rw [h]; rfl
theorem retV {α : Type} [GT α] {x y : α} {p : GT.Ptr α} (h : x = y) : Ending.returned (packed [GT.val x p]) = .returned (GT.val y p) := by rw [h]; rfl
theorem ret2v {a b c d : Value} (h : a = c) (h' : b = d) : Ending.returned (packed [a, b]) = .returned (.tuple #[c, d]) := by rw [h, h']; rfl
theorem ret3v {a b c a' b' c' : Value} (h : a = a') (h' : b = b') (h'' : c = c') : Ending.returned (packed [a, b, c]) = .returned (.tuple #[a', b', c']) := by rw [h, h', h'']; rfl
theorem eqI {x y : Int} (h : x = y) : I x = I y := by rw [h]
theorem eqB {x y : Bool} (h : x = y) : B x = B y := by rw [h]
theorem ret1_of {α : Type} [GT α] {r x : α} {p : GT.Ptr α} {F : Bl} {v : Value} (S : St P n w0 NoB u N β σ a w) (h : r = x) (hv : v = GT.val x p) (o : Ow w0 NoB u N F x p) : Ret1 NoB w0 r (.returned (packed [v])) w := by
  subst h hv
  exact ⟨p, rfl, S.chg, S.own o⟩
theorem ret2_of {α α' : Type} [GT α] [GT α'] {r x : α} {r' x' : α'} {p : GT.Ptr α} {p' : GT.Ptr α'} {F : Bl} {v v' : Value} (S : St P n w0 NoB u N β σ a w) (h : r = x) (h' : r' = x') (hv : v = GT.val x p) (hv' : v' = GT.val x' p') (o : Ow w0 NoB u N F x p) (o' : GT.own KK NoB w x' p') : Ret2 NoB w0 r r' (.returned (packed [v, v'])) w := by
  subst h h' hv hv'
  obtain ⟨h1, h2⟩ := S.own' o
  exact ⟨p, p', F, NoB, rfl, S.chg, h1, o', fun _ _ f => f, fun b hb => hb.elim (h2 b) (fun f => False.elim f)⟩
theorem ret3_of {α α' α'' : Type} [GT α] [GT α'] [GT α''] {r x : α} {r' x' : α'} {r'' x'' : α''} {p : GT.Ptr α} {p' : GT.Ptr α'} {p'' : GT.Ptr α''} {F : Bl} {v v' v'' : Value} (S : St P n w0 NoB u N β σ a w) (h : r = x) (h' : r' = x') (h'' : r'' = x'') (hv : v = GT.val x p) (hv' : v' = GT.val x' p') (hv'' : v'' = GT.val x'' p'')
    (o : Ow w0 NoB u N F x p) (o' : GT.own KK NoB w x' p') (o'' : GT.own KK NoB w x'' p'') : Ret3 NoB w0 r r' r'' (.returned (packed [v, v', v''])) w := by
  subst h h' h'' hv hv' hv''
  obtain ⟨h1, h2⟩ := S.own' o
  exact ⟨p, p', p'', F, rfl, S.chg, h1, o', o'', h2⟩
def RetM {α : Type} [GT α] (F : Bl) (w : World) (p : GT.Ptr α) (x x' : α) (k : Int) (e : Ending) (w' : World) : Prop :=
  e = .returned (I k) ∧ Chg F w w' ∧ ∃ p', GT.cells x' p' = GT.cells x p ∧ GT.own KK F w' x' p'
theorem St.ownw {α : Type} [GT α] {F : Bl} {x : α} {p : GT.Ptr α} (S : St P n w0 M u N β σ a w) (h : Ow w0 M u N F x p) : GT.own KK F w x p :=
  GT.own_agree h.own (fun b hb _ => (S.sep b (h.sub b hb)).2.1)
end
end Go.Proofs.YtlpaefknpmdaoaaGreat
namespace Go.Proofs.YtlpaefknpmdaoaaGreat
open Go
def flatFields (P : Program) : Nat → List Field → Option (List Bool)
  | _, [] => some []
  | i, f :: fs =>
    bif (f.name == "_") || !Nat.beq f.offset i then none else
    match P.underlying f.type with
    | some (.int .i64) => (flatFields P (i + 1) fs).map fun l => true :: l
    | some .bool => (flatFields P (i + 1) fs).map fun l => false :: l
    | _ => none
def flatK (P : Program) (t : TypeId) : Option (List Bool) :=
  match P.underlying t with
  | some (.struct fs) => bif P.stoodInHeld t then none else flatFields P 0 fs.toList
  | _ => none
def okL : List Bool → List Value → Prop
  | [], _ => True
  | true :: ks, .int .i64 _ :: xs => okL ks xs
  | false :: ks, .bool _ :: xs => okL ks xs
  | _, _ => False
def eqL : List Bool → List Value → List Value → Bool
  | [], _, _ => true
  | true :: ks, .int .i64 a :: xs, .int .i64 b :: ys => (a == b) && eqL ks xs ys
  | false :: ks, .bool a :: xs, .bool b :: ys => (a == b) && eqL ks xs ys
  | _, _, _ => false
theorem part_at {P : Program} {t : TypeId} {cs : Array Value} {i : Nat} {v : Value} (ht : tagg P t = some false) (h : cs[i]? = some v) (w : World) : (part t cs i).run P w = .ok v w := by
  simp [part, run_agg_false ht, h]
theorem eqFields_flat {P : Program} (xs ys : Array Value) (w : World) : ∀ (fs : List Field) (i : Nat) (ks : List Bool), flatFields P i fs = some ks → okL ks (xs.toList.drop i) → okL ks (ys.toList.drop i) →
    (Op.eqFields 9999 xs ys fs).run P w = .ok (eqL ks (xs.toList.drop i) (ys.toList.drop i)) w
  | [], i, ks, h, _, _ => by
    simp only [flatFields, Option.some.injEq] at h
    subst h; rfl
  | f :: fs, i, ks, h, hx, hy => by
    simp only [flatFields] at h
    cases hb : ((f.name == "_") || !Nat.beq f.offset i) with
    | true => rw [hb] at h; cases h
    | false =>
      rw [hb] at h
      simp only [Bool.or_eq_false_iff, Bool.not_eq_false'] at hb
      have hn : f.name ≠ "_" := fun e => by rw [e] at hb; simp at hb
      have ho : f.offset = i := Nat.eq_of_beq_eq_true hb.2
      simp only [cond_false] at h
      have tail : ∀ (zs : Array Value) (v : Value) (r : List Value), zs.toList.drop i = v :: r → zs[i]? = some v ∧ zs.toList.drop (i + 1) = r := fun zs v r e => by
        have h1 : (zs.toList.drop i)[0]? = some v := by rw [e]; rfl
        have h2 : zs.toList.drop (i + 1) = (zs.toList.drop i).drop 1 := by rw [List.drop_drop]
        exact ⟨by simpa using h1, by rw [h2, e]; rfl⟩
      split at h
      · rename_i hu
        cases hr : flatFields P (i + 1) fs with
        | none => rw [hr] at h; cases h
        | some ks' =>
          rw [hr] at h
          simp only [Option.map_some, Option.some.injEq] at h
          subst h
          have hag : tagg P f.type = some false := by unfold tagg; rw [hu]
          match hxe : xs.toList.drop i, hx with
          | .int .i64 a :: xr, hx =>
            match hye : ys.toList.drop i, hy with
            | .int .i64 b :: yr, hy =>
              obtain ⟨hx1, hx2⟩ := tail xs _ _ hxe
              obtain ⟨hy1, hy2⟩ := tail ys _ _ hye
              have ih := eqFields_flat xs ys w fs (i + 1) ks' hr (by rw [hx2]; exact hx) (by rw [hy2]; exact hy)
              unfold Op.eqFields
              rw [if_pos hn, ho]
              simp only [Sem.run_bind, part_at hag hx1, part_at hag hy1, Result.andThen_ok, run_equalIn_int w 9998 f.type .i64 .i64 a b hu]
              rw [hx2, hy2] at ih
              cases hab : (a == b) with
              | false => simp [eqL, hab]
              | true => simp only [eqL, hab, Bool.true_and, Bool.not_true, Bool.false_eq_true, if_false]; exact ih
      · rename_i hu
        cases hr : flatFields P (i + 1) fs with
        | none => rw [hr] at h; cases h
        | some ks' =>
          rw [hr] at h
          simp only [Option.map_some, Option.some.injEq] at h
          subst h
          have hag : tagg P f.type = some false := by unfold tagg; rw [hu]
          match hxe : xs.toList.drop i, hx with
          | .bool a :: xr, hx =>
            match hye : ys.toList.drop i, hy with
            | .bool b :: yr, hy =>
              obtain ⟨hx1, hx2⟩ := tail xs _ _ hxe
              obtain ⟨hy1, hy2⟩ := tail ys _ _ hye
              have ih := eqFields_flat xs ys w fs (i + 1) ks' hr (by rw [hx2]; exact hx) (by rw [hy2]; exact hy)
              unfold Op.eqFields
              rw [if_pos hn, ho]
              simp only [Sem.run_bind, part_at hag hx1, part_at hag hy1, Result.andThen_ok, run_equalIn_bool' w 9998 f.type a b hu]
              rw [hx2, hy2] at ih
              cases hab : (a == b) with
              | false => simp [eqL, hab]
              | true => simp only [eqL, hab, Bool.true_and, Bool.not_true, Bool.false_eq_true, if_false]; exact ih
      · cases h
theorem eq_flat {P : Program} {t : TypeId} {ks : List Bool} (h : flatK P t = some ks) {xs ys : List Value} (hx : okL ks xs) (hy : okL ks ys) (w : World) : (Op.equal t (.agg xs.toArray) (.agg ys.toArray)).run P w = .ok (eqL ks xs ys) w := by
  unfold flatK at h
  split at h
  · rename_i fs hu
    cases hs : P.stoodInHeld t with
    | true => rw [hs] at h; cases h
    | false =>
      rw [hs] at h
      have hf : P.fieldsOf t = fs := by unfold Program.fieldsOf; rw [hu]
      have := run_equalIn_struct (P := P) w 9999 t xs.toArray ys.toArray (by rw [hf]; exact hu) hs
      rw [hf] at this
      show (Op.equalIn 10000 t _ _).run P w = _
      refine this.trans ?_
      have := eqFields_flat (P := P) xs.toArray ys.toArray w fs.toList 0 ks h (by simpa using hx) (by simpa using hy)
      simpa using this
  · cases h
section
variable {P : Program} {u : World} {N : Bl}
theorem eqs_Slot (x y : TSlot) : eqL [true, true] (GT.cells x ()) (GT.cells y ()) = decide (x = y) := by
  rw [Bool.eq_iff_iff, decide_eq_true_iff, TSlot.ext_iff]
  simp [eqL, GT.cells, Bool.and_eq_true]
theorem Eq_eq_Slot {t : TypeId} (x y : TSlot) (h : flatK P t = some [true, true]) : Quiet1 P u N (.sem (do pure (.bool (← Op.equal t (GT.val x ()) (GT.val y ()))))) (B (decide (x = y))) := fun w _ => by
  show (do pure (.bool (← Op.equal t (GT.val x ()) (GT.val y ()))) : Sem Value).run P w = _
  have e := eq_flat h (show okL [true, true] (GT.cells x ()) from trivial) (show okL [true, true] (GT.cells y ()) from trivial) w
  rw [eqs_Slot] at e
  rw [Sem.run_bind]
  show ((Op.equal t (.agg (GT.cells x ()).toArray) (.agg (GT.cells y ()).toArray)).run P w).andThen _ = _
  rw [e]; rfl
theorem eqs_Exit (x y : TExit) : eqL [true, true, false, true] (GT.cells x ()) (GT.cells y ()) = decide (x = y) := by
  rw [Bool.eq_iff_iff, decide_eq_true_iff, TExit.ext_iff]
  simp [eqL, GT.cells, Bool.and_eq_true]
theorem Eq_eq_Exit {t : TypeId} (x y : TExit) (h : flatK P t = some [true, true, false, true]) : Quiet1 P u N (.sem (do pure (.bool (← Op.equal t (GT.val x ()) (GT.val y ()))))) (B (decide (x = y))) := fun w _ => by
  show (do pure (.bool (← Op.equal t (GT.val x ()) (GT.val y ()))) : Sem Value).run P w = _
  have e := eq_flat h (show okL [true, true, false, true] (GT.cells x ()) from trivial) (show okL [true, true, false, true] (GT.cells y ()) from trivial) w
  rw [eqs_Exit] at e
  rw [Sem.run_bind]
  show ((Op.equal t (.agg (GT.cells x ()).toArray) (.agg (GT.cells y ()).toArray)).run P w).andThen _ = _
  rw [e]; rfl
end
end Go.Proofs.YtlpaefknpmdaoaaGreat
namespace Go.Proofs.YtlpaefknpmdaoaaGreat
open Go
def f_within (x a b : Int) : Bool := decide (a ≤ x) && decide (x ≤ b)
theorem within_t {x a b : Int} (h : f_within x a b = true) : a ≤ x ∧ x ≤ b := by simpa [f_within] using h
theorem within_f {x a b : Int} (h : f_within x a b = false) : ¬ (a ≤ x ∧ x ≤ b) := by
  intro g; simp [f_within, g.1, g.2] at h
def f_isOuter (k : Int) : Bool := f_within k 13 17
def f_actOk (a : TAct) : Bool := f_within a.kind 1 17
def f_ctlOf (a : TAct) : TCtl := ⟨a.x, a.y, a.z == 1⟩
def f_sz (n : Nat) (left : Int) : Int := if left - n < 0 then -1 else left - n
def f_undisturbed (l : List TAct) : List TAct := l.filter fun a => !f_isOuter a.kind
def f_innerTold (a : List TAct) (t : List TTold) : List TTold := ((a.zip t).filter fun p => !f_isOuter p.1.kind).map (·.2)
theorem el_lt {α : Type} [GT α] {xs : List α} {k : Nat} (h : k < xs.length) : el xs k = xs[k] := by simp [el, h]
theorem take_el {α : Type} [GT α] {xs : List α} {k : Nat} (h : k < xs.length) : xs.take (k + 1) = xs.take k ++ [el xs k] := by
  rw [el_lt h, List.take_succ_eq_append_getElem h]
theorem set_step {α : Type} [GT α] {xs : List α} {k : Nat} {z : α} (h : k < xs.length) : (xs.take k ++ List.replicate (xs.length - k) z).set k (el xs k) = xs.take (k + 1) ++ List.replicate (xs.length - (k + 1)) z := by
  have e : List.replicate (xs.length - k) z = z :: List.replicate (xs.length - (k + 1)) z := by
    rw [show xs.length - k = (xs.length - (k + 1)) + 1 by omega, List.replicate_succ]
  have hl : (xs.take k).length = k := by simp; omega
  rw [take_el h, e, List.set_append_right _ _ (by omega), hl]
  simp
theorem take_eq_step {α : Type} [GT α] {xs ys : List α} {k : Nat} (h : k < xs.length) (h' : k < ys.length) (e : xs.take k = ys.take k) (e' : el xs k = el ys k) : xs.take (k + 1) = ys.take (k + 1) := by
  rw [take_el h, take_el h', e, e']
theorem take_ne {α : Type} [GT α] {xs ys : List α} {k : Nat} (e' : ¬ el xs k = el ys k) : ¬ xs = ys := fun e => e' (by rw [e])
theorem take_all {α : Type} {xs : List α} {k : Nat} (h : xs.length ≤ k) : xs.take k = xs := List.take_of_length_le h
theorem not_t {b : Bool} (h : (!b) = true) : b = false := by cases b <;> simp_all
theorem not_f {b : Bool} (h : (!b) = false) : b = true := by cases b <;> simp_all
end Go.Proofs.YtlpaefknpmdaoaaGreat
namespace Go.Proofs.YtlpaefknpmdaoaaGreat
open Go
theorem el_set_self {α : Type} [GT α] {xs : List α} {k : Nat} {y : α} (h : k < xs.length) : el (xs.set k y) k = y := by simp [el, h]
theorem mark_step {α : Type} {a l : List α} {i : Nat} {y : α} (h : i < a.length) (hl : l.length = i) : (l ++ a.drop i).set i y = (l ++ [y]) ++ a.drop (i + 1) := by
  rw [List.drop_eq_getElem_cons h, List.set_append_right _ _ (by omega), hl, Nat.sub_self, List.set_cons_zero, List.append_assoc]
  rfl
def g_markInt (j : Int) : Int := j
def f_marksInt (n : Nat) (k : Int) : List Int := (List.range n).map fun (i : Nat) => g_markInt (k + 1 * (i : Int))
theorem f_marksInt_len (n : Nat) (k : Int) : (f_marksInt n k).length = n := by simp [f_marksInt]
theorem marksInt_step {a : List Int} {i : Nat} {k j : Int} (h : i < a.length) (hj : j = k + 1 * (i : Int)) : (f_marksInt i k ++ a.drop i).set i (g_markInt j) = f_marksInt (i + 1) k ++ a.drop (i + 1) := by
  rw [mark_step h (f_marksInt_len i k), hj]
  unfold f_marksInt
  rw [List.range_succ, List.map_append]
  rfl
def g_markBool (j : Int) : Bool := (Int.tmod j 3 == 0)
def f_marksBool (n : Nat) (k : Int) : List Bool := (List.range n).map fun (i : Nat) => g_markBool (k + 1 * (i : Int))
def g_markSlot (j : Int) : TSlot := ⟨j, (j + 1)⟩
def f_marksSlot (n : Nat) (k : Int) : List TSlot := (List.range n).map fun (i : Nat) => g_markSlot (k + 2 * (i : Int))
theorem f_marksSlot_len (n : Nat) (k : Int) : (f_marksSlot n k).length = n := by simp [f_marksSlot]
theorem marksSlot_step {a : List TSlot} {i : Nat} {k j : Int} (h : i < a.length) (hj : j = k + 2 * (i : Int)) : (f_marksSlot i k ++ a.drop i).set i (g_markSlot j) = f_marksSlot (i + 1) k ++ a.drop (i + 1) := by
  rw [mark_step h (f_marksSlot_len i k), hj]
  unfold f_marksSlot
  rw [List.range_succ, List.map_append]
  rfl
def g_markEntry (j : Int) : TEntry := ⟨j, (j + 1), (j + 2), (j + 3)⟩
def f_marksEntry (n : Nat) (k : Int) : List TEntry := (List.range n).map fun (i : Nat) => g_markEntry (k + 4 * (i : Int))
def g_markIns (j : Int) : TIns := ⟨j, (j + 1)⟩
def f_marksIns (n : Nat) (k : Int) : List TIns := (List.range n).map fun (i : Nat) => g_markIns (k + 2 * (i : Int))
theorem f_marksIns_len (n : Nat) (k : Int) : (f_marksIns n k).length = n := by simp [f_marksIns]
theorem marksIns_step {a : List TIns} {i : Nat} {k j : Int} (h : i < a.length) (hj : j = k + 2 * (i : Int)) : (f_marksIns i k ++ a.drop i).set i (g_markIns j) = f_marksIns (i + 1) k ++ a.drop (i + 1) := by
  rw [mark_step h (f_marksIns_len i k), hj]
  unfold f_marksIns
  rw [List.range_succ, List.map_append]
  rfl
def g_markCtl (j : Int) : TCtl := ⟨j, (j + 1), (Int.tmod (j + 2) 3 == 0)⟩
def f_marksCtl (n : Nat) (k : Int) : List TCtl := (List.range n).map fun (i : Nat) => g_markCtl (k + 3 * (i : Int))
def g_markExit (j : Int) : TExit := ⟨j, (j + 1), (Int.tmod (j + 2) 3 == 0), (j + 3)⟩
def f_marksExit (n : Nat) (k : Int) : List TExit := (List.range n).map fun (i : Nat) => g_markExit (k + 4 * (i : Int))
def g_markAct (j : Int) : TAct := ⟨j, (j + 1), (j + 2), (j + 3), (j + 4), (j + 5)⟩
def f_marksAct (n : Nat) (k : Int) : List TAct := (List.range n).map fun (i : Nat) => g_markAct (k + 6 * (i : Int))
def g_markTold (j : Int) : TTold := ⟨(Int.tmod j 3 == 0), (j + 1)⟩
def f_marksTold (n : Nat) (k : Int) : List TTold := (List.range n).map fun (i : Nat) => g_markTold (k + 2 * (i : Int))
end Go.Proofs.YtlpaefknpmdaoaaGreat
namespace Go.Proofs.YtlpaefknpmdaoaaGreat
open Go
def Opens (P : Program) (t : TypeId) (α : Type) [GT α] : Prop :=
  P.cellsOf t = GT.width α ∧ ∀ (H : Type) (enc : TypeId × Value → H) (w : World) (fuel : Nat) (cs : List Value) (x : DataW H × List MemPlace),
    DataW.trod enc P w 0 (fun _ => true) true fuel t cs = some x → ∃ (d : α) (p : GT.Ptr α), cs = GT.cells d p ∧ GT.rd KR (Lt w.heap.size) w d p
theorem opens_int {P : Program} {t : TypeId} (ht : P.underlying t = some (.int .i64)) (hc : P.cellsOf t = 1) : Opens P t Int := by
  refine ⟨hc, fun H enc w fuel cs x h => ?_⟩
  cases fuel with
  | zero => simp [DataW.trod] at h
  | succ n =>
    unfold DataW.trod at h
    rw [ht] at h
    split at h <;> simp_all
    rename_i k k' n' hk
    subst hk
    obtain ⟨⟨rfl, hw⟩, _⟩ := h
    refine ⟨n', (), by rfl, ?_⟩
    have := bounds_i64 hw
    exact ⟨this.1, this.2⟩
theorem opens_bool {P : Program} {t : TypeId} (ht : P.underlying t = some .bool) (hc : P.cellsOf t = 1) : Opens P t Bool := by
  refine ⟨hc, fun H enc w fuel cs x h => ?_⟩
  cases fuel with
  | zero => simp [DataW.trod] at h
  | succ n =>
    unfold DataW.trod at h
    rw [ht] at h
    split at h <;> simp_all
    rename_i b
    cases b
    · exact .inl ⟨(), rfl, trivial⟩
    · exact .inr ⟨(), rfl, trivial⟩
theorem opens_slice {P : Program} {t e : TypeId} {α : Type} [GT α] (ht : P.underlying t = some (.slice e)) (hc : P.cellsOf t = 1) (ho : Opens P e α) : Opens P t (List α) := by
  refine ⟨hc, fun H enc w fuel cs x h => ?_⟩
  rcases Go.Deep.open_slice ht h with ⟨rfl, _⟩ | ⟨a, len, cap, m, n, D, Pl, rfl, _, hl, hm, hmm, _, hx⟩
  · exact ⟨[], GT.pdflt, rfl, GT.own_rd (GT.own_dflt _ _ _)⟩
  simp only [if_true] at hmm
  subst hmm
  have : Inhabited α := ⟨GT.dflt⟩
  have : Inhabited (GT.Ptr α) := ⟨GT.pdflt⟩
  obtain ⟨f, hf⟩ := Go.Deep.choose_lt (α := α × GT.Ptr α) (n := m) (p := fun i y => w.cells? 0 (a.add (i * P.cellsOf e)) (P.cellsOf e) = some (GT.cells y.1 y.2) ∧ GT.rd KR (Lt w.heap.size) w y.1 y.2) (fun i hi => by
    obtain ⟨cs', h1, h2⟩ := hx i hi
    obtain ⟨d, p, rfl, h3⟩ := ho.2 H enc w n cs' _ h2
    exact ⟨(d, p), h1, h3⟩)
  have hlen : ((List.range len).map fun i => (f i).1).length = len := by simp
  have hel : ∀ i, i < len → el ((List.range len).map fun i => (f i).1) i = (f i).1 := fun i hi => by simp [el, hi]
  by_cases h0 : m = 0
  · obtain rfl : len = 0 := by omega
    subst h0
    exact ⟨[], (⟨true, 0, 0, 0, some a⟩, fun _ => GT.pdflt), rfl, Nat.zero_le _, Nat.zero_le _, fun h => absurd h (Nat.lt_irrefl _), fun i hi => absurd hi (Nat.not_lt_zero _), fun i hi => absurd hi (Nat.not_lt_zero _)⟩
  have hsp : ∃ b o, a = ⟨b, o, none⟩ := by
    obtain ⟨_, hl2, hc2⟩ := World.cells?_some (hf 0 (by omega)).1
    have h3 := hc2 0 (by rw [ho.1]; exact GT.wpos)
    have hg : ∃ v, (GT.cells (f 0).1 (f 0).2)[0]? = some v := ⟨_, List.getElem?_eq_getElem (by rw [GT.len]; exact GT.wpos)⟩
    obtain ⟨v, hv⟩ := hg
    rw [hv, Nat.zero_mul] at h3
    simp only [Addr.add, if_true] at h3
    obtain ⟨b, o, s⟩ := a
    cases s with
    | none => exact ⟨b, o, rfl⟩
    | some s => unfold World.cell? at h3; split at h3 <;> simp at h3
  obtain ⟨b, o, rfl⟩ := hsp
  have hcell : ∀ i, i < m → CellsAt w b (o + i * GT.width α) (GT.cells (f i).1 (f i).2) := fun i hi => by
    obtain ⟨_, hl2, hc2⟩ := World.cells?_some (hf i hi).1
    intro j v hj
    have hjl := (List.getElem?_eq_some_iff.1 hj).1
    have h3 := hc2 j (by omega)
    rw [hj, ho.1, Go.Deep.add_add] at h3
    have e : (Addr.mk b o none).add (i * GT.width α + j) = ⟨b, o + i * GT.width α + j, none⟩ := by
      unfold Addr.add
      split
      · rename_i h; simp
      · simp [Nat.add_assoc]
    rwa [e] at h3
  refine ⟨(List.range len).map fun i => (f i).1, (⟨false, b, o, m, none⟩, fun i => (f i).2), ?_, ?_, ?_, ?_, ?_, ?_⟩
  · show [Value.slice (some _) len m] = [slv (List.length _) _]
    rw [hlen]
    rfl
  · rw [hlen]; unfold maxLen at hm; unfold KR; omega
  · rw [hlen]; exact hl
  · intro h
    refine ⟨rfl, ?_⟩
    exact (hcell 0 (by omega)).lt (by rw [GT.len]; exact GT.wpos)
  · intro i hi
    rw [hlen] at hi
    rw [hel i hi]
    exact hcell i (by omega)
  · intro i hi
    rw [hlen] at hi
    rw [hel i hi]
    exact (hf i (by omega)).2
theorem field_open {H : Type} {enc : TypeId × Value → H} {P : Program} {w : World} {fs : Array Field} {L : List (TypeId × Nat)} (hf : fs.toList.map (fun f => (f.type, f.offset)) = L) {n : Nat} {cs : List Value} {xs : List (DataW H × List MemPlace)}
    (hl : xs.length = fs.size) (hx : ∀ (i : Nat) (f : Field), fs[i]? = some f → DataW.trod enc P w 0 (fun _ => true) true n f.type ((cs.drop f.offset).take (P.cellsOf f.type)) = xs[i]?)
    (i : Nat) {t : TypeId} {o : Nat} (hi : L[i]? = some (t, o)) {α : Type} [GT α] (ho : Opens P t α) : ∃ (d : α) (p : GT.Ptr α), (cs.drop o).take (GT.width α) = GT.cells d p ∧ GT.rd KR (Lt w.heap.size) w d p := by
  subst hf
  rw [List.getElem?_map, Option.map_eq_some_iff] at hi
  obtain ⟨f, h1, h2⟩ := hi
  simp only [Prod.mk.injEq] at h2
  obtain ⟨rfl, rfl⟩ := h2
  have h3 : fs[i]? = some f := by simpa using h1
  have h4 := hx i f h3
  have hlt : i < xs.length := by
    rw [hl]
    exact (Array.getElem?_eq_some_iff.1 h3).1
  rw [List.getElem?_eq_getElem hlt, ho.1] at h4
  exact ho.2 H enc w n _ _ h4
theorem dr {cs c : List Value} {o w : Nat} (h : (cs.drop o).take w = c) (o' : Nat) (e : o' = o + w) : cs.drop o = c ++ cs.drop o' := by
  subst h e
  rw [← List.drop_drop, List.take_append_drop]
theorem dr_end {cs : List Value} {o : Nat} (h : cs.length = o) : cs.drop o = [] := by
  subst h
  exact List.drop_length
theorem arg_agg {H : Type} {enc : TypeId × Value → H} {P : Program} {w : World} {t : TypeId} {α : Type} [GT α] (ho : Opens P t α) {fs : Array Field} (ht : P.underlying t = some (.struct fs)) (ha : GT.agg α = true)
    {r : Reach} {b0 : Nat} {v : Value} (hv : Value.okWide P w r b0 t v) {d : DataW H} {ps : List MemPlace} (h : DataW.Trod enc P w 0 (fun _ => true) true t v d ps) :
    ∃ (d : α) (p : GT.Ptr α), v = GT.val d p ∧ GT.rd KR (Lt w.heap.size) w d p := by
  obtain ⟨cs, rfl, _⟩ := Go.WideShapes.okWide_struct ht hv
  obtain ⟨fuel, hf⟩ := h
  obtain ⟨x, p, h1, h2⟩ := ho.2 H enc w fuel _ _ hf
  refine ⟨x, p, ?_, h2⟩
  unfold GT.val
  rw [ha, cond_true, ← h1]
  rfl
theorem arg_list {H : Type} {enc : TypeId × Value → H} {P : Program} {w : World} {t e : TypeId} {α : Type} [GT α] (ho : Opens P t (List α)) (ht : P.underlying t = some (.slice e))
    {r : Reach} {b0 : Nat} {v : Value} (hv : Value.okWide P w r b0 t v) {d : DataW H} {ps : List MemPlace} (h : DataW.Trod enc P w 0 (fun _ => true) true t v d ps) :
    ∃ (d : List α) (p : LP α), v = slv d.length p.1 ∧ LRd KR (Lt w.heap.size) w d p := by
  obtain ⟨a, len, cap, rfl⟩ := Go.WideShapes.okWide_slice ht hv
  obtain ⟨fuel, hf⟩ := h
  obtain ⟨x, p, h1, h2⟩ := ho.2 H enc w fuel _ _ hf
  refine ⟨x, p, ?_, h2⟩
  have h3 : [Value.slice a len cap] = [slv x.length p.1] := h1
  exact (List.cons.inj h3).1
theorem trodAll_app {H : Type} {enc : TypeId × Value → H} {P : Program} {w : World} {base : Nat} {spare : Nat → Bool} {held : Bool} {ts' : List TypeId} {vs' : List Value} {ds' : List (DataW H)} {p' : List MemPlace} (h' : DataW.TrodAll enc P w base spare held ts' vs' ds' p') :
    ∀ {ts : List TypeId} {vs : List Value} {ds : List (DataW H)} {p : List MemPlace}, DataW.TrodAll enc P w base spare held ts vs ds p → DataW.TrodAll enc P w base spare held (ts ++ ts') (vs ++ vs') (ds ++ ds') (p ++ p')
  | [], _, _, _, h => by
    obtain ⟨rfl, rfl, rfl⟩ := Go.ChangeShapes.trodAll_nil h
    exact h'
  | _ :: _, _, _, _, h => by
    obtain ⟨v, vs1, d, ds1, a, b, rfl, rfl, rfl, h1, h2⟩ := Go.ChangeShapes.trodAll_cons h
    exact ⟨a, b ++ p', h1, trodAll_app h' h2, by simp⟩
theorem post_law {H : Type} {enc : TypeId × Value → H} {P : Program} {f : Func} {s : ChangeSpec} {apart fresh handsOn again : Bool} {W W' : World} {args : Array Value} {v : Value} {ds gs : List (DataW H)} {before pa pv : List MemPlace}
    (hW : DataW.Whole enc P f.params.toList s.vars apart W args.toList ds gs before)
    (hres : ∀ (b : Nat) (sp : Nat → Bool) (hd : Bool), DataW.TrodAll enc P W' b sp hd f.resultTypes.toList (v.resultList f.resultTypes.size) (s.fn H (ds ++ gs)).results [])
    (hargs : ∀ sp : Nat → Bool, (∀ p ∈ before, sp p.block = true) → DataW.TrodAll enc P W' 0 sp true f.params.toList args.toList (s.fn H (ds ++ gs)).args pa)
    (hvars : ∀ sp : Nat → Bool, (∀ p ∈ before, sp p.block = true) → DataW.TrodVars enc P W' sp s.vars (s.fn H (ds ++ gs)).vars pv)
    (hps : before = pa ++ pv) (hb : RowKit.Below W.heap.size W W')
    (hok : ∀ (j : Nat) (t : TypeId) (r : Value), f.resultTypes[j]? = some t → (v.resultList f.resultTypes.size)[j]? = some r → Value.okWide P W' .any 0 t r) :
    s.post enc P f apart fresh handsOn again W args v W' := by
  have hold : ∀ p ∈ before, (fun b => decide (b < W.heap.size)) p.block = true := fun p hp => by simpa using hW.lt p hp
  have hlt := hW.lt
  refine ⟨ds, gs, before, [], pa, pv, hW, hres _ _ _, hargs _ hold, hvars _ hold, World.keptBut_mono (fun p hp => ⟨hp, ?_⟩) (hb.frame (· ∈ before)), fun _ => ?_⟩
  · rw [hps, List.mem_append] at hp
    exact Or.inr hp
  · obtain ⟨_, _, _, _, _, hz, hn⟩ := hW
    refine ⟨hok, _, _, ([] ++ pa) ++ pv, ⟨[] ++ pa, pv, trodAll_app (hargs _ (fun _ _ => rfl)) (hres _ _ _), hvars _ (fun _ _ => rfl), rfl, ?_, ?_⟩, ?_⟩
    · intro b off hp
      have hp' : MemPlace.cell b off ∈ before := by rw [hps]; simpa using hp
      rw [hb.frozen (p := ⟨b, off, none⟩) (hlt _ hp')]
      exact hz b off hp'
    · intro ha
      have := hn ha
      rw [hps] at this
      simpa using this
    · intro p hp _
      rw [hps]
      simpa using hp
theorem opens_Slot {P : Program} {t : TypeId} {fs : Array Field} {t0 t1 : TypeId} (ht : P.underlying t = some (.struct fs)) (hc : P.cellsOf t = 2) (hf : fs.toList.map (fun f => (f.type, f.offset)) = [(t0, 0), (t1, 1)]) (h0 : Opens P t0 (Int)) (h1 : Opens P t1 (Int)) : Opens P t TSlot := by
  refine ⟨hc, fun H enc w fuel cs x h => ?_⟩
  obtain ⟨xs, n, _, _, hl, hxl, hx⟩ := DataW.trod_struct ht h
  obtain ⟨d0, p0, e0, r0⟩ := field_open hf hxl hx 0 rfl h0
  obtain ⟨d1, p1, e1, r1⟩ := field_open hf hxl hx 1 rfl h1
  refine ⟨⟨d0, d1⟩, (), ?_, ⟨r0, r1⟩⟩
  have e : cs.drop 0 = _ := dr e0 1 rfl
  rw [dr e1 2 rfl, dr_end (hl.trans hc)] at e
  exact e
theorem opens_Ins {P : Program} {t : TypeId} {fs : Array Field} {t0 t1 : TypeId} (ht : P.underlying t = some (.struct fs)) (hc : P.cellsOf t = 2) (hf : fs.toList.map (fun f => (f.type, f.offset)) = [(t0, 0), (t1, 1)]) (h0 : Opens P t0 (Int)) (h1 : Opens P t1 (Int)) : Opens P t TIns := by
  refine ⟨hc, fun H enc w fuel cs x h => ?_⟩
  obtain ⟨xs, n, _, _, hl, hxl, hx⟩ := DataW.trod_struct ht h
  obtain ⟨d0, p0, e0, r0⟩ := field_open hf hxl hx 0 rfl h0
  obtain ⟨d1, p1, e1, r1⟩ := field_open hf hxl hx 1 rfl h1
  refine ⟨⟨d0, d1⟩, (), ?_, ⟨r0, r1⟩⟩
  have e : cs.drop 0 = _ := dr e0 1 rfl
  rw [dr e1 2 rfl, dr_end (hl.trans hc)] at e
  exact e
theorem opens_Ctl {P : Program} {t : TypeId} {fs : Array Field} {t0 t1 t2 : TypeId} (ht : P.underlying t = some (.struct fs)) (hc : P.cellsOf t = 3) (hf : fs.toList.map (fun f => (f.type, f.offset)) = [(t0, 0), (t1, 1), (t2, 2)]) (h0 : Opens P t0 (Int)) (h1 : Opens P t1 (Int)) (h2 : Opens P t2 (Bool)) : Opens P t TCtl := by
  refine ⟨hc, fun H enc w fuel cs x h => ?_⟩
  obtain ⟨xs, n, _, _, hl, hxl, hx⟩ := DataW.trod_struct ht h
  obtain ⟨d0, p0, e0, r0⟩ := field_open hf hxl hx 0 rfl h0
  obtain ⟨d1, p1, e1, r1⟩ := field_open hf hxl hx 1 rfl h1
  obtain ⟨d2, p2, e2, r2⟩ := field_open hf hxl hx 2 rfl h2
  refine ⟨⟨d0, d1, d2⟩, (), ?_, ⟨r0, r1⟩⟩
  have e : cs.drop 0 = _ := dr e0 1 rfl
  rw [dr e1 2 rfl, dr e2 3 rfl, dr_end (hl.trans hc)] at e
  exact e
theorem opens_Exit {P : Program} {t : TypeId} {fs : Array Field} {t0 t1 t2 t3 : TypeId} (ht : P.underlying t = some (.struct fs)) (hc : P.cellsOf t = 4) (hf : fs.toList.map (fun f => (f.type, f.offset)) = [(t0, 0), (t1, 1), (t2, 2), (t3, 3)]) (h0 : Opens P t0 (Int)) (h1 : Opens P t1 (Int)) (h2 : Opens P t2 (Bool)) (h3 : Opens P t3 (Int)) : Opens P t TExit := by
  refine ⟨hc, fun H enc w fuel cs x h => ?_⟩
  obtain ⟨xs, n, _, _, hl, hxl, hx⟩ := DataW.trod_struct ht h
  obtain ⟨d0, p0, e0, r0⟩ := field_open hf hxl hx 0 rfl h0
  obtain ⟨d1, p1, e1, r1⟩ := field_open hf hxl hx 1 rfl h1
  obtain ⟨d2, p2, e2, r2⟩ := field_open hf hxl hx 2 rfl h2
  obtain ⟨d3, p3, e3, r3⟩ := field_open hf hxl hx 3 rfl h3
  refine ⟨⟨d0, d1, d2, d3⟩, (), ?_, ⟨r0, r1, r3⟩⟩
  have e : cs.drop 0 = _ := dr e0 1 rfl
  rw [dr e1 2 rfl, dr e2 3 rfl, dr e3 4 rfl, dr_end (hl.trans hc)] at e
  exact e
theorem opens_Guest {P : Program} {t : TypeId} {fs : Array Field} {t0 t1 t2 t3 t4 t5 t6 t7 t8 t9 : TypeId} (ht : P.underlying t = some (.struct fs)) (hc : P.cellsOf t = 15) (hf : fs.toList.map (fun f => (f.type, f.offset)) = [(t0, 0), (t1, 1), (t2, 2), (t3, 3), (t4, 4), (t5, 5), (t6, 8), (t7, 9), (t8, 13), (t9, 14)]) (h0 : Opens P t0 (List TIns)) (h1 : Opens P t1 (Int)) (h2 : Opens P t2 (Int)) (h3 : Opens P t3 (List TSlot)) (h4 : Opens P t4 (List TSlot)) (h5 : Opens P t5 (TCtl)) (h6 : Opens P t6 (Int)) (h7 : Opens P t7 (TExit)) (h8 : Opens P t8 (Bool)) (h9 : Opens P t9 (List Int)) : Opens P t TGuest := by
  refine ⟨hc, fun H enc w fuel cs x h => ?_⟩
  obtain ⟨xs, n, _, _, hl, hxl, hx⟩ := DataW.trod_struct ht h
  obtain ⟨d0, p0, e0, r0⟩ := field_open hf hxl hx 0 rfl h0
  obtain ⟨d1, p1, e1, r1⟩ := field_open hf hxl hx 1 rfl h1
  obtain ⟨d2, p2, e2, r2⟩ := field_open hf hxl hx 2 rfl h2
  obtain ⟨d3, p3, e3, r3⟩ := field_open hf hxl hx 3 rfl h3
  obtain ⟨d4, p4, e4, r4⟩ := field_open hf hxl hx 4 rfl h4
  obtain ⟨d5, p5, e5, r5⟩ := field_open hf hxl hx 5 rfl h5
  obtain ⟨d6, p6, e6, r6⟩ := field_open hf hxl hx 6 rfl h6
  obtain ⟨d7, p7, e7, r7⟩ := field_open hf hxl hx 7 rfl h7
  obtain ⟨d8, p8, e8, r8⟩ := field_open hf hxl hx 8 rfl h8
  obtain ⟨d9, p9, e9, r9⟩ := field_open hf hxl hx 9 rfl h9
  refine ⟨⟨d0, d1, d2, d3, d4, d5, d6, d7, d8, d9⟩, ⟨p0, p3, p4, p9⟩, ?_, ⟨r0, r1, r2, r3, r4, r5, r6, r7, r9⟩⟩
  have e : cs.drop 0 = _ := dr e0 1 rfl
  rw [dr e1 2 rfl, dr e2 3 rfl, dr e3 4 rfl, dr e4 5 rfl, dr e5 8 rfl, dr e6 9 rfl, dr e7 13 rfl, dr e8 14 rfl, dr e9 15 rfl, dr_end (hl.trans hc)] at e
  exact e
theorem opens_Bare {P : Program} {t : TypeId} {fs : Array Field} {t0 t1 t2 t3 : TypeId} (ht : P.underlying t = some (.struct fs)) (hc : P.cellsOf t = 4) (hf : fs.toList.map (fun f => (f.type, f.offset)) = [(t0, 0), (t1, 1), (t2, 2), (t3, 3)]) (h0 : Opens P t0 (List (List Int))) (h1 : Opens P t1 (List TGuest)) (h2 : Opens P t2 (List Int)) (h3 : Opens P t3 (Int)) : Opens P t TBare := by
  refine ⟨hc, fun H enc w fuel cs x h => ?_⟩
  obtain ⟨xs, n, _, _, hl, hxl, hx⟩ := DataW.trod_struct ht h
  obtain ⟨d0, p0, e0, r0⟩ := field_open hf hxl hx 0 rfl h0
  obtain ⟨d1, p1, e1, r1⟩ := field_open hf hxl hx 1 rfl h1
  obtain ⟨d2, p2, e2, r2⟩ := field_open hf hxl hx 2 rfl h2
  obtain ⟨d3, p3, e3, r3⟩ := field_open hf hxl hx 3 rfl h3
  refine ⟨⟨d0, d1, d2, d3⟩, ⟨p0, p1, p2⟩, ?_, ⟨r0, r1, r2, r3⟩⟩
  have e : cs.drop 0 = _ := dr e0 1 rfl
  rw [dr e1 2 rfl, dr e2 3 rfl, dr e3 4 rfl, dr_end (hl.trans hc)] at e
  exact e
theorem opens_Act {P : Program} {t : TypeId} {fs : Array Field} {t0 t1 t2 t3 t4 t5 : TypeId} (ht : P.underlying t = some (.struct fs)) (hc : P.cellsOf t = 6) (hf : fs.toList.map (fun f => (f.type, f.offset)) = [(t0, 0), (t1, 1), (t2, 2), (t3, 3), (t4, 4), (t5, 5)]) (h0 : Opens P t0 (Int)) (h1 : Opens P t1 (Int)) (h2 : Opens P t2 (Int)) (h3 : Opens P t3 (Int)) (h4 : Opens P t4 (Int)) (h5 : Opens P t5 (Int)) : Opens P t TAct := by
  refine ⟨hc, fun H enc w fuel cs x h => ?_⟩
  obtain ⟨xs, n, _, _, hl, hxl, hx⟩ := DataW.trod_struct ht h
  obtain ⟨d0, p0, e0, r0⟩ := field_open hf hxl hx 0 rfl h0
  obtain ⟨d1, p1, e1, r1⟩ := field_open hf hxl hx 1 rfl h1
  obtain ⟨d2, p2, e2, r2⟩ := field_open hf hxl hx 2 rfl h2
  obtain ⟨d3, p3, e3, r3⟩ := field_open hf hxl hx 3 rfl h3
  obtain ⟨d4, p4, e4, r4⟩ := field_open hf hxl hx 4 rfl h4
  obtain ⟨d5, p5, e5, r5⟩ := field_open hf hxl hx 5 rfl h5
  refine ⟨⟨d0, d1, d2, d3, d4, d5⟩, (), ?_, ⟨r0, r1, r2, r3, r4, r5⟩⟩
  have e : cs.drop 0 = _ := dr e0 1 rfl
  rw [dr e1 2 rfl, dr e2 3 rfl, dr e3 4 rfl, dr e4 5 rfl, dr e5 6 rfl, dr_end (hl.trans hc)] at e
  exact e
end Go.Proofs.YtlpaefknpmdaoaaGreat
namespace Go.Proofs.YtlpaefknpmdaoaaGreat
open Go
class SZ (α : Type) [GT α] where
  sz : α → Nat
  cut : ∀ {K K' : Nat} {F : Bl} {w : World} {x : α} {p : GT.Ptr α}, GT.rd K F w x p → sz x ≤ K' → GT.rd K' F w x p
def szsum {α : Type} [GT α] [SZ α] (xs : List α) : Nat := (xs.map SZ.sz).sum
instance : SZ Int where
  sz _ := 0
  cut h _ := h
instance : SZ Bool where
  sz _ := 0
  cut h _ := h
theorem f_sz_cs (n : Nat) (left : Int) : (left - n < 0 ∧ f_sz n left = -1) ∨ (0 ≤ left - n ∧ f_sz n left = left - n) := by
  unfold f_sz; split <;> omega
section
variable {α : Type} [GT α] [SZ α]
theorem szsum_nil : szsum ([] : List α) = 0 := rfl
theorem szsum_cons (x : α) (xs : List α) : szsum (x :: xs) = SZ.sz x + szsum xs := by simp [szsum]
theorem szsum_append (xs ys : List α) : szsum (xs ++ ys) = szsum xs + szsum ys := by simp [szsum]
theorem szsum_split (xs : List α) (k : Nat) : szsum xs = szsum (xs.take k) + szsum (xs.drop k) := by rw [← szsum_append, List.take_append_drop]
theorem szsum_take {xs : List α} {k : Nat} (h : k < xs.length) : szsum (xs.take (k + 1)) = szsum (xs.take k) + SZ.sz (el xs k) := by
  rw [List.take_succ_eq_append_getElem h, szsum_append]
  simp [szsum, el, h]
theorem szsum_take_le (xs : List α) (k : Nat) : szsum (xs.take k) ≤ szsum xs := by rw [szsum_split xs k]; omega
theorem szsum_all {xs : List α} {k : Nat} (h : xs.length ≤ k) : szsum (xs.take k) = szsum xs := by rw [List.take_of_length_le h]
theorem sz_el_le {xs : List α} {k : Nat} (h : k < xs.length) : SZ.sz (el xs k) ≤ szsum xs := by
  have h1 := szsum_take h
  have h2 := szsum_take_le xs (k + 1)
  omega
instance : SZ (List α) where
  sz xs := xs.length + szsum xs
  cut h hk := ⟨by omega, h.cap, h.at_, h.cell, fun i hi => SZ.cut (h.el i hi) (by have := sz_el_le hi; omega)⟩
theorem sz_list (xs : List α) : SZ.sz xs = xs.length + szsum xs := rfl
theorem szsum_flat (hz : ∀ x : α, SZ.sz x = 0) (xs : List α) : szsum xs = 0 := by
  induction xs with
  | nil => rfl
  | cons x xs ih => rw [szsum_cons, hz, ih]
end
instance : SZ TSlot where
  sz _ := 0
  cut h _ := h
instance : SZ TKept where
  sz x := SZ.sz x.known + SZ.sz x.slots
  cut h hk := ⟨SZ.cut h.known (by omega), SZ.cut h.slots (by omega)⟩
theorem sz_Kept (x : TKept) : SZ.sz x = SZ.sz x.known + SZ.sz x.slots := rfl
instance : SZ TEntry where
  sz _ := 0
  cut h _ := h
instance : SZ TIns where
  sz _ := 0
  cut h _ := h
instance : SZ TCtl where
  sz _ := 0
  cut h _ := h
instance : SZ TExit where
  sz _ := 0
  cut h _ := h
instance : SZ TGuest where
  sz x := SZ.sz x.prog + SZ.sz x.written + SZ.sz x.live + SZ.sz x.seen
  cut h hk := ⟨SZ.cut h.prog (by omega), h.acc, h.pc, SZ.cut h.written (by omega), SZ.cut h.live (by omega), h.ctl, h.pend, h.exit, SZ.cut h.seen (by omega)⟩
theorem sz_Guest (x : TGuest) : SZ.sz x = SZ.sz x.prog + SZ.sz x.written + SZ.sz x.live + SZ.sz x.seen := rfl
instance : SZ TBare where
  sz x := SZ.sz x.mem + SZ.sz x.guests + SZ.sz x.outs
  cut h hk := ⟨SZ.cut h.mem (by omega), SZ.cut h.guests (by omega), SZ.cut h.outs (by omega), h.pend⟩
theorem sz_Bare (x : TBare) : SZ.sz x = SZ.sz x.mem + SZ.sz x.guests + SZ.sz x.outs := rfl
instance : SZ TMon where
  sz x := SZ.sz x.outer + SZ.sz x.out + SZ.sz x.dirty + SZ.sz x.guests + SZ.sz x.outs + SZ.sz x.tables
  cut h hk := ⟨SZ.cut h.outer (by omega), SZ.cut h.out (by omega), SZ.cut h.dirty (by omega), SZ.cut h.guests (by omega), SZ.cut h.outs (by omega), h.pend, h.traps, SZ.cut h.tables (by omega), h.owned⟩
theorem sz_Mon (x : TMon) : SZ.sz x = SZ.sz x.outer + SZ.sz x.out + SZ.sz x.dirty + SZ.sz x.guests + SZ.sz x.outs + SZ.sz x.tables := rfl
instance : SZ THost where
  sz x := SZ.sz x.mem + SZ.sz x.mons + SZ.sz x.buf + SZ.sz x.iobuf
  cut h hk := ⟨SZ.cut h.mem (by omega), SZ.cut h.mons (by omega), SZ.cut h.buf (by omega), SZ.cut h.iobuf (by omega)⟩
theorem sz_Host (x : THost) : SZ.sz x = SZ.sz x.mem + SZ.sz x.mons + SZ.sz x.buf + SZ.sz x.iobuf := rfl
instance : SZ TAct where
  sz _ := 0
  cut h _ := h
instance : SZ TTold where
  sz _ := 0
  cut h _ := h
theorem szl_Int (xs : List Int) : SZ.sz xs = xs.length := by rw [sz_list, szsum_flat (fun _ => rfl)]; rfl
theorem szl_TSlot (xs : List TSlot) : SZ.sz xs = xs.length := by rw [sz_list, szsum_flat (fun _ => rfl)]; rfl
theorem szl_TIns (xs : List TIns) : SZ.sz xs = xs.length := by rw [sz_list, szsum_flat (fun _ => rfl)]; rfl
end Go.Proofs.YtlpaefknpmdaoaaGreat
namespace Go.Proofs.YtlpaefknpmdaoaaGreat
open Go
def uniB : List Bl → Bl
  | [] => NoB
  | G :: l => Or G (uniB l)
theorem Disj.or {A C X : Bl} (h : Disj A X) (k : Disj C X) : Disj (Or A C) X := fun b h1 h2 => h1.elim (fun y => h b y h2) (fun y => k b y h2)
theorem Disj.part {A F X : Bl} (h : Disj F X) (s : ∀ b, A b → F b) : Disj A X := fun b h1 h2 => h b (s b h1) h2
theorem uni_mem {l : List Bl} {G : Bl} (h : G ∈ l) (b : Nat) (hb : G b) : uniB l b := by
  induction l with
  | nil => cases h
  | cons A l ih =>
    rcases List.mem_cons.1 h with rfl | h
    · exact Or.inl hb
    · exact Or.inr (ih h)
theorem uni_all {l : List Bl} {X : Nat → Prop} (h : ∀ G, G ∈ l → ∀ b, G b → X b) (b : Nat) (hb : uniB l b) : X b := by
  induction l with
  | nil => exact False.elim hb
  | cons A l ih =>
    rcases hb with hb | hb
    · exact h A List.mem_cons_self b hb
    · exact ih (fun G hG => h G (List.mem_cons_of_mem _ hG)) hb
theorem sepd_mk {l : List Bl} (h : l.Pairwise Disj) : Sepd (uniB l) l := ⟨fun _ hG => uni_mem hG, h⟩
theorem pw {l : List Bl} (h : l.Pairwise Disj) {i j : Nat} {A C : Bl} (hij : i < j) (hi : l[i]? = some A) (hj : l[j]? = some C) : Disj A C := by
  obtain ⟨h1, rfl⟩ := List.getElem?_eq_some_iff.1 hi
  obtain ⟨h2, rfl⟩ := List.getElem?_eq_some_iff.1 hj
  exact List.pairwise_iff_getElem.1 h i j h1 h2 hij
section
variable {w0 : World} {M : Bl} {u : World} {N : Bl}
theorem ow_Guest {F0 F1 F2 F3 : Bl} {x : TGuest} {p : PGuest} (o0 : Ow w0 M u N F0 x.prog p.prog) (o1 : Ow w0 M u N F1 x.written p.written) (o2 : Ow w0 M u N F2 x.live p.live) (o3 : Ow w0 M u N F3 x.seen p.seen) (d0x1 : Disj F0 F1) (d0x2 : Disj F0 F2) (d0x3 : Disj F0 F3) (d1x2 : Disj F1 F2) (d1x3 : Disj F1 F3) (d2x3 : Disj F2 F3) (f0 : In64 x.acc) (f1 : In64 x.pc) (f2 : RCtl x.ctl) (f3 : In64 x.pend) (f4 : RExit x.exit) : Ow w0 M u N (uniB [F0, F1, F2, F3]) x p := by
  refine ⟨⟨F0, F1, F2, F3, o0.own, o1.own, o2.own, o3.own, sepd_mk (List.Pairwise.cons (by intro G hG; simp only [List.mem_cons, List.not_mem_nil, or_false] at hG; rcases hG with rfl | rfl | rfl; exact d0x1; exact d0x2; exact d0x3) (List.Pairwise.cons (by intro G hG; simp only [List.mem_cons, List.not_mem_nil, or_false] at hG; rcases hG with rfl | rfl; exact d1x2; exact d1x3) (List.Pairwise.cons (by intro G hG; simp only [List.mem_cons, List.not_mem_nil, or_false] at hG; rcases hG with rfl; exact d2x3) (List.Pairwise.cons (fun G hG => by cases hG) List.Pairwise.nil)))), f0, f1, f2, f3, f4⟩, ?_, ?_⟩
  · refine uni_all fun G hG => ?_
    simp only [List.mem_cons, List.not_mem_nil, or_false] at hG
    rcases hG with rfl | rfl | rfl | rfl
    · exact o0.sub
    · exact o1.sub
    · exact o2.sub
    · exact o3.sub
  · refine uni_all fun G hG => ?_
    simp only [List.mem_cons, List.not_mem_nil, or_false] at hG
    rcases hG with rfl | rfl | rfl | rfl
    · exact o0.young
    · exact o1.young
    · exact o2.young
    · exact o3.young
theorem sp_Guest {F : Bl} {x : TGuest} {p : PGuest} (o : Ow w0 M u N F x p) : ∃ F0 F1 F2 F3 : Bl, Ow w0 M u N F0 x.prog p.prog ∧ Ow w0 M u N F1 x.written p.written ∧ Ow w0 M u N F2 x.live p.live ∧ Ow w0 M u N F3 x.seen p.seen ∧ (∀ b, F0 b → F b) ∧ (∀ b, F1 b → F b) ∧ (∀ b, F2 b → F b) ∧ (∀ b, F3 b → F b) ∧ Disj F0 F1 ∧ Disj F0 F2 ∧ Disj F0 F3 ∧ Disj F1 F2 ∧ Disj F1 F3 ∧ Disj F2 F3 := by
  obtain ⟨⟨F0, F1, F2, F3, g0, g1, g2, g3, s, _, _, _, _, _⟩, h1, h2⟩ := o
  have s0 : ∀ b, F0 b → F b := s.sub _ (by simp)
  have s1 : ∀ b, F1 b → F b := s.sub _ (by simp)
  have s2 : ∀ b, F2 b → F b := s.sub _ (by simp)
  have s3 : ∀ b, F3 b → F b := s.sub _ (by simp)
  exact ⟨F0, F1, F2, F3, ⟨g0, fun b hb => h1 b (s0 b hb), fun b hb => h2 b (s0 b hb)⟩, ⟨g1, fun b hb => h1 b (s1 b hb), fun b hb => h2 b (s1 b hb)⟩, ⟨g2, fun b hb => h1 b (s2 b hb), fun b hb => h2 b (s2 b hb)⟩, ⟨g3, fun b hb => h1 b (s3 b hb), fun b hb => h2 b (s3 b hb)⟩, s0, s1, s2, s3, pw s.dis (i := 0) (j := 1) (by decide) rfl rfl, pw s.dis (i := 0) (j := 2) (by decide) rfl rfl, pw s.dis (i := 0) (j := 3) (by decide) rfl rfl, pw s.dis (i := 1) (j := 2) (by decide) rfl rfl, pw s.dis (i := 1) (j := 3) (by decide) rfl rfl, pw s.dis (i := 2) (j := 3) (by decide) rfl rfl⟩
theorem ow_Bare {F0 F1 F2 : Bl} {x : TBare} {p : PBare} (o0 : Ow w0 M u N F0 x.mem p.mem) (o1 : Ow w0 M u N F1 x.guests p.guests) (o2 : Ow w0 M u N F2 x.outs p.outs) (d0x1 : Disj F0 F1) (d0x2 : Disj F0 F2) (d1x2 : Disj F1 F2) (f0 : In64 x.pend) : Ow w0 M u N (uniB [F0, F1, F2]) x p := by
  refine ⟨⟨F0, F1, F2, o0.own, o1.own, o2.own, sepd_mk (List.Pairwise.cons (by intro G hG; simp only [List.mem_cons, List.not_mem_nil, or_false] at hG; rcases hG with rfl | rfl; exact d0x1; exact d0x2) (List.Pairwise.cons (by intro G hG; simp only [List.mem_cons, List.not_mem_nil, or_false] at hG; rcases hG with rfl; exact d1x2) (List.Pairwise.cons (fun G hG => by cases hG) List.Pairwise.nil))), f0⟩, ?_, ?_⟩
  · refine uni_all fun G hG => ?_
    simp only [List.mem_cons, List.not_mem_nil, or_false] at hG
    rcases hG with rfl | rfl | rfl
    · exact o0.sub
    · exact o1.sub
    · exact o2.sub
  · refine uni_all fun G hG => ?_
    simp only [List.mem_cons, List.not_mem_nil, or_false] at hG
    rcases hG with rfl | rfl | rfl
    · exact o0.young
    · exact o1.young
    · exact o2.young
theorem sp_Bare {F : Bl} {x : TBare} {p : PBare} (o : Ow w0 M u N F x p) : ∃ F0 F1 F2 : Bl, Ow w0 M u N F0 x.mem p.mem ∧ Ow w0 M u N F1 x.guests p.guests ∧ Ow w0 M u N F2 x.outs p.outs ∧ (∀ b, F0 b → F b) ∧ (∀ b, F1 b → F b) ∧ (∀ b, F2 b → F b) ∧ Disj F0 F1 ∧ Disj F0 F2 ∧ Disj F1 F2 := by
  obtain ⟨⟨F0, F1, F2, g0, g1, g2, s, _⟩, h1, h2⟩ := o
  have s0 : ∀ b, F0 b → F b := s.sub _ (by simp)
  have s1 : ∀ b, F1 b → F b := s.sub _ (by simp)
  have s2 : ∀ b, F2 b → F b := s.sub _ (by simp)
  exact ⟨F0, F1, F2, ⟨g0, fun b hb => h1 b (s0 b hb), fun b hb => h2 b (s0 b hb)⟩, ⟨g1, fun b hb => h1 b (s1 b hb), fun b hb => h2 b (s1 b hb)⟩, ⟨g2, fun b hb => h1 b (s2 b hb), fun b hb => h2 b (s2 b hb)⟩, s0, s1, s2, pw s.dis (i := 0) (j := 1) (by decide) rfl rfl, pw s.dis (i := 0) (j := 2) (by decide) rfl rfl, pw s.dis (i := 1) (j := 2) (by decide) rfl rfl⟩
end
end Go.Proofs.YtlpaefknpmdaoaaGreat
namespace Go.Proofs.YtlpaefknpmdaoaaGreat
open Go
def f_own1 (l : List TSlot) (page : Int) (k : Nat) : Int :=
  if k < l.length then (if (el l k).page = page then k else f_own1 l page (k + 1)) else -1
termination_by l.length - k
def f_own0 (ms : List TMon) (page : Int) (i : Nat) : Int × Int :=
  if i < ms.length then (if f_own1 (el ms i).outer page 0 < 0 then f_own0 ms page (i + 1) else ((i : Int), f_own1 (el ms i).outer page 0)) else (-1, -1)
termination_by ms.length - i
def f_ownerOfPage (h : THost) (page : Int) : Int × Int := if page < 0 then (-1, -1) else f_own0 h.mons page 0
def f_knownIn (k : TKept) : Int := ((k.known.filter fun b => b).length : Int)
end Go.Proofs.YtlpaefknpmdaoaaGreat
namespace Go.Proofs.YtlpaefknpmdaoaaGreat
open Go
theorem all_step {α : Type} [GT α] {xs : List α} {p : α → Bool} {k : Nat} (h : k < xs.length) (e : (xs.take k).all p = true) (e' : p (el xs k) = true) : (xs.take (k + 1)).all p = true := by
  rw [take_el h, List.all_append]; simp [e, e']
theorem all_bad {α : Type} [GT α] {xs : List α} {p : α → Bool} {k : Nat} (h : k < xs.length) (e' : p (el xs k) = false) : xs.all p = false := by
  rw [← Bool.not_eq_true]
  intro hc
  rw [List.all_eq_true] at hc
  have hx := hc (el xs k) (by rw [el_lt h]; exact List.getElem_mem h)
  rw [hx] at e'
  cases e'
theorem all_end {α : Type} {xs : List α} {p : α → Bool} {k : Nat} (h : xs.length ≤ k) (e : (xs.take k).all p = true) : xs.all p = true := by rwa [take_all h] at e
theorem all_el {α : Type} [GT α] {xs : List α} {p : α → Bool} (e : xs.all p = true) {k : Nat} (h : k < xs.length) : p (el xs k) = true := by
  rw [List.all_eq_true] at e
  exact e _ (by rw [el_lt h]; exact List.getElem_mem h)
theorem fold_step {α β : Type} [GT α] {f : β → α → β} {z : β} {xs : List α} {k : Nat} (h : k < xs.length) : (xs.take (k + 1)).foldl f z = f ((xs.take k).foldl f z) (el xs k) := by
  rw [take_el h, List.foldl_append]; rfl
def f_knTables (t : List TKept) (n : Int) : Int := t.foldl (fun n k => IntKind.i64.wrap (n + f_knownIn k)) n
def f_knownOf (h : THost) : Int := h.mons.foldl (fun n m => f_knTables m.tables n) 0
def f_insOk (i : TIns) : Bool :=
  if i.opc = 1 ∨ i.opc = 2 ∨ i.opc = 5 ∨ i.opc = 6 then f_within i.x 0 99
  else if i.opc = 3 ∨ i.opc = 4 then f_within i.x 0 15
  else if i.opc = 7 then i.x == 0
  else if i.opc = 8 then f_within i.x 0 11 else false
def f_progOk (p : List TIns) : Bool := p.all f_insOk && f_within p.length 1 12
def f_slotOk (s : TSlot) (pages : Int) : Bool := decide (s = ⟨-1, 0⟩) || (decide (0 < pages) && f_within s.page 0 (pages - 1) && f_within s.rights 1 3)
def f_tableOk (t : List TSlot) (size pages : Int) : Bool := t.all (fun s => f_slotOk s pages) && ((t.length : Int) == size)
theorem tableOk_t {t : List TSlot} {size pages : Int} (h : f_tableOk t size pages = true) : (t.length : Int) = size := by
  simp [f_tableOk] at h; exact h.2
def f_pageOk (c : List Int) : Bool := c.all (fun v => f_within v 0 99) && ((c.length : Int) == 4)
def f_memOk (m : List (List Int)) (pages : Int) : Bool := m.all f_pageOk && ((m.length : Int) == pages)
def f_enough (r n : Int) : Bool := f_within r 0 3 && f_within n 0 3 && (land64 r n == n)
def f_ctlFaults (c : TCtl) : List Int :=
  (if f_within c.traps 0 3 then [] else [1]) ++ (if f_within c.post 0 255 then [] else [2]) ++ (if c.post ≠ 0 ∧ c.opn = false then [3] else []) ++ (if c.traps = 2 ∧ c.post ≠ 0 then [4] else [])
def f_ctlOk (c : TCtl) : Bool := ((f_ctlFaults c).length : Int) == 0
def f_exitOk (e : TExit) : Bool :=
  if e.kind = 0 ∨ e.kind = 4 then decide (e.page = 0) && !e.wr && decide (e.n = 0)
  else if e.kind = 1 then f_within e.page 0 3 && decide (e.n = 0)
  else if e.kind = 2 ∨ e.kind = 3 then f_within e.n 0 99 && decide (e.page = 0) && !e.wr else false
def f_guestOk (g : TGuest) : Bool :=
  f_progOk g.prog && f_within g.acc 0 99 && f_within g.pc 0 12 && f_tableOk g.written 4 8 && f_tableOk g.live 4 8 && f_ctlOk g.ctl && f_within g.pend 0 255 && f_exitOk g.exit && decide ((g.seen.length : Int) ≤ 40)
def f_pageSlot (m : TMon) (i : Nat) : Bool :=
  if el m.outer i = ⟨-1, 0⟩ then f_pageOk (el m.out i) else f_enough (el m.outer i).rights 1 && decide ((el m.out i).length = 0)
def f_monHead (m : TMon) : Bool :=
  f_within m.guests.length 1 2 && decide (m.tables.length = m.guests.length) && f_tableOk m.outer 8 12 && decide (m.out.length = 8) && decide (m.dirty.length = 8)
def f_monTail (m : TMon) : Bool := decide (m.outs.length ≤ 40) && f_within m.pend 0 255 && f_within m.traps 0 3 && f_within m.owned 0 1000000000
def f_monOk (m : TMon) : Bool := f_monHead m && f_monTail m && m.guests.all f_guestOk && (List.range 8).all (f_pageSlot m)
def f_monAt (h : THost) (m : Int) : TMon × Bool := if 0 ≤ m ∧ m < h.mons.length then (el h.mons m.toNat, true) else (⟨[], [], [], [], [], 0, 0, [], 0⟩, false)
def f_ownOf (h : THost) (m : Int) : Int := (f_monAt h m).1.owned
end Go.Proofs.YtlpaefknpmdaoaaGreat
namespace Go.Proofs.YtlpaefknpmdaoaaGreat
open Go
def f_idx (n : Nat) (p : Nat → Bool) : List Int := ((List.range n).filter p).map fun (i : Nat) => (i : Int)
theorem idx_step_t {k : Nat} {p : Nat → Bool} (h : p k = true) : f_idx (k + 1) p = f_idx k p ++ [(k : Int)] := by
  unfold f_idx; rw [List.range_succ, List.filter_append, List.map_append]; simp [h]
theorem idx_step_f {k : Nat} {p : Nat → Bool} (h : p k = false) : f_idx (k + 1) p = f_idx k p := by
  unfold f_idx; rw [List.range_succ, List.filter_append, List.map_append]; simp [h]
theorem idx_len (n : Nat) (p : Nat → Bool) : (f_idx n p).length ≤ n := by
  unfold f_idx; rw [List.length_map]; exact Nat.le_trans (List.length_filter_le _ _) (by simp)
def f_freeIn (h : THost) : List Int := f_idx h.mem.length fun p => decide ((f_ownerOfPage h p).1 < 0)
def f_canRun (g : TGuest) : Bool := decide (g.exit = ⟨0, 0, false, 0⟩) && !g.halted
def f_runnable (l : List TGuest) : List Int := f_idx l.length fun i => f_canRun (el l i)
def f_runnableIn (h : THost) : List (List Int) := h.mons.map fun m => f_runnable m.guests
def f_usesOf (t : List TSlot) (page : Int) : List Int := f_idx t.length fun i => decide ((el t i).page = page)
def f_slotAt (t : List TSlot) (page : Int) : TSlot := if 0 ≤ page ∧ page < t.length then el t page.toNat else ⟨-1, 0⟩
theorem slotAt_r {K : Nat} {F : Bl} {w : World} {t : List TSlot} {p : LP TSlot} (h : GT.rd K F w t p) (page : Int) : RSlot (f_slotAt t page) := by
  unfold f_slotAt
  split
  · exact LRd.el h _ (by omega)
  · exact ⟨⟨by decide, by decide⟩, ⟨by decide, by decide⟩⟩
def f_pageAt (m : List (List Int)) (page : Int) : List Int := if 0 ≤ page ∧ page < m.length then el m page.toNat else [0, 0, 0, 0]
def f_pageOf (h : THost) (m page : Int) : List Int :=
  if (0 ≤ m ∧ m < h.mons.length) ∧ 0 ≤ page ∧ page < 8 then
    (if (f_slotAt (el h.mons m.toNat).outer page).page ≠ -1 then f_pageAt h.mem (f_slotAt (el h.mons m.toNat).outer page).page else f_pageAt (el h.mons m.toNat).out page)
  else [0, 0, 0, 0]
def f_bufferOk (b : List TEntry) : Bool :=
  (List.range b.length).all (fun i => (List.range i).all fun k => !(decide ((el b i).tag = (el b k).tag) && decide ((el b i).page = (el b k).page))) && decide ((b.length : Int) ≤ 6)
def stepSlot (u : Option (List Bool)) (s : TSlot) : Option (List Bool) := u.bind fun u => if s.page < 0 then some u else if el u s.page.toNat then none else some (u.set s.page.toNat true)
def stepMon (u : Option (List Bool)) (m : TMon) : Option (List Bool) := u.bind fun u => if f_monOk m then m.outer.foldl stepSlot (some u) else none
def f_hostHead (h : THost) : Bool := f_memOk h.mem 12 && f_within h.mons.length 1 3 && f_bufferOk h.buf && f_bufferOk h.iobuf
def f_hostUsed (h : THost) : Option (List Bool) := h.mons.foldl stepMon (some (List.replicate 12 false))
def f_hostOk (h : THost) : Bool := f_hostHead h && (f_hostUsed h).isSome
def f_seenAs (h : THost) (m : Int) : TBare :=
  if 0 ≤ m ∧ m < h.mons.length then ⟨(List.range 8).map (fun (i : Nat) => f_pageOf h m (i : Int)), (el h.mons m.toNat).guests, (el h.mons m.toNat).outs, (el h.mons m.toNat).pend⟩ else ⟨[], [], [], 0⟩
def f_allSeenAs (h : THost) : List TBare := (List.range h.mons.length).map fun (i : Nat) => f_seenAs h (i : Int)
def f_isSeenAs (h : THost) (l : List TBare) : Bool := decide (f_allSeenAs h = l)
def f_sameSeen (a b : THost) : Bool := f_isSeenAs a (f_allSeenAs b)
def f_withMon (h : THost) (m : Int) (x : TMon) : THost := if 0 ≤ m ∧ m < h.mons.length then ⟨h.mem, h.mons.set m.toNat x, h.buf, h.iobuf⟩ else h
theorem szsum_set {α : Type} [GT α] [SZ α] {xs : List α} {k : Nat} {y : α} (h : k < xs.length) : szsum (xs.set k y) + SZ.sz (el xs k) = szsum xs + SZ.sz y := by
  induction xs generalizing k with
  | nil => simp at h
  | cons x r ih =>
    cases k with
    | zero =>
      rw [List.set_cons_zero, szsum_cons, szsum_cons]
      show SZ.sz y + szsum r + SZ.sz x = SZ.sz x + szsum r + SZ.sz y
      omega
    | succ k =>
      have := ih (k := k) (by simpa using h)
      rw [List.set_cons_succ, szsum_cons, szsum_cons]
      have e : el (x :: r) (k + 1) = el r k := by simp [el]
      rw [e]; omega
def f_setTraps (h : THost) (m traps : Int) : THost × Bool :=
  if f_hostOk h = true ∧ (0 ≤ m ∧ m < h.mons.length) ∧ 0 ≤ traps ∧ traps ≤ 3 then (⟨h.mem, h.mons.set m.toNat { el h.mons m.toNat with traps := traps }, h.buf, h.iobuf⟩, true) else (h, false)
end Go.Proofs.YtlpaefknpmdaoaaGreat
namespace Go.Proofs.YtlpaefknpmdaoaaGreat
open Go
def edgeB (ops : Array Oper) (j k : Nat) : Bool :=
  match ops[j]? with
  | some o => o.after.any fun e => Region.binds .any e && Nat.beq e.on k
  | none => false
def pathB (ops : Array Oper) : Nat → List Nat → Bool
  | _, [] => true
  | j, k :: r => edgeB ops j k && pathB ops k r
def Closed (ops : Array Oper) (listed : Array Bool) : Prop := ∀ j k, edgeB ops j k = true → listed.getD j false = true → listed.getD k false = true
theorem edge_spec {ops : Array Oper} {j k : Nat} (h : edgeB ops j k = true) : ∃ o e, ops[j]? = some o ∧ e ∈ o.after ∧ Region.binds .any e = true ∧ e.on = k := by
  unfold edgeB at h
  split at h
  · rename_i o ho
    obtain ⟨e, he, h2⟩ := Array.any_eq_true'.1 h
    simp only [Bool.and_eq_true] at h2
    exact ⟨o, e, ho, he, h2.1, Nat.eq_of_beq_eq_true h2.2⟩
  · cases h
theorem ready_edge {ops : Array Oper} {listed : Array Bool} {j k : Nat} (hj : j ∈ Region.ready .any ops listed) (h : edgeB ops j k = true) : listed.getD k false = true := by
  obtain ⟨o, e, ho, he, hb, rfl⟩ := edge_spec h
  obtain ⟨_, o', ho', hall⟩ := mem_ready.1 hj
  rw [ho] at ho'
  cases ho'
  exact hall e he hb
theorem set_lt {listed : Array Bool} {j i : Nat} (h : (listed.setIfInBounds i true).getD j false = true) : listed.getD j false = true ∨ j = i := by
  by_cases e : i = j
  · exact .inr e.symm
  · left
    rwa [getD_set_ne false e] at h
theorem Closed.set {ops : Array Oper} {listed : Array Bool} {i : Nat} (h : Closed ops listed) (hi : i ∈ Region.ready .any ops listed) : Closed ops (listed.setIfInBounds i true) := fun j k he hj => by
  refine getD_set_true ?_
  rcases set_lt hj with h1 | rfl
  · exact h j k he h1
  · exact ready_edge hi he
theorem Closed.path {ops : Array Oper} {listed : Array Bool} (h : Closed ops listed) : ∀ (l : List Nat) (j i : Nat), pathB ops j l = true → (j :: l).getLast? = some i → listed.getD j false = true → listed.getD i false = true
  | [], j, i, _, hl, hj => by
    simp at hl; subst hl; exact hj
  | k :: r, j, i, hp, hl, hj => by
    simp only [pathB, Bool.and_eq_true] at hp
    rw [List.getLast?_cons_cons] at hl
    exact h.path r k i hp.2 hl (h j k hp.1 hj)
section
variable {P : Program} {ops : Array Oper} {R : Act → World → Prop} {C : World → Prop} {st : Nat}
abbrev NQ (R : Act → World → Prop) : Exit → Act → World → Prop := fun e a w => e = .normal ∧ R a w
def WD (P : Program) (ops : Array Oper) (R : Act → World → Prop) (st : Nat) (C : World → Prop) : Nat → Array Bool → Act → World → Prop
  | 0, listed, a, w => Region.ready .any ops listed = [] ∧ R a w
  | f + 1, listed, a, w => (Region.ready .any ops listed = [] → R a w) ∧
    ∀ i ∈ Region.ready .any ops listed, wpOp P ops (NQ R) i (fun a' w' => ((listed.setIfInBounds i true).getD st false = false → C w') ∧ WD P ops R st C f (listed.setIfInBounds i true) a' w') a w
theorem WD.any : ∀ (f : Nat) (listed : Array Bool) (a : Act) (w : World), WD P ops R st C f listed a w → wpAny P .any ops (NQ R) f listed a w
  | 0, _, _, _, h => ⟨h.1, rfl, h.2⟩
  | f + 1, _, _, _, h => ⟨fun h0 => ⟨rfl, h.1 h0⟩, fun i hi => wpOp_mono (fun a' w' h' => WD.any f _ a' w' h'.2) (h.2 i hi)⟩
theorem WD.mono {C' : World → Prop} (hc : ∀ w, C' w → C w) : ∀ (f : Nat) (listed : Array Bool) (a : Act) (w : World), WD P ops R st C' f listed a w → WD P ops R st C f listed a w
  | 0, _, _, _, h => h
  | f + 1, _, _, _, h => ⟨h.1, fun i hi => wpOp_mono (fun a' w' h' => ⟨fun h0 => hc _ (h'.1 h0), WD.mono hc f _ a' w' h'.2⟩) (h.2 i hi)⟩
theorem WD.first {i : Nat} {oi : Oper} {v : Value} (hi : ops[i]? = some oi) (hsel : Region.noSelect ops = true) (hy0 : ops.size ≤ st ∨ ∃ k l, pathB ops st (k :: l) = true ∧ (k :: l).getLast? = some i) :
    ∀ (f : Nat) (listed : Array Bool) (a : Act) (w : World), Closed ops listed → listed.size ≤ ops.size →
      (∀ j oj, ops[j]? = some oj → j ≠ i → listed.getD j true = false → (∀ e ∈ oj.after, Region.binds .any e = true → e.on ≠ i) → oi.apart ops oj = true) →
      i ∈ Region.ready .any ops listed → YieldsIf P ops C oi v a → C w →
      WD P ops R st C f (listed.setIfInBounds i true) (a.put oi.dst v) w → WD P ops R st C (f + 1) listed a w := by
  intro f
  have hnp : ∀ c a w, NQ R (.panic c) (a.put oi.dst v) w → NQ R (.panic c) a w := fun _ _ _ h => (by cases h.1)
  have unl : ∀ (listed : Array Bool), i ∈ Region.ready .any ops listed → listed.getD i false = false := fun listed hr => by
    have h0 := (mem_ready.1 hr).1
    rcases Nat.lt_or_ge i listed.size with h' | h'
    · simp [h'] at h0 ⊢; exact h0
    · simp [Array.getElem?_eq_none h']
  have hi' : i < ops.size := (Array.getElem?_eq_some_iff.1 hi).1
  have notst : ∀ (listed : Array Bool), Closed ops listed → i ∈ Region.ready .any ops listed → ∀ j, j ∈ Region.ready .any ops listed → j ≠ st := fun listed hcl hr j hj e => by
    subst e
    rcases hy0 with h | ⟨k, l, h1, h2⟩
    · obtain ⟨_, o, ho, _⟩ := mem_ready.1 hj
      have := (Array.getElem?_eq_some_iff.1 ho).1
      omega
    · simp only [pathB, Bool.and_eq_true] at h1
      have := hcl.path l k i h1.2 h2 (ready_edge hj h1.1)
      rw [unl listed hr] at this
      cases this
  have stun : ∀ (listed : Array Bool), Closed ops listed → listed.size ≤ ops.size → i ∈ Region.ready .any ops listed → listed.getD st false = false := fun listed hcl hsz hr => by
    cases h : listed.getD st false with
    | false => rfl
    | true =>
      rcases hy0 with h0 | ⟨k, l, h1, h2⟩
      · simp [Array.getElem?_eq_none (show listed.size ≤ st by omega)] at h
      · simp only [pathB, Bool.and_eq_true] at h1
        have := hcl.path l k i h1.2 h2 (hcl st k h1.1 h)
        rw [unl listed hr] at this
        cases this
  induction f with
  | zero =>
    intro listed a w hcl hsz _ hr hy hC H
    refine ⟨fun h => (by rw [h] at hr; cases hr), fun j hj => ?_⟩
    by_cases hji : j = i
    · subst hji; exact hy.wpOp hi hC ⟨fun _ => hC, H⟩
    · have := ready_mono hj hji
      rw [H.1] at this
      cases this
  | succ f ih =>
    intro listed a w hcl hsz hfree hr hy hC H
    refine ⟨fun h => (by rw [h] at hr; cases hr), fun j hj => ?_⟩
    by_cases hji : j = i
    · subst hji; exact hy.wpOp hi hC ⟨fun _ => hC, H⟩
    have hjst := notst listed hcl hr j hj
    have hist := notst listed hcl hr i hr
    have h1 := H.2 j (ready_mono hj hji)
    obtain ⟨hjun, oj, hoj, hall⟩ := mem_ready.1 hj
    have hnot : ∀ e ∈ oj.after, Region.binds .any e = true → e.on ≠ i := fun e he hb heq => by
      have h2 := hall e he hb
      rw [heq, unl listed hr] at h2
      cases h2
    have h2 := wpOp_putIf hoj (hfree j oj hoj hji hjun hnot) (fun cs b => Region.noSelect_spec hsel i oi cs b hi) (fun cs b => Region.noSelect_spec hsel j oj cs b hoj) hnp hy h1
    have hfree' : ∀ k ok, ops[k]? = some ok → k ≠ i → (listed.setIfInBounds j true).getD k true = false → (∀ e ∈ ok.after, Region.binds .any e = true → e.on ≠ i) → oi.apart ops ok = true := fun k ok hk hki hu hno => by
      refine hfree k ok hk hki ?_ hno
      by_cases hjk : j = k
      · subst hjk; exact hjun
      · rwa [getD_set_ne true hjk] at hu
    refine wpOp_mono (fun a' w' h3 => ?_) h2
    obtain ⟨h4, h5, h6⟩ := h3
    have hst := stun listed hcl hsz hr
    have hC' : C w' := h5 (by rw [getD_set_ne false hjst, getD_set_ne false hist]; exact hst)
    rw [Array.setIfInBounds_comm _ _ (Ne.symm hji)] at h6
    exact ⟨fun _ => hC', ih (listed.setIfInBounds j true) a' w' (hcl.set hj) (by simpa using hsz) hfree' (ready_mono hr (Ne.symm hji)) h4 hC' h6⟩
theorem WD.done {listed : Array Bool} {a : Act} {w : World} (hr : Region.ready .any ops listed = []) (h : R a w) : ∀ f, WD P ops R st C f listed a w
  | 0 => ⟨hr, h⟩
  | _ + 1 => ⟨fun _ => h, by rw [hr]; simp⟩
theorem WD.many {rs : List Nat} {f : Nat} {listed : Array Bool} {a : Act} {w : World} (hr : Region.ready .any ops listed = rs) (hne : rs.isEmpty = false)
    (h : ∀ i ∈ rs, wpOp P ops (NQ R) i (fun a' w' => ((listed.setIfInBounds i true).getD st false = false → C w') ∧ WD P ops R st C f (listed.setIfInBounds i true) a' w') a w) : WD P ops R st C (f + 1) listed a w :=
  ⟨fun h0 => (by rw [h0] at hr; subst hr; cases hne), hr ▸ h⟩
theorem WD.one {i f : Nat} {listed : Array Bool} {a : Act} {w : World} (hr : Region.ready .any ops listed = [i])
    (h : wpOp P ops (NQ R) i (fun a' w' => ((listed.setIfInBounds i true).getD st false = false → C w') ∧ WD P ops R st C f (listed.setIfInBounds i true) a' w') a w) : WD P ops R st C (f + 1) listed a w :=
  WD.many hr rfl fun j hj => by
    simp only [List.mem_cons, List.not_mem_nil, or_false] at hj
    subst hj
    exact h
theorem WD.last {f : Nat} {l : Array Bool} {a : Act} {w : World} (hst : l.getD st false = true) (h : WD P ops R st C f l a w) : (l.getD st false = false → C w) ∧ WD P ops R st C f l a w :=
  ⟨fun h0 => (by rw [hst] at h0; cases h0), h⟩
def closedB (ops : Array Oper) (listed : Array Bool) : Bool :=
  (List.range ops.size).all fun j => !listed.getD j false || (match ops[j]? with | some o => o.after.all fun e => !Region.binds .any e || listed.getD e.on false | none => true)
theorem closedB_spec {listed : Array Bool} (h : closedB ops listed = true) : Closed ops listed := fun j k he hj => by
  obtain ⟨o, e, ho, hm, hb, rfl⟩ := edge_spec he
  have hlt : j < ops.size := (Array.getElem?_eq_some_iff.1 ho).1
  have h1 := List.all_eq_true.1 h j (List.mem_range.2 hlt)
  rw [hj, ho] at h1
  simp only [Bool.not_true, Bool.false_or] at h1
  have h2 := Array.all_eq_true_iff_forall_mem.1 h1 e hm
  rw [hb] at h2
  simpa using h2
def hoistB (ops : Array Oper) (st : Nat) (listed : Array Bool) (i : Nat) (path : List Nat) : Bool :=
  Region.noSelect ops && Region.free .any ops listed i && (Region.ready .any ops listed).contains i && closedB ops listed && Nat.ble listed.size ops.size &&
    (Nat.ble ops.size st || (match path with | [] => false | k :: l => pathB ops st (k :: l) && (match (k :: l).getLast? with | some x => Nat.beq x i | none => false)))
end
section
variable {P : Program} {n : Nat} {w0 : World} {M : Bl} {u : World} {N : Bl} {β : Nat → Nat} {σ σ' : Sy} {a : Act} {w : World} {ops : Array Oper} {R : Act → World → Prop} {C : World → Prop} {st : Nat}
structure RC (w0 : World) (M : Bl) (u : World) (N : Bl) (β : Nat → Nat) (bx : List (List Value)) (w' : World) : Prop where
  box : ∀ (k : Nat) (cs : List Value), bx[k]? = some cs → ∃ T, w'.heap[β k]? = some (.cells cs.toArray T (0, 0))
  sep : ∀ b, N b → b < w'.heap.size ∧ w'.heap[b]? = u.heap[b]?
  chg : Chg M w0 w'
theorem St.rc (S : St P n w0 M u N β σ a w) : RC w0 M u N β σ.bx w := ⟨S.box, fun b hb => ⟨(S.sep b hb).1, (S.sep b hb).2.1⟩, S.chg⟩
theorem St.move (S : St P n w0 M u N β σ a w) {w' : World} (h : RC w0 M u N β σ.bx w') : St P n w0 M u N β σ a w' :=
  ⟨S.df, S.sz, S.env, S.ok, h.box, S.inj, S.new, fun b hb => ⟨(h.sep b hb).1, (h.sep b hb).2, (S.sep b hb).2.2⟩, h.chg, S.old⟩
theorem St.draw0 (S : St P n w0 M u N β σ a w) {Q : Exit → Act → World → Prop} {id f : Nat} (st : Nat) (hm : P.follows .mixedOrders = true) (hf : ops.size = f)
    (h : ∀ w', St P n w0 M u N β σ a w' → WD P ops (fun a w => Q .normal a w) st (RC w0 M u N β σ.bx) f (Array.replicate f false) a w') : (Code.region id ops true).wp P Q a w := by
  refine Code.wp_mono (Q := NQ fun a w => Q .normal a w) (fun e a w hq => hq.1 ▸ hq.2) (wp_region_any hm ?_)
  rw [hf]
  exact WD.any _ _ _ _ (h _ (S.ext (Chg.draw NoB w _)))
theorem WD.next {u' : World} {N' : Bl} {bx : List (List Value)} {f : Nat} {l : Array Bool} (S' : St P n w0 M u' N' β σ' a w) (up : ∀ b, N b → N' b ∧ u'.heap[b]? = u.heap[b]?) (hbx : σ'.bx = bx)
    (h : WD P ops R st (RC w0 M u' N' β σ'.bx) f l a w) : (l.getD st false = false → RC w0 M u N β bx w) ∧ WD P ops R st (RC w0 M u N β bx) f l a w := by
  subst hbx
  have back : ∀ w', RC w0 M u' N' β σ'.bx w' → RC w0 M u N β σ'.bx w' := fun w' h => ⟨h.box, fun b hb => ⟨(h.sep b (up b hb).1).1, (h.sep b (up b hb).1).2.trans (up b hb).2⟩, h.chg⟩
  exact ⟨fun _ => back _ S'.rc, WD.mono back _ _ _ _ h⟩
theorem WD.keep {u' : World} {N' : Bl} {bx : List (List Value)} {f : Nat} {l : Array Bool} (S' : St P n w0 M u' N' β σ' a w) (up : ∀ b, N b → N' b ∧ u'.heap[b]? = u.heap[b]?) (hbx : σ'.bx = bx)
    (h : WD P ops R st (RC w0 M u N β bx) f l a w) : (l.getD st false = false → RC w0 M u N β bx w) ∧ WD P ops R st (RC w0 M u N β bx) f l a w := by
  subst hbx
  have back : ∀ w', RC w0 M u' N' β σ'.bx w' → RC w0 M u N β σ'.bx w' := fun w' h => ⟨h.box, fun b hb => ⟨(h.sep b (up b hb).1).1, (h.sep b (up b hb).1).2.trans (up b hb).2⟩, h.chg⟩
  exact ⟨fun _ => back _ S'.rc, h⟩
theorem WD.stay {β' : Nat → Nat} {bx : List (List Value)} {f : Nat} {l : Array Bool} (S' : St P n w0 M u N β' σ' a w) (hβ : ∀ k, k < bx.length → β' k = β k) (hbx : ∀ (k : Nat) (cs : List Value), bx[k]? = some cs → σ'.bx[k]? = some cs)
    (h : WD P ops R st (RC w0 M u N β' σ'.bx) f l a w) : (l.getD st false = false → RC w0 M u N β bx w) ∧ WD P ops R st (RC w0 M u N β bx) f l a w := by
  have back : ∀ w', RC w0 M u N β' σ'.bx w' → RC w0 M u N β bx w' := fun w' h => ⟨fun k cs hk => by
      rw [← hβ k (List.getElem?_eq_some_iff.1 hk).1]
      exact h.box k cs (hbx k cs hk), h.sep, h.chg⟩
  exact ⟨fun _ => back _ S'.rc, WD.mono back _ _ _ _ h⟩
def mkL (n : Nat) (l : List Nat) : Array Bool := l.foldl (fun a i => a.setIfInBounds i true) (Array.replicate n false)
theorem WD.nameW {f : Nat} {l : Array Bool} (h : ∀ W : Nat → Array Bool → Act → World → Prop, W = WD P ops R st C → W f l a w) : WD P ops R st C f l a w := h _ rfl
theorem WD.castW {W : Nat → Array Bool → Act → World → Prop} {f : Nat} {l l' : Array Bool} (e : l = l') (h : W f l' a w) : W f l a w := e ▸ h
theorem wp_region_cut {Q : Exit → Act → World → Prop} {c : Code} (I : Act → World → Prop) (h : c.wp P (NQ I) a w) (k : ∀ a w, I a w → Q .normal a w) : c.wp P Q a w :=
  Code.wp_mono (Q := NQ I) (fun _ a w hq => hq.1 ▸ k a w hq.2) h
theorem ev_one {Q : Exit → Act → World → Prop} {K' : Act → World → Prop} {i : Nat} {o : Oper} {claims : List (Ask × Value)} (ho : ops[i]? = some o) (hev : ev P n ops [o] σ (claims.map (·.2)) = some (σ', claims)) (hq : AllQ P u N claims)
    (S : St P n w0 M u N β σ a w) (K : ∀ a' w' β', St P n w0 M u N β' σ' a' w' → (∀ k, k < σ.bx.length → β' k = β k) → K' a' w') : wpOp P ops Q i K' a w := by
  unfold wpOp
  simp only [ho]
  simp only [ev] at hev
  split at hev
  · cases hev
  · rename_i hg
    rw [guard_ok S hg]
    simp only [Bool.false_eq_true, if_false]
    cases hp : σ.put n o.dst (.v undef) with
    | none => rw [hp] at hev; cases hev
    | some σ1 =>
      rw [hp] at hev
      simp only [Option.bind_some, Option.some.injEq, Prod.mk.injEq] at hev
      obtain ⟨rfl, _⟩ := hev
      exact K _ _ _ (S.put hp (fun _ _ e => by cases e)) (fun _ _ => rfl)
  · rename_i hg
    rw [guard_ok S hg]
    simp only [if_true]
    left
    unfold Oper.wp
    split at hev
    · cases hev
    · rename_i x hx
      obtain ⟨h1, h2⟩ := op_says S hx
      rw [h1]
      simp only [Oper.upon]
      cases hp : σ.put n o.dst x with
      | none => rw [hp] at hev; cases hev
      | some σ1 =>
        rw [hp] at hev
        simp only [Option.bind_some, Option.some.injEq, Prod.mk.injEq] at hev
        obtain ⟨rfl, _⟩ := hev
        exact K _ _ _ (S.put hp h2) (fun _ _ => rfl)
    · rename_i q hx
      have h1 := op_says S hx
      split at hev
      · cases hev
      · rename_i v orc he
        cases hp : σ.put n o.dst (.v v) with
        | none => rw [hp] at hev; cases hev
        | some σ1 =>
          rw [hp] at hev
          simp only [Option.bind_some, Option.map_some, Option.some.injEq, Prod.mk.injEq] at hev
          obtain ⟨rfl, e2⟩ := hev
          subst e2
          have hput := S.put hp (fun _ _ e => by cases e)
          cases q with
          | call f args =>
            simp only [Says] at h1
            rw [h1, Oper.upon_enter]
            refine (hq.1 w (fun b hb => ⟨(S.sep b hb).1, (S.sep b hb).2.1⟩)).mono fun e w' ⟨h3, h4⟩ => ?_
            subst h3
            exact K _ _ _ (hput.ext h4) (fun _ _ => rfl)
          | _ =>
            have h2 := h1 v (hq.1 w (fun b hb => (S.sep b hb).2.1))
            rw [h2]
            exact K _ _ _ hput (fun _ _ => rfl)
    · rename_i T cs hx
      have h1 := op_says S hx
      rw [h1]
      simp only [Oper.upon]
      have S1 := S.push cs T
      cases hp : Sy.put n ⟨σ.env, σ.bx ++ [cs]⟩ o.dst (.p σ.bx.length 0) with
      | none => rw [hp] at hev; cases hev
      | some σ1 =>
        rw [hp] at hev
        simp only [Option.bind_some, Option.some.injEq, Prod.mk.injEq] at hev
        obtain ⟨rfl, _⟩ := hev
        have S2 := S1.put hp (fun k o e => by cases e; simp)
        have e : (SV.p σ.bx.length 0).val (fun k => if k = σ.bx.length then w.heap.size else β k) = pt w.heap.size 0 := by simp [SV.val]
        rw [e] at S2
        exact K _ _ _ S2 (fun k hk => by simp [Nat.ne_of_lt hk])
    · rename_i k cs hx
      obtain ⟨h1, old, h2⟩ := op_says S hx
      rw [h1]
      simp only [Oper.upon]
      split at hev
      · rename_i hd
        rw [hd]
        simp only [Option.some.injEq, Prod.mk.injEq] at hev
        obtain ⟨rfl, _⟩ := hev
        exact K _ _ _ (S.poke h2) (fun _ _ => rfl)
      · cases hev
theorem evK_one {i : Nat} {orc : List Value} {claims : List (Ask × Value)} {keep : List Nat} {m : Nat} (h : evK P n ops i 1 σ orc keep m = some (σ', claims)) :
    ∃ o σ1, ops[i]? = some o ∧ ev P n ops [o] σ orc = some (σ1, claims) ∧ σ' = ⟨σ1.keep m keep, σ1.bx.take m⟩ := by
  unfold evK at h
  cases hb : Nat.ble (i + 1) ops.size with
  | false => rw [hb] at h; cases h
  | true =>
    rw [hb] at h
    have hle : i + 1 ≤ ops.size := Nat.le_of_ble_eq_true hb
    have ho : ops[i]? = some ops[i] := Array.getElem?_eq_getElem (by omega)
    have hl : (ops.toList.drop i).take 1 = [ops[i]] := by
      rw [List.drop_eq_getElem_cons (show i < ops.toList.length by simp; omega)]
      simp
    simp only [cond_true, hl] at h
    cases hr : ev P n ops [ops[i]] σ orc with
    | none => rw [hr] at h; cases h
    | some r =>
      rw [hr] at h
      simp only [Option.map_some, Option.some.injEq, Prod.mk.injEq] at h
      exact ⟨_, r.1, ho, by rw [hr, ← h.2], h.1.symm⟩
theorem St.weaken' (S : St P n w0 M u N β σ a w) (m : Nat) (keep : List Nat) : St P n w0 M u N β ⟨σ.keep m keep, σ.bx.take m⟩ a w :=
  S.weaken m keep fun t k' o' h => by
    have h1 := look_keep m keep t _ h
    have h2 := S.ok t k' o' h1.1
    have h3 := h1.2 k' o' rfl
    simp; omega
theorem St.stepq {Q : Exit → Act → World → Prop} {K' : Act → World → Prop} (S : St P n w0 M u N β σ a w) {i : Nat} {claims : List (Ask × Value)} {keep : List Nat} {m : Nat} (hq : AllQ P u N claims)
    (hev : evK P n ops i 1 σ (claims.map (·.2)) keep m = some (σ', claims)) (K : ∀ a' w' β', St P n w0 M u N β' σ' a' w' → (∀ k, k < σ.bx.length → β' k = β k) → K' a' w') : wpOp P ops Q i K' a w := by
  obtain ⟨o, σ1, ho, he, rfl⟩ := evK_one hev
  exact ev_one ho he hq S fun a' w' β' S' hβ => K a' w' β' (S'.weaken' m keep) hβ
def askB (P : Program) (ops : Array Oper) (σ : Sy) (i : Nat) : Bool :=
  match ops[i]? with
  | some o =>
    match guardv ops σ o with
    | some false => true
    | some true =>
      match opAc P σ o with
      | some (.val _) => true
      | some (.ask (.call _ _)) => false
      | some (.ask _) => true
      | _ => false
    | none => false
  | none => false
theorem St.hoist (S : St P n w0 M u N β σ a w) {i f : Nat} {listed : Array Bool} {path : List Nat} {claims : List (Ask × Value)} {keep : List Nat} {m : Nat} (hh : hoistB ops st listed i path = true) (hask : askB P ops σ i = true)
    (hq : AllQ P u N claims) (hev : evK P n ops i 1 σ (claims.map (·.2)) keep m = some (σ', claims))
    (K : ∀ a', St P n w0 M u N β σ' a' w → WD P ops R st (RC w0 M u N β σ.bx) f (listed.setIfInBounds i true) a' w) : WD P ops R st (RC w0 M u N β σ.bx) (f + 1) listed a w := by
  obtain ⟨o, σ1, ho, he, rfl⟩ := evK_one hev
  simp only [hoistB, Bool.and_eq_true, Bool.or_eq_true] at hh
  obtain ⟨⟨⟨⟨⟨b1, b2⟩, b3⟩, b4⟩, b5⟩, b6⟩ := hh
  have hp : ops.size ≤ st ∨ ∃ k l, pathB ops st (k :: l) = true ∧ (k :: l).getLast? = some i := by
    rcases b6 with h | h
    · exact .inl (Nat.le_of_ble_eq_true h)
    · right
      split at h
      · cases h
      · rename_i k l
        simp only [Bool.and_eq_true] at h
        obtain ⟨h1, h2⟩ := h
        split at h2
        · rename_i x hx
          exact ⟨k, l, h1, by rw [hx, Nat.eq_of_beq_eq_true h2]⟩
        · cases h2
  have fin : ∀ v, YieldsIf P ops (RC w0 M u N β σ.bx) o v a → St P n w0 M u N β σ1 (a.put o.dst v) w → WD P ops R st (RC w0 M u N β σ.bx) (f + 1) listed a w := fun v hy S1 =>
    WD.first ho b1 hp f listed a w (closedB_spec b4) (Nat.le_of_ble_eq_true b5) (Region.free_spec ho b2) (by simpa using b3) hy S.rc (K _ (S1.weaken' m keep))
  unfold askB at hask
  rw [ho] at hask
  simp only [ev] at he
  split at he
  · cases he
  · rename_i hg
    cases hput : σ.put n o.dst (.v undef) with
    | none => rw [hput] at he; cases he
    | some σ2 =>
      rw [hput] at he
      simp only [Option.bind_some, Option.some.injEq, Prod.mk.injEq] at he
      obtain ⟨rfl, _⟩ := he
      exact fin undef (.inr ⟨guard_ok S hg, rfl⟩) (S.put hput (fun _ _ e => by cases e))
  · rename_i hg
    simp only [hg] at hask
    have hw := guard_ok S hg
    split at he
    · cases he
    · rename_i x hx
      cases hput : σ.put n o.dst x with
      | none => rw [hput] at he; cases he
      | some σ2 =>
        rw [hput] at he
        simp only [Option.bind_some, Option.some.injEq, Prod.mk.injEq] at he
        obtain ⟨rfl, _⟩ := he
        exact fin (x.val β) (.inl ⟨hw, fun w' h => (op_says (S.move h) hx).1⟩) (S.put hput (op_says S hx).2)
    · rename_i q hx
      split at he
      · cases he
      · rename_i v orc hc
        cases hput : σ.put n o.dst (.v v) with
        | none => rw [hput] at he; cases he
        | some σ2 =>
          rw [hput] at he
          simp only [Option.bind_some, Option.map_some, Option.some.injEq, Prod.mk.injEq] at he
          obtain ⟨rfl, e2⟩ := he
          subst e2
          refine fin v (.inl ⟨hw, fun w' h => ?_⟩) (S.put hput (fun _ _ e => by cases e))
          have S' := S.move h
          have h1 := op_says S' hx
          cases q with
          | call g args => simp only [hx] at hask; cases hask
          | _ => exact h1 v (hq.1 w' (fun b hb => (S'.sep b hb).2.1))
    · rename_i T cs hx
      simp only [hx] at hask
      cases hask
    · rename_i k cs hx
      simp only [hx] at hask
      cases hask
end
end Go.Proofs.YtlpaefknpmdaoaaGreat
