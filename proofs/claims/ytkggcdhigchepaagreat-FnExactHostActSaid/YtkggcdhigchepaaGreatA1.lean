/- Worlds that agree on some blocks; typed data read off memory: a class of types whose values are cells given by data and pointers. No program is named here. -/
import Derived.Below
import Derived.Deep.MidRow
import Derived.Laws.CopyRow
import Derived.Orders
import Derived.Deep.Quiet
import Derived.IntWalk
import Derived.Laws.StructEq
import Derived.OpenShut
import Derived.Deep.Slices
namespace Go.Proofs.YtkggcdhigchepaaGreat
open Go
theorem V {p:Prop} (h:p:=by omega):p:=h
theorem aM {p:Prop} (h:p:=by simp):p:=h
theorem E {p:Prop} (h:p:=by assumption):p:=h
abbrev ah:=Nat->Prop
def U (A B:ah):Prop:=∀b,A b->B b->False
theorem U.w {f B C:ah} (d:∀b,B b->C b->False) (h:∀b,f b->B b):U f C:=fun b x A=>d b (h b x) A
def cp (n:Nat):ah:=fun b=>b<n
def fS (lo hi:Nat):ah:=fun b=>lo<=b/\b<hi
def I:ah:=fun _=>False
theorem U.symm {d B:ah} (h:U d B):U B d:=fun b x A=>h b A x
structure aW (M:ah) (w w':World):Prop where
  os:w'.os=w.os
  tape:w'.tape=w.tape
  output:w'.output=w.output
  size:w.heap.size<=w'.heap.size
  block:∀k,k<w.heap.size->¬M k->w'.heap[k]? =w.heap[k]?
theorem aW.refl (M:ah) (w:World):aW M w w:=⟨rfl,rfl,rfl,Nat.le_refl _,fun _ _ _=>rfl⟩
theorem aW.step {M M':ah} {a b c:World} (h:aW M a b) (k:aW M' b c) (hm:∀x,x<a.heap.size->M' x->M x):aW M a c:=
  ⟨k.os.trans h.os,k.tape.trans h.tape,k.output.trans h.output,Nat.le_trans h.size k.size,fun x hx bc=>
    (k.block x (Nat.lt_of_lt_of_le hx h.size) (fun d=>bc (hm x hx d))).trans (h.block x hx bc)⟩
theorem aW.mono {M M':ah} {a b:World} (h:aW M a b) (hm:∀x,M x->M' x):aW M' a b:=
  ⟨h.os,h.tape,h.output,h.size,fun x hx bc=>h.block x hx (fun d=>bc (hm x d))⟩
theorem aW.trans {M:ah} {a b c:World} (h:aW M a b) (k:aW M b c):aW M a c:=h.step k fun _ _ x=>x
theorem aW.below {w d:World} (h:aW I w d):RowKit.Below w.heap.size w d:=
  ⟨h.os,h.tape,h.output,h.size,fun k hk=>h.block k hk (fun x=>x)⟩
theorem aW.draw (M:ah) (w:World) (n:Nat):aW M w {w with drawn:=n}:=⟨rfl,rfl,rfl,Nat.le_refl _,fun _ _ _=>rfl⟩
theorem aW.push (M:ah) (w:World) (o:Obj):aW M w {w with heap:=w.heap.push o}:=
  ⟨rfl,rfl,rfl,aM,fun k hk _=>by simp [Array.getElem?_push,Nat.ne_of_lt hk]⟩
theorem heap_setCell (w:World) (a:Addr) (v:Value) (k:Nat) (h:k≠a.block):(w.setCell a v).heap[k]? =w.heap[k]? :=by
  simp only [World.setCell,Array.getElem?_modify];rw [if_neg (fun e=>h e.symm)]
theorem size_setCell (w:World) (a:Addr) (v:Value):(w.setCell a v).heap.size=w.heap.size:=by simp [World.setCell]
theorem aW.setCell {M:ah} (w:World) (a:Addr) (v:Value) (h:M a.block):aW M w (w.setCell a v):=
  ⟨rfl,rfl,rfl,by rw [size_setCell];exact Nat.le_refl _,fun k _ bc=>heap_setCell w a v k (fun e=>bc (e▸h))⟩
abbrev Plain (v:Value):Prop:=v.oneCell'=true
abbrev fR (w:World) (b o:Nat) (cs:List Value):Prop:=w.rangeAt b o cs
theorem w1 {w d:World} {a:Addr} (h:d.heap[a.block]? =w.heap[a.block]?):d.cell? a=w.cell? a:=by
  unfold World.cell?;rw [h]
theorem fR.JO {w d:World} {b o:Nat} {f:List Value} (h:fR w b o f) (e:d.heap[b]? =w.heap[b]?):fR d b o f:=
  fun j v A=>(w1 (a:=⟨b,o+j,none⟩) e).trans (h j v A)
theorem D1 {w:World} {a:Addr} {v:Value} (h:w.cell? a=some v):a.block<w.heap.size:=by
  unfold World.cell? at h;rcases Nat.lt_or_ge a.block w.heap.size with d|d
  · exact d
  · rw [Array.getElem?_eq_none d] at h;cases h
theorem fR.lt {w:World} {b o:Nat} {d:List Value} (h:fR w b o d) (hc:0<d.length):b<w.heap.size:=by
  have:=h 0 _ (List.getElem?_eq_getElem hc);exact D1 this
def au (x:Int):Prop:=-9223372036854775808<=x/\x<=9223372036854775807
structure gE where
  nil:Bool
  b:Nat
  off:Nat
  cap:Nat
  kl:Option Addr
def gE.addr (p:gE):Option Addr:=bif p.nil then p.kl else some ⟨p.b,p.off,none⟩
abbrev O (x:Int):Value:= .int .i64 x
abbrev B (b:Bool):Value:= .bool b
abbrev J (n:Nat) (p:gE):Value:= .slice p.addr n p.cap
abbrev aL (b o:Nat):Value:= .pointer (some ⟨b,o,none⟩)
class GT (α:Type) where
  Ptr:Type
  cB:α
  bW:Ptr
  width:Nat
  agg:Bool
  cells:α->Ptr->List Value
  rd:Nat->ah->World->α->Ptr->Prop
  own:Nat->ah->World->α->Ptr->Prop
  Jj:0<width
  len:∀x p,(cells x p).length=width
  one:agg=false->width=1
  plain:∀x p v,v∈cells x p->Plain v
  cq:∀{K b1:Nat} {F G:ah} {w:World} {x:α} {p:Ptr},rd K F w x p->K<=b1->(∀b,F b->G b)->rd b1 G w x p
  de:∀{K:Nat} {F:ah} {w w':World} {x:α} {p:Ptr},rd K F w x p->(∀b,F b->b<w.heap.size->w'.heap[b]? =w.heap[b]?)->rd K F w' x p
  dA:∀{K:Nat} {F:ah} {w:World} {x:α} {p:Ptr},rd K F w x p->rd K (fun b=>F b/\b<w.heap.size) w x p
  c5:∀{K b1:Nat} {F G:ah} {w:World} {x:α} {p:Ptr},own K F w x p->K<=b1->(∀b,F b->G b)->own b1 G w x p
  bh:∀{K:Nat} {F:ah} {w w':World} {x:α} {p:Ptr},own K F w x p->(∀b,F b->b<w.heap.size->w'.heap[b]? =w.heap[b]?)->own K F w' x p
  dG:∀{K:Nat} {F:ah} {w:World} {x:α} {p:Ptr},own K F w x p->own K (fun b=>F b/\b<w.heap.size) w x p
  cQ:∀{K:Nat} {F:ah} {w:World} {x:α} {p:Ptr},own K F w x p->rd K F w x p
  dv:∀(K:Nat) (F:ah) (w:World),own K F w cB bW
def GT.val {α:Type} [GT α] (x:α) (p:GT.Ptr α):Value:=bif GT.agg α then .agg (GT.cells x p).toArray else(GT.cells x p).headD undef
instance:GT Int where
  Ptr:=Unit
  cB:=0
  bW:=()
  width:=1
  agg:=false
  cells x _:=[O x]
  rd _ _ _ x _:=au x
  own _ _ _ x _:=au x
  Jj:=Nat.one_pos
  len _ _:=rfl
  one _:=rfl
  plain _ _ v h:=by simp at h;subst h;rfl
  cq h _ _:=h
  de h _:=h
  dA h:=h
  c5 h _ _:=h
  bh h _:=h
  dG h:=h
  cQ h:=h
  dv _ _ _:=⟨by decide,by decide⟩
instance:GT Bool where
  Ptr:=Unit
  cB:=false
  bW:=()
  width:=1
  agg:=false
  cells x _:=[B x]
  rd _ _ _ _ _:=True
  own _ _ _ _ _:=True
  Jj:=Nat.one_pos
  len _ _:=rfl
  one _:=rfl
  plain _ _ v h:=by simp at h;subst h;rfl
  cq h _ _:=h
  de h _:=h
  dA h:=h
  c5 h _ _:=h
  bh h _:=h
  dG h:=h
  cQ h:=h
  dv _ _ _:=trivial
section lists
variable {α:Type} [GT α]
def el (xs:List α) (i:Nat):α:=xs.getD i (GT.cB)
abbrev ak (α:Type) [GT α]:=gE×(Nat->GT.Ptr α)
structure ae (K:Nat) (F:ah) (w:World) (xs:List α) (p:ak α):Prop where
  le:xs.length<=K
  cap:xs.length<=p.1.cap
  at_:0<xs.length->p.1.nil=false/\F p.1.b
  cell:∀i,i<xs.length->fR w p.1.b (p.1.off+i*GT.width α) (GT.cells (el xs i) (p.2 i))
  el:∀i,i<xs.length->GT.rd K F w (el xs i) (p.2 i)
structure dS (K:Nat) (F:ah) (w:World) (xs:List α) (p:ak α):Prop where
  le:xs.length<=K
  cap:xs.length<=p.1.cap
  JD:p.1.cap<=9223372036854775807
  null:p.1.nil=true->p.1.cap=0
  row:p.1.nil=false->F p.1.b/\∃(cs:Array Value) (T:TypeId),w.heap[p.1.b]? =some (.cells cs T (0,0))/\p.1.off+p.1.cap*GT.width α<=cs.size
  cell:∀i,i<xs.length->fR w p.1.b (p.1.off+i*GT.width α) (GT.cells (Go.Proofs.YtkggcdhigchepaaGreat.el xs i) (p.2 i))
  el:∃G:Nat->ah,(∀i,i<xs.length->GT.own K (G i) w (Go.Proofs.YtkggcdhigchepaaGreat.el xs i) (p.2 i))/\(∀i,i<xs.length->∀b,G i b->F b/\b≠p.1.b)/\(∀i j,i<xs.length->j<xs.length->i≠j->U (G i) (G j))
instance:GT (List α) where
  Ptr
      :=ak α
  cB:=[]
  bW:=(⟨true,0,0,0,none⟩,fun _=>GT.bW)
  width:=1
  agg:=false
  cells xs p:=[J xs.length p.1]
  rd:=ae
  own:=dS
  Jj:=Nat.one_pos
  len _ _:=rfl
  one _:=rfl
  plain _ _ v h:=by simp at h;subst h;rfl
  cq h hk aF:=⟨Nat.le_trans h.le hk,h.cap,fun z=>⟨(h.at_ z).1,aF _ (h.at_ z).2⟩,h.cell,fun i hi=>GT.cq (h.el i hi) hk aF⟩
  de h hw:=⟨h.le,h.cap,h.at_,fun i hi=>
      (h.cell i hi).JO (hw _ (h.at_ (Nat.lt_of_le_of_lt (Nat.zero_le _) hi)).2 ((h.cell i hi).lt (by rw [GT.len];exact GT.Jj))),
    fun i hi=>GT.de (h.el i hi) hw⟩
  dA h:=⟨h.le,h.cap,fun z=>⟨(h.at_ z).1,(h.at_ z).2,(h.cell 0 z).lt (by rw [GT.len];exact GT.Jj)⟩,h.cell,fun i hi=>GT.dA (h.el i hi)⟩
  c5 h hk aF:=by
    obtain⟨G,lR,jo,mK⟩:=h.el;exact⟨Nat.le_trans h.le hk,h.cap,h.JD,h.null,fun z=>⟨aF _ (h.row z).1,(h.row z).2⟩,h.cell,G,fun i hi=>GT.c5 (lR i hi) hk (fun _ x=>x),fun i hi b hb=>⟨aF _ (jo i hi b hb).1,(jo i hi b hb).2⟩,mK⟩
  bh:=by
    intro K F w w' xs p h hw;have oa:∀i,i<xs.length->p.1.nil=false:=fun i hi=>by
      cases bc:p.1.nil with
      |false=>rfl
      |true=>have:=h.null bc;have:=h.cap;omega
    have kU:p.1.nil=false->p.1.b<w.heap.size:=fun bc=>by
      obtain⟨_,cs,T,ab,_⟩:=h.row bc;rcases Nat.lt_or_ge p.1.b w.heap.size with hl|hl
      · exact hl
      · rw [Array.getElem?_eq_none hl] at ab;cases ab
    obtain⟨G,lR,jo,mK⟩:=h.el;refine⟨h.le,h.cap,h.JD,h.null,fun z=>?_,fun i hi=>(h.cell i hi).JO (hw _ (h.row (oa i hi)).1 (kU (oa i hi))),G,fun i hi=>GT.bh (lR i hi) (fun b hb hl=>hw b (jo i hi b hb).1 hl),jo,mK⟩;obtain⟨h1,cs,T,ab,aq⟩:=h.row z;exact⟨h1,cs,T,(hw _ h1 (kU z)).trans ab,aq⟩
  dG:=by
    intro K F w xs p h;have kU:p.1.nil=false->p.1.b<w.heap.size:=fun bc=>by
      obtain⟨_,cs,T,ab,_⟩:=h.row bc;rcases Nat.lt_or_ge p.1.b w.heap.size with hl|hl
      · exact hl
      · rw [Array.getElem?_eq_none hl] at ab;cases ab
    obtain⟨G,lR,jo,mK⟩:=h.el;exact⟨h.le,h.cap,h.JD,h.null,fun z=>⟨⟨(h.row z).1,kU z⟩,(h.row z).2⟩,h.cell,fun i b=>G i b/\b<w.heap.size,fun i hi=>GT.dG (lR i hi),
      fun i hi b hb=>⟨⟨(jo i hi b hb.1).1,hb.2⟩,(jo i hi b hb.1).2⟩,fun i j hi ET bc b x y=>mK i j hi ET bc b x.1 y.1⟩
  cQ:=by
    intro K F w xs p h;have oa:0<xs.length->p.1.nil=false:=fun hi=>by
      cases bc:p.1.nil with
      |false=>rfl
      |true=>have:=h.null bc;have:=h.cap;omega
    obtain⟨G,lR,jo,mK⟩:=h.el;exact⟨h.le,h.cap,fun z=>⟨oa z,(h.row (oa z)).1⟩,h.cell,fun i hi=>GT.cQ (GT.c5 (lR i hi) (Nat.le_refl _) (fun b hb=>(jo i hi b hb).1))⟩
  dv K F w:=⟨Nat.zero_le _,Nat.zero_le _,Nat.zero_le _,fun _=>rfl,fun h=>(by cases h),fun i hi=>absurd hi (Nat.not_lt_zero _),fun _=>I,fun i hi=>absurd hi (Nat.not_lt_zero _),fun i hi=>absurd hi (Nat.not_lt_zero _),fun i _ hi=>absurd hi (Nat.not_lt_zero _)⟩
end lists
end Go.Proofs.YtkggcdhigchepaaGreat
namespace Go.Proofs.YtkggcdhigchepaaGreat
open Go
inductive cy where
  |v (x:Value)
  |p (k off:Nat)
def cy.val (β:Nat->Nat):cy->Value
  | .v x=>x
  | .p k o=>aL (β k) o
abbrev Env:=List (Nat×cy)
def look:Env->Nat->Option cy
  |[],_=>none
  |(s,x)::r,t=>bif Nat.beq s t then some x else look r t
structure aX where
  env:Env
  aN:List (List Value)
def aX.get (σ:aX):Operand->Option cy
  | .tmp t=>look σ.env t
  | .const v=>some (.v v)
  | .func f=>some (.v (.func (.func f) #[] #[]))
  | .global _=>none
def aX.put (n:Nat) (σ:aX) (dst:Option Nat) (x:cy):Option aX:=
  match dst with
  |none=>some σ
  |some d=>bif Nat.blt d n then some ⟨(d,x)::σ.env,σ.aN⟩ else none
inductive Ask where
  |int (op:BinOp) (k:IntKind) (x y:Int)
  |load (t:TypeId) (a:Value)
  |idx (t:TypeId) (s i:Value)
  |fb (s:Sem Value)
  |call (f:FuncId) (args:List Value)
def qd (op:BinOp) (k:IntKind) (x y:Int):Sem Value:=
  match op with
  | .add| .sub| .mul=>Op.intArith op k x y
  | .quo| .rem=>Op.intDiv op k x y
  | .and| .or| .xor| .andNot=>Op.intBits op k x y
  |_=>Op.intCmp op x y
def Ask.run:Ask->Sem Value
  | .int op k x y=>qd op k x y
  | .load t a=>Instr.loadAt t a
  | .idx t s i=>Instr.indexAt t s i
  | .fb s=>s
  | .call _ _=> .halt .goexit
inductive mc where
  |val (x:cy)
  |ask (q:Ask)
  |new (T:TypeId) (cs:List Value)
  |put (k:Nat) (cs:List Value)
def eZ (P:Program) (t:TypeId):Option Nat:=(P.info? t).map (·.size)
def gu (P:Program) (t:TypeId):Option Bool:=
  match P.underlying t with
  |some (.struct _)|some (.array _ _)=>some true
  |some _=>some false
  |none=>none
def nF (P:Program) (t:TypeId) (cs:List Value) (o:Nat):Option Value:=
  match gu P t,eZ P t with
  |some true,some s=>bif Nat.ble (o+s) cs.length then some (.agg ((cs.drop o).take s).toArray) else none
  |some false,some _=>cs[o]?
  |_,_=>none
def oN (P:Program) (t:TypeId) (cs:List Value) (o:Nat) (v:Value):Option (List Value):=
  match eZ P t with
  |some s=>bif Nat.beq v.cells.toList.length s&&Nat.ble (o+s) cs.length&&v.cells.toList.all (·.oneCell') then some (cs.take o++v.cells.toList++cs.drop (o+s)) else none
  |none=>none
def partOf (P:Program) (t:TypeId) (cs:Array Value) (o:Nat):Option Value:=
  match gu P t,eZ P t with
  |some true,some s=>some (.agg (cs.extract o (o+s)))
  |some false,some _=>cs.toList[o]?
  |_,_=>none
def ti (op:BinOp) (k:IntKind) (a b:Int):Option mc:=
  match op with
  | .lss=>some (.val (.v (.bool (decide (a<b)))))
  | .leq=>some (.val (.v (.bool (decide (a<=b)))))
  | .gtr=>some (.val (.v (.bool (decide (a>b)))))
  | .geq=>some (.val (.v (.bool (decide (a>=b)))))
  | .eql=>some (.val (.v (.bool (a==b))))
  | .neq=>some (.val (.v (.bool (a != b))))
  | .shl| .shr=>none
  |_=>some (.ask (.int op k a b))
def xh (P:Program) (op:BinOp) (t:TypeId) (x y:Value):Option (Sem Value):=
  match op,P.eqGuardType P.depth t with
  | .eql,false=>some (do pure (.bool (←Op.equal t x y)))
  | .neq,false=>some (do pure (.bool (!(←Op.equal t x y))))
  |_,_=>none
def vz (P:Program) (op:BinOp) (t:TypeId) (x y:Value):Option mc:=
  match x,y with
  | .int k a,.int lU b=>
    match op with
    | .shl| .shr=>some (.ask (.fb (Op.shift op k a lU b)))
    |_=>if k=lU then ti op k a b else none
  | .bool a,.bool b=>
    match op,P.underlying t with
    | .eql,some .bool=>some (.val (.v (.bool (a==b))))
    | .neq,some .bool=>some (.val (.v (.bool (!(a==b)))))
    |_,_=>none
  | .agg a,.agg b=>(xh P op t (.agg a) (.agg b)).map fun s=> .ask (.fb s)
  |_,_=>none
def kR (σ:aX):List (Nat×Operand)->Option (List (Nat×Value))
  |
    []=>some []
  |(i,x)::r=>
    match σ.get x with
    |some (.v v)=>(kR σ r).map fun l=>(i,v)::l
    |_=>none
def gv (σ:aX):List Operand->Option (List Value)
  |
    []=>some []
  |x::r=>match σ.get x with
    |some (.v v)=>(gv σ r).map fun l=>v::l
    |_=>none
def callee (P:Program) (f:FuncId):Bool:=
  match P.funcs[f]? with
  |some fn=>!(fn.name== "runtime.NumGoroutine" ||fn.body.isNone)
  |none=>false
def uV {α:Type} (P:Program):Sem α->Option α
  | .pure a=>some a
  | .program k=>uV P (k P)
  |_=>none
theorem zW {α:Type} {P:Program} {v:α} {w:World}:∀{s:Sem α},uV P s=some v->s.run P w= .ok v w
  | .pure _,h=>by cases h;rfl
  | .program k,h=>zW (s:=k P) h
def ln (P:Program) (σ:aX) (o:Oper):Option mc:=
  match o.op with
  | .move x| .assign x=>(σ.get x).map .val
  | .pick c a b=>
    match σ.get c with
    |some (.v (.bool t))=>(bif t then σ.get a else σ.get b).map .val
    |_=>none
  | .extract x i=>
    match σ.get x with
    |some (.v (.tuple eT))=>eT.toList[i]?.map fun v=> .val (.v v)
    |_=>none
  | .box T x=>
    match σ.get x with
    |some (.v x)=>some (.new T x.cells.toList)
    |_=>none
  | .alloc T=>
    match (P.info? T).bind (·.zero) with
    |some z=>some (.new T z.cells.toList)
    |none=>none
  | .fieldAddr s x f=>
    match P.underlying s with
    |some (.struct kQ)=>
      match kQ.toList[f]? with
      |some fd=>
        match eZ P fd.type with
        |some (_+1)=>
          match σ.get x with
          |some (.p k o)=>some (.val (.p k (o+fd.offset)))
          |some (.v (.pointer (some ⟨b,o,none⟩)))=>some (.val (.v (aL b (o+fd.offset))))
          |_=>none
        |_=>none
      |none=>none
    |_=>none
  | .load t x=>
    match σ.get x with
    |some (.p k o)=>(σ.aN[k]?).bind fun cs=>(nF P t cs o).map fun v=> .val (.v v)
    |some (.v a)=>some (.ask (.load t a))
    |none=>none
  | .store t x y=>
    match σ.get x,σ.get y with
    |some (.p k o),some (.v v)=>(σ.aN[k]?).bind fun cs=>(oN P t cs o v).map fun D3=> .put k D3
    |_,_=>none
  | .field t x f=>
    match P.underlying t,σ.get x with
    |some (.struct kQ),some (.v (.agg cs))=>(kQ.toList[f]?).bind fun fd=>(partOf P fd.type cs fd.offset).map fun v=> .val (.v v)
    |_,_=>none
  | .indexAddr t x i=>
    match σ.get x,σ.get i with
    |some (.v s),some (.v j)=>some (.ask (.idx t s j))
    |_,_=>none
  | .binOp op t x y _=>
    match σ.get x,σ.get y with
    |some (.v a),some (.v b)=>vz P op t a b
    |_,_=>none
  | .unOp .not _ x=>
    match σ.get x with
    |some (.v (.bool b))=>some (.val (.v (.bool (!b))))
    |_=>none
  | .unOp .neg _ x=>
    match σ.get x with
    |some (.v (.int k n))=>some (.ask (.int .sub k 0 n))
    |_=>none
  | .convert s d x=>
    match σ.get x with
    |some (.v a)=>some (.ask (.fb (convert s d a)))
    |_=>none
  | .slice t x lo hi none=>
    match σ.get x,lo.map σ.get,hi.map σ.get with
    |some (.v s),none,none=>some (.ask (.fb (Instr.sliceAt t s none none none)))
    |some (.v s),some (some (.v a)),none=>some (.ask (.fb (Instr.sliceAt t s (some a) none none)))
    |some (.v s),none,some (some (.v b))=>some (.ask (.fb (Instr.sliceAt t s none (some b) none)))
    |some (.v s),some (some (.v a)),some (some (.v b))=>some (.ask (.fb (Instr.sliceAt t s (some a) (some b) none)))
    |_,_,_=>none
  | .call ⟨.builtin .len,args,r8⟩=>
    match args.toList,r8.toList with
    |[x],[t]=>
      match P.underlying t,σ.get x with
      |some (.slice _),some (.v (.slice _ n _))=>some (.val (.v (O n)))
      |_,_=>none
    |_,_=>none
  | .call ⟨.builtin .min,args,_⟩=>
    match args.toList with
    |[x,y]=>
      match σ.get x,σ.get y with
      |some (.v (.int .i64 a)),some (.v (.int .i64 b))=>some (.val (.v (O (if b<a then b else a))))
      |_,_=>none
    |_=>none
  | .call ⟨.builtin .max,args,_⟩=>
    match args.toList with
    |[x,y]=>
      match σ.get x,σ.get y with
      |some (.v (.int .i64 a)),some (.v (.int .i64 b))=>some (.val (.v (O (if b>a then b else a))))
      |_,_=>none
    |_=>none
  | .call ⟨.value (.func f),args,_⟩=>bif callee P f then(gv σ args.toList).map fun l=> .ask (.call f l) else none
  | .call ⟨.value (.tmp t),args,_⟩=>
    match σ.get (.tmp t) with
    |some (.v (.func (.func f) first captured))=>bif callee P f then(gv σ args.toList).map fun l=> .ask (.call f (first.toList++l++captured.toList)) else none
    |_=>none
  | .build t parts=>(kR σ parts.toList).bind fun l=>(uV P (Instr.build t l.toArray)).map fun v=> .val (.v v)
  | .makeFunc (.func f) first nS=>
    match gv σ first.toList,gv σ nS.toList with
    |some l,some l'=>some (.val (.v (.func (.func f) l.toArray l'.toArray)))
    |_,_=>none
  | .nilCheck x=>
    match σ.get x with
    |some (.p k o)=>some (.val (.p k o))
    |some (.v (.pointer (some kl)))=>some (.val (.v (.pointer (some kl))))
    |_=>none
  |_=>none
def ht (ops:Array Oper) (σ:aX) (o:Oper):Option Bool:=
  match o.guard with
  |none=>some true
  |some (j,want)=>
    match (ops.toList[j]?).bind (·.dst) with
    |none=>none
    |some d=>
      match look σ.env d with
      |some (.v (.bool b))=>some (bif want then b else !b)
      |some (.v (.tuple _))=>some false
      |_=>none
def It (l:List (List Value)) (k:Nat) (cs:List Value):List (List Value):=l.set k cs
def dD (P:Program) (n:Nat) (ops:Array Oper):List Oper->aX->List Value->Option (aX×List (Ask×Value))
  |
    [],σ,_=>some (σ,[])
  |o::r,σ,cU=>
    match ht ops σ o with
    |none=>none
    |some false=>(σ.put n o.dst (.v undef)).bind fun σ'=>dD P n ops r σ' cU
    |some true=>
      match ln P σ o with
      |none=>none
      |some (.val x)=>(σ.put n o.dst x).bind fun σ'=>dD P n ops r σ' cU
      |some (.ask q)=>
        match cU with
        |[]=>none
        |v::od=>(σ.put n o.dst (.v v)).bind fun σ'=>(dD P n ops r σ' od).map fun x=>(x.1,(q,v)::x.2)
      |some (.new _ cs)=>(aX.put n ⟨σ.env,σ.aN++[cs]⟩ o.dst (.p σ.aN.length 0)).bind fun σ'=>dD P n ops r σ' cU
      |some (.put k cs)=>
        match o.dst with
        |none=>dD P n ops r ⟨σ.env,σ.aN.set k cs⟩ cU
        |some _=>none
def aX.keep (σ:aX) (m:Nat):List Nat->Env
  |
    []=>[]
  |t::r=>match look σ.env t with
    |some (.v x)=>(t,.v x)::σ.keep m r
    |some (.p k o)=>bif Nat.blt k m then(t,.p k o)::σ.keep m r else σ.keep m r
    |none=>σ.keep m r
def gA (P:Program) (n:Nat) (ops:Array Oper) (i k:Nat) (σ:aX) (cU:List Value) (keep:List Nat) (m:Nat):Option (aX×List (Ask×Value)):=
  bif Nat.ble (i+k) ops.size then(dD P n ops ((ops.toList.drop i).take k) σ cU).map fun x=>(⟨x.1.keep m keep,x.1.aN.take m⟩,x.2) else none
def Quiet (P:Program) (u:World) (N:ah) (s:Sem Value) (v:Value):Prop:=
  ∀w:World,(∀b,N b->w.heap[b]? =u.heap[b]?)->s.run P w= .ok v w
def AR (P:Program) (u:World) (N:ah) (f:FuncId) (args:List Value) (v:Value):Prop:=
  ∀w:World,(∀b,N b->b<w.heap.size/\w.heap[b]? =u.heap[b]?)->Calls P f args.toArray w fun e w'=>e= .returned v/\aW I w w'
def dn (P:Program) (u:World) (N:ah):Ask->Value->Prop
  | .call f args,v=>AR P u N f args v
  |q,v=>Quiet P u N q.run v
def cm (P:Program) (u:World) (N:ah):List (Ask×Value)->Prop
  |[]=>True
  |c::r=>dn P u N c.1 c.2/\cm P u N r
theorem cm.nil {P:Program} {u:World} {N:ah}:cm P u N []:=trivial
theorem cm.cons {P:Program} {u:World} {N:ah} {q:Ask} {v:Value} {l:List (Ask×Value)} (h:dn P u N q v) (t:cm P u N l):cm P u N ((q,v)::l):=⟨h,t⟩
structure ag (P:Program) (n:Nat) (w0:World) (M:ah) (u:World) (N:ah) (β:Nat->Nat) (σ:aX) (a:Act) (w:World):Prop where
  Jt:a.defers=[]
  ao:a.tmps.size=n
  env:∀t s,look σ.env t=some s->a.tmps[t]? =some (s.val β)
  ok:∀t k o,look σ.env t=some (.p k o)->k<σ.aN.length
  box:∀k cs,σ.aN[k]? =some cs->∃T,w.heap[β k]? =some (.cells cs.toArray T (0,0))
  inj:∀j k,j<σ.aN.length->k<σ.aN.length->β j=β k->j=k
  new:∀k,k<σ.aN.length->w0.heap.size<=β k\/M (β k)
  sep:∀b,N b->b<w.heap.size/\w.heap[b]? =u.heap[b]? /\∀k,k<σ.aN.length->β k≠b
  I7:aW M w0 w
  fZ:∀b,b<w0.heap.size->¬M b->N b/\u.heap[b]? =w0.heap[b]?
section sound
variable {P:Program} {n:Nat} {w0:World} {M:ah} {u:World} {N:ah} {β:Nat->Nat} {σ:aX} {a:Act} {w:World}
theorem ag.get (S:ag P n w0 M u N β σ a w) {x:Operand} {s:cy} (h:σ.get x=some s):a.eval x=s.val β:=by
  cases x with
  |tmp t=>
    have:=S.env t s h;simp [Act.eval,this]
  |const v=>simp [aX.get] at h;subst h;rfl
  |global g=>simp [aX.get] at h
  |func f=>simp [aX.get] at h;subst h;rfl
theorem iw {s t:Nat} {x:cy} {r:Env}:look ((s,x)::r) t=if s=t then some x else look r t:=by
  show(bif Nat.beq s t then some x else look r t)=_;by_cases h:s=t
  · subst h;simp
  · have:Nat.beq s t=false:=by
      cases e:Nat.beq s t with
      |false=>rfl
      |true=>exact absurd (Nat.eq_of_beq_eq_true e) h
    simp [this,h]
theorem ag.put (S:ag P n w0 M u N β σ a w) {f:Option Nat} {x:cy} {σ':aX} (h:σ.put n f x=some σ') (hx:∀k o,x= .p k o->k<σ.aN.length):
    ag P n w0 M u N β σ' (a.put f (x.val β)) w:=by
  cases f with
  |none=>simp [aX.put] at h;subst h;exact S
  |some d=>
    simp only [aX.put] at h;cases hd:Nat.blt d n with
    |false=>rw [hd] at h;simp at h
    |true=>
      rw [hd] at h;simp at h;subst h;have A:d<n:=Nat.le_of_ble_eq_true hd;refine⟨S.Jt,by simp [Act.put,S.ao],fun B s C=>?_,fun B k o C=>?_,S.box,S.inj,S.new,S.sep,S.I7,S.fZ⟩
      · simp only [iw] at C;by_cases e:d=B
        · subst e;simp at C;subst C;simp [Act.put,S.ao,A]
        · simp only [e,if_false] at C;simp only [Act.put,Array.getElem?_setIfInBounds_ne e];exact S.env B s C
      · simp only [iw] at C;by_cases e:d=B
        · simp [e] at C;exact hx k o C
        · simp only [e,if_false] at C;exact S.ok B k o C
theorem ag.push (S:ag P n w0 M u N β σ a w) (d:List Value) (f:TypeId):
    ag P n w0 M u N (fun k=>if k=σ.aN.length then w.heap.size else β k) ⟨σ.env,σ.aN++[d]⟩ a {w with heap:=w.heap.push (.cells d.toArray f)}:=by
  have A:∀k,k<σ.aN.length->β k<w.heap.size:=fun k hk=>by
    obtain⟨B,h⟩:=S.box k _ (List.getElem?_eq_getElem hk);rcases Nat.lt_or_ge (β k) w.heap.size with C|C
    · exact C
    · rw [Array.getElem?_eq_none C] at h;cases h
  refine⟨S.Jt,S.ao,fun C s D=>?_,fun C k F D=>?_,fun k G hk=>?_,fun j k H hk he=>?_,fun k hk=>?_,fun b hb=>?_,S.I7.trans (aW.push M w _),S.fZ⟩
  · rw [S.env C s D];cases s with
    |
      v x=>rfl
    |p k F=>
      have:=S.ok C k F D;have I:k≠σ.aN.length:=Nat.ne_of_lt this;simp [cy.val,I]
  · have:=S.ok C k F D;simp;omega
  · by_cases e:k=σ.aN.length
    · subst e;simp at hk;subst hk;exact⟨f,aM⟩
    · have C:k<σ.aN.length:=by
        have:=(List.getElem?_eq_some_iff.1 hk).1;simp at this;omega
      rw [List.getElem?_append_left C] at hk;obtain⟨B,h⟩:=S.box k G hk;refine⟨B,?_⟩;simp only [e,if_false,Array.getElem?_push];rw [if_neg (by have:=A k C;omega)];exact h
  · simp at H hk;by_cases B:j=σ.aN.length<;>by_cases C:k=σ.aN.length
    · omega
    · simp only [B,C,if_true,if_false] at he;have:=A k V;omega
    · simp only [B,C,if_true,if_false] at he;have:=A j V;omega
    · simp only [B,C,if_false] at he;exact S.inj j k V V he
  · simp at hk;by_cases e:k=σ.aN.length
    · simp only [e,if_true];exact .inl S.I7.size
    · simp only [e,if_false];exact S.new k V
  · obtain⟨h1,ab,aq⟩:=S.sep b hb;refine⟨by simp;omega,?_,fun k hk=>?_⟩
    · simp only [Array.getElem?_push];rw [if_neg V];exact ab
    · simp at hk;by_cases e:k=σ.aN.length
      · simp only [e,if_true];omega
      · simp only [e,if_false];exact aq k V
theorem ag.KH (S:ag P n w0 M u N β σ a w) {k:Nat} {d f:List Value} (hk:σ.aN[k]? =some d):
    ag P n w0 M u N β ⟨σ.env,σ.aN.set k f⟩ a (w.setRow (β k) f.toArray):=by
  have l:k<σ.aN.length:=(List.getElem?_eq_some_iff.1 hk).1;have o:∀b,b≠β k->(w.setRow (β k) f.toArray).heap[b]? =w.heap[b]? :=fun b hb=>by
    simp only [World.setRow,Array.getElem?_modify];rw [if_neg (fun e=>hb e.symm)]
  have q:(w.setRow (β k) f.toArray).heap.size=w.heap.size:=by simp [World.setRow]
  refine⟨S.Jt,S.ao,S.env,fun r j t y=>?_,fun j z A=>?_,fun i j B A=>?_,fun j A=>?_,fun b hb=>?_,?_,S.fZ⟩
  · have:=S.ok r j t y;simpa using this
  · by_cases e:j=k
    · subst e;obtain⟨C,h⟩:=S.box j d hk;have D:(σ.aN.set j f)[j]? =some f:=by simp [l]
      rw [D] at A;simp at A;subst A;exact⟨C,setRow_heap w _ _ _ _ _ h⟩
    · have D:(σ.aN.set k f)[j]? =σ.aN[j]? :=by simp [List.getElem?_set_ne (fun F=>e F.symm)]
      rw [D] at A;obtain⟨C,h⟩:=S.box j z A;have D:j<σ.aN.length:=(List.getElem?_eq_some_iff.1 A).1;exact⟨C,(o _ (fun F=>e (S.inj j k D l F))).trans h⟩
  · exact S.inj i j (by simpa using B) (by simpa using A)
  · exact S.new j (by simpa using A)
  · obtain⟨h1,ab,aq⟩:=S.sep b hb;exact⟨by rw [q];exact h1,(o b (fun e=>aq k l e.symm)).trans ab,fun j A=>aq j (by simpa using A)⟩
  · refine⟨S.I7.os,S.I7.tape,S.I7.output,by rw [q];exact S.I7.size,fun b hb A=>?_⟩;rw [o b (fun e=>(S.new k l).elim (fun h=>by omega) (fun h=>A (e▸h)))];exact S.I7.block b hb A
theorem ag.ext (S:ag P n w0 M u N β σ a w) {d:World} (hc:aW I w d):ag P n w0 M u N β σ a d:=by
  have hb:∀k,k<σ.aN.length->β k<w.heap.size:=fun k hk=>by
    obtain⟨A,h⟩:=S.box k _ (List.getElem?_eq_getElem hk);rcases Nat.lt_or_ge (β k) w.heap.size with A|A
    · exact A
    · rw [Array.getElem?_eq_none A] at h;cases h
  refine⟨S.Jt,S.ao,S.env,S.ok,fun k A hk=>?_,S.inj,S.new,fun b B=>?_,S.I7.step hc (fun _ _ C=>C.elim),S.fZ⟩
  · obtain⟨D,h⟩:=S.box k A hk;exact⟨D,(hc.block _ (hb k (List.getElem?_eq_some_iff.1 hk).1) (fun C=>C)).trans h⟩
  · obtain⟨h1,ab,aq⟩:=S.sep b B;exact⟨Nat.lt_of_lt_of_le h1 hc.size,(hc.block _ h1 (fun C=>C)).trans ab,aq⟩
end sound
end Go.Proofs.YtkggcdhigchepaaGreat
namespace Go.Proofs.YtkggcdhigchepaaGreat
open Go
section
variable {P:Program} {n:Nat} {w0:World} {M:ah} {u:World} {N:ah} {β:Nat->Nat} {σ:aX} {a:Act} {w:World}
theorem AF {t:TypeId} {s:Nat} (h:eZ P t=some s):(P.info? t).map (·.size)=some s:=h
theorem nq {t:TypeId} {s:Nat} (h:eZ P t=some s) (w:World):(sizeOf t).run P w= .ok s w:=by
  unfold eZ at h;cases hi:P.info? t with
  |none=>simp [hi] at h
  |some i=>simp [hi] at h;subst h;simp [sizeOf,typeInfo,hi]
theorem vg {t:TypeId} (h:gu P t=some true):∃d,P.underlying t=some d/\d.isRow=true:=by
  unfold gu at h;split at h<;>first|exact⟨_,‹_›,rfl⟩|cases h
theorem rB {t:TypeId} (h:gu P t=some false) (w:World):(isAgg t).run P w= .ok false w:=by
  unfold gu at h;split at h
  · cases h
  · cases h
  · rename_i d f l o;unfold isAgg;rw [Sem.run_bind,run_underlying o w];cases d<;>first|rfl|exact absurd rfl (f _)|exact absurd rfl (l _ _)
  · cases h
theorem z4 {t:TypeId} {f:List Value} {o b:Nat} {v:Value} {r:TypeId} {w:World} (hb:w.heap[b]? =some (.cells f.toArray r (0,0))) (h:nF P t f o=some v):
    (Instr.loadAt t (aL b o)).run P w= .ok v w:=by
  have hc:∀j x,f[j]? =some x->w.cell? ⟨b,j,none⟩=some x:=fun j x d=>by simp [World.cell?,hb,d]
  unfold nF at h;split at h
  · rename_i s l q;cases hl:Nat.ble (o+s) f.length with
    |
      false=>rw [hl] at h;simp at h
    |true=>
      rw [hl] at h;simp at h;subst h;obtain⟨y,z,aU⟩:=vg l;have A:o+s<=f.length:=Nat.le_of_ble_eq_true hl;refine run_loadAt_mid w b o t ((f.drop o).take s) y (fun j x d=>?_) z aU (by rw [AF q];simp;omega);rw [List.getElem?_take] at d;split at d
      · rw [List.getElem?_drop] at d;exact hc _ _ d
      · cases d
  · rename_i s l q;have hx:=hc o v h;simp only [Instr.loadAt,Instr.sureAddr,Sem.run_bind,Sem.run_pure,Result.andThen_ok,loadVar,rB l,Bool.false_eq_true,if_false,run_load,hx]
  · cases h
theorem GC {t:TypeId} {d l:List Value} {o b:Nat} {v:Value} {q:TypeId} {w:World} (hb:w.heap[b]? =some (.cells d.toArray q (0,0))) (h:oN P t d o v=some l):
    (Instr.storeAt t (aL b o) v).run P w= .ok () (w.setRow b l.toArray):=by
  unfold oN at h;split at h
  · rename_i s r;cases hl:(Nat.beq v.cells.toList.length s&&Nat.ble (o+s) d.length&&v.cells.toList.all (·.oneCell')) with
    |
      false=>rw [hl] at h;simp at h
    |true=>
      rw [hl] at h;simp only [cond_true,Option.some.injEq] at h;simp only [Bool.and_eq_true] at hl;obtain⟨⟨h1,ab⟩,aq⟩:=hl;have f:v.cells.toList.length=s:=Nat.eq_of_beq_eq_true h1;have y:o+s<=d.length:=Nat.le_of_ble_eq_true ab;have:=run_storeCells_at (P:=P) b o q v.cells.toList 0 d.toArray w hb (by simp at f ⊢;omega) (fun x hx=>List.all_eq_true.1 aq x hx);simp only [Nat.add_zero] at this;simp only [Instr.storeAt,Instr.sureAddr,Sem.run_bind,Sem.run_pure,Result.andThen_ok,storeVar,nq r];rw [if_neg (by simp at f ⊢;exact f)];rw [this];subst h;rw [f]
  · cases h
theorem GF {t:TypeId} {d:Array Value} {o:Nat} {v:Value} (h:partOf P t d o=some v) (w:World):(part t d o).run P w= .ok v w:=by
  unfold partOf at h;split at h
  · rename_i s f l;simp at h;subst h;obtain⟨q,r,aU⟩:=vg f;have y:(isAgg t).run P w= .ok true w:=by
      unfold isAgg;rw [Sem.run_bind,run_underlying r w];cases q<;>simp_all
    simp [part,y,nq l]
  · rename_i s f l;have z:d[o]? =some v:=by simpa using h
    simp [part,rB f,z]
  · cases h
def nC (P:Program) (β:Nat->Nat) (σ:aX) (s:Sem Next) (w:World):mc->Prop
  | .val x=>s.run P w= .ok (.value (x.val β)) w/\∀k f,x= .p k f->k<σ.aN.length
  | .ask (.call f args)=>s.run P w= .ok (.enter f args.toArray) w
  | .ask q=>∀v,q.run.run P w= .ok v w->s.run P w= .ok (.value v) w
  | .new T cs=>s.run P w= .ok (.value (aL w.heap.size 0)) {w with heap:=w.heap.push (.cells cs.toArray T)}
  | .put k cs=>s.run P w= .ok .skip (w.setRow (β k) cs.toArray)/\∃fZ,σ.aN[k]? =some fZ
theorem ag.JZ (S:ag P n w0 M u N β σ a w) {x:Operand} {k f:Nat} (h:σ.get x=some (.p k f)):k<σ.aN.length:=by
  cases x with
  |tmp t=>exact S.ok t k f h
  |const v=>simp [aX.get] at h
  |global g=>simp [aX.get] at h
  |func g=>simp [aX.get] at h
theorem E2 {d:BinOp} {k:IntKind} {x y:Int} {f:mc} (h:ti d k x y=some f) (s:Sem Next) (hs:s.run P w=((qd d k x y).run P w).andThen fun v l=> .ok (.value v) l):nC P β σ s w f:=by
  cases d<;>simp only [ti,Option.some.injEq,reduceCtorEq] at h<;>subst h<;>
    first
      |(refine⟨?_,fun _ _ A=>by cases A⟩;rw [hs];rfl)
      |(intro v A;rw [hs];simp only [Ask.run] at A;rw [A];rfl)
theorem D5 (d:BinOp) (t:TypeId) (x y:Operand) (k f:IntKind) (i j:Int):(eqGuard d t x y (.int k i) (.int f j)).run P w= .ok () w:=by
  cases d<;>simp [eqGuard]
theorem xf (d:BinOp) (t:TypeId) (x y:Operand) (i j:Bool):(eqGuard d t x y (.bool i) (.bool j)).run P w= .ok () w:=by
  cases d<;>simp [eqGuard]
theorem xe (d:BinOp) (t:TypeId) (x y:Operand) (i j:Array Value) (h:P.eqGuardType P.depth t=false):(eqGuard d t x y (.agg i) (.agg j)).run P w= .ok () w:=by
  cases d<;>simp [eqGuard,h]
theorem D7 {t:TypeId} (hu:P.underlying t=some .bool) (i j:Bool) (w:World) (d:Nat):(Op.equalIn (d+1) t (.bool i) (.bool j)).run P w= .ok (i==j) w:=by
  simp only [Op.equalIn,Sem.run_bind,run_underlying hu,Result.andThen_ok,Sem.run_pure]
theorem xj {t:TypeId} (hu:P.underlying t=some .bool) (i j:Bool) (w:World):(Op.equal t (.bool i) (.bool j)).run P w= .ok (i==j) w:=
  D7 hu i j w 9999
theorem s3 (S:ag P n w0 M u N β σ a w):∀(d:List (Nat×Operand)) (l:List (Nat×Value)),kR σ d=some l->d.map (fun(i,x)=>(i,a.eval x))=l
  |
    [],l,h=>by simp [kR] at h;subst h;rfl
  |(i,x)::r,l,h=>by
    unfold kR at h;split at h
    · rename_i v hx;cases aU:kR σ r with
      |
        none=>simp [aU] at h
      |some l'=>
        simp [aU] at h;subst h;simp only [List.map_cons,s3 S r l' aU,S.get hx];rfl
    · cases h
theorem ma (S:ag P n w0 M u N β σ a w):∀(l:List Operand) (d:List Value),gv σ l=some d->l.map a.eval=d
  |
    [],d,h=>by simp [gv] at h;subst h;rfl
  |x::r,d,h=>by
    simp only [gv] at h;split at h
    · rename_i v hx;cases hl:gv σ r with
      |
        none=>simp [hl] at h
      |some l=>
        simp [hl] at h;subst h;simp [ma S r l hl,S.get hx,cy.val]
    · cases h
theorem GD {f:FuncId} {o:Array Operand} {r:Array TypeId} {l:List Value} (aF:callee P f=true) (t:o.map a.eval=l.toArray) (ty:TypeId) (w:World):
    (do let d ←resolve a.eval ⟨.value (.func f),o,r⟩ ty;invoke d.target d.args:Sem Next).run P w= .ok (.enter f l.toArray) w:=by
  unfold callee at aF;split at aF
  · rename_i q y;simp only [Bool.not_eq_true',Bool.or_eq_false_iff] at aF;have z:q.name≠ "runtime.NumGoroutine" :=fun e=>by rw [e] at aF;simp at aF
    have A:¬q.body=none:=fun e=>by rw [e] at aF;simp at aF
    simp only [resolve,t,Act.eval,Deferred.ofValue];simp [invoke,callFunc,y,z,A]
  · cases aF
theorem z5 {x:Operand} {f:FuncId} {first o:Array Value} {q:Array Operand} {t:Array TypeId} {l:List Value} (hx:a.eval x= .func (.func f) first o) (aF:callee P f=true) (y:q.map a.eval=l.toArray) (ty:TypeId) (w:World):
    (do let d ←resolve a.eval ⟨.value x,q,t⟩ ty;invoke d.target d.args:Sem Next).run P w= .ok (.enter f (first.toList++l++o.toList).toArray) w:=by
  unfold callee at aF;split at aF
  · rename_i r z;simp only [Bool.not_eq_true',Bool.or_eq_false_iff] at aF;have A:r.name≠ "runtime.NumGoroutine" :=fun e=>by rw [e] at aF;simp at aF
    have B:¬r.body=none:=fun e=>by rw [e] at aF;simp at aF
    simp only [resolve,y,hx,Deferred.ofValue];simp [invoke,callFunc,z,A,B]
  · cases aF
set_option maxHeartbeats 2000000 in
theorem gD (S:ag P n w0 M u N β σ a w) {o:Oper} {ad:mc} (h:ln P σ o=some ad):nC P β σ (execOp a.eval o) w ad:=by
  unfold ln at h;unfold execOp;split at h
  · --move
    rename_i x d;simp only [d];cases hx:σ.get x with
    |none=>simp [hx] at h
    |some s=>simp [hx] at h;subst h;exact⟨by rw [S.get hx];rfl,fun k r e=>S.JZ (e▸hx)⟩
  · rename_i x d;simp only [d];cases hx:σ.get x with
    |none=>simp [hx] at h
    |some s=>simp [hx] at h;subst h;exact⟨by rw [S.get hx];rfl,fun k r e=>S.JZ (e▸hx)⟩
  · --pick
    rename_i c x y d;simp only [d];split at h
    · rename_i l hc;have e:=S.get hc;cases l with
      |
        true=>
        cases hx:σ.get x with
        |none=>simp [hx] at h
        |some s=>
          simp [hx] at h;subst h;refine⟨?_,fun k r e=>S.JZ (e▸hx)⟩;rw [e,S.get hx];simp [asBool,cy.val]
      |false=>
        cases hx:σ.get y with
        |none=>simp [hx] at h
        |some s=>
          simp [hx] at h;subst h;refine⟨?_,fun k r e=>S.JZ (e▸hx)⟩;rw [e,S.get hx];simp [asBool,cy.val]
    · cases h
  · --extract
    rename_i x i d;simp only [d];split at h
    · rename_i ae hx;have e:=S.get hx;cases f:ae.toList[i]? with
      |
        none=>simp only [f,Option.map_none,reduceCtorEq] at h
      |some v=>
        simp only [f,Option.map_some,Option.some.injEq] at h;subst h;have aj:ae[i]? =some v:=by simpa using f
        refine⟨?_,fun _ _ q=>by cases q⟩;rw [e];simp [Instr.extract,cy.val,aj]
    · cases h
  · --box
    rename_i G x d;simp only [d];split at h
    · rename_i v hx;simp at h;subst h;rw [S.get hx];show(do pure (.value (←Instr.box G v)):Sem Next).run P w=_;simp [Instr.box,newVar,newRow]
    · cases h
  · --alloc
    rename_i G d;simp only [d];split at h
    · rename_i aB T;simp at h;subst h;cases z:P.info? G with
      |
        none=>simp [z] at T
      |some i=>
        simp only [z,Option.bind_some] at T;show(do pure (.value (←Instr.alloc G true (.tuple #[]))):Sem Next).run P w=_;simp [Instr.alloc,zeroValue,typeInfo,z,T,newVar,newRow]
    · cases h
  · --fieldAddr
    rename_i s x r d;simp only [d];split at h
    · rename_i O hu;split at h
      · rename_i H aF;split at h
        · rename_i ak U;have W:O[r]? =some H:=by simpa using aF
          have I:∀(b o:Nat),a.eval x=aL b o->(do pure (Next.value (←Instr.fieldAt s (a.eval x) r)):Sem Next).run P w= .ok (.value (aL b (o+H.offset))) w:=fun b o hx=>by
            rw [hx];simp [Instr.fieldAt,run_underlying hu,W,Instr.sureAddr,fieldPlace,nq U,Addr.add_mid]
          split at h
          · rename_i k o hx;simp at h;subst h;exact⟨I _ _ (S.get hx),fun Q aC e=>by cases e;exact S.JZ hx⟩
          · rename_i b o hx;simp at h;subst h;exact⟨I _ _ (S.get hx),fun _ _ q=>by cases q⟩
          · cases h
        · cases h
      · cases h
    · cases h
  · --load
    rename_i l x d;simp only [d];split at h
    · rename_i k r hx;cases hc:σ.aN[k]? with
      |
        none=>simp [hc] at h
      |some A=>
        simp only [hc,Option.bind_some] at h;cases f:nF P l A r with
        |none=>simp [f] at h
        |some v=>
          simp [f] at h;subst h;obtain⟨G,hb⟩:=S.box k A hc;refine⟨?_,fun _ _ q=>by cases q⟩;rw [S.get hx];show(do pure (.value (←Instr.loadAt l (aL (β k) r))):Sem Next).run P w=_;rw [Sem.run_bind,z4 hb f];rfl
    · rename_i v hx;simp at h;subst h;intro J aU;rw [S.get hx];show(do pure (.value (←Instr.loadAt l v)):Sem Next).run P w=_;rw [Sem.run_bind];simp only [Ask.run] at aU;rw [aU];rfl
    · cases h
  · --store
    rename_i l x y d;simp only [d];split at h
    · rename_i k r v hx C;cases hc:σ.aN[k]? with
      |
        none=>simp [hc] at h
      |some A=>
        simp only [hc,Option.bind_some] at h;cases f:oN P l A r v with
        |none=>simp [f] at h
        |some aE=>
          simp [f] at h;subst h;obtain⟨G,hb⟩:=S.box k A hc;refine⟨?_,A,hc⟩;rw [S.get hx,S.get C];show(do Instr.storeAt l (aL (β k) r) v;pure .skip:Sem Next).run P w=_;rw [Sem.run_bind,GC hb f];rfl
    · cases h
  · --field
    rename_i l x r d;simp only [d];split at h
    · rename_i O A hu hx;cases aF:O.toList[r]? with
      |
        none=>simp only [aF,Option.bind_none,reduceCtorEq] at h
      |some H=>
        simp only [aF,Option.bind_some] at h;cases f:partOf P H.type A H.offset with
        |none=>simp [f] at h
        |some v=>
          simp [f] at h;subst h;have W:O[r]? =some H:=by simpa using aF
          refine⟨?_,fun _ _ q=>by cases q⟩;rw [S.get hx];show(do pure (.value (←Instr.field l (.agg A) r)):Sem Next).run P w=_;simp [Instr.field,run_underlying hu,W,asAgg,GF f,cy.val]
    · cases h
  · --indexAddr
    rename_i l x i d;simp only [d];split at h
    · rename_i s j hx z;simp at h;subst h;intro J aU;rw [S.get hx,S.get z];simp only [Ask.run] at aU;show(do pure (.value (←Instr.indexAt l s j)):Sem Next).run P w=_;rw [Sem.run_bind,aU];rfl
    · cases h
  · --binOp
    rename_i R l x y aI d;simp only [d];split at h
    · rename_i aK aM hx C;rw [S.get hx,S.get C];unfold vz at h;split at h
      · rename_i k i Q j;have I:∀s:Sem Value,Go.binOp R l (.int k i) (.int Q j)=s->(do pure (.value (←(do eqGuard R l x y (.int k i) (.int Q j);Go.binOp R l (.int k i) (.int Q j)))):Sem Next).run P w=(s.run P w).andThen fun v al=> .ok (.value v) al:=fun s U=>by
          simp [D5,U]
        split at h
        · simp at h;subst h;intro v f;have:=I _ rfl;simp only [Ask.run] at f;refine this.trans ?_;unfold Go.binOp;rw [f];rfl
        · simp at h;subst h;intro v f;have:=I _ rfl;simp only [Ask.run] at f;refine this.trans ?_;unfold Go.binOp;rw [f];rfl
        · rename_i am ao;split at h
          · rename_i hk;subst hk;refine E2 h _ ?_;refine(I _ rfl).trans ?_
            congr 2
            cases R<;>first|exact absurd rfl am|exact absurd rfl ao|(simp [Go.binOp,qd])
          · cases h
      · rename_i i j;split at h
        · rename_i hu;simp at h;subst h;refine⟨?_,fun _ _ q=>by cases q⟩;show(do pure (.value (←(do eqGuard .eql l x y (.bool i) (.bool j);pure (.bool (←Op.equal l (.bool i) (.bool j)))))):Sem Next).run P w=_;simp only [Sem.run_bind,xf,Result.andThen_ok,xj hu,Sem.run_pure,cy.val]
        · rename_i hu;simp at h;subst h;refine⟨?_,fun _ _ q=>by cases q⟩;show(do pure (.value (←(do eqGuard .neq l x y (.bool i) (.bool j);pure (.bool (!(←Op.equal l (.bool i) (.bool j))))))):Sem Next).run P w=_;simp only [Sem.run_bind,xf,Result.andThen_ok,xj hu,Sem.run_pure,cy.val]
        · cases h
      · rename_i i j;unfold xh at h;split at h
        · rename_i aA;simp only [Option.map_some,Option.some.injEq] at h;subst h;intro v f;simp only [Ask.run] at f;show(do pure (.value (←(do eqGuard .eql l x y (.agg i) (.agg j);Go.binOp .eql l (.agg i) (.agg j)))):Sem Next).run P w=_;rw [Sem.run_bind,Sem.run_bind,xe _ _ _ _ _ _ aA];show((Go.binOp .eql l (.agg i) (.agg j)).run P w).andThen _=_;unfold Go.binOp;rw [f];rfl
        · rename_i aA;simp only [Option.map_some,Option.some.injEq] at h;subst h;intro v f;simp only [Ask.run] at f;show(do pure (.value (←(do eqGuard .neq l x y (.agg i) (.agg j);Go.binOp .neq l (.agg i) (.agg j)))):Sem Next).run P w=_;rw [Sem.run_bind,Sem.run_bind,xe _ _ _ _ _ _ aA];show((Go.binOp .neq l (.agg i) (.agg j)).run P w).andThen _=_;unfold Go.binOp;rw [f];rfl
        · simp at h
      · cases h
    · cases h
  · --not
    rename_i l x d;simp only [d];split at h
    · rename_i b hx;simp at h;subst h;refine⟨?_,fun _ _ q=>by cases q⟩;rw [S.get hx];rfl
    · cases h
  · --neg
    rename_i l x d;simp only [d];split at h
    · rename_i k m hx;simp at h;subst h;intro v f;simp only [Ask.run] at f;rw [S.get hx];show(do pure (.value (←Op.unary .neg (.int k m))):Sem Next).run P w=_;rw [Sem.run_bind];show((Op.intArith .sub k 0 m).run P w).andThen _=_;simp only [qd] at f;rw [f];rfl
    · cases h
  · --convert
    rename_i s ap x d;simp only [d];split at h
    · rename_i v hx;simp at h;subst h;intro J aU;simp only [Ask.run] at aU;rw [S.get hx];show(do pure (.value (←convert s ap v)):Sem Next).run P w=_;rw [Sem.run_bind,aU];rfl
    · cases h
  · --slice
    rename_i l x lo z d;simp only [d];split at h
    · rename_i s hx t q;cases lo<;>simp at t;cases z<;>simp at q;simp at h;subst h;intro J aU;simp only [Ask.run] at aU;simp only [S.get hx,Option.map_none];show(do pure (.value (←Instr.sliceAt l s none none none)):Sem Next).run P w=_;rw [Sem.run_bind,aU];rfl
    · rename_i s v hx t q;cases lo<;>simp at t;cases z<;>simp at q;simp at h;subst h;intro J aU;simp only [Ask.run] at aU;simp only [S.get hx,S.get t,Option.map_none,Option.map_some];show(do pure (.value (←Instr.sliceAt l s (some v) none none)):Sem Next).run P w=_;rw [Sem.run_bind,aU];rfl
    · rename_i s v hx t q;cases lo<;>simp at t;cases z<;>simp at q;simp at h;subst h;intro J aU;simp only [Ask.run] at aU;simp only [S.get hx,S.get q,Option.map_none,Option.map_some];show(do pure (.value (←Instr.sliceAt l s none (some v) none)):Sem Next).run P w=_;rw [Sem.run_bind,aU];rfl
    · rename_i s ar au hx t q;cases lo<;>simp at t;cases z<;>simp at q;simp at h;subst h;intro J aU;simp only [Ask.run] at aU;simp only [S.get hx,S.get t,S.get q,Option.map_none,Option.map_some];show(do pure (.value (←Instr.sliceAt l s (some ar) (some au) none)):Sem Next).run P w=_;rw [Sem.run_bind,aU];rfl
    · cases h
  · --len
    rename_i B D d;simp only [d];split at h
    · rename_i x l L ax;split at h
      · rename_i e ak m c hu hx;simp at h;subst h;refine⟨?_,fun _ _ q=>by cases q⟩;have F:B=#[x]:=by rw [←Array.toList_inj];exact L
        have X:D=#[l]:=by rw [←Array.toList_inj];exact ax
        subst F X;simp only [resolve,List.map_toArray,List.map_cons,List.map_nil,S.get hx];show(do let v ←Builtin.len_ #[l] o.type #[_];pure (Next.value v):Sem Next).run P w=_;simp [Builtin.len_,run_underlying hu,goInt,cy.val]
      · cases h
    · cases h
  · --min
    rename_i B D d;simp only [d];split at h
    · rename_i x y L;split at h
      · rename_i i j hx C;simp at h;subst h;refine⟨?_,fun _ _ q=>by cases q⟩;have F:B=#[x,y]:=by rw [←Array.toList_inj];exact L
        subst F;simp only [resolve,List.map_toArray,List.map_cons,List.map_nil,S.get hx,S.get C];show(do let v ←Builtin.min_ D o.type #[.int .i64 i,.int .i64 j];pure (Next.value v):Sem Next).run P w=_;simp [Builtin.min_,Builtin.min2,cy.val]
      · cases h
    · cases h
  · --max
    rename_i B D d;simp only [d];split at h
    · rename_i x y L;split at h
      · rename_i i j hx C;simp at h;subst h;refine⟨?_,fun _ _ q=>by cases q⟩;have F:B=#[x,y]:=by rw [←Array.toList_inj];exact L
        subst F;simp only [resolve,List.map_toArray,List.map_cons,List.map_nil,S.get hx,S.get C];show(do let v ←Builtin.max_ D o.type #[.int .i64 i,.int .i64 j];pure (Next.value v):Sem Next).run P w=_;simp [Builtin.max_,Builtin.max2,cy.val]
      · cases h
    · cases h
  · --call
    rename_i r B D d;simp only [d];cases hc:callee P r with
    |false=>rw [hc] at h;cases h
    |true=>
      rw [hc] at h;simp only [cond_true] at h;cases f:gv σ B.toList with
      |none=>simp [f] at h
      |some K=>
        simp [f] at h;subst h;exact GD hc (by rw [←Array.toList_inj];simpa using ma S _ _ f) _ w
  · --call of a function value
    rename_i l B D d;simp only [d];split at h
    · rename_i r first aN hx
      have e:=S.get hx;cases hc:callee P r with
      |false=>rw [hc] at h;cases h
      |true=>
        rw [hc] at h;simp only [cond_true] at h;cases f:gv σ B.toList with
        |none=>simp [f] at h
        |some K=>
          rw [f] at h;simp only [Option.map_some,Option.some.injEq] at h;subst h;exact z5 (l:=K) (x:= .tmp l) e hc (by rw [←Array.toList_inj];simpa using ma S _ _ f) _ w
    · cases h
  · --build
    rename_i l Y d;simp only [d];cases t:kR σ Y.toList with
    |none=>simp [t] at h
    |some K=>
      simp only [t,Option.bind_some,Option.map_eq_some_iff] at h;obtain⟨v,f,rfl⟩:=h;refine⟨?_,fun _ _ q=>by cases q⟩;have e:(Y.map fun(i,x)=>(i,a.eval x))=K.toArray:=by
        rw [←Array.toList_inj]
        simpa using s3 S _ _ t
      show(do pure (.value (←Instr.build l (Y.map fun(i,x)=>(i,a.eval x)))):Sem Next).run P w=_;rw [e,Sem.run_bind,zW f];rfl
  · --makeFunc
    rename_i r first af d
    simp only [d];split at h
    · rename_i K az h1 ab;simp only [Option.some.injEq] at h;subst h;refine⟨?_,fun _ _ q=>by cases q⟩;have F:first.map a.eval=K.toArray:=by rw [←Array.toList_inj];simpa using ma S _ _ h1
      have X:af.map a.eval=az.toArray:=by rw [←Array.toList_inj];simpa using ma S _ _ ab
      show(do pure (.value (←Instr.makeFunc (.func r) (first.map a.eval) (af.map a.eval))):Sem Next).run P w=_;rw [F,X];rfl
    · cases h
  · --nilCheck
    rename_i x d;simp only [d];split at h
    · rename_i k o hx;simp only [Option.some.injEq] at h;subst h;exact⟨by rw [S.get hx];rfl,fun k r e=>by cases e;exact S.JZ hx⟩
    · rename_i aO hx;simp only [Option.some.injEq] at h;subst h;exact⟨by rw [S.get hx];rfl,fun _ _ q=>by cases q⟩
    · cases h
  · cases h
end
end Go.Proofs.YtkggcdhigchepaaGreat
namespace Go.Proofs.YtkggcdhigchepaaGreat
open Go
def e3 (P:Program) (ops:Array Oper) (Q:Exit->Act->World->Prop) (i:Nat) (a:Act) (w:World):Prop:=
  wpOps P ops Q (List.range' i (ops.size-i)) a w
section
variable {P:Program} {n:Nat} {w0:World} {M:ah} {u:World} {N:ah} {β:Nat->Nat} {σ σ':aX} {a:Act} {w:World} {ops:Array Oper} {Q:Exit->Act->World->Prop}
theorem e3.start {id:Nat} (h:e3 P ops Q 0 a w):(Code.region id ops false).wp P Q a w:=by
  refine wp_region ?_;rw [List.range_eq_range'];exact h
theorem e3.done {i:Nat} (hi:Nat.ble ops.size i=true) (h:Q .normal a w):e3 P ops Q i a w:=by
  have:ops.size<=i:=Nat.le_of_ble_eq_true hi;unfold e3;rw [show ops.size-i=0 by omega];exact h
theorem gM (S:ag P n w0 M u N β σ a w) {o:Oper} {b:Bool} (h:ht ops σ o=some b):Region.wanted o (yielded ops a.tmps)=b:=by
  unfold ht at h;unfold Region.wanted;split at h
  · rename_i aA;rw [aA];simpa using h
  · rename_i j l aA;rw [aA];split at h
    · cases h
    · rename_i d r;have q:(ops[j]?).bind (·.dst)=some d:=by simpa using r
      split at h
      · rename_i c f;have:=S.env d _ f;simp only [cy.val] at this;simp only [yielded,q,Option.bind_some,this];simp at h;subst h;cases l<;>cases c<;>rfl
      · rename_i t f;have:=S.env d _ f;simp only [cy.val] at this;simp only [yielded,q,Option.bind_some,this];simp at h;subst h;cases l<;>rfl
      · cases h
theorem sU (σ':aX) (C:List Nat):∀(l:List Oper) (j:Nat) (σ:aX) (a:Act) (w:World) (β:Nat->Nat) (claims:List (Ask×Value)),
    (∀t o,l[t]? =some o->ops[j+t]? =some o)->dD P n ops l σ (claims.map (·.2))=some (σ',claims)->cm P u N claims->ag P n w0 M u N β σ a w->
    (∀G q β',ag P n w0 M u N β' σ' G q->wpOps P ops Q C G q)->wpOps P ops Q (List.range' j l.length++C) a w
  |
    [],j,σ,a,w,β,claims,_,d,_,S,K=>by
    simp only [dD,Option.some.injEq,Prod.mk.injEq] at d;obtain⟨rfl,_⟩:=d;exact K a w β S
  |o::l,j,σ,a,w,β,claims,hl,d,z,S,K=>by
    have L:ops[j]? =some o:=by simpa using hl 0 o rfl
    have A:∀t D,l[t]? =some D->ops[j+1+t]? =some D:=fun t D O=>by
      have:=hl (t+1) D (by simpa using O);rwa [show j+1+t=j+(t+1) by omega]
    have B:=sU σ' C l (j+1);simp only [List.length_cons,List.range'_succ,List.cons_append];rw [wpOps_cons];unfold wpOp;simp only [L];simp only [dD] at d;split at d
    · cases d
    · rename_i aA;rw [gM S aA];simp only [Bool.false_eq_true,if_false];cases aY:σ.put n o.dst (.v undef) with
      |
        none=>rw [aY] at d;cases d
      |some y=>
        rw [aY] at d;exact B y _ w β claims A d z (S.put aY (fun _ _ e=>by cases e)) K
    · rename_i aA;rw [gM S aA];simp only [if_true];left;unfold Oper.wp;split at d
      · cases d
      · rename_i x hx;obtain⟨h1,ab⟩:=gD S hx;rw [h1];simp only [Oper.upon];cases aY:σ.put n o.dst x with
        |
          none=>rw [aY] at d;cases d
        |some y=>
          rw [aY] at d;exact B y _ w β claims A d z (S.put aY ab) K
      · rename_i R hx;have h1:=gD S hx;split at d
        · cases d
        · rename_i v T he;cases aY:σ.put n o.dst (.v v) with
          |
            none=>rw [aY] at d;cases d
          |some y=>
            rw [aY] at d;simp only [Option.bind_some] at d;cases aU:dD P n ops l y T with
            |none=>rw [aU] at d;cases d
            |some r=>
              rw [aU] at d;simp only [Option.map_some,Option.some.injEq,Prod.mk.injEq] at d;obtain⟨U,W⟩:=d;subst W;simp only [List.map_cons,List.cons.injEq,true_and] at he;have X:=S.put aY (fun _ _ e=>by cases e);have H:∀q,aW I w q->wpOps P ops Q (List.range' (j+1) l.length++C) (a.put o.dst v) q:=fun q Y=>
                B y _ q β r.2 A (by rw [he,aU,←U]) z.2 (X.ext Y) K
              cases R with
              |call f args=>
                simp only [nC] at h1;rw [h1,Oper.upon_enter];refine(z.1 w (fun b hb=>⟨(S.sep b hb).1,(S.sep b hb).2.1⟩)).mono fun e q ⟨aq,bg⟩=>?_;subst aq;exact H q bg
              |_=>
                have ab:=h1 v (z.1 w (fun b hb=>(S.sep b hb).2.1));rw [ab];exact H w (aW.refl _ _)
      · rename_i ad F hx;have h1:=gD S hx;rw [h1];simp only [Oper.upon];have ae:=S.push F ad;cases aY:aX.put n ⟨σ.env,σ.aN++[F]⟩ o.dst (.p σ.aN.length 0) with
        |
          none=>rw [aY] at d;cases d
        |some y=>
          rw [aY] at d;have J:=ae.put aY (fun k o e=>by cases e;simp);have e:(cy.p σ.aN.length 0).val (fun k=>if k=σ.aN.length then w.heap.size else β k)=aL w.heap.size 0:=by simp [cy.val]
          rw [e] at J;exact B y _ _ _ claims A d z J K
      · rename_i k F hx;obtain⟨h1,aj,ab⟩:=gD S hx;rw [h1];simp only [Oper.upon];split at d
        · rename_i af;rw [af];exact B _ _ _ β claims A d z (S.KH ab) K
        · cases d
theorem j2 (m:Nat):∀(l:List Nat) (t:Nat) (s:cy),look (σ.keep m l) t=some s->look σ.env t=some s/\∀k o,s= .p k o->k<m
  |
    [],t,s,h=>by simp [aX.keep,look] at h
  |x::r,t,s,h=>by
    unfold aX.keep at h;split at h
    · rename_i v d;rw [iw] at h;split at h
      · rename_i e;subst e;simp at h;subst h;exact⟨d,fun _ _ e=>by cases e⟩
      · exact j2 m r t s h
    · rename_i k o d;cases hb:Nat.blt k m with
      |
        false=>rw [hb] at h;exact j2 m r t s h
      |true=>
        rw [hb] at h;simp only [cond_true,iw] at h;split at h
        · rename_i e;subst e;simp at h;subst h;exact⟨d,fun _ _ e=>by cases e;exact Nat.le_of_ble_eq_true hb⟩
        · exact j2 m r t s h
    · exact j2 m r t s h
theorem ag.weaken (S:ag P n w0 M u N β σ a w) (m:Nat) (l:List Nat) (hm:∀t k o,look (σ.keep m l) t=some (.p k o)->k<(σ.aN.take m).length):ag P n w0 M u N β ⟨σ.keep m l,σ.aN.take m⟩ a w:=by
  have d:(σ.aN.take m).length<=σ.aN.length:=by simp;omega
  refine⟨S.Jt,S.ao,fun t s h=>S.env t s (j2 m l t s h).1,hm,fun k f h=>S.box k f ?_,fun j k q hk=>S.inj j k (Nat.lt_of_lt_of_le q d) (Nat.lt_of_lt_of_le hk d),fun k hk=>S.new k (Nat.lt_of_lt_of_le hk d),fun b hb=>?_,S.I7,S.fZ⟩
  · rw [List.getElem?_take] at h;split at h
    · exact h
    · cases h
  · obtain⟨h1,ab,aq⟩:=S.sep b hb;exact⟨h1,ab,fun k hk=>aq k (Nat.lt_of_lt_of_le hk d)⟩
theorem ag.quiet (S:ag P n w0 M u N β σ a w) {i k:Nat} {claims:List (Ask×Value)} {keep:List Nat} {m:Nat} (d:cm P u N claims)
    (f:gA P n ops i k σ (claims.map (·.2)) keep m=some (σ',claims)) (K:∀l o β',ag P n w0 M u N β' σ' l o->e3 P ops Q (i+k) l o):e3 P ops Q i a w:=by
  unfold gA at f;cases hb:Nat.ble (i+k) ops.size with
  |false=>rw [hb] at f;cases f
  |true=>
    rw [hb] at f;simp only [cond_true] at f;have q:i+k<=ops.size:=Nat.le_of_ble_eq_true hb;cases aU:dD P n ops ((ops.toList.drop i).take k) σ (claims.map (·.2)) with
    |none=>rw [aU] at f;cases f
    |some r=>
      rw [aU] at f;simp only [Option.map_some,Option.some.injEq,Prod.mk.injEq] at f;obtain⟨A,B⟩:=f;have C:((ops.toList.drop i).take k).length=k:=by simp;omega
      have D:=sU (P:=P) (n:=n) (w0:=w0) (M:=M) (u:=u) (N:=N) (ops:=ops) (Q:=Q) r.1 (List.range' (i+k) (ops.size-(i+k))) ((ops.toList.drop i).take k) i σ a w β claims
        (fun F G H=>by
          rw [List.getElem?_take] at H;split at H
          · rw [List.getElem?_drop] at H;simpa using H
          · cases H) (by rw [aU,←B]) d S (fun l o β' G=>?_)
      · rw [C] at D;unfold e3;rwa [show ops.size-i=k+(ops.size-(i+k)) by omega,←List.range'_append_1]
      · subst A;refine K l o β' (G.weaken m keep fun F B C h=>?_);have h1:=j2 m keep F _ h;have ab:=G.ok F B C h1.1;have aq:=h1.2 B C rfl;simp;omega
end
end Go.Proofs.YtkggcdhigchepaaGreat
namespace Go.Proofs.YtkggcdhigchepaaGreat
open Go
def a2:Nat:=4194304
def fT:Nat:=9223372036854775807
section jumps
variable {next:Act->World->Prop} {Q:Exit->Act->World->Prop} {a:Act} {w:World}
end jumps
section
variable {P:Program} {n:Nat} {w0:World} {M:ah} {u:World} {N:ah} {β:Nat->Nat} {σ σ':aX} {a:Act} {w:World} {ops:Array Oper} {Q:Exit->Act->World->Prop} {b1:Act->World->Prop}
def ml:Nat->List Value->Env
  |_,[]=>[]
  |k,v::r=>(k,.v v)::ml (k+1) r
theorem ug:∀(l:List Value) (k t:Nat) (s:cy),look (ml k l) t=some s->∃v,s= .v v/\k<=t/\l[t-k]? =some v
  |
    [],k,t,s,h=>by simp [ml,look] at h
  |v::r,k,t,s,h=>by
    simp only [ml,iw] at h;split at h
    · rename_i e;subst e;simp at h;exact⟨v,h.symm,Nat.le_refl _,aM⟩
    · obtain⟨x,h1,ab,aq⟩:=ug r (k+1) t s h;refine⟨x,h1,V,?_⟩;rw [show t-k=(t-(k+1))+1 by omega]
      simpa using aq
theorem Calls.walk {f:FuncId} {d:Func} {c:Code} {l:List Value} {R:Ending->World->Prop} (M:ah) (aF:P.funcs[f]? =some d) (hb:d.body=some c) (bc:Nat.ble l.length d.ntmps=true)
    (h:∀a β,ag P d.ntmps w M w (cp w.heap.size) β ⟨ml 0 l,[]⟩ a w->c.wp P (bodyPost P d R) a w):Calls P f l.toArray w R:=by
  have o:l.length<=d.ntmps:=Nat.le_of_ble_eq_true bc;refine calls_of_wp aF hb (h _ (fun _=>0) ⟨rfl,by simp;omega,fun A s B=>?_,fun A k C B=>?_,fun k C hk=>by simp at hk,fun _ _ C=>by simp at C,fun _ hk=>by simp at hk,fun b hb=>⟨hb,rfl,fun _ hk=>by simp at hk⟩,aW.refl _ _,fun b hb _=>⟨hb,rfl⟩⟩)
  · obtain⟨v,rfl,_,aq⟩:=ug l 0 A s B;have C:A<l.length:=by
      have:=(List.getElem?_eq_some_iff.1 aq).1;omega
    simp only [Nat.sub_zero] at aq;simp only [cy.val];rw [Array.getElem?_append_left (by simpa using C)]
    simpa using aq
  · obtain⟨v,e,_⟩:=ug l 0 A _ B;cases e
def rr (P:Program) (σ:aX):ResultVar->Option Value
  | .tmp t=>match look σ.env t with
    |some (.v v)=>some v
    |_=>none
  | .cell t ty=>match look σ.env t with
    |some (.p k o)=>(σ.aN[k]?).bind fun cs=>nF P ty cs o
    |_=>none
def iD (P:Program) (σ:aX):List ResultVar->Option (List Value)
  |
    []=>some []
  |r::l=>match rr P σ r with
    |some v=>(iD P σ l).map fun x=>v::x
    |none=>none
def packed:List Value->Value
  |[v]=>v
  |eT=> .tuple eT.toArray
def om (a:Act):ResultVar->Sem Value
  | .tmp t=>pure (a.tmps.getD t undef)
  | .cell kk t=>do loadVar t (←asAddr (a.tmps.getD kk undef))
theorem Gv (S:ag P n w0 M u N β σ a w) {r:ResultVar} {v:Value} (h:rr P σ r=some v):
    (om a r).run P w= .ok v w:=by
  cases r with
  |tmp t=>
    simp only [rr] at h;split at h
    · rename_i x hx;simp at h;subst h;have:=S.env t _ hx;simp [om,this,cy.val]
    · cases h
  |cell t ty=>
    simp only [rr] at h;split at h
    · rename_i k f hx;cases hc:σ.aN[k]? with
      |
        none=>simp [hc] at h
      |some cs=>
        simp only [hc,Option.bind_some] at h;obtain⟨l,hb⟩:=S.box k cs hc;have:=S.env t _ hx;have d:=z4 (P:=P) hb h;simp only [Instr.loadAt,Instr.sureAddr,Sem.run_bind,Sem.run_pure,Result.andThen_ok] at d;have e:a.tmps.getD t undef=aL (β k) f:=by simp [this,cy.val]
        simp only [om,e,asAddr,Sem.run_bind,Sem.run_pure,Result.andThen_ok,d]
    · cases h
theorem z2 (S:ag P n w0 M u N β σ a w):∀(l:List ResultVar) (d:List Value),iD P σ l=some d->
    (l.mapM (om a)).run P w= .ok d w
  |
    [],d,h=>by simp [iD] at h;subst h;rfl
  |r::l,d,h=>by
    simp only [iD] at h;split at h
    · rename_i v f;cases hl:iD P σ l with
      |
        none=>simp [hl] at h
      |some o=>
        simp [hl] at h;subst h;rw [List.mapM_cons];rw [Sem.run_bind,Gv S f];simp only [Result.andThen_ok];rw [Sem.run_bind,z2 S l o hl];rfl
    · cases h
theorem ag.results (S:ag P n w0 M u N β σ a w) {d:Func} {f:List Value} (h:iD P σ d.results.toList=some f):(results d a.tmps).run P w= .ok (packed f) w:=by
  have e:Go.results d a.tmps=(do let f ←d.results.mapM (om a);pure (if h:f.size=1 then f[0] else .tuple f)):=by
    unfold Go.results
    congr 1
  rw [e,Array.mapM_eq_mapM_toList,Sem.run_bind,Sem.run_map,z2 S _ _ h];simp only [Result.andThen_ok,Sem.run_pure]
  congr 1
  match f with
  |[]=>rfl
  |[v]=>rfl
  |_::_::_=>rfl
theorem ag.ret (S:ag P n w0 M u N β σ a w) {d:Func} {R:Ending->World->Prop} {f:List Value} (l:iD P σ d.results.toList=some f) (h:R (.returned (packed f)) w):bodyPost P d R .ret a w:=
  ⟨S.Jt,_,S.results l,h⟩
theorem ag.KC (S:ag P n w0 M u N β σ a w) {d:Func} {R:Ending->World->Prop} {f:List Value} (l:iD P σ d.results.toList=some f) (h:R (.returned (packed f)) w):bodyPost P d R .normal a w:=
  ⟨S.Jt,_,S.results l,h⟩
theorem ag.cond (S:ag P n w0 M u N β σ a w) {c:Operand} {e:Bool} {x y:Code} (he:σ.get c=some (.v (.bool e))) (d:e=true->x.wp P Q a w) (aF:e=false->y.wp P Q a w):(Code.cond c x y).wp P Q a w:=
  wp_cond_split (S.get he) d aF
theorem ag.cast (S:ag P n w0 M u N β σ a w) (h:σ=σ'):ag P n w0 M u N β σ' a w:=h▸S
def jz (σ:aX) (keep:List Nat) (m:Nat):Option aX:=bif Nat.ble m σ.aN.length then some ⟨σ.keep m keep,σ.aN.take m⟩ else none
theorem ag.prune (S:ag P n w0 M u N β σ a w) {keep:List Nat} {m:Nat} (h:jz σ keep m=some σ'):ag P n w0 M u N β σ' a w:=by
  unfold jz at h;cases hb:Nat.ble m σ.aN.length with
  |false=>rw [hb] at h;cases h
  |true=>
    rw [hb] at h;simp only [cond_true,Option.some.injEq] at h;subst h;have d:m<=σ.aN.length:=Nat.le_of_ble_eq_true hb;refine S.weaken m keep fun A k B C=>?_;have:=(j2 m keep A _ C).2 k B rfl;simp;omega
theorem HO {c:Code} (d:Nat->Act->World->Prop) (m:Nat) (f:d m a w)
    (o:∀m a w,d m a w->c.wp P (Exit.then (fun q r=>∃t,t<m/\d t q r) Q) a w):(Code.loop c).wp P Q a w:=by
  intro b k y;have z:∀n a w,d n a w->
      ∃e q r,Q e q r/\Arrives P (lone (b.at a (.code c:: .inLoop c::k)) y w) b k y e q r:=by
    intro n
    induction n using Nat.strongRecOn with
    |_ n A=>
      intro a w B;obtain⟨e,C,D,F,G⟩:=o n a w B b (.inLoop c::k) y;cases e with
      |normal=>
        obtain⟨t,B,H⟩:=F;obtain⟨I,J,K,L,O⟩:=A t B C D H;exact⟨I,J,K,L,.of_steps (Steps.trans G (.one step_inLoop)) O⟩
      |exit id=>exact⟨_,C,D,F,.pass (x:= .inLoop c) rfl (fun _ _=> .inl aM) G⟩
      |goto l=>exact⟨_,C,D,F,.pass (x:= .inLoop c) rfl (fun _ _=> .inl aM) G⟩
      |ret=>exact⟨_,C,D,F,.pass (x:= .inLoop c) rfl (fun _ _=> .inl aM) G⟩
      |panic A=>exact⟨_,C,D,F,.pass (x:= .inLoop c) rfl (fun _ _=> .inl aM) G⟩
      |outgrown=>exact⟨_,C,D,F,.pass (x:= .inLoop c) rfl (fun _ _=> .inl aM) G⟩
  obtain⟨e,q,r,F,G⟩:=z _ a w f;exact⟨e,q,r,F,.of_steps (.one step_loop) G⟩
abbrev i_ {α:Type} [GT α] (u:World) (N:ah) (x:α) (p:GT.Ptr α):Prop:=GT.rd a2 N u x p
abbrev HR {α:Type} [GT α] (w:World) (x:α) (p:GT.Ptr α):Prop:=GT.rd a2 (cp w.heap.size) w x p
structure af {α:Type} [GT α] (w0:World) (M:ah) (u:World) (N F:ah) (x:α) (p:GT.Ptr α):Prop where
  own:GT.own a2 F u x p
  sub:∀b,F b->N b
  I1:∀b,F b->w0.heap.size<=b\/M b
theorem ag.Jp (_:ag P n w0 M u N β σ a w) {α:Type} [GT α]:af w0 M u N I ([]:List α) (GT.bW (α:=List α)):=
  ⟨GT.dv _ _ _,fun _ h=>False.elim h,fun _ h=>False.elim h⟩
theorem af.Ix {α:Type} [GT α] {F:ah} {x:α} {p:GT.Ptr α} (h:af w0 M u N F x p):i_ u N x p:=GT.cq (GT.cQ h.own) (Nat.le_refl _) h.sub
theorem ag.arg {α:Type} [GT α] {K:Nat} {x:α} {p:GT.Ptr α} (S:ag P n w0 I u N β σ a w) (h:GT.rd K (cp w0.heap.size) w0 x p):GT.rd K N u x p:=
  GT.cq (GT.de h (fun b hb _=>(S.fZ b hb (fun d=>d)).2)) (Nat.le_refl _) (fun b hb=>(S.fZ b hb (fun d=>d)).1)
theorem ag.rd {α:Type} [GT α] {K:Nat} {x:α} {p:GT.Ptr α} (S:ag P n w0 M u N β σ a w) (h:GT.rd K N u x p):GT.rd K (cp w.heap.size) w x p:=
  GT.cq (GT.dA (GT.de h (fun b hb _=>(S.sep b hb).2.1))) (Nat.le_refl _) (fun _ hb=>hb.2)
def Or (A C:ah):ah:=fun b=>A b\/C b
theorem af.up {α:Type} [GT α] {F:ah} {x:α} {p:GT.Ptr α} {d:World} {f:ah} (h:af w0 M u N F x p) (g:∀b,N b->f b/\d.heap[b]? =u.heap[b]?):af w0 M d f F x p:=
  ⟨GT.bh h.own (fun b hb _=>(g b (h.sub b hb)).2),fun b hb=>(g b (h.sub b hb)).1,h.I1⟩
def bO {α:Type} [GT α] (jJ:ah) (w:World) (r:α) (e:Ending) (w':World):Prop:=
  ∃q,e= .returned (GT.val r q)/\aW jJ w w'/\GT.own a2 (fS w.heap.size w'.heap.size) w' r q
def cf {α g4:Type} [GT α] [GT g4] (jJ:ah) (w:World) (r:α) (r':g4) (e:Ending) (w':World):Prop:=
  ∃q lu F e1,e= .returned (.tuple #[GT.val r q,GT.val r' lu])/\aW jJ w w'/\GT.own a2 F w' r q/\GT.own a2 e1 w' r' lu/\U F e1/\∀b,F b\/e1 b->w.heap.size<=b/\b<w'.heap.size
def g6 {α g4 AI:Type} [GT α] [GT g4] [GT AI] (jJ:ah) (w:World) (r:α) (r':g4) (zZ:AI) (e:Ending) (w':World):Prop:=
  ∃q lu zY F,e= .returned (.tuple #[GT.val r q,GT.val r' lu,GT.val zZ zY])/\aW jJ w w'/\GT.own a2 F w' r q/\GT.own a2 I w' r' lu/\GT.own a2 I w' zZ zY/\∀b,F b->w.heap.size<=b/\b<w'.heap.size
def ep (P:Program) (n:Nat) (ops:Array Oper) (i:Nat) (σ:aX):Option (FuncId×List Value×Tmp):=
  match ops.toList[i]? with
  |some o=>
    match ht ops σ o,o.op,o.dst with
    |some true,.call ⟨.value (.func f),args,_⟩,some d=>
      match P.funcs[f]? with
      |some fn=>bif fn.name== "runtime.NumGoroutine" ||fn.body.isNone|| !Nat.blt d n then none else(gv σ args.toList).map fun l=>(f,l,d)
      |none=>none
    |some true,.call ⟨.value (.tmp t),args,_⟩,some d=>
      match σ.get (.tmp t) with
      |some (.v (.func (.func f) first nS))=>bif callee P f&&Nat.blt d n then(gv σ args.toList).map fun l=>(f,first.toList++l++nS.toList,d) else none
      |_=>none
    |_,_,_=>none
  |none=>none
theorem mg.step {i:Nat} {o:Oper} (d:ops[i]? =some o) (f:Region.wanted o (yielded ops a.tmps)=true) (h:o.wp P a w b1 Q):wpOp P ops Q i b1 a w:=by
  unfold wpOp;simp only [d,f,if_true];exact .inl h
theorem e3.op {i:Nat} (hi:Nat.blt i ops.size=true) (h:wpOp P ops Q i (fun d f=>e3 P ops Q (i+1) d f) a w):e3 P ops Q i a w:=by
  have A:i<ops.size:=Nat.le_of_ble_eq_true hi;unfold e3;rw [show ops.size-i=(ops.size-(i+1))+1 by omega,List.range'_succ,wpOps_cons];exact h
theorem ag.after (S:ag P n w0 M u N β σ a w) {f:World} {d:Tmp} {v:Value} (hd:Nat.blt d n=true) (hc:aW I w f):
    ag P n w0 M f (Or N (fS w.heap.size f.heap.size)) β ⟨(d,.v v)::σ.env,σ.aN⟩ (a.put (some d) v) f:=by
  have aY:σ.put n (some d) (.v v)=some ⟨(d,.v v)::σ.env,σ.aN⟩:=by simp [aX.put,hd]
  have A:=S.put aY (fun _ _ e=>by cases e);have hb:∀k,k<σ.aN.length->β k<w.heap.size:=fun k hk=>by
    obtain⟨B,h⟩:=S.box k _ (List.getElem?_eq_getElem hk);rcases Nat.lt_or_ge (β k) w.heap.size with B|B
    · exact B
    · rw [Array.getElem?_eq_none B] at h;cases h
  refine⟨A.Jt,A.ao,A.env,A.ok,fun k B hk=>?_,A.inj,A.new,fun b C=>?_,S.I7.step hc (fun _ _ D=>D.elim),fun b hb F=>?_⟩
  · obtain⟨G,h⟩:=A.box k B hk;have H:k<σ.aN.length:=(List.getElem?_eq_some_iff.1 hk).1;exact⟨G,(hc.block _ (hb k H) (fun D=>D)).trans h⟩
  · rcases C with h|h
    · obtain⟨h1,ab,aq⟩:=A.sep b h;exact⟨Nat.lt_of_lt_of_le h1 hc.size,rfl,aq⟩
    · refine⟨h.2,rfl,fun k hk e=>?_⟩;have:=hb k hk;have:=h.1;omega
  · obtain⟨h1,ab⟩:=S.fZ b hb F;exact⟨.inl h1,((hc.block b (S.sep b h1).1 (fun D=>D)).trans (S.sep b h1).2.1).trans ab⟩
theorem ag.up (S:ag P n w0 M u N β σ a w) {d:World} (hc:aW I w d):∀b,N b->Or N (fS w.heap.size d.heap.size) b/\d.heap[b]? =u.heap[b]? :=fun b hb=>
  ⟨.inl hb,(hc.block b (S.sep b hb).1 (fun A=>A)).trans (S.sep b hb).2.1⟩
theorem ag.call (S:ag P n w0 M u N β σ a w) {i:Nat} {f:FuncId} {H:List Value} {d:Tmp} {R:Ending->World->Prop} (hcall:ep P n ops i σ=some (f,H,d)) (hc:Calls P f H.toArray w R)
    (K:∀e q,R e q->∃v,e= .returned v/\b1 (a.put (some d) v) q):wpOp P ops Q i b1 a w:=by
  unfold ep at hcall;split at hcall
  · rename_i z J;have I:ops[i]? =some z:=by simpa using J
    split at hcall
    · rename_i t r L A aA B C;split at hcall
      · rename_i y O;cases hb:(y.name== "runtime.NumGoroutine" ||y.body.isNone|| !Nat.blt A n) with
        |
          true=>rw [hb] at hcall;cases hcall
        |false=>
          rw [hb] at hcall;simp only [cond_false] at hcall;cases o:gv σ r.toList with
          |none=>simp [o] at hcall
          |some l=>
            simp [o] at hcall;obtain⟨rfl,rfl,rfl⟩:=hcall;simp only [Bool.or_eq_false_iff] at hb;refine mg.step I (gM S aA) ?_;have D:r.map a.eval=l.toArray:=by
              rw [←Array.toList_inj];simpa using ma S _ _ o
            have F:(execOp a.eval z).run P w= .ok (.enter t l.toArray) w:=by
              unfold execOp;simp only [B];simp only [resolve,D,Act.eval,Deferred.ofValue];have T:y.name≠ "runtime.NumGoroutine" :=fun e=>by rw [e] at hb;simp at hb
              have U:¬y.body=none:=fun e=>by rw [e] at hb;simp at hb
              simp [invoke,callFunc,O,T,U]
            unfold Oper.wp;rw [F,Oper.upon_enter];refine hc.mono fun e q G=>?_;obtain⟨v,rfl,h⟩:=K e q G;rw [C];exact h
      · cases hcall
    · rename_i W r L A aA B C;split at hcall
      · rename_i t first X hx
        have e:=S.get hx;cases hb:(callee P t&&Nat.blt A n) with
        |false=>rw [hb] at hcall;cases hcall
        |true=>
          rw [hb] at hcall;simp only [cond_true] at hcall;simp only [Bool.and_eq_true] at hb;cases o:gv σ r.toList with
          |none=>simp [o] at hcall
          |some l=>
            simp only [o,Option.map_some,Option.some.injEq,Prod.mk.injEq] at hcall;obtain⟨rfl,rfl,rfl⟩:=hcall;refine mg.step I (gM S aA) ?_;have D:r.map a.eval=l.toArray:=by
              rw [←Array.toList_inj];simpa using ma S _ _ o
            have F:(execOp a.eval z).run P w= .ok (.enter t (first.toList++l++X.toList).toArray) w:=by
              unfold execOp;simp only [B];exact z5 (l:=l) (x:= .tmp W) e hb.1 D _ w
            unfold Oper.wp;rw [F,Oper.upon_enter];refine hc.mono fun e q G=>?_;obtain⟨v,rfl,h⟩:=K e q G;rw [C];exact h
      · cases hcall
    · cases hcall
  · cases hcall
theorem U.fresh {F:ah} (S:ag P n w0 M u N β σ a w) (d:World) (h:∀b,F b->w.heap.size<=b/\b<d.heap.size):U N F:=fun b h1 ab=>by
  have:=(S.sep b h1).1;have:=(h b ab).1;omega
theorem ag.Kl {α:Type} [GT α] (S:ag P n w0 M u N β σ a w) {i:Nat} {f:FuncId} {l:List Value} {d:Tmp} {r:α} (hc:Calls P f l.toArray w (bO I w r)) (hcall:ep P n ops i σ=some (f,l,d)) (hd:Nat.blt d n=true)
    (K:∀A B C q F,ag P n w0 M B C β ⟨(d,.v (GT.val r q))::σ.env,σ.aN⟩ A B->(∀b,N b->C b/\B.heap[b]? =u.heap[b]?)->af w0 M B C F r q->U N F->b1 A B):wpOp P ops Q i b1 a w:=
  S.call hcall hc fun _ B ⟨q,he,A,C⟩=>⟨_,he,K _ B _ q _ (S.after hd A) (S.up A) ⟨C,fun _ h=> .inr h,fun _ h=> .inl (Nat.le_trans S.I7.size h.1)⟩ (U.fresh S B fun _ h=>h)⟩
theorem ag.call2 {α l:Type} [GT α] [GT l] (S:ag P n w0 M u N β σ a w) {i:Nat} {f:FuncId} {o:List Value} {d:Tmp} {r:α} {r':l} (hc:Calls P f o.toArray w (cf I w r r')) (hcall:ep P n ops i σ=some (f,o,d)) (hd:Nat.blt d n=true)
    (K:∀A B C q D F G,ag P n w0 M B C β ⟨(d,.v (.tuple #[GT.val r q,GT.val r' D]))::σ.env,σ.aN⟩ A B->(∀b,N b->C b/\B.heap[b]? =u.heap[b]?)->af w0 M B C F r q->af w0 M B C G r' D->U N F->U N G->U F G->b1 A B):wpOp P ops Q i b1 a w:=
  S.call hcall hc fun _ B ⟨q,D,F,G,he,A,C,H,J,aF⟩=>⟨_,he,K _ B _ q D F G (S.after hd A) (S.up A)
    ⟨C,fun b h=> .inr (aF b (.inl h)),fun b h=> .inl (Nat.le_trans S.I7.size (aF b (.inl h)).1)⟩ ⟨H,fun b h=> .inr (aF b (.inr h)),fun b h=> .inl (Nat.le_trans S.I7.size (aF b (.inr h)).1)⟩
    (U.fresh S B fun b h=>aF b (.inl h)) (U.fresh S B fun b h=>aF b (.inr h)) J⟩
theorem ag.own {α:Type} [GT α] {F:ah} {x:α} {p:GT.Ptr α} (S:ag P n w0 I u N β σ a w) (h:af w0 I u N F x p):GT.own a2 (fS w0.heap.size w.heap.size) w x p:=
  GT.c5 (GT.bh h.own (fun b hb _=>(S.sep b (h.sub b hb)).2.1)) (Nat.le_refl _) (fun b hb=>⟨(h.I1 b hb).resolve_right (fun d=>d),(S.sep b (h.sub b hb)).1⟩)
theorem ag.KG {α:Type} [GT α] {F:ah} {x:α} {p:GT.Ptr α} (S:ag P n w0 I u N β σ a w) (h:af w0 I u N F x p):GT.own a2 F w x p/\∀b,F b->w0.heap.size<=b/\b<w.heap.size:=
  ⟨GT.bh h.own (fun b hb _=>(S.sep b (h.sub b hb)).2.1),fun b hb=>⟨(h.I1 b hb).resolve_right (fun d=>d),(S.sep b (h.sub b hb)).1⟩⟩
end
end Go.Proofs.YtkggcdhigchepaaGreat
namespace Go.Proofs.YtkggcdhigchepaaGreat
open Go
def fU (P:Program) (n:Nat) (ops:Array Oper):List Oper->aX->List Value->Option (aX×List (Ask×Value))
  |
    [],σ,_=>some (σ,[])
  |o::r,σ,cU=>
    match ht ops σ o with
    |none=>none
    |some false=>(σ.put n o.dst (.v undef)).bind fun σ'=>fU P n ops r σ' cU
    |some true=>
      match ln P σ o with
      |some (.val x)=>(σ.put n o.dst x).bind fun σ'=>fU P n ops r σ' cU
      |some (.ask q)=>
        match cU with
        |[]=>none
        |v::od=>(σ.put n o.dst (.v v)).bind fun σ'=>(fU P n ops r σ' od).map fun x=>(x.1,(q,v)::x.2)
      |_=>none
def xk (P:Program) (n:Nat) (ops:Array Oper) (σ:aX) (cU:List Value) (keep:List Nat) (m:Nat):Option (aX×List (Ask×Value)):=
  (fU P n ops ops.toList σ cU).map fun x=>(⟨x.1.keep m keep,x.1.aN.take m⟩,x.2)
section
variable {P:Program} {n:Nat} {w0:World} {M:ah} {u:World} {N:ah} {β:Nat->Nat} {σ σ':aX} {a:Act} {w:World} {ops:Array Oper} {Q:Exit->Act->World->Prop}
theorem sT (y:World) (σ':aX) (Q':Act->Prop):∀(l:List Oper) (σ:aX) (a:Act) (claims:List (Ask×Value)),
    fU P n ops l σ (claims.map (·.2))=some (σ',claims)->cm P u N claims->ag P n w0 M u N β σ a y->
    (∀C,ag P n w0 M u N β σ' C y->Q' C)->wpQuiet P ops (fun D=>aW I y D) Q' l a
  |
    [],σ,a,claims,d,_,S,K=>by
    simp only [fU,Option.some.injEq,Prod.mk.injEq] at d;obtain⟨rfl,_⟩:=d;exact K a S
  |o::l,σ,a,claims,d,t,S,K=>by
    have B:=sT y σ' Q' l;simp only [wpQuiet];simp only [fU] at d;split at d
    · cases d
    · rename_i aA;rw [gM S aA];simp only [Bool.false_eq_true,if_false];cases aY:σ.put n o.dst (.v undef) with
      |
        none=>rw [aY] at d;cases d
      |some q=>
        rw [aY] at d;exact B q _ claims d t (S.put aY (fun _ _ e=>by cases e)) K
    · rename_i aA;rw [gM S aA];simp only [if_true];split at d
      · rename_i x hx;cases aY:σ.put n o.dst x with
        |
          none=>rw [aY] at d;cases d
        |some q=>
          rw [aY] at d;refine⟨x.val β,fun w z=>?_,B q _ claims d t (S.put aY (gD S hx).2) K⟩;unfold Oper.quietAt;rw [(gD (S.ext z) hx).1];exact⟨rfl,rfl⟩
      · rename_i F hx;split at d
        · cases d
        · rename_i v G he;cases aY:σ.put n o.dst (.v v) with
          |
            none=>rw [aY] at d;cases d
          |some q=>
            rw [aY] at d;simp only [Option.bind_some] at d;cases aU:fU P n ops l q G with
            |none=>rw [aU] at d;cases d
            |some r=>
              rw [aU] at d;simp only [Option.map_some,Option.some.injEq,Prod.mk.injEq] at d;obtain⟨H,J⟩:=d;subst J;simp only [List.map_cons,List.cons.injEq,true_and] at he;refine⟨v,fun w z=>?_,B q _ r.2 (by rw [he,aU,←H]) t.2 (S.put aY (fun _ _ e=>by cases e)) K⟩;have A:=S.ext z;have h1:=gD A hx;unfold Oper.quietAt;cases F with
              |call f args=>
                simp only [nC] at h1;rw [h1];exact⟨rfl,(t.1 w (fun b hb=>⟨(A.sep b hb).1,(A.sep b hb).2.1⟩)).mono fun e D ⟨aq,bg⟩=>⟨aq,z.trans bg⟩⟩
              |_=>
                rw [h1 v (t.1 w (fun b hb=>(A.sep b hb).2.1))];exact⟨rfl,rfl⟩
      · cases d
theorem ag.drawn (S:ag P n w0 M u N β σ a w) {id:Nat} {claims:List (Ask×Value)} {keep:List Nat} {m:Nat} (d:cm P u N claims)
    (hm:P.follows .mixedOrders=true) (f:Region.lexB .any ops=true)
    (l:xk P n ops σ (claims.map (·.2)) keep m=some (σ',claims)) (K:∀o q,ag P n w0 M u N β σ' o q->Q .normal o q):(Code.region id ops true).wp P Q a w:=by
  unfold xk at l;cases aU:fU P n ops ops.toList σ (claims.map (·.2)) with
  |none=>rw [aU] at l;cases l
  |some r=>
    rw [aU] at l;simp only [Option.map_some,Option.some.injEq,Prod.mk.injEq] at l;obtain⟨t,y⟩:=l;have z:ag P n w0 M u N β σ a {w with drawn:=w.drawn+1}:=S.ext (aW.draw I w _);refine wp_region_quiet (C:=fun q=>aW I {w with drawn:=w.drawn+1} q) hm f (aW.refl _ _) ?_;refine sT _ r.1 _ ops.toList σ a claims (by rw [aU,←y]) d z fun o A q B=>?_;subst t;refine K o q ((A.ext B).weaken m keep fun C k D h=>?_);have h1:=j2 m keep C _ h;have ab:=A.ok C k D h1.1;have aq:=h1.2 k D rfl;simp;omega
end
section
variable {P:Program} {u:World} {N:ah}
theorem au.lo {x:Int} (h:au x):-9223372036854775808<=x:=h.1
theorem au.hi {x:Int} (h:au x):x<=9223372036854775807:=h.2
theorem mb {x:Int} (h:au x):IntKind.i64.wrap x=x:=Go.IntWalk.i64_in x ⟨h.1,by have:=h.2;omega⟩
theorem AS {x y:Int} (h:au (x+y)):dn P u N (.int .add .i64 x y) (O (x+y)):=fun d _=>by
  show Result.ok (Value.int .i64 (IntKind.i64.wrap (x+y))) d=_;rw [mb h]
theorem e2 {x y:Int}:dn P u N (.int .add .i64 x y) (O (IntKind.i64.wrap (x+y))):=fun _ _=>rfl
theorem AV {x y:Int}:dn P u N (.int .sub .i64 x y) (O (IntKind.i64.wrap (x-y))):=fun _ _=>rfl
theorem AU {x y:Int} (h:au (x-y)):dn P u N (.int .sub .i64 x y) (O (x-y)):=fun d _=>by
  show Result.ok (Value.int .i64 (IntKind.i64.wrap (x-y))) d=_;rw [mb h]
theorem vo {x y:Int} (h:au (x*y)):dn P u N (.int .mul .i64 x y) (O (x*y)):=fun d _=>by
  show Result.ok (Value.int .i64 (IntKind.i64.wrap (x*y))) d=_;rw [mb h]
theorem h7 {x y:Int} (h:y≠0):dn P u N (.int .rem .i64 x y) (O (x.tmod y)):=fun d _=>by
  show(Op.intDiv .rem .i64 x y).run P d=_;unfold Op.intDiv;rw [if_neg h];rfl
theorem vp {x y:Int} (h:y≠0) (d:au (x.tdiv y)):dn P u N (.int .quo .i64 x y) (O (x.tdiv y)):=fun f _=>by
  show(Op.intDiv .quo .i64 x y).run P f=_;unfold Op.intDiv;rw [if_neg h];show Result.ok (Value.int .i64 (IntKind.i64.wrap (x.tdiv y))) f=_;rw [mb d]
def eX (x y:Int):Int:=IntKind.i64.wrap ((BitVec.ofInt 64 x&&& BitVec.ofInt 64 y).toNat)
def lZ (x y:Int):Int:=IntKind.i64.wrap ((BitVec.ofInt 64 x|||BitVec.ofInt 64 y).toNat)
def Ip (x y:Int):Int:=IntKind.i64.wrap ((BitVec.ofInt 64 x ^^^ BitVec.ofInt 64 y).toNat)
def lX (x y:Int):Int:=IntKind.i64.wrap ((BitVec.ofInt 64 x&&& ~~~ BitVec.ofInt 64 y).toNat)
theorem AH (x:Int):au (IntKind.i64.wrap x):=by
  rw [IntKind.wrap_i64];exact⟨V,V⟩
theorem Fp (x y:Int):au (lZ x y):=AH _
theorem Fh (x y:Int):au (lX x y):=AH _
theorem h6 {x y:Int}:dn P u N (.int .and .i64 x y) (O (eX x y)):=fun _ _=>rfl
theorem vn {x y:Int}:dn P u N (.int .or .i64 x y) (O (lZ x y)):=fun _ _=>rfl
theorem AT {x y:Int}:dn P u N (.int .andNot .i64 x y) (O (lX x y)):=fun _ _=>rfl
def ga (x y:Int):Int:=IntKind.i64.wrap (x*2 ^ (min y.toNat 64))
def hZ (x y:Int):Int:=x.fdiv (2 ^ (min y.toNat 64))
theorem oG {yk:IntKind} {x y:Int} (h:0<=y):dn P u N (.fb (Op.shift .shl .i64 x yk y)) (O (ga x y)):=fun d _=>by
  show(Op.shift .shl .i64 x yk y).run P d=_;unfold Op.shift;rw [if_neg V];rfl
theorem rZ {yk:IntKind} {x y:Int} (h:0<=y):dn P u N (.fb (Op.shift .shr .i64 x yk y)) (O (hZ x y)):=fun d _=>by
  show(Op.shift .shr .i64 x yk y).run P d=_;unfold Op.shift;rw [if_neg V];rfl
theorem nA {s d:TypeId} {f:TypeDesc} {x:Int} (hs:P.underlying s=some f) (hd:P.underlying d=some (.int .u64)) (l:0<=x) (h1:x<=9223372036854775807):dn P u N (.fb (Go.convert s d (O x))) (.int .u64 x):=fun o _=>by
  show(Go.convert s d (.int .i64 x)).run P o=_;unfold Go.convert;simp only [Sem.run_bind,run_underlying hs,run_underlying hd,Result.andThen_ok];have e:IntKind.u64.wrap x=x:=Go.IntWalk.u64_in x ⟨l,V⟩;unfold Conv.intToInt;rw [e];cases f<;>rfl
section lists
variable {α:Type} [GT α] {xs:List α} {p:GT.Ptr (List α)}
theorem cv {K:Nat} (h:GT.rd K N u xs p) {t e:TypeId} {i:Int} {k l:Nat} (hl:l=xs.length) (hk:i=k) (hi:k<xs.length) (d:P.underlying t=some (.slice e)) (he:eZ P e=some (GT.width α)):
    dn P u N (.idx t (J l p.1) (O i)) (aL p.1.b (p.1.off+k*GT.width α)):=fun f _=>by
  subst hl;have o:=(ae.at_ h V).1;subst hk;have q:p.1.addr=some ⟨p.1.b,p.1.off,none⟩:=by unfold gE.addr;rw [o];rfl
  show(Instr.indexAt t (.slice p.1.addr xs.length p.1.cap) (.int .i64 k)).run P f=_;unfold Instr.indexAt;simp only [asIntOf,Sem.run_bind,Sem.run_pure,Result.andThen_ok,run_underlying d,q];have A:0<=(k:Int)/\(k:Int)<xs.length:=⟨V,V⟩;simp only [A,and_self,if_true,Sem.run_bind,nq he,Result.andThen_ok,Sem.run_pure,Int.toNat_natCast,Addr.add_mid]
theorem w2 {K:Nat} (h:GT.rd K N u xs p) {k:Nat} (hi:k<xs.length) {w:World} (d:∀b,N b->w.heap[b]? =u.heap[b]?):fR w p.1.b (p.1.off+k*GT.width α) (GT.cells (el xs k) (p.2 k)):=by
  have h1:=ae.cell h k hi;intro j v f;rw [←h1 j v f];exact w1 (d _ (ae.at_ h V).2)
theorem dC {K:Nat} (h:GT.rd K N u xs p) {t:TypeId} {k j:Nat} {v:Value} (hi:k<xs.length) (d:(GT.cells (el xs k) (p.2 k))[j]? =some v) (f:gu P t=some false):
    dn P u N (.load t (aL p.1.b (p.1.off+k*GT.width α+j))) v:=fun l o=>by
  have:=w2 h hi o j v d;show(Instr.loadAt t (.pointer (some ⟨p.1.b,_,none⟩))).run P l=_;simp only [Instr.loadAt,Instr.sureAddr,Sem.run_bind,Sem.run_pure,Result.andThen_ok,loadVar,rB f,Bool.false_eq_true,if_false,run_load,this]
theorem cK {K:Nat} (h:GT.rd K N u xs p) {t:TypeId} {k:Nat} (hi:k<xs.length) (d:GT.agg α=false) (f:gu P t=some false):
    dn P u N (.load t (aL p.1.b (p.1.off+k*GT.width α))) (GT.val (el xs k) (p.2 k)):=by
  have l:=GT.len (el xs k) (p.2 k);rw [GT.one d] at l
  match hc:GT.cells (el xs k) (p.2 k),l with
  |[v],_=>
    have e:GT.val (el xs k) (p.2 k)=v:=by unfold GT.val;rw [d,hc];rfl
    rw [e];have:=dC (P:=P) (j:=0) h hi (v:=v) (by rw [hc];rfl) f
    simpa using this
theorem vq {K:Nat} (h:GT.rd K N u xs p) {t:TypeId} {k j s:Nat} (hi:k<xs.length) (d:gu P t=some true) (hs:eZ P t=some s) (f:j+s<=GT.width α):
    dn P u N (.load t (aL p.1.b (p.1.off+k*GT.width α+j))) (.agg (((GT.cells (el xs k) (p.2 k)).drop j).take s).toArray):=fun A B=>by
  obtain⟨C,D,aU⟩:=vg d;have hc:=w2 h hi B;refine run_loadAt_mid A _ _ t _ C (fun i v F=>?_) D aU ?_
  · rw [List.getElem?_take] at F;split at F
    · rw [List.getElem?_drop] at F;have:=hc _ _ F;rwa [←Nat.add_assoc] at this
    · cases F
  · rw [AF hs,List.length_take,List.length_drop,GT.len]
    congr 1
    omega
theorem ea {K:Nat} (h:GT.rd K N u xs p) {t:TypeId} {k:Nat} (hi:k<xs.length) (aA:GT.agg α=true) (d:gu P t=some true) (hs:eZ P t=some (GT.width α)):
    dn P u N (.load t (aL p.1.b (p.1.off+k*GT.width α))) (GT.val (el xs k) (p.2 k)):=by
  have:=vq (P:=P) (j:=0) h hi d hs V;have e:GT.val (el xs k) (p.2 k)= .agg (((GT.cells (el xs k) (p.2 k)).drop 0).take (GT.width α)).toArray:=by
    unfold GT.val;rw [aA,List.drop_zero,List.take_of_length_le (by rw [GT.len];exact Nat.le_refl _)];rfl
  rw [e]
  simpa using this
end lists
theorem AB {x y:Int} (hy:0<y/\y<=9223372036854775807):au (Int.tmod x y):=by
  have h1:=Int.tmod_lt_of_pos x hy.1;rcases Int.le_total 0 x with d|d
  · have:=Int.tmod_nonneg y d;exact⟨V,V⟩
  · have e:Int.tmod x y=-Int.tmod (-x) y:=by rw [Int.neg_tmod];omega
    have aq:=Int.tmod_lt_of_pos (-x) hy.1;exact⟨V,V⟩
theorem aj {f:FuncId} {d:List Value} {v:Value} (h:∀w,(∀b,N b->b<w.heap.size/\w.heap[b]? =u.heap[b]?)->Calls P f d.toArray w fun e l=>e= .returned v/\aW I w l):dn P u N (.call f d) v:=h
theorem aP {α:Type} [GT α] {K:Nat} {x:α} {p:GT.Ptr α} (h:GT.rd K N u x p) {w:World} (d:∀b,N b->b<w.heap.size/\w.heap[b]? =u.heap[b]?):GT.rd K (cp w.heap.size) w x p:=
  GT.cq (GT.de h (fun b hb _=>(d b hb).2)) (Nat.le_refl _) (fun b hb=>(d b hb).1)
end
end Go.Proofs.YtkggcdhigchepaaGreat
namespace Go.Proofs.YtkggcdhigchepaaGreat
open Go
structure g7 (F:ah) (l:List ah):Prop where
  sub:∀G,G∈l->∀b,G b->F b
  IY:l.Pairwise U
theorem g7.mono {F d:ah} {l:List ah} (h:g7 F l) (aF:∀b,F b->d b):g7 d l:=⟨fun A B b hb=>aF b (h.sub A B b hb),h.IY⟩
theorem g7.lt {F:ah} {l:List ah} (h:g7 F l) (n:Nat):g7 (fun b=>F b/\b<n) (l.map fun d b=>d b/\b<n):=
  ⟨fun d f b hb=>by
      obtain⟨A,h1,rfl⟩:=List.mem_map.1 f;exact⟨h.sub A h1 b hb.1,hb.2⟩,
    List.pairwise_map.2 (h.IY.imp fun A b x B=>A b x.1 B.1)⟩
structure aw where
  Z:Int
  IU:Int
  deriving DecidableEq
theorem aw.ext_iff {a b:aw}:a=b↔a.Z=b.Z/\a.IU=b.IU:=by
  cases a;cases b;simp
structure bY (d:aw):Prop where
  Z:au d.Z
  IU:au d.IU
instance:GT aw where
  Ptr:=Unit
  cB:=⟨0,0⟩
  bW:=()
  width:=2
  agg:=true
  cells x _:=[O x.Z,O x.IU]
  rd _ _ _ x _:=bY x
  own _ _ _ x _:=bY x
  Jj:=by decide
  len _ _:=rfl
  one h:=by cases h
  plain _ _ v h:=by simp only [List.mem_cons,List.not_mem_nil,or_false] at h;rcases h with rfl|rfl<;>rfl
  cq h _ _:=h
  de h _:=h
  dA h:=h
  c5 h _ _:=h
  bh h _:=h
  dG h:=h
  cQ h:=h
  dv _ _ _:=⟨⟨by decide,by decide⟩,⟨by decide,by decide⟩⟩
structure a6 where
  IN:List Bool
  IT:List aw
  deriving DecidableEq
theorem a6.ext_iff {a b:a6}:a=b↔a.IN=b.IN/\a.IT=b.IT:=by
  cases a;cases b;simp
structure cJ where
  IN:ak Bool
  IT:ak aw
structure cP (K:Nat) (F:ah) (w:World) (d:a6) (p:cJ):Prop where
  IN:GT.rd K F w d.IN p.IN
  IT:GT.rd K F w d.IT p.IT
def AP (K:Nat) (F:ah) (w:World) (x:a6) (p:cJ):Prop:=
  ∃cW cX:ah,GT.own K cW w x.IN p.IN/\GT.own K cX w x.IT p.IT/\g7 F [cW,cX]
instance:GT a6 where
  Ptr:=cJ
  cB:=⟨[],[]⟩
  bW:=⟨GT.bW (α:=List Bool),GT.bW (α:=List aw)⟩
  width:=2
  agg:=true
  cells x p:=[J x.IN.length p.IN.1,J x.IT.length p.IT.1]
  rd:=cP
  own:=AP
  Jj:=by decide
  len _ _:=rfl
  one h:=by cases h
  plain _ _ v h:=by simp only [List.mem_cons,List.not_mem_nil,or_false] at h;rcases h with rfl|rfl<;>rfl
  cq h hk aF:=⟨GT.cq h.IN hk aF,GT.cq h.IT hk aF⟩
  de h hw:=⟨GT.de h.IN hw,GT.de h.IT hw⟩
  dA h:=⟨GT.dA h.IN,GT.dA h.IT⟩
  c5:=by
    rintro K b1 F G w x p ⟨cW,cX,h0,h1,s⟩ hk aF;exact⟨cW,cX,GT.c5 h0 hk (fun _ y=>y),GT.c5 h1 hk (fun _ y=>y),s.mono aF⟩
  bh:=by
    rintro K F w w' x p ⟨cW,cX,h0,h1,s⟩ hw;exact⟨cW,cX,GT.bh h0 (fun b hb=>hw b (s.sub _ aM b hb)),GT.bh h1 (fun b hb=>hw b (s.sub _ aM b hb)),s⟩
  dG:=by
    rintro K F w x p ⟨cW,cX,h0,h1,s⟩;exact⟨_,_,GT.dG h0,GT.dG h1,s.lt _⟩
  cQ:=by
    rintro K F w x p ⟨cW,cX,h0,h1,s⟩;exact⟨GT.cq (GT.cQ h0) (Nat.le_refl _) (s.sub _ aM),GT.cq (GT.cQ h1) (Nat.le_refl _) (s.sub _ aM)⟩
  dv K F w:=⟨I,I,GT.dv _ _ _,GT.dv _ _ _,⟨fun G hv b hb=>by simp at hv;rcases hv with rfl<;>exact hb.elim,by simp [U,I]⟩⟩
structure aG where
  bm:Int
  Z:Int
  dc:Int
  IU:Int
  deriving DecidableEq
theorem aG.ext_iff {a b:aG}:a=b↔a.bm=b.bm/\a.Z=b.Z/\a.dc=b.dc/\a.IU=b.IU:=by
  cases a;cases b;simp
structure dp (d:aG):Prop where
  bm:au d.bm
  Z:au d.Z
  dc:au d.dc
  IU:au d.IU
instance:GT aG where
  Ptr:=Unit
  cB:=⟨0,0,0,0⟩
  bW:=()
  width:=4
  agg:=true
  cells x _:=[O x.bm,O x.Z,O x.dc,O x.IU]
  rd _ _ _ x _:=dp x
  own _ _ _ x _:=dp x
  Jj:=by decide
  len _ _:=rfl
  one h:=by cases h
  plain _ _ v h:=by simp only [List.mem_cons,List.not_mem_nil,or_false] at h;rcases h with rfl|rfl|rfl|rfl<;>rfl
  cq h _ _:=h
  de h _:=h
  dA h:=h
  c5 h _ _:=h
  bh h _:=h
  dG h:=h
  cQ h:=h
  dv _ _ _:=⟨⟨by decide,by decide⟩,⟨by decide,by decide⟩,⟨by decide,by decide⟩,⟨by decide,by decide⟩⟩
structure bS where
  I5:Int
  x:Int
  deriving DecidableEq
theorem bS.ext_iff {a b:bS}:a=b↔a.I5=b.I5/\a.x=b.x:=by
  cases a;cases b;simp
structure eU (d:bS):Prop where
  I5:au d.I5
  x:au d.x
instance:GT bS where
  Ptr:=Unit
  cB:=⟨0,0⟩
  bW:=()
  width:=2
  agg:=true
  cells x _:=[O x.I5,O x.x]
  rd _ _ _ x _:=eU x
  own _ _ _ x _:=eU x
  Jj:=by decide
  len _ _:=rfl
  one h:=by cases h
  plain _ _ v h:=by simp only [List.mem_cons,List.not_mem_nil,or_false] at h;rcases h with rfl|rfl<;>rfl
  cq h _ _:=h
  de h _:=h
  dA h:=h
  c5 h _ _:=h
  bh h _:=h
  dG h:=h
  cQ h:=h
  dv _ _ _:=⟨⟨by decide,by decide⟩,⟨by decide,by decide⟩⟩
structure cj where
  aK:Int
  post:Int
  I6:Bool
  deriving DecidableEq
theorem cj.ext_iff {a b:cj}:a=b↔a.aK=b.aK/\a.post=b.post/\a.I6=b.I6:=by
  cases a;cases b;simp
structure cY (d:cj):Prop where
  aK:au d.aK
  post:au d.post
instance:GT cj where
  Ptr:=Unit
  cB:=⟨0,0,false⟩
  bW:=()
  width:=3
  agg:=true
  cells x _:=[O x.aK,O x.post,B x.I6]
  rd _ _ _ x _:=cY x
  own _ _ _ x _:=cY x
  Jj:=by decide
  len _ _:=rfl
  one h:=by cases h
  plain _ _ v h:=by simp only [List.mem_cons,List.not_mem_nil,or_false] at h;rcases h with rfl|rfl|rfl<;>rfl
  cq h _ _:=h
  de h _:=h
  dA h:=h
  c5 h _ _:=h
  bh h _:=h
  dG h:=h
  cQ h:=h
  dv _ _ _:=⟨⟨by decide,by decide⟩,⟨by decide,by decide⟩⟩
structure bn where
  aO:Int
  Z:Int
  b2:Bool
  n:Int
  deriving DecidableEq
theorem bn.ext_iff {a b:bn}:a=b↔a.aO=b.aO/\a.Z=b.Z/\a.b2=b.b2/\a.n=b.n:=by
  cases a;cases b;simp
structure ct (d:bn):Prop where
  aO:au d.aO
  Z:au d.Z
  n:au d.n
instance:GT bn where
  Ptr:=Unit
  cB:=⟨0,0,false,0⟩
  bW:=()
  width:=4
  agg:=true
  cells x _:=[O x.aO,O x.Z,B x.b2,O x.n]
  rd _ _ _ x _:=ct x
  own _ _ _ x _:=ct x
  Jj:=by decide
  len _ _:=rfl
  one h:=by cases h
  plain _ _ v h:=by simp only [List.mem_cons,List.not_mem_nil,or_false] at h;rcases h with rfl|rfl|rfl|rfl<;>rfl
  cq h _ _:=h
  de h _:=h
  dA h:=h
  c5 h _ _:=h
  bh h _:=h
  dG h:=h
  cQ h:=h
  dv _ _ _:=⟨⟨by decide,by decide⟩,⟨by decide,by decide⟩,⟨by decide,by decide⟩⟩
structure ai where
  prog:List bS
  aT:Int
  ar:Int
  II:List aw
  IF:List aw
  IJ:cj
  IA:Int
  exit:bn
  IX:Bool
  IM:List Int
  deriving DecidableEq
theorem ai.ext_iff {a b:ai}:a=b↔a.prog=b.prog/\a.aT=b.aT/\a.ar=b.ar/\a.II=b.II/\a.IF=b.IF/\a.IJ=b.IJ/\a.IA=b.IA/\a.exit=b.exit/\a.IX=b.IX/\a.IM=b.IM:=by
  cases a;cases b;simp
structure bG where
  prog:ak bS
  II:ak aw
  IF:ak aw
  IM:ak Int
structure ax (K:Nat) (F:ah) (w:World) (d:ai) (p:bG):Prop where
  prog:GT.rd K F w d.prog p.prog
  aT:au d.aT
  ar:au d.ar
  II:GT.rd K F w d.II p.II
  IF:GT.rd K F w d.IF p.IF
  IJ:cY d.IJ
  IA:au d.IA
  exit:ct d.exit
  IM:GT.rd K F w d.IM p.IM
def AN (K:Nat) (F:ah) (w:World) (x:ai) (p:bG):Prop:=
  ∃cW cX dB eN:ah,GT.own K cW w x.prog p.prog/\GT.own K cX w x.II p.II/\GT.own K dB w x.IF p.IF/\GT.own K eN w x.IM p.IM/\g7 F [cW,cX,dB,eN]/\au x.aT/\au x.ar/\cY x.IJ/\au x.IA/\ct x.exit
instance:GT ai where
  Ptr:=bG
  cB:=⟨[],0,0,[],[],⟨0,0,false⟩,0,⟨0,0,false,0⟩,false,[]⟩
  bW:=⟨GT.bW (α:=List bS),GT.bW (α:=List aw),GT.bW (α:=List aw),GT.bW (α:=List Int)⟩
  width:=15
  agg:=true
  cells x p:=[J x.prog.length p.prog.1,O x.aT,O x.ar,J x.II.length p.II.1,J x.IF.length p.IF.1,O x.IJ.aK,O x.IJ.post,B x.IJ.I6,O x.IA,O x.exit.aO,O x.exit.Z,B x.exit.b2,O x.exit.n,B x.IX,J x.IM.length p.IM.1]
  rd:=ax
  own:=AN
  Jj:=by decide
  len _ _:=rfl
  one h:=by cases h
  plain _ _ v h:=by simp only [List.mem_cons,List.not_mem_nil,or_false] at h;rcases h with rfl|rfl|rfl|rfl|rfl|rfl|rfl|rfl|rfl|rfl|rfl|rfl|rfl|rfl|rfl<;>rfl
  cq h hk aF:=⟨GT.cq h.prog hk aF,h.aT,h.ar,GT.cq h.II hk aF,GT.cq h.IF hk aF,h.IJ,h.IA,h.exit,GT.cq h.IM hk aF⟩
  de h hw:=⟨GT.de h.prog hw,h.aT,h.ar,GT.de h.II hw,GT.de h.IF hw,h.IJ,h.IA,h.exit,GT.de h.IM hw⟩
  dA h:=⟨GT.dA h.prog,h.aT,h.ar,GT.dA h.II,GT.dA h.IF,h.IJ,h.IA,h.exit,GT.dA h.IM⟩
  c5:=by
    rintro K b1 F G w x p ⟨cW,cX,dB,eN,h0,h1,ab,aq,s,f0,f1,f2,f3,f4⟩ hk aF;exact⟨cW,cX,dB,eN,GT.c5 h0 hk (fun _ y=>y),GT.c5 h1 hk (fun _ y=>y),GT.c5 ab hk (fun _ y=>y),GT.c5 aq hk (fun _ y=>y),s.mono aF,f0,f1,f2,f3,f4⟩
  bh:=by
    rintro K F w w' x p ⟨cW,cX,dB,eN,h0,h1,ab,aq,s,f0,f1,f2,f3,f4⟩ hw;exact⟨cW,cX,dB,eN,GT.bh h0 (fun b hb=>hw b (s.sub _ aM b hb)),GT.bh h1 (fun b hb=>hw b (s.sub _ aM b hb)),GT.bh ab (fun b hb=>hw b (s.sub _ aM b hb)),GT.bh aq (fun b hb=>hw b (s.sub _ aM b hb)),s,f0,f1,f2,f3,f4⟩
  dG:=by
    rintro K F w x p ⟨cW,cX,dB,eN,h0,h1,ab,aq,s,f0,f1,f2,f3,f4⟩;exact⟨_,_,_,_,GT.dG h0,GT.dG h1,GT.dG ab,GT.dG aq,s.lt _,f0,f1,f2,f3,f4⟩
  cQ:=by
    rintro K F w x p ⟨cW,cX,dB,eN,h0,h1,ab,aq,s,f0,f1,f2,f3,f4⟩;exact⟨GT.cq (GT.cQ h0) (Nat.le_refl _) (s.sub _ aM),f0,f1,GT.cq (GT.cQ h1) (Nat.le_refl _) (s.sub _ aM),GT.cq (GT.cQ ab) (Nat.le_refl _) (s.sub _ aM),f2,f3,f4,GT.cq (GT.cQ aq) (Nat.le_refl _) (s.sub _ aM)⟩
  dv K F w:=⟨I,I,I,I,GT.dv _ _ _,GT.dv _ _ _,GT.dv _ _ _,GT.dv _ _ _,⟨fun G hv b hb=>by simp at hv;rcases hv with rfl<;>exact hb.elim,by simp [U,I]⟩,⟨by decide,by decide⟩,⟨by decide,by decide⟩,⟨⟨by decide,by decide⟩,⟨by decide,by decide⟩⟩,⟨by decide,by decide⟩,⟨⟨by decide,by decide⟩,⟨by decide,by decide⟩,⟨by decide,by decide⟩⟩⟩
structure aI where
  Iy:List (List Int)
  L:List ai
  ID:List Int
  IA:Int
  deriving DecidableEq
theorem aI.ext_iff {a b:aI}:a=b↔a.Iy=b.Iy/\a.L=b.L/\a.ID=b.ID/\a.IA=b.IA:=by
  cases a;cases b;simp
structure bM where
  Iy:ak (List Int)
  L:ak ai
  ID:ak Int
structure bI (K:Nat) (F:ah) (w:World) (d:aI) (p:bM):Prop where
  Iy:GT.rd K F w d.Iy p.Iy
  L:GT.rd K F w d.L p.L
  ID:GT.rd K F w d.ID p.ID
  IA:au d.IA
def AM (K:Nat) (F:ah) (w:World) (x:aI) (p:bM):Prop:=
  ∃cW cX dB:ah,GT.own K cW w x.Iy p.Iy/\GT.own K cX w x.L p.L/\GT.own K dB w x.ID p.ID/\g7 F [cW,cX,dB]/\au x.IA
instance:GT aI where
  Ptr:=bM
  cB:=⟨[],[],[],0⟩
  bW:=⟨GT.bW (α:=List (List Int)),GT.bW (α:=List ai),GT.bW (α:=List Int)⟩
  width:=4
  agg:=true
  cells x p:=[J x.Iy.length p.Iy.1,J x.L.length p.L.1,J x.ID.length p.ID.1,O x.IA]
  rd:=bI
  own:=AM
  Jj:=by decide
  len _ _:=rfl
  one h:=by cases h
  plain _ _ v h:=by simp only [List.mem_cons,List.not_mem_nil,or_false] at h;rcases h with rfl|rfl|rfl|rfl<;>rfl
  cq h hk aF:=⟨GT.cq h.Iy hk aF,GT.cq h.L hk aF,GT.cq h.ID hk aF,h.IA⟩
  de h hw:=⟨GT.de h.Iy hw,GT.de h.L hw,GT.de h.ID hw,h.IA⟩
  dA h:=⟨GT.dA h.Iy,GT.dA h.L,GT.dA h.ID,h.IA⟩
  c5:=by
    rintro K b1 F G w x p ⟨cW,cX,dB,h0,h1,ab,s,f0⟩ hk aF;exact⟨cW,cX,dB,GT.c5 h0 hk (fun _ y=>y),GT.c5 h1 hk (fun _ y=>y),GT.c5 ab hk (fun _ y=>y),s.mono aF,f0⟩
  bh:=by
    rintro K F w w' x p ⟨cW,cX,dB,h0,h1,ab,s,f0⟩ hw;exact⟨cW,cX,dB,GT.bh h0 (fun b hb=>hw b (s.sub _ aM b hb)),GT.bh h1 (fun b hb=>hw b (s.sub _ aM b hb)),GT.bh ab (fun b hb=>hw b (s.sub _ aM b hb)),s,f0⟩
  dG:=by
    rintro K F w x p ⟨cW,cX,dB,h0,h1,ab,s,f0⟩;exact⟨_,_,_,GT.dG h0,GT.dG h1,GT.dG ab,s.lt _,f0⟩
  cQ:=by
    rintro K F w x p ⟨cW,cX,dB,h0,h1,ab,s,f0⟩;exact⟨GT.cq (GT.cQ h0) (Nat.le_refl _) (s.sub _ aM),GT.cq (GT.cQ h1) (Nat.le_refl _) (s.sub _ aM),GT.cq (GT.cQ ab) (Nat.le_refl _) (s.sub _ aM),f0⟩
  dv K F w:=⟨I,I,I,GT.dv _ _ _,GT.dv _ _ _,GT.dv _ _ _,⟨fun G hv b hb=>by simp at hv;rcases hv with rfl<;>exact hb.elim,by simp [U,I]⟩,⟨by decide,by decide⟩⟩
structure ay where
  ad:List aw
  out:List (List Int)
  IK:List Bool
  L:List ai
  ID:List Int
  IA:Int
  aK:Int
  Iz:List a6
  owned:Int
  deriving DecidableEq
theorem ay.ext_iff {a b:ay}:a=b↔a.ad=b.ad/\a.out=b.out/\a.IK=b.IK/\a.L=b.L/\a.ID=b.ID/\a.IA=b.IA/\a.aK=b.aK/\a.Iz=b.Iz/\a.owned=b.owned:=by
  cases a;cases b;simp
structure cA where
  ad:ak aw
  out:ak (List Int)
  IK:ak Bool
  L:ak ai
  ID:ak Int
  Iz:ak a6
structure az (K:Nat) (F:ah) (w:World) (d:ay) (p:cA):Prop where
  ad:GT.rd K F w d.ad p.ad
  out:GT.rd K F w d.out p.out
  IK:GT.rd K F w d.IK p.IK
  L:GT.rd K F w d.L p.L
  ID:GT.rd K F w d.ID p.ID
  IA:au d.IA
  aK:au d.aK
  Iz:GT.rd K F w d.Iz p.Iz
  owned:au d.owned
def AQ (K:Nat) (F:ah) (w:World) (x:ay) (p:cA):Prop:=
  ∃cW cX dB eN kg kh:ah,GT.own K cW w x.ad p.ad/\GT.own K cX w x.out p.out/\GT.own K dB w x.IK p.IK/\GT.own K eN w x.L p.L/\GT.own K kg w x.ID p.ID/\GT.own K kh w x.Iz p.Iz/\g7 F [cW,cX,dB,eN,kg,kh]/\au x.IA/\au x.aK/\au x.owned
instance:GT ay where
  Ptr:=cA
  cB:=⟨[],[],[],[],[],0,0,[],0⟩
  bW:=⟨GT.bW (α:=List aw),GT.bW (α:=List (List Int)),GT.bW (α:=List Bool),GT.bW (α:=List ai),GT.bW (α:=List Int),GT.bW (α:=List a6)⟩
  width:=9
  agg:=true
  cells x p:=[J x.ad.length p.ad.1,J x.out.length p.out.1,J x.IK.length p.IK.1,J x.L.length p.L.1,J x.ID.length p.ID.1,O x.IA,O x.aK,J x.Iz.length p.Iz.1,O x.owned]
  rd:=az
  own:=AQ
  Jj:=by decide
  len _ _:=rfl
  one h:=by cases h
  plain _ _ v h:=by simp only [List.mem_cons,List.not_mem_nil,or_false] at h;rcases h with rfl|rfl|rfl|rfl|rfl|rfl|rfl|rfl|rfl<;>rfl
  cq h hk aF:=⟨GT.cq h.ad hk aF,GT.cq h.out hk aF,GT.cq h.IK hk aF,GT.cq h.L hk aF,GT.cq h.ID hk aF,h.IA,h.aK,GT.cq h.Iz hk aF,h.owned⟩
  de h hw:=⟨GT.de h.ad hw,GT.de h.out hw,GT.de h.IK hw,GT.de h.L hw,GT.de h.ID hw,h.IA,h.aK,GT.de h.Iz hw,h.owned⟩
  dA h:=⟨GT.dA h.ad,GT.dA h.out,GT.dA h.IK,GT.dA h.L,GT.dA h.ID,h.IA,h.aK,GT.dA h.Iz,h.owned⟩
  c5:=by
    rintro K b1 F G w x p ⟨cW,cX,dB,eN,kg,kh,h0,h1,ab,aq,bg,kS,s,f0,f1,f2⟩ hk aF;exact⟨cW,cX,dB,eN,kg,kh,GT.c5 h0 hk (fun _ y=>y),GT.c5 h1 hk (fun _ y=>y),GT.c5 ab hk (fun _ y=>y),GT.c5 aq hk (fun _ y=>y),GT.c5 bg hk (fun _ y=>y),GT.c5 kS hk (fun _ y=>y),s.mono aF,f0,f1,f2⟩
  bh:=by
    rintro K F w w' x p ⟨cW,cX,dB,eN,kg,kh,h0,h1,ab,aq,bg,kS,s,f0,f1,f2⟩ hw;exact⟨cW,cX,dB,eN,kg,kh,GT.bh h0 (fun b hb=>hw b (s.sub _ aM b hb)),GT.bh h1 (fun b hb=>hw b (s.sub _ aM b hb)),GT.bh ab (fun b hb=>hw b (s.sub _ aM b hb)),GT.bh aq (fun b hb=>hw b (s.sub _ aM b hb)),GT.bh bg (fun b hb=>hw b (s.sub _ aM b hb)),GT.bh kS (fun b hb=>hw b (s.sub _ aM b hb)),s,f0,f1,f2⟩
  dG:=by
    rintro K F w x p ⟨cW,cX,dB,eN,kg,kh,h0,h1,ab,aq,bg,kS,s,f0,f1,f2⟩;exact⟨_,_,_,_,_,_,GT.dG h0,GT.dG h1,GT.dG ab,GT.dG aq,GT.dG bg,GT.dG kS,s.lt _,f0,f1,f2⟩
  cQ:=by
    rintro K F w x p ⟨cW,cX,dB,eN,kg,kh,h0,h1,ab,aq,bg,kS,s,f0,f1,f2⟩;exact⟨GT.cq (GT.cQ h0) (Nat.le_refl _) (s.sub _ aM),GT.cq (GT.cQ h1) (Nat.le_refl _) (s.sub _ aM),GT.cq (GT.cQ ab) (Nat.le_refl _) (s.sub _ aM),GT.cq (GT.cQ aq) (Nat.le_refl _) (s.sub _ aM),GT.cq (GT.cQ bg) (Nat.le_refl _) (s.sub _ aM),f0,f1,GT.cq (GT.cQ kS) (Nat.le_refl _) (s.sub _ aM),f2⟩
  dv K F w:=⟨I,I,I,I,I,I,GT.dv _ _ _,GT.dv _ _ _,GT.dv _ _ _,GT.dv _ _ _,GT.dv _ _ _,GT.dv _ _ _,⟨fun G hv b hb=>by simp at hv;rcases hv with rfl<;>exact hb.elim,by simp [U,I]⟩,⟨by decide,by decide⟩,⟨by decide,by decide⟩,⟨by decide,by decide⟩⟩
structure aa where
  Iy:List (List Int)
  H:List ay
  IB:List aG
  IC:List aG
  deriving DecidableEq
theorem aa.ext_iff {a b:aa}:a=b↔a.Iy=b.Iy/\a.H=b.H/\a.IB=b.IB/\a.IC=b.IC:=by
  cases a;cases b;simp
structure a1 where
  Iy:ak (List Int)
  H:ak ay
  IB:ak aG
  IC:ak aG
structure a4 (K:Nat) (F:ah) (w:World) (d:aa) (p:a1):Prop where
  Iy:GT.rd K F w d.Iy p.Iy
  H:GT.rd K F w d.H p.H
  IB:GT.rd K F w d.IB p.IB
  IC:GT.rd K F w d.IC p.IC
def AO (K:Nat) (F:ah) (w:World) (x:aa) (p:a1):Prop:=
  ∃cW cX dB eN:ah,GT.own K cW w x.Iy p.Iy/\GT.own K cX w x.H p.H/\GT.own K dB w x.IB p.IB/\GT.own K eN w x.IC p.IC/\g7 F [cW,cX,dB,eN]
instance:GT aa where
  Ptr:=a1
  cB:=⟨[],[],[],[]⟩
  bW:=⟨GT.bW (α:=List (List Int)),GT.bW (α:=List ay),GT.bW (α:=List aG),GT.bW (α:=List aG)⟩
  width:=4
  agg:=true
  cells x p:=[J x.Iy.length p.Iy.1,J x.H.length p.H.1,J x.IB.length p.IB.1,J x.IC.length p.IC.1]
  rd:=a4
  own:=AO
  Jj:=by decide
  len _ _:=rfl
  one h:=by cases h
  plain _ _ v h:=by simp only [List.mem_cons,List.not_mem_nil,or_false] at h;rcases h with rfl|rfl|rfl|rfl<;>rfl
  cq h hk aF:=⟨GT.cq h.Iy hk aF,GT.cq h.H hk aF,GT.cq h.IB hk aF,GT.cq h.IC hk aF⟩
  de h hw:=⟨GT.de h.Iy hw,GT.de h.H hw,GT.de h.IB hw,GT.de h.IC hw⟩
  dA h:=⟨GT.dA h.Iy,GT.dA h.H,GT.dA h.IB,GT.dA h.IC⟩
  c5:=by
    rintro K b1 F G w x p ⟨cW,cX,dB,eN,h0,h1,ab,aq,s⟩ hk aF;exact⟨cW,cX,dB,eN,GT.c5 h0 hk (fun _ y=>y),GT.c5 h1 hk (fun _ y=>y),GT.c5 ab hk (fun _ y=>y),GT.c5 aq hk (fun _ y=>y),s.mono aF⟩
  bh:=by
    rintro K F w w' x p ⟨cW,cX,dB,eN,h0,h1,ab,aq,s⟩ hw;exact⟨cW,cX,dB,eN,GT.bh h0 (fun b hb=>hw b (s.sub _ aM b hb)),GT.bh h1 (fun b hb=>hw b (s.sub _ aM b hb)),GT.bh ab (fun b hb=>hw b (s.sub _ aM b hb)),GT.bh aq (fun b hb=>hw b (s.sub _ aM b hb)),s⟩
  dG:=by
    rintro K F w x p ⟨cW,cX,dB,eN,h0,h1,ab,aq,s⟩;exact⟨_,_,_,_,GT.dG h0,GT.dG h1,GT.dG ab,GT.dG aq,s.lt _⟩
  cQ:=by
    rintro K F w x p ⟨cW,cX,dB,eN,h0,h1,ab,aq,s⟩;exact⟨GT.cq (GT.cQ h0) (Nat.le_refl _) (s.sub _ aM),GT.cq (GT.cQ h1) (Nat.le_refl _) (s.sub _ aM),GT.cq (GT.cQ ab) (Nat.le_refl _) (s.sub _ aM),GT.cq (GT.cQ aq) (Nat.le_refl _) (s.sub _ aM)⟩
  dv K F w:=⟨I,I,I,I,GT.dv _ _ _,GT.dv _ _ _,GT.dv _ _ _,GT.dv _ _ _,⟨fun G hv b hb=>by simp at hv;rcases hv with rfl<;>exact hb.elim,by simp [U,I]⟩⟩
structure eo where
  aO:Int
  m:Int
  g:Int
  x:Int
  y:Int
  z:Int
  deriving DecidableEq
theorem eo.ext_iff {a b:eo}:a=b↔a.aO=b.aO/\a.m=b.m/\a.g=b.g/\a.x=b.x/\a.y=b.y/\a.z=b.z:=by
  cases a;cases b;simp
structure cH (d:eo):Prop where
  aO:au d.aO
  m:au d.m
  g:au d.g
  x:au d.x
  y:au d.y
  z:au d.z
instance:GT eo where
  Ptr:=Unit
  cB:=⟨0,0,0,0,0,0⟩
  bW:=()
  width:=6
  agg:=true
  cells x _:=[O x.aO,O x.m,O x.g,O x.x,O x.y,O x.z]
  rd _ _ _ x _:=cH x
  own _ _ _ x _:=cH x
  Jj:=by decide
  len _ _:=rfl
  one h:=by cases h
  plain _ _ v h:=by simp only [List.mem_cons,List.not_mem_nil,or_false] at h;rcases h with rfl|rfl|rfl|rfl|rfl|rfl<;>rfl
  cq h _ _:=h
  de h _:=h
  dA h:=h
  c5 h _ _:=h
  bh h _:=h
  dG h:=h
  cQ h:=h
  dv _ _ _:=⟨⟨by decide,by decide⟩,⟨by decide,by decide⟩,⟨by decide,by decide⟩,⟨by decide,by decide⟩,⟨by decide,by decide⟩,⟨by decide,by decide⟩⟩
structure bP where
  ok:Bool
  n:Int
  deriving DecidableEq
theorem bP.ext_iff {a b:bP}:a=b↔a.ok=b.ok/\a.n=b.n:=by
  cases a;cases b;simp
structure df (d:bP):Prop where
  n:au d.n
instance:GT bP where
  Ptr:=Unit
  cB:=⟨false,0⟩
  bW:=()
  width:=2
  agg:=true
  cells x _:=[B x.ok,O x.n]
  rd _ _ _ x _:=df x
  own _ _ _ x _:=df x
  Jj:=by decide
  len _ _:=rfl
  one h:=by cases h
  plain _ _ v h:=by simp only [List.mem_cons,List.not_mem_nil,or_false] at h;rcases h with rfl|rfl<;>rfl
  cq h _ _:=h
  de h _:=h
  dA h:=h
  c5 h _ _:=h
  bh h _:=h
  dG h:=h
  cQ h:=h
  dv _ _ _:=⟨⟨by decide,by decide⟩⟩
end Go.Proofs.YtkggcdhigchepaaGreat
namespace Go.Proofs.YtkggcdhigchepaaGreat
open Go
section
variable {P:Program} {n:Nat} {w0:World} {M:ah} {u:World} {N:ah} {β:Nat->Nat} {σ σ':aX} {a:Act} {w:World} {ops:Array Oper} {Q:Exit->Act->World->Prop} {b1:Act->World->Prop}
theorem ag.JC (S:ag P n w0 M u N β σ a w) {d:World} {f:ah} (hc:aW f w d) (h1:∀b,f b->N b) (ab:∀b,f b->w0.heap.size<=b\/M b):
    ag P n w0 M d (Or N (fS w.heap.size d.heap.size)) β σ a d:=by
  have hb:∀k,k<σ.aN.length->β k<w.heap.size:=fun k hk=>by
    obtain⟨A,h⟩:=S.box k _ (List.getElem?_eq_getElem hk);rcases Nat.lt_or_ge (β k) w.heap.size with A|A
    · exact A
    · rw [Array.getElem?_eq_none A] at h;cases h
  refine⟨S.Jt,S.ao,S.env,S.ok,fun k A hk=>?_,S.inj,S.new,fun b B=>?_,S.I7.step hc (fun b B C=>(ab b C).resolve_left V),fun b B C=>?_⟩
  · obtain⟨D,h⟩:=S.box k A hk;have F:k<σ.aN.length:=(List.getElem?_eq_some_iff.1 hk).1;exact⟨D,(hc.block _ (hb k F) (fun A=>(S.sep _ (h1 _ A)).2.2 k F rfl)).trans h⟩
  · rcases B with h|h
    · obtain⟨D,F,G⟩:=S.sep b h;exact⟨Nat.lt_of_lt_of_le D hc.size,rfl,G⟩
    · refine⟨h.2,rfl,fun k hk e=>?_⟩;have:=hb k hk;have:=h.1;omega
  · obtain⟨D,F⟩:=S.fZ b B C;have bc:¬f b:=fun A=>by
      rcases ab b A with h|h
      · omega
      · exact C h
    exact⟨.inl D,((hc.block b (S.sep b D).1 bc).trans (S.sep b D).2.1).trans F⟩
theorem ag.IL (S:ag P n w0 M u N β σ a w) {d:World} {f:ah} (hc:aW f w d):∀b,N b->¬f b->Or N (fS w.heap.size d.heap.size) b/\d.heap[b]? =u.heap[b]? :=fun b hb A=>
  ⟨.inl hb,(hc.block b (S.sep b hb).1 A).trans (S.sep b hb).2.1⟩
theorem af.IL {α:Type} [GT α] {F d:ah} {x:α} {p:GT.Ptr α} {f:World} {l:ah} (h:af w0 M u N F x p) (hd:U F d) (g:∀b,N b->¬d b->l b/\f.heap[b]? =u.heap[b]?):af w0 M f l F x p:=
  ⟨GT.bh h.own (fun b hb _=>(g b (h.sub b hb) (fun m=>hd b hb m)).2),fun b hb=>(g b (h.sub b hb) (fun m=>hd b hb m)).1,h.I1⟩
theorem j3 {d:Tmp} {v:Value} (hd:Nat.blt d n=true):σ.put n (some d) (.v v)=some ⟨(d,.v v)::σ.env,σ.aN⟩:=by simp [aX.put,hd]
def rD:Operand->Operand->Bool
  | .tmp s,.tmp r=>Nat.beq s r
  | .const (.int .i64 x),.const (.int .i64 y)=>decide (x=y)
  |_,_=>false
theorem GG {l c:Operand} (h:rD l c=true):σ.get l=σ.get c:=by
  unfold rD at h;split at h
  · rw [Nat.eq_of_beq_eq_true h]
  · rw [of_decide_eq_true h]
  · cases h
def uj (P:Program) (n:Nat) (ops:Array Oper) (i:Nat) (σ:aX):Option (Value×List Value×Nat×Nat×Tmp):=
  match ops.toList[i]? with
  |some o=>
    match ht ops σ o,o.op,o.dst with
    |some true,.makeSlice t l c,some d=>
      match P.underlying t,σ.get l with
      |some (.slice e),some (.v (.int .i64 m))=>
        match P.info? e with
        |some i=>
          match i.zero with
          |some z=>bif Nat.blt d n&&rD l c then some (.int .i64 m,z.cells.toList,i.bytes,i.size,d) else none
          |_=>none
        |none=>none
      |_,_=>none
    |_,_,_=>none
  |none=>none
theorem HQ {α:Type} [GT α] (d:List Value) (f:d.length=GT.width α) (m:Nat) (b:Nat) (l:TypeId) (w:World) (o:w.heap[b]? =some (.cells ((Array.range (m*GT.width α)).map (d.toArray[· % d.toArray.size]!)) l (0,0))) (i:Nat) (hi:i<m):
    fR w b (0+i*GT.width α) d:=by
  intro j v A;have B:j<GT.width α:=by rw [←f];exact(List.getElem?_eq_some_iff.1 A).1
  have C:i*GT.width α+j<m*GT.width α:=by
    have:=Nat.mul_le_mul_right (GT.width α) (show i+1<=m from hi);rw [Nat.add_mul] at this;omega
  simp only [World.cell?,o,Nat.zero_add,Option.isSome_none,Bool.false_eq_true,if_false];rw [Array.getElem?_map,Array.getElem?_range];simp only [C,if_true,Option.map_some,Option.some.injEq];have D:(i*GT.width α+j) % GT.width α=j:=by rw [Nat.mul_comm,Nat.mul_add_mod];exact Nat.mod_eq_of_lt B
  simp only [List.size_toArray,f,D];simp [A]
theorem run_make {t e:TypeId} {d:TypeInfo} {f:Value} {m:Nat} (l:P.underlying t=some (.slice e)) (hi:P.info? e=some d) (o:d.zero=some f) (hb:d.bytes*m<=281474976710656) (hm:m<=9223372036854775807) (w:World)
    (hs:0<d.size) (q:f.cells.size=d.size):
    (Instr.makeSlice t (O m) (O m)).run P w= .ok (.slice (some ⟨w.heap.size,0,none⟩) m m) {w with heap:=w.heap.push (.cells ((Array.range (m*d.size)).map (f.cells[· % f.cells.size]!)) e)}:=by
  unfold Instr.makeSlice;have A:IntKind.i64.wrap (m:Int)=m:=mb ⟨V,V⟩;have h1:¬((m:Int)<0):=by omega
  have ab:¬((d.bytes:Int)*m>2 ^ 48):=by
    have:((d.bytes*m:Nat):Int)<=(281474976710656:Nat):=Int.ofNat_le.2 hb;simp only [Int.natCast_mul] at this;omega
  have B:(zeroValue e).run P w= .ok f w:=by simp [zeroValue,typeInfo,hi,o]
  simp only [Sem.run_bind,run_underlying l,Result.andThen_ok,asInt,asIntOf,Sem.run_pure,typeInfo,run_program,hi,A,h1,ab,decide_false,Bool.or_self,Bool.false_eq_true,Int.lt_irrefl,gt_iff_lt,if_false,Int.toNat_natCast];have C:∀k:Nat,(askRoom k).run P w= .ok () w:=fun k=>by
    unfold askRoom;split<;>rfl
  simp only [C,Result.andThen_ok,sizeOf,typeInfo,Sem.run_bind,run_program,hi,Sem.run_pure];by_cases A:m*d.size=0
  · have:m=0:=by
      rcases Nat.mul_eq_zero.1 A with h|h
      · exact h
      · omega
    subst this;have aU:Array.range 0=#[]:=rfl;simp [newRow,aU]
  · simp only [A,if_false,Sem.run_bind,B,Result.andThen_ok,Sem.run_pure,newRow,run_newObj]
theorem ag.make {α:Type} [GT α] (S:ag P n w0 M u N β σ a w) {i:Nat} {m by':Nat} {d:Tmp} (hop:uj P n ops i σ=some (O m,GT.cells (GT.cB:α) GT.bW,by',GT.width α,d)) (hb:by'*m<=281474976710656) (hm:m<=a2)
    (K:∀A l y q F,ag P n w0 M l y β ⟨(d,.v (J m q.1))::σ.env,σ.aN⟩ A l->(∀b,N b->y b/\l.heap[b]? =u.heap[b]?)->
      af w0 M l y F (List.replicate m (GT.cB:α)) q->U N F->b1 A l):wpOp P ops Q i b1 a w:=by
  unfold uj at hop;split at hop
  · rename_i B R;have T:ops[i]? =some B:=by simpa using R
    split at hop
    · rename_i W X c Y aA ad ae;split at hop
      · rename_i e ax hu hx;split at hop
        · rename_i o aj;split at hop
          · rename_i f ak;cases r:(Nat.blt Y n&&rD X c) with
            |false=>rw [r] at hop;cases hop
            |true=>
                  rw [r] at hop;simp only [Bool.and_eq_true] at r;obtain⟨al,am⟩:=r;have C:=hx;rw [GG (σ:=σ) am] at C;simp only [cond_true,Option.some.injEq,Prod.mk.injEq,Value.int.injEq,true_and] at hop;obtain⟨rfl,D,rfl,t,rfl⟩:=hop;have ao:f.cells.size=o.size:=by
                    have:=GT.len (GT.cB:α) GT.bW;rw [←D] at this;rw [t];simpa using this
                  have ap:=run_make (P:=P) hu aj ak hb (by unfold a2 at hm;omega) w (by rw [t];exact GT.Jj) ao;refine mg.step T (gM S aA) ?_;have ar:(execOp a.eval B).run P w= .ok (.value (.slice (some ⟨w.heap.size,0,none⟩) m m)) {w with heap:=w.heap.push (.cells ((Array.range (m*o.size)).map (f.cells[· % f.cells.size]!)) e)}:=by
                    unfold execOp;simp only [ad,S.get hx,S.get C];show(do pure (.value (←Instr.makeSlice W (O m) (O m))):Sem Next).run P w=_;rw [Sem.run_bind,ap];rfl
                  unfold Oper.wp;rw [ar];simp only [Oper.upon,ae];have G:aW I w {w with heap:=w.heap.push (.cells ((Array.range (m*o.size)).map (f.cells[· % f.cells.size]!)) e)}:=aW.push I w _;have H:({w with heap:=w.heap.push (.cells ((Array.range (m*o.size)).map (f.cells[· % f.cells.size]!)) e)}:World).heap[w.heap.size]? =some (.cells ((Array.range (m*o.size)).map (f.cells[· % f.cells.size]!)) e):=by simp
                  refine K _ _ _ (⟨false,w.heap.size,0,m,none⟩,fun _=>GT.bW) (fS w.heap.size _) (S.after al G) (S.up G) ⟨?_,fun _ h=> .inr h,fun _ h=> .inl (Nat.le_trans S.I7.size h.1)⟩ (U.fresh S _ fun _ h=>h);have L:∀k,k<m->el (List.replicate m (GT.cB:α)) k=GT.cB:=fun k hk=>by simp [el,hk]
                  refine⟨by simpa using hm,aM,by unfold a2 at hm;simp;omega,fun h=>(by cases h),fun _=>⟨⟨Nat.le_refl _,aM⟩,_,e,H,by simp [t]⟩,fun k hk=>?_,fun _=>I,fun k hk=>?_,fun _ _ b z=>z.elim,fun _ _ _ _ _ b z=>z.elim⟩
                  · simp only [List.length_replicate] at hk;rw [L k hk];have au:f.cells=(GT.cells (GT.cB:α) GT.bW).toArray:=by rw [←D]
                    refine HQ (α:=α) _ (GT.len _ _) m w.heap.size e _ ?_ k hk;rw [H,au,t]
                  · simp only [List.length_replicate] at hk;rw [L k hk];exact GT.dv _ _ _
          · cases hop
        · cases hop
      · cases hop
    · cases hop
  · cases hop
end
end Go.Proofs.YtkggcdhigchepaaGreat
namespace Go.Proofs.YtkggcdhigchepaaGreat
open Go
section
variable {P:Program} {n:Nat} {w0:World} {M:ah} {u:World} {N:ah} {β:Nat->Nat} {σ σ':aX} {a:Act} {w:World} {ops:Array Oper} {Q:Exit->Act->World->Prop} {b1:Act->World->Prop}
def h3 (ops:Array Oper) (i:Nat) (σ:aX):Option (TypeId×Value×Value):=
  match ops.toList[i]? with
  |some o=>
    match ht ops σ o,o.op,o.dst with
    |some true,.store t x y,none=>
      match σ.get x,σ.get y with
      |some (.v a),some (.v v)=>some (t,a,v)
      |_,_=>none
    |_,_,_=>none
  |none=>none
theorem GS (S:ag P n w0 M u N β σ a w) {i:Nat} {t:TypeId} {b o:Nat} {v:Value} {d:Array Value} {l:TypeId} (hop:h3 ops i σ=some (t,aL b o,v)) (hs:eZ P t=some v.cells.toList.length) (hpl:v.cells.toList.all (·.oneCell')=true)
    (hb:w.heap[b]? =some (.cells d l (0,0))) (q:o+v.cells.toList.length<=d.size)
    (h:b1 a (w.setRow b (d.toList.take o++v.cells.toList++d.toList.drop (o+v.cells.toList.length)).toArray)):wpOp P ops Q i b1 a w:=by
  unfold h3 at hop;split at hop
  · rename_i r z;have A:ops[i]? =some r:=by simpa using z
    split at hop
    · rename_i B x J aA C D;split at hop
      · rename_i K f hx F;simp only [Option.some.injEq,Prod.mk.injEq] at hop;obtain⟨rfl,rfl,rfl⟩:=hop;refine mg.step A (gM S aA) ?_;have y:=run_storeCells_at (P:=P) b o l f.cells.toList 0 d w hb (by simp at q ⊢;exact q) (fun G H=>List.all_eq_true.1 hpl G H);simp only [Nat.add_zero] at y;have I:(execOp a.eval r).run P w= .ok .skip (w.setRow b (d.toList.take o++f.cells.toList++d.toList.drop (o+f.cells.toList.length)).toArray):=by
          unfold execOp;simp only [C,S.get hx,S.get F];show(do Instr.storeAt B (aL b o) f;pure .skip:Sem Next).run P w=_;rw [Sem.run_bind];simp only [Instr.storeAt,Instr.sureAddr,Sem.run_bind,Sem.run_pure,Result.andThen_ok,storeVar,nq hs];rw [if_neg aM,y];rfl
        unfold Oper.wp;rw [I];simp only [Oper.upon,D];exact h
      · cases hop
    · cases hop
  · cases hop
theorem u5 (l d:List Value) (o i:Nat) (h:o+d.length<=l.length):(l.take o++d++l.drop (o+d.length))[i]? =if i<o then l[i]? else if i<o+d.length then d[i-o]? else l[i]? :=by
  have f:(l.take o).length=o:=by simp;omega
  by_cases h1:i<o
  · rw [if_pos h1,List.append_assoc,List.getElem?_append_left V,List.getElem?_take,if_pos h1]
  · rw [if_neg h1];by_cases ab:i<o+d.length
    · rw [if_pos ab,List.append_assoc,List.getElem?_append_right V,f,List.getElem?_append_left V]
    · rw [if_neg ab,List.append_assoc,List.getElem?_append_right V,f,List.getElem?_append_right V,List.getElem?_drop]
      congr 1
      omega
theorem sP {α:Type} [GT α] (xs:List α) (k i:Nat) (y:α) (hk:k<xs.length):el (xs.set k y) i=if i=k then y else el xs i:=by
  unfold el;simp only [List.getD_eq_getElem?_getD,List.getElem?_set];by_cases h:i=k
  · subst h;simp [hk]
  · rw [if_neg (fun e=>h e.symm),if_neg h]
theorem dS.J4 {α:Type} [GT α] {K:Nat} {F:ah} {w:World} {xs:List α} {p:ak α} (h:dS K F w xs p) (hl:0<p.1.cap):p.1.nil=false:=by
  cases bc:p.1.nil with
  |false=>rfl
  |true=>have:=h.null bc;omega
theorem ag.Jy {α:Type} [GT α] {xs:List α} {p:ak α} {F Fy:ah} (S:ag P n w0 M u N β σ a w) (hx:af w0 M u N F xs p) {i k j off:Nat} {t:TypeId} {v:Value} {y:α} {q:GT.Ptr α} (hop:h3 ops i σ=some (t,aL p.1.b off,v))
    (hoff:off=p.1.off+k*GT.width α+j) (hk:k<xs.length) (hs:eZ P t=some v.cells.toList.length) (hpl:v.cells.toList.all (·.oneCell')=true) (hjw:j+v.cells.toList.length<=GT.width α)
    (hc:GT.cells y q=(GT.cells (el xs k) (p.2 k)).take j++v.cells.toList++(GT.cells (el xs k) (p.2 k)).drop (j+v.cells.toList.length))
    (hy:∀d,GT.own a2 d u (el xs k) (p.2 k)->(∀b,d b->F b)->∃f,GT.own a2 f u y q/\∀b,f b->d b\/Fy b) (hd:U F Fy) (hyN:∀b,Fy b->N b) (hyY:∀b,Fy b->w0.heap.size<=b\/M b)
    (K:∀l o r,ag P n w0 M l o β σ a l->(∀b,N b->¬F b->o b/\l.heap[b]? =u.heap[b]?)->
      af w0 M l o r (xs.set k y) ((p.1,fun i=>if i=k then q else p.2 i):ak α)->(∀d:ah,U d F->U d Fy->(∀b,d b->N b)->U d r)->(∀b,r b->F b\/Fy b)->(∀b,N b->o b)->b1 a l):wpOp P ops Q i b1 a w:=by
  have A:dS a2 F u xs p:=hx.own;have B:=A.cap;have B:p.1.nil=false:=A.J4 V;obtain⟨C,D,G,H,I⟩:=A.row B;obtain⟨J,L,_⟩:=S.sep _ (hx.sub _ C);have B:w.heap[p.1.b]? =some (.cells D G (0,0)):=L.trans H;have J:(k+1)*GT.width α<=p.1.cap*GT.width α:=Nat.mul_le_mul_right _ V;rw [Nat.add_mul,Nat.one_mul] at J;have L:off+v.cells.toList.length<=D.size:=by omega
  refine GS S hop hs hpl B L ?_;have J:=setRow_heap w p.1.b D (D.toList.take off++v.cells.toList++D.toList.drop (off+v.cells.toList.length)).toArray G (0,0) B;have O:∀b,b≠p.1.b->(w.setRow p.1.b (D.toList.take off++v.cells.toList++D.toList.drop (off+v.cells.toList.length)).toArray).heap[b]? =w.heap[b]? :=fun b hb=>by
    simp only [World.setRow,Array.getElem?_modify];rw [if_neg (fun e=>hb e.symm)]
  have B:(w.setRow p.1.b (D.toList.take off++v.cells.toList++D.toList.drop (off+v.cells.toList.length)).toArray).heap.size=w.heap.size:=by simp [World.setRow]
  generalize R:w.setRow p.1.b (D.toList.take off++v.cells.toList++D.toList.drop (off+v.cells.toList.length)).toArray=l at*;have T:aW F w l:=by
    subst R;exact⟨rfl,rfl,rfl,by rw [B];exact Nat.le_refl _,fun b _ bc=>O b (fun e=>bc (e▸C))⟩
  have B:∀R,l.cell? ⟨p.1.b,R,none⟩=if R<off then D[R]? else if R<off+v.cells.toList.length then v.cells.toList[R-off]? else D[R]? :=fun R=>by
    simp only [World.cell?,J,Option.isSome_none,Bool.false_eq_true,if_false];have:=u5 D.toList v.cells.toList off R (by simpa using L)
    simpa using this
  have W:∀R x,u.cell? ⟨p.1.b,R,none⟩=some x->D[R]? =some x:=fun R x h=>by
    simpa [World.cell?,H] using h
  refine K l _ (Or F Fy) (S.JC T hx.sub hx.I1) (S.IL T) ⟨?_,fun b hb=> .inl (hb.elim (hx.sub b) (hyN b)),fun b hb=>hb.elim (hx.I1 b) (hyY b)⟩ (fun d H R _ b hb h=>h.elim (H b hb) (R b hb)) (fun _ h=>h) (fun _ h=> .inl h);obtain⟨d,H,R,T⟩:=A.el;obtain⟨f,X,gs⟩:=hy (d k) (H k hk) (fun b hb=>(R k hk b hb).1);have Y:∀b,F b->b≠p.1.b->l.heap[b]? =u.heap[b]? :=fun b hb o=>(O b o).trans (S.sep b (hx.sub b hb)).2.1;have r:∀b,Fy b->l.heap[b]? =u.heap[b]? :=fun b hb=>(O b (fun e=>hd _ (e▸C) hb)).trans (S.sep b (hyN b hb)).2.1;refine⟨by rw [List.length_set];exact A.le,by rw [List.length_set];exact A.cap,A.JD,A.null,fun _=>⟨.inl C,_,G,J,?_⟩,fun i O=>?_,fun i=>if i=k then f else d i,fun i O=>?_,fun i O b hb=>?_,fun i G O J o=>?_⟩
  · have:(D.toList.take off++v.cells.toList++D.toList.drop (off+v.cells.toList.length)).toArray.size=D.size:=by simp at L ⊢;omega
    rw [this];exact I
  · rw [List.length_set] at O;rw [sP _ _ _ _ hk];by_cases e:i=k
    · subst e;simp only [if_true];intro D x I;have L:D<GT.width α:=by
        have:=(List.getElem?_eq_some_iff.1 I).1;rwa [GT.len] at this
      rw [hc,u5 _ _ _ _ (by rw [GT.len];exact hjw)] at I;rw [B];by_cases d:D<j
      · rw [if_pos d] at I;rw [if_pos V];exact W _ _ (A.cell i hk D x I)
      · rw [if_neg d] at I;rw [if_neg V];by_cases f:D<j+v.cells.toList.length
        · rw [if_pos f] at I;rw [if_pos V,←I]
          congr 1
          omega
        · rw [if_neg f] at I;rw [if_neg V];exact W _ _ (A.cell i hk D x I)
    · simp only [e,if_false];intro D x I;have L:D<GT.width α:=by
        have:=(List.getElem?_eq_some_iff.1 I).1;rwa [GT.len] at this
      have h1:=W _ _ (A.cell i O D x I);rw [B];rcases Nat.lt_or_gt_of_ne e with h|h
      · have:=Nat.mul_le_mul_right (GT.width α) (show i+1<=k from h);rw [Nat.add_mul,Nat.one_mul] at this;rw [if_pos V];exact h1
      · have:=Nat.mul_le_mul_right (GT.width α) (show k+1<=i from h);rw [Nat.add_mul,Nat.one_mul] at this;rw [if_neg V,if_neg V];exact h1
  · rw [List.length_set] at O;rw [sP _ _ _ _ hk];by_cases e:i=k
    · subst e;simp only [if_true];exact GT.bh X fun b hb _=>by
        rcases gs b hb with h|h
        · obtain⟨h1,ab⟩:=R i hk b h;exact Y b h1 ab
        · exact r b h
    · simp only [e,if_false];exact GT.bh (H i O) fun b hb _=>Y b (R i O b hb).1 (R i O b hb).2
  · rw [List.length_set] at O;by_cases e:i=k
    · subst e;simp only [if_true] at hb;rcases gs b hb with h|h
      · exact⟨.inl (R i hk b h).1,(R i hk b h).2⟩
      · exact⟨.inr h,fun e=>hd _ (e▸C) h⟩
    · simp only [e,if_false] at hb;exact⟨.inl (R i O b hb).1,(R i O b hb).2⟩
  · rw [List.length_set] at O J;intro b hb A;by_cases e:i=k
    · by_cases B:G=k
      · exact o (e.trans B.symm)
      · simp only [e,if_true] at hb;simp only [B,if_false] at A;rcases gs b hb with h|h
        · exact T k G hk J (fun q=>B q.symm) b h A
        · exact hd b (R G J b A).1 h
    · by_cases B:G=k
      · simp only [e,if_false] at hb;simp only [B,if_true] at A;rcases gs b A with h|h
        · exact T i k O hk e b hb h
        · exact hd b (R i O b hb).1 h
      · simp only [e,B,if_false] at hb A;exact T i G O J o b hb A
theorem ag.Kf {α:Type} [GT α] {xs:List α} {p:ak α} {F Fy:ah} (S:ag P n w0 M u N β σ a w) (hx:af w0 M u N F xs p) {i k j off:Nat} {t:TypeId} {v:Value} {y:α} {q:GT.Ptr α} (hop:h3 ops i σ=some (t,aL p.1.b off,v))
    (hoff:off=p.1.off+k*GT.width α+j) (hk:k<xs.length) (hs:eZ P t=some v.cells.toList.length) (hpl:v.cells.toList.all (·.oneCell')=true) (hjw:j+v.cells.toList.length<=GT.width α)
    (hc:GT.cells y q=(GT.cells (el xs k) (p.2 k)).take j++v.cells.toList++(GT.cells (el xs k) (p.2 k)).drop (j+v.cells.toList.length))
    (hy:∀d,GT.own a2 d u (el xs k) (p.2 k)->(∀b,d b->F b)->∃f,GT.own a2 f u y q/\∀b,f b->d b\/Fy b) (hd:U F Fy) (hyN:∀b,Fy b->N b) (hyY:∀b,Fy b->w0.heap.size<=b\/M b)
    (K:∀A B C D,ag P n w0 M A B β σ a A->(∀b,N b->¬F b->B b/\A.heap[b]? =u.heap[b]?)->
      af w0 M A B C (xs.set k y) (p.1,D)->(∀d:ah,U d F->U d Fy->(∀b,d b->N b)->U d C)->(∀b,C b->F b\/Fy b)->(∀b,N b->B b)->b1 a A):wpOp P ops Q i b1 a w:=
  S.Jy hx hop hoff hk hs hpl hjw hc hy hd hyN hyY fun A B C=>K A B C _
theorem ag.JR {α:Type} [GT α] {xs:List α} {p:ak α} {F Fy:ah} (S:ag P n w0 M u N β σ a w) (hx:af w0 M u N F xs p) {i k j off:Nat} {t:TypeId} {v:Value} {y:α} {q:GT.Ptr α}
    (hy:∀d,GT.own a2 d u (el xs k) (p.2 k)->(∀b,d b->F b)->∃f,GT.own a2 f u y q/\∀b,f b->d b\/Fy b) (hd:U F Fy) (hyN:∀b,Fy b->N b) (hyY:∀b,Fy b->w0.heap.size<=b\/M b)
    (K:∀A B C D,ag P n w0 M A B β σ a A->(∀b,N b->¬F b->B b/\A.heap[b]? =u.heap[b]?)->
      af w0 M A B C (xs.set k y) (p.1,D)->(∀d:ah,U d F->U d Fy->(∀b,d b->N b)->U d C)->(∀b,C b->F b\/Fy b)->(∀b,N b->B b)->b1 a A)
    (hop:h3 ops i σ=some (t,aL p.1.b off,v):=by kernel_rfl) (hoff:off=p.1.off+k*GT.width α+j:=by kernel_rfl) (hk:k<xs.length:=by omega) (hs:eZ P t=some v.cells.toList.length:=by kernel_rfl) (hpl:v.cells.toList.all (·.oneCell')=true:=by kernel_rfl) (hjw:Nat.ble (j+v.cells.toList.length) (GT.width α)=true:=by kernel_rfl)
    (hc:GT.cells y q=(GT.cells (el xs k) (p.2 k)).take j++v.cells.toList++(GT.cells (el xs k) (p.2 k)).drop (j+v.cells.toList.length):=by kernel_rfl):wpOp P ops Q i b1 a w:=
  S.Kf hx hop hoff hk hs hpl (Nat.le_of_ble_eq_true hjw) hc hy hd hyN hyY K
theorem ag.JM {α:Type} [GT α] {xs:List α} {p:ak α} {F:ah} (S:ag P n w0 M u N β σ a w) (hx:af w0 M u N F xs p) {i k j off:Nat} {t:TypeId} {v:Value} {y:α} {q:GT.Ptr α}
    (hy:∀d,GT.own a2 d u (el xs k) (p.2 k)->(∀b,d b->F b)->∃f,GT.own a2 f u y q/\∀b,f b->d b\/I b)
    (K:∀A B C D,ag P n w0 M A B β σ a A->(∀b,N b->¬F b->B b/\A.heap[b]? =u.heap[b]?)->
      af w0 M A B C (xs.set k y) (p.1,D)->(∀d:ah,U d F->U d I->(∀b,d b->N b)->U d C)->(∀b,C b->F b\/I b)->(∀b,N b->B b)->b1 a A)
    (hop:h3 ops i σ=some (t,aL p.1.b off,v):=by kernel_rfl) (hoff:off=p.1.off+k*GT.width α+j:=by kernel_rfl) (hk:k<xs.length:=by omega) (hs:eZ P t=some v.cells.toList.length:=by kernel_rfl) (hpl:v.cells.toList.all (·.oneCell')=true:=by kernel_rfl) (hjw:Nat.ble (j+v.cells.toList.length) (GT.width α)=true:=by kernel_rfl)
    (hc:GT.cells y q=(GT.cells (el xs k) (p.2 k)).take j++v.cells.toList++(GT.cells (el xs k) (p.2 k)).drop (j+v.cells.toList.length):=by kernel_rfl):wpOp P ops Q i b1 a w:=
  S.Kf hx hop hoff hk hs hpl (Nat.le_of_ble_eq_true hjw) hc hy (fun _ _ h=>False.elim h) (fun _ h=>False.elim h) (fun _ h=>False.elim h) K
theorem ag.Jc {α:Type} [GT α] {xs:List α} {p:ak α} {F Fy:ah} (S:ag P n w0 M u N β σ a w) (hx:af w0 M u N F xs p) {i k off:Nat} {t:TypeId} {y:α} {q:GT.Ptr α} (hy:af w0 M u N Fy y q) (hd:U F Fy)
    (K:∀d f l o,ag P n w0 M d f β σ a d->(∀b,N b->¬F b->f b/\d.heap[b]? =u.heap[b]?)->
      af w0 M d f l (xs.set k y) (p.1,o)->(∀r:ah,U r F->U r Fy->(∀b,r b->N b)->U r l)->(∀b,l b->F b\/Fy b)->(∀b,N b->f b)->b1 a d)
    (hop:h3 ops i σ=some (t,aL p.1.b off,GT.val y q):=by kernel_rfl) (hoff:off=p.1.off+k*GT.width α+0:=by kernel_rfl) (hk:k<xs.length:=by omega) (hs:eZ P t=some (GT.val y q).cells.toList.length:=by kernel_rfl) (hpl:(GT.val y q).cells.toList.all (·.oneCell')=true:=by kernel_rfl) (hjw:Nat.ble (0+(GT.val y q).cells.toList.length) (GT.width α)=true:=by kernel_rfl)
    (hc:GT.cells y q=(GT.cells (el xs k) (p.2 k)).take 0++(GT.val y q).cells.toList++(GT.cells (el xs k) (p.2 k)).drop (0+(GT.val y q).cells.toList.length):=by kernel_rfl):wpOp P ops Q i b1 a w:=
  S.Kf hx hop hoff hk hs hpl (Nat.le_of_ble_eq_true hjw) hc (fun _ _ _=>⟨Fy,hy.own,fun _ h=> .inr h⟩) hd hy.sub hy.I1 K
end
end Go.Proofs.YtkggcdhigchepaaGreat
namespace Go.Proofs.YtkggcdhigchepaaGreat
open Go
section
variable {P:Program} {n:Nat} {w0:World} {M:ah} {u:World} {N:ah} {β:Nat->Nat} {σ σ':aX} {a:Act} {w:World} {ops:Array Oper} {Q:Exit->Act->World->Prop} {b1:Act->World->Prop}
def rowOf (s:Nat):Nat->List (Nat×Value)->Option (List Value)
  |_,[]=>some []
  |k,(i,v)::r=>bif Nat.beq i k&&Nat.beq v.cells.toList.length s then(rowOf s (k+1) r).map fun l=>v.cells.toList++l else none
theorem xB (off:Nat):∀(l:List Value) (j:Nat) (d x f:List Value),d.length=off+j->x.length=l.length->
    (l.zipIdx j).foldl (fun(o:Array Value) (c:Value×Nat)=>o.setIfInBounds (off+c.2) c.1) (d++x++f).toArray=(d++l++f).toArray
  |
    [],j,d,x,f,h1,ab=>by
    have:x=[]:=List.length_eq_zero_iff.1 (by simpa using ab);subst this;simp
  |v::l,j,d,x,f,h1,ab=>by
    match x,ab with
    |y::A,ab=>
      simp only [List.zipIdx_cons,List.foldl_cons];have e:((d++y::A++f).toArray.setIfInBounds (off+j) v)=((d++[v])++A++f).toArray:=by
        simp only [List.setIfInBounds_toArray]
        congr 1
        rw [List.append_assoc,List.set_append_right _ _ V,h1];simp
      rw [e,xB off l (j+1) (d++[v]) A f (by simp;omega) (by simpa using ab)];simp
theorem xt (s:Nat):∀(l:List (Nat×Value)) (k:Nat) (d f o:List Value),rowOf s k l=some d->f.length=k*s->o.length=l.length*s->
    Instr.fill (fun i=>some (i*s,s)) (f++o).toArray l=some (f++d).toArray
  |
    [],k,d,f,o,h,h1,ab=>by
    simp only [rowOf,Option.some.injEq] at h;subst h;have:o=[]:=List.length_eq_zero_iff.1 (by simpa using ab);subst this;simp [Instr.fill]
  |(i,v)::r,k,d,f,o,h,h1,ab=>by
    simp only [rowOf] at h;cases hb:(Nat.beq i k&&Nat.beq v.cells.toList.length s) with
    |false=>rw [hb] at h;cases h
    |true=>
      rw [hb] at h;simp only [Bool.and_eq_true] at hb;have A:i=k:=Nat.eq_of_beq_eq_true hb.1;have B:v.cells.toList.length=s:=Nat.eq_of_beq_eq_true hb.2;subst A;simp only [cond_true] at h;cases aU:rowOf s (i+1) r with
      |none=>rw [aU] at h;cases h
      |some A=>
        rw [aU] at h;simp only [Option.map_some,Option.some.injEq] at h;subst h;have C:o.length=s+r.length*s:=by rw [ab,List.length_cons,Nat.add_mul,Nat.one_mul,Nat.add_comm]
        have D:v.cells.size=s:=by simpa using B
        unfold Instr.fill;have c:(v.cells.size≠s||decide (i*s+v.cells.size>(f++o).toArray.size))=false:=by
          simp [D,h1,C]
        simp only [c,Bool.false_eq_true,if_false];have aF:v.cells.zipIdx.foldl (fun(C:Array Value) (x:Value×Nat)=>C.setIfInBounds (i*s+x.2) x.1) (f++o).toArray=(f++v.cells.toList++o.drop s).toArray:=by
          rw [←Array.foldl_toList,Array.toList_zipIdx];have:=xB (i*s) v.cells.toList 0 f (o.take s) (o.drop s) V (by simp;omega)
          simpa using this
        have:=xt s r (i+1) A (f++v.cells.toList) (o.drop s) aU (by simp [Nat.add_mul,h1] at B ⊢;omega) (by simp;omega);have D:(fun(C:Array Value) (x:Value×Nat)=>match x with|(c,j)=>C.setIfInBounds (i*s+j) c)=fun C x=>C.setIfInBounds (i*s+x.2) x.1:=by
          funext C x;rfl
        rw [D,aF,this];simp
def kq (P:Program) (n:Nat) (ops:Array Oper) (i:Nat) (σ:aX):Option (List Value×Nat×Tmp):=
  match ops.toList[i]? with
  |some o=>
    match ht ops σ o,o.op,o.dst with
    |some true,.buildSlice t len parts,some d=>
      match P.underlying t with
      |some (.slice e)=>
        match P.info? e with
        |some info=>
          match info.zero,kR σ parts.toList with
          |some z,some l=>bif Nat.blt d n&&Nat.beq z.cells.toList.length info.size&&Nat.beq l.length len&&Nat.ble (len*info.size) 16777216&&Nat.blt 0 info.size then(rowOf info.size 0 l).map fun r=>(r,len,d) else none
          |_,_=>none
        |none=>none
      |_=>none
    |_,_,_=>none
  |none=>none
theorem ag.gg (S:ag P n w0 M u N β σ a w) {i:Nat} {B:List Value} {m:Nat} {d:Tmp} (hop:kq P n ops i σ=some (B,m,d))
    (K:∀C o O,ag P n w0 M o (Or N (fS w.heap.size o.heap.size)) β ⟨(d,.v (J m ⟨false,w.heap.size,0,m,none⟩))::σ.env,σ.aN⟩ C o->(∀b,N b->Or N (fS w.heap.size o.heap.size) b/\o.heap[b]? =u.heap[b]?)->
      o.heap[w.heap.size]? =some (.cells B.toArray O (0,0))->o.heap.size=w.heap.size+1->b1 C o):wpOp P ops Q i b1 a w:=by
  unfold kq at hop;split at hop
  · rename_i D R;have T:ops[i]? =some D:=by simpa using R
    split at hop
    · rename_i U l F W aA X Y;split at hop
      · rename_i e hu;split at hop
        · rename_i f G;split at hop
          · rename_i z q ad ae;cases r:(Nat.blt W n&&Nat.beq z.cells.toList.length f.size&&Nat.beq q.length l&&Nat.ble (l*f.size) 16777216&&Nat.blt 0 f.size) with
            |
              false=>rw [r] at hop;cases hop
            |true=>
              rw [r] at hop;simp only [cond_true] at hop;simp only [Bool.and_eq_true] at r;obtain⟨⟨⟨⟨af,aj⟩,ak⟩,al⟩,am⟩:=r;have ax:z.cells.toList.length=f.size:=Nat.eq_of_beq_eq_true aj;have ao:q.length=l:=Nat.eq_of_beq_eq_true ak;have az:l*f.size<=16777216:=Nat.le_of_ble_eq_true al;have aB:0<f.size:=Nat.le_of_ble_eq_true am;cases aU:rowOf f.size 0 q with
              |none=>rw [aU] at hop;cases hop
              |some t=>
                rw [aU] at hop;simp only [Option.map_some,Option.some.injEq,Prod.mk.injEq] at hop;obtain⟨rfl,rfl,rfl⟩:=hop;refine mg.step T (gM S aA) ?_;have ap:(F.map fun(i,x)=>(i,a.eval x))=q.toArray:=by
                  rw [←Array.toList_inj]
                  simpa using s3 S _ _ ae
                have ar:(zeroValue e).run P w= .ok z w:=by simp [zeroValue,typeInfo,G,ad]
                have H:∀y:Array Value,y.size=l*f.size->Instr.fill (fun i=>some (i*f.size,f.size)) y q=some t.toArray:=fun y hc=>by
                  have:=xt f.size q 0 t [] y.toList aU aM (by rw [ao];simpa using hc)
                  simpa using this
                have au:(execOp a.eval D).run P w= .ok (.value (.slice (some ⟨w.heap.size,0,none⟩) l l)) {w with heap:=w.heap.push (.cells t.toArray e)}:=by
                  unfold execOp;simp only [X];show(do pure (.value (←Instr.buildSlice U l (F.map fun(i,x)=>(i,a.eval x)))):Sem Next).run P w=_;rw [ap];unfold Instr.buildSlice;have bc:¬(l*f.size>2 ^ 24):=by omega
                  simp only [Sem.run_bind,run_underlying hu,Result.andThen_ok,sizeOf,typeInfo,run_program,G,Sem.run_pure];simp only [bc,if_false];by_cases A:l*f.size=0
                  · simp only [A,if_true,Sem.run_bind,Sem.run_pure,Result.andThen_ok];rw [H _ (by simp [A])];simp [newRow]
                  · simp only [A,if_false,Sem.run_bind,ar,Sem.run_pure,Result.andThen_ok];rw [H _ aM];simp [newRow]
                unfold Oper.wp;rw [au];simp only [Oper.upon,Y];have L:aW I w {w with heap:=w.heap.push (.cells t.toArray e)}:=aW.push I w _;exact K _ _ e (S.after af L) (S.up L) aM aM
          · cases hop
        · cases hop
      · cases hop
    · cases hop
  · cases hop
theorem ag.Kx {α:Type} [GT α] (S:ag P n w0 M u N β σ a w) {i:Nat} {d:Tmp} (hop:kq P n ops i σ=some ([],0,d))
    (K:∀f l o q F,ag P n w0 M l o β ⟨(d,.v (J 0 q.1))::σ.env,σ.aN⟩ f l->(∀b,N b->o b/\l.heap[b]? =u.heap[b]?)->
      af w0 M l o F ([]:List α) q->U N F->b1 f l):wpOp P ops Q i b1 a w:=by
  refine S.gg hop fun f l A B C D G=>K f l _ (⟨false,w.heap.size,0,0,none⟩,fun _=>GT.bW) (fS w.heap.size l.heap.size) B C ⟨?_,fun _ h=> .inr h,fun _ h=> .inl (Nat.le_trans S.I7.size h.1)⟩ (U.fresh S l fun _ h=>h);exact⟨Nat.zero_le _,Nat.zero_le _,Nat.zero_le _,fun h=>(by cases h),fun _=>⟨⟨Nat.le_refl _,(by show w.heap.size<l.heap.size;omega)⟩,_,A,D,aM⟩,fun i B=>absurd B (Nat.not_lt_zero _),fun _=>I,fun i B=>absurd B (Nat.not_lt_zero _),fun i B=>absurd B (Nat.not_lt_zero _),fun i _ B=>absurd B (Nat.not_lt_zero _)⟩
theorem ag.JW {α:Type} [GT α] {x:α} {p:GT.Ptr α} {F:ah} (S:ag P n w0 M u N β σ a w) (hx:GT.own a2 F u x p) (hN:∀b,F b->N b) (hY:∀b,F b->w0.heap.size<=b\/M b) {i:Nat} {d:Tmp} (hop:kq P n ops i σ=some (GT.cells x p,1,d))
    (K:∀f l o q r,ag P n w0 M l o β ⟨(d,.v (J 1 q.1))::σ.env,σ.aN⟩ f l->(∀b,N b->o b/\l.heap[b]? =u.heap[b]?)->
      af w0 M l o r [x] q->(∀t:ah,U t F->(∀b,t b->N b)->U t r)->b1 f l):wpOp P ops Q i b1 a w:=by
  refine S.gg hop fun f l A B C D G=>K f l _ (⟨false,w.heap.size,0,1,none⟩,fun _=>p) (Or F (fS w.heap.size l.heap.size)) B C ⟨?_,fun b h=>h.elim (fun h=> .inl (hN b h)) .inr,fun b h=>h.elim (hY b) (fun h=> .inl (Nat.le_trans S.I7.size h.1))⟩
    (fun t B G b hb h=>h.elim (B b hb) (U.fresh S l (fun _ h=>h) b (G b hb)))
  have B:∀b,F b->b<w.heap.size:=fun b hb=>(S.sep b (hN b hb)).1;refine⟨(show 1<=a2 by decide),Nat.le_refl _,(show 1<=9223372036854775807 by decide),fun h=>(by cases h),fun _=>⟨.inr ⟨Nat.le_refl _,(by show w.heap.size<l.heap.size;omega)⟩,_,A,D,by simp [GT.len]⟩,fun i G=>?_,fun _=>F,fun i G=>?_,fun i G b hb=>⟨.inl hb,fun e=>by have:=B b hb;simp only [] at e;omega⟩,fun i j G A H=>?_⟩
  · simp at G;subst G;intro j v A;have B:(GT.cells x p)[j]? =some v:=A;simp only [World.cell?,D,Option.isSome_none,Bool.false_eq_true,if_false]
    simpa using B
  · simp at G;subst G;exact GT.bh hx fun b hb _=>(C b (hN b hb)).2
  · simp at G A;omega
theorem xG (m:Nat):∀(r c:Nat),Builtin.growBy m r c<=2*m+400\/Builtin.growBy m r c<=c
  |
    0,c=> .inr (by simp [Builtin.growBy])
  |r+1,c=>by
    unfold Builtin.growBy;split
    · exact .inr (Nat.le_refl _)
    · rename_i h;rcases xG m r (c+(c+768) / 4) with d|d
      · exact .inl d
      · exact .inl V
theorem FC (a7 d:Nat) (h:d<a7):Builtin.nextslicecap a7 d<=2*a7+400:=by
  unfold Builtin.nextslicecap;split
  · omega
  · split
    · omega
    · rcases xG a7 4 d with f|f<;>omega
def iJ (P:Program) (n:Nat) (ops:Array Oper) (i:Nat) (σ:aX):Option (Value×Value×Nat×Nat×Tmp):=
  match ops.toList[i]? with
  |some o=>
    match ht ops σ o,o.op,o.dst with
    |some true,.call ⟨.builtin .append,args,r8⟩,some d=>
      match args.toList,r8.toList with
      |[x,y],[t1,t2]=>
        match P.underlying t1,P.underlying t2,σ.get x,σ.get y with
        |some (.slice e),some (.slice _),some (.v s),some (.v r)=>
          match P.info? e with
          |some info=>
            match info.zero with
            |some z=>bif Nat.blt d n&&Nat.beq z.cells.toList.length info.size&&Nat.ble info.bytes 4096&&Nat.blt 0 info.bytes then some (s,r,info.size,info.bytes,d) else none
            |none=>none
          |none=>none
        |_,_,_,_=>none
      |_,_=>none
    |_,_,_=>none
  |none=>none
def dk {α:Type} [GT α] (xs:List α) (p:Nat->GT.Ptr α) (m:Nat):List Value:=(List.range m).flatMap fun i=>GT.cells (el xs i) (p i)
theorem kN {α:Type} [GT α] (xs:List α) (p:Nat->GT.Ptr α) (m:Nat):(dk xs p m).length=m*GT.width α:=by
  unfold dk
  induction m with
  |zero=>simp
  |succ m d=>rw [List.range_succ,List.flatMap_append,List.length_append,d];simp [GT.len,Nat.add_mul]
theorem pD {α:Type} [GT α] (xs:List α) (p:Nat->GT.Ptr α) (m:Nat):∀(i j:Nat),i<m->j<GT.width α->(dk xs p m)[i*GT.width α+j]? =(GT.cells (el xs i) (p i))[j]? :=by
  induction m with
  |zero=>intro i j h;omega
  |succ m d=>
    intro i j f l;have o:dk xs p (m+1)=dk xs p m++GT.cells (el xs m) (p m):=by
      unfold dk;rw [List.range_succ,List.flatMap_append];simp
    rw [o];have A:=kN xs p m;by_cases h:i<m
    · have:=Nat.mul_le_mul_right (GT.width α) (show i+1<=m from h);rw [Nat.add_mul,Nat.one_mul] at this;rw [List.getElem?_append_left V];exact d i j h l
    · have:i=m:=by omega
      subst this;rw [List.getElem?_append_right V,A]
      congr 1
      omega
theorem Em {α:Type} [GT α] (xs:List α) (p:Nat->GT.Ptr α) (m:Nat):∀v∈dk xs p m,v.oneCell'=true:=by
  intro v d;unfold dk at d;rw [List.mem_flatMap] at d;obtain⟨i,_,h⟩:=d;exact GT.plain _ _ v h
theorem rC {α:Type} [GT α] {xs:List α} {p:ak α} {w:World} (hc:∀i,i<xs.length->fR w p.1.b (p.1.off+i*GT.width α) (GT.cells (el xs i) (p.2 i))) (bc:p.1.nil=true->xs.length=0) (s:Nat) (hs:s=GT.width α):
    (Builtin.firstCells s xs.length (J xs.length p.1)).run P w= .ok (dk xs p.2 xs.length).toArray w:=by
  subst hs;unfold J gE.addr;cases h:p.1.nil with
  |true=>
    have:=bc h;simp only [cond_true,Builtin.firstCells,this];cases p.1.kl<;>simp [dk,loadCells,loadCellsFrom]
  |false=>
    simp only [cond_false,Builtin.firstCells];have:=run_loadCells_list (P:=P) w ⟨p.1.b,p.1.off,none⟩ (dk xs p.2 xs.length) (fun k v hk=>by
      have d:k<xs.length*GT.width α:=by
        have:=(List.getElem?_eq_some_iff.1 hk).1;rwa [kN] at this
      have f:=Nat.div_add_mod k (GT.width α);have l:=Nat.mod_lt k (GT.Jj (α:=α));have aB:k / GT.width α<xs.length:=by
        rw [Nat.div_lt_iff_lt_mul GT.Jj];exact d
      have e:k=k / GT.width α*GT.width α+k % GT.width α:=by rw [Nat.mul_comm];exact f.symm
      rw [e,pD xs p.2 xs.length _ _ aB l] at hk;have:=hc _ aB _ _ hk;rw [Addr.add_mid];rwa [Nat.add_assoc,←e] at this)
    rw [kN] at this;exact this
theorem GB {α:Type} [GT α] {xs d:List α} {p q:ak α} {t1 t2 e f ty:TypeId} {l:TypeInfo} {o:Value} {w:World} {r:Array Value} {t:TypeId}
    (h1
        :P.underlying t1=some (.slice e)) (ab:P.underlying t2=some (.slice f)) (hi:P.info? e=some l) (y:l.zero=some o) (z:o.cells.toList.length=l.size) (A:l.size=GT.width α) (B:l.bytes<=4096) (C:0<l.bytes)
    (hx:∀i,i<xs.length->fR w p.1.b (p.1.off+i*GT.width α) (GT.cells (el xs i) (p.2 i))) (C:p.1.nil=true->p.1.cap=0) (D:xs.length<=p.1.cap)
    (D:p.1.nil=false->w.heap[p.1.b]? =some (.cells r t (0,0))/\p.1.off+p.1.cap*GT.width α<=r.size)
    (hy:∀i,i<d.length->fR w q.1.b (q.1.off+i*GT.width α) (GT.cells (el d i) (q.2 i))) (F:q.1.nil=true->d.length=0) (hl:xs.length+d.length<=a2):
    (p.1.nil=false/\xs.length+d.length<=p.1.cap/\(Builtin.append_ #[t1,t2] ty #[J xs.length p.1,J d.length q.1]).run P w= .ok (J (xs.length+d.length) p.1)
        (w.setRow p.1.b (r.toList.take (p.1.off+xs.length*GT.width α)++dk d q.2 d.length++r.toList.drop (p.1.off+xs.length*GT.width α+d.length*GT.width α)).toArray))\/
    (xs.length+d.length=0/\p.1.nil=true/\(Builtin.append_ #[t1,t2] ty #[J xs.length p.1,J d.length q.1]).run P w= .ok (J (xs.length+d.length) p.1) w)\/
    ∃(G:Nat) (br:Nat) (H:List Value),xs.length+d.length<=G/\G<=9223372036854775807/\H.length=(G-(xs.length+d.length))*GT.width α/\(Builtin.append_ #[t1,t2] ty #[J xs.length p.1,J d.length q.1]).run P w=
      .ok (J (xs.length+d.length) ⟨false,w.heap.size,0,G,none⟩) {w with heap:=w.heap.push (.cells (dk xs p.2 xs.length++dk d q.2 d.length++H).toArray e),drawn:=br}:=by
  have H:p.1.nil=true->xs.length=0:=fun h=>by have:=C h;omega
  have I:=rC (P:=P) hx H l.size A;have K:=rC (P:=P) hy F l.size A;rw [A] at I K;have L:∀k,TypeDesc.slice f≠ .int k:=fun k h=>by cases h
  have I:(match (TypeDesc.slice f:TypeDesc) with| .int _=>true|_=>false)=false:=rfl;unfold a2 at hl;by_cases I:xs.length+d.length<=p.1.cap
  · cases L:p.1.nil with
    |
      true=>
      have O:=C L;right;left;refine⟨V,rfl,?_⟩;have O:p.1.addr=p.1.kl:=by unfold gE.addr;rw [L];rfl
      have C:d.length=0:=by omega
      rw [C] at K;simp only [dk,List.range_zero,List.flatMap_nil] at K;rw [C];have R:xs.length+0<=p.1.cap:=by omega
      simp only [J,O] at K ⊢;cases C:p.1.kl<;>simp only [Builtin.append_,List.getElem?_toArray,List.getElem?_cons_zero,List.getElem?_cons_succ,Sem.run_bind,run_underlying h1,run_underlying ab,Result.andThen_ok,sizeOf,typeInfo,run_program,hi,Sem.run_pure,Bool.false_eq_true,if_false,Builtin.lenOf,R,if_true,Bool.not_false,A,K];rfl
    |false=>
      left;obtain⟨aU,C⟩:=D L;refine⟨rfl,I,?_⟩;have O:p.1.addr=some ⟨p.1.b,p.1.off,none⟩:=by unfold gE.addr;rw [L];rfl
      have C:(xs.length+d.length)*GT.width α<=p.1.cap*GT.width α:=Nat.mul_le_mul_right _ I;rw [Nat.add_mul] at C;have D:=run_storeCells_at (P:=P) p.1.b (p.1.off+xs.length*GT.width α) t (dk d q.2 d.length) 0 r w aU (by rw [kN];simp only [Nat.add_zero];omega) (Em _ _ _);simp only [Nat.add_zero] at D;simp only [J,O] at K ⊢;simp only [Builtin.append_,List.getElem?_toArray,List.getElem?_cons_zero,List.getElem?_cons_succ,Sem.run_bind,run_underlying h1,run_underlying ab,Result.andThen_ok,sizeOf,typeInfo,run_program,hi,Sem.run_pure,Bool.false_eq_true,if_false,Builtin.lenOf,I,if_true,Bool.not_false,K,Addr.add_mid,A];rw [D,kN];rfl
  · right;right;have C:=FC (xs.length+d.length) p.1.cap V;have hb:Builtin.nextslicecap (xs.length+d.length) p.1.cap*l.bytes<=(2*4194304+400)*4096:=Nat.mul_le_mul V B;have C:¬(((xs.length+d.length:Nat):Int)>IntKind.i64.max/\(False\/l.bytes=0)):=fun h=>by
      rcases h.2 with h|h
      · exact h
      · omega
    have B:¬(Builtin.nextslicecap (xs.length+d.length) p.1.cap*l.bytes>2 ^ 48):=by omega
    have D:(Question.appendCap (xs.length+d.length) p.1.cap e).forced=false:=rfl;let G:=(Question.appendCap (xs.length+d.length) p.1.cap e).cut (w.tape w.drawn (.appendCap (xs.length+d.length) p.1.cap e));have D:G=(xs.length+d.length)+w.tape w.drawn (.appendCap (xs.length+d.length) p.1.cap e) % (2 ^ 63-(xs.length+d.length)):=rfl;have D:w.tape w.drawn (.appendCap (xs.length+d.length) p.1.cap e) % (2 ^ 63-(xs.length+d.length))<2 ^ 63-(xs.length+d.length):=Nat.mod_lt _ V;have D:(zeroValue e).run P {w with drawn:=w.drawn+1}= .ok o {w with drawn:=w.drawn+1}:=by simp [zeroValue,typeInfo,hi,y]
    have K:=rC (P:=P) (w:={w with drawn:=w.drawn+1}) (xs:=xs) (p:=p) hx H l.size A;have L:=rC (P:=P) (w:={w with drawn:=w.drawn+1}) (xs:=d) (p:=q) hy F l.size A;rw [A] at K L;have H:∀(k:Nat) (w:World),(askRoom k).run P w= .ok () w:=fun k w=>by unfold askRoom;split<;>rfl
    refine⟨G,w.drawn+1,(Builtin.zeroCells o.cells (G-(xs.length+d.length))).toList,V,V,?_,?_⟩
    · unfold Builtin.zeroCells;have:o.cells.size=GT.width α:=by rw [←A,←z];simp
      simp [this]
    · have F:(choose (.appendCap (xs.length+d.length) p.1.cap e)).run P w= .ok G {w with drawn:=w.drawn+1}:=rfl;simp only [J] at K L ⊢;simp only [Builtin.append_,List.getElem?_toArray,List.getElem?_cons_zero,List.getElem?_cons_succ,Sem.run_bind,run_underlying h1,run_underlying ab,Result.andThen_ok,sizeOf,typeInfo,run_program,hi,Sem.run_pure,Bool.false_eq_true,if_false,Builtin.lenOf,I,Bool.not_false,if_true,C,B,F,H,A,K,L,D,newRow,run_newObj];have O:(dk xs p.2 xs.length).toArray++(dk d q.2 d.length).toArray++Builtin.zeroCells o.cells (G-(xs.length+d.length))=(dk xs p.2 xs.length++dk d q.2 d.length++(Builtin.zeroCells o.cells (G-(xs.length+d.length))).toList).toArray:=by
        apply Array.ext';simp
      rw [O];rfl
theorem ag.append {α:Type} [GT α] {xs f:List α} {p q:ak α} {F Fy:ah} (S:ag P n w0 M u N β σ a w) (hx:af w0 M u N F xs p) (hyr:i_ u N f q)
    (bB:∃y:Nat->ah,(∀i,i<f.length->GT.own a2 (y i) u (el f i) (q.2 i))/\(∀i,i<f.length->∀b,y i b->Fy b)/\(∀i j,i<f.length->j<f.length->i≠j->U (y i) (y j)))
    (hd:U F Fy) (hyN:∀b,Fy b->N b) (hyY:∀b,Fy b->w0.heap.size<=b\/M b) {i:Nat} {by':Nat} {d:Tmp} (hop:iJ P n ops i σ=some (J xs.length p.1,J f.length q.1,GT.width α,by',d)) (hl:xs.length+f.length<=a2)
    (K:∀bf l G r bh,ag P n w0 M l G β ⟨(d,.v (J (xs.length+f.length) r.1))::σ.env,σ.aN⟩ bf l->(∀b,N b->¬F b->G b/\l.heap[b]? =u.heap[b]?)->
      af w0 M l G bh (xs++f) r->(∀y:ah,U y F->U y Fy->(∀b,y b->N b)->U y bh)->((∀b,N b->G b)/\(∀i,i<xs.length->r.2 i=p.2 i)/\(r.1=p.1\/∀b,N b->l.heap[b]? =u.heap[b]?))->b1 bf l):wpOp P ops Q i b1 a w:=by
  unfold iJ at hop;split at hop
  · rename_i ad bC;have bE:ops[i]? =some ad:=by simpa using bC
    split at hop
    · rename_i bF bG au aA bH bI;split at hop
      · rename_i x bJ aK aL bK bL;split at hop
        · rename_i e ax s r bM hV bN bO;split at hop
          · rename_i aN bT;split at hop
            · rename_i bU bW;cases az:(Nat.blt au n&&Nat.beq bU.cells.toList.length aN.size&&Nat.ble aN.bytes 4096&&Nat.blt 0 aN.bytes) with
              |
                false=>rw [az] at hop;cases hop
              |true=>
                rw [az] at hop;simp only [cond_true,Option.some.injEq,Prod.mk.injEq] at hop;obtain⟨rfl,rfl,bX,_,rfl⟩:=hop;simp only [Bool.and_eq_true] at az;obtain⟨⟨⟨bY,bZ⟩,b2⟩,b3⟩:=az;have aj:bF=#[x,bJ]:=by rw [←Array.toList_inj];exact bK
                have b7:bG=#[aK,aL]:=by rw [←Array.toList_inj];exact bL
                subst aj b7;have A:dS a2 F u xs p:=hx.own;have aO:ae a2 N u f q:=hyr;obtain⟨y,cc,R,cd⟩:=A.el;obtain⟨bi,ce,T,cf⟩:=bB;have al:∀b,N b->w.heap[b]? =u.heap[b]? :=fun b hb=>(S.sep b hb).2.1;have bj:∀i,i<xs.length->fR w p.1.b (p.1.off+i*GT.width α) (GT.cells (el xs i) (p.2 i)):=fun i o=>by
                  have cg:=A.J4 (by have:=A.cap;omega);exact(A.cell i o).JO (al _ (hx.sub _ (A.row cg).1))
                have ch:∀i,i<f.length->fR w q.1.b (q.1.off+i*GT.width α) (GT.cells (el f i) (q.2 i)):=fun i o=>
                  (aO.cell i o).JO (al _ (aO.at_ V).2)
                have ci:q.1.nil=true->f.length=0:=fun h=>by
                  rcases Nat.eq_zero_or_pos f.length with am|am
                  · exact am
                  · have:=(aO.at_ am).1;rw [h] at this;cases this
                obtain⟨t,W,bm⟩:∃(t:Array Value) (W:TypeId),p.1.nil=false->w.heap[p.1.b]? =some (.cells t W (0,0))/\p.1.off+p.1.cap*GT.width α<=t.size:=by
                  cases bc:p.1.nil with
                  |true=>exact⟨#[],0,fun h=>by cases h⟩
                  |false=>
                    obtain⟨aP,t,W,h1,ab⟩:=A.row bc;exact⟨t,W,fun _=>⟨(al _ (hx.sub _ aP)).trans h1,ab⟩⟩
                have ck:=GB (P:=P) (ty:=ad.type) bM hV bT bW (Nat.eq_of_beq_eq_true bZ) bX (Nat.le_of_ble_eq_true b2) (Nat.le_of_ble_eq_true b3) bj A.null A.cap bm ch ci hl;have aQ:∀(v:Value) (l:World),(Builtin.append_ #[aK,aL] ad.type #[J xs.length p.1,J f.length q.1]).run P w= .ok v l->b1 (a.put (some au) v) l->wpOp P ops Q i b1 a w:=fun v l aU hk=>by
                  refine mg.step bE (gM S aA) ?_;have cm:(execOp a.eval ad).run P w= .ok (.value v) l:=by
                    unfold execOp;simp only [bH];simp only [resolve,List.map_toArray,List.map_cons,List.map_nil,S.get bN,S.get bO];show(do let v ←Builtin.append_ #[aK,aL] ad.type #[J xs.length p.1,J f.length q.1];pure (Next.value v):Sem Next).run P w=_;rw [Sem.run_bind,aU];rfl
                  unfold Oper.wp;rw [cm];simp only [Oper.upon,bI];exact hk
                have aS:∀i,el (xs++f) i=if i<xs.length then el xs i else el f (i-xs.length):=fun i=>by
                  unfold el;simp only [List.getD_eq_getElem?_getD,List.getElem?_append];split<;>rfl
                let C:Nat->GT.Ptr α:=fun i=>if i<xs.length then p.2 i else q.2 (i-xs.length);have aT:∀i,i<xs.length->C i=p.2 i:=fun i o=>if_pos o;let z:Nat->ah:=fun i=>if i<xs.length then y i else bi (i-xs.length)
                --the cE own blocks,in any world cF leaves cG as cH cJ
                have bo:∀(l:World) (aB:Nat),(∀b,N b->b≠p.1.b\/¬F b->l.heap[b]? =u.heap[b]?)->(∀i,i<xs.length->∀b,y i b->b≠aB)->(∀i,i<f.length->∀b,bi i b->b≠aB)->
                    ∃z:Nat->ah,(∀i,i<(xs++f).length->GT.own a2 (z i) l (el (xs++f) i) (C i))/\(∀i,i<(xs++f).length->∀b,z i b->Or F (Or Fy (fS w.heap.size l.heap.size)) b/\b≠aB)/\(∀i j,i<(xs++f).length->j<(xs++f).length->i≠j->U (z i) (z j)):=fun l aB ao a1 cn=>by
                  refine⟨z,fun i o=>?_,fun i o b hb=>?_,fun i j o co cp=>?_⟩
                  · rw [List.length_append] at o;rw [aS];by_cases h:i<xs.length
                    · simp only [z,C,h,if_true];exact GT.bh (cc i h) fun b hb _=>ao b (hx.sub b (R i h b hb).1) (.inl (R i h b hb).2)
                    · simp only [z,C,h,if_false];have B:i-xs.length<f.length:=by omega
                      exact GT.bh (ce _ B) fun b hb _=>ao b (hyN b (T _ B b hb)) (.inr fun aP=>hd b aP (T _ B b hb))
                  · rw [List.length_append] at o;by_cases h:i<xs.length
                    · simp only [z,h,if_true] at hb;exact⟨.inl (R i h b hb).1,a1 i h b hb⟩
                    · simp only [z,h,if_false] at hb;have B:i-xs.length<f.length:=by omega
                      exact⟨.inr (.inl (T _ B b hb)),cn _ B b hb⟩
                  · rw [List.length_append] at o co;intro b hb H;by_cases h:i<xs.length<;>by_cases X:j<xs.length
                    · simp only [z,h,X,if_true] at hb H;exact cd i j h X cp b hb H
                    · simp only [z,h,X,if_true,if_false] at hb H;exact hd b (R i h b hb).1 (T _ V b H)
                    · simp only [z,h,X,if_true,if_false] at hb H;exact hd b (R j X b H).1 (T _ V b hb)
                    · simp only [z,h,X,if_false] at hb H;exact cf _ _ V V V b hb H
                have a3:∀l:World,∀b,Or F (Or Fy (fS w.heap.size l.heap.size)) b->Or N (fS w.heap.size l.heap.size) b:=fun l b h=>by
                  rcases h with h|h|h
                  · exact .inl (hx.sub b h)
                  · exact .inl (hyN b h)
                  · exact .inr h
                have a4:∀l:World,∀b,Or F (Or Fy (fS w.heap.size l.heap.size)) b->w0.heap.size<=b\/M b:=fun l b h=>by
                  rcases h with h|h|h
                  · exact hx.I1 b h
                  · exact hyY b h
                  · exact .inl (Nat.le_trans S.I7.size h.1)
                have a5:∀(l:World) (y:ah),U y F->U y Fy->(∀b,y b->N b)->U y (Or F (Or Fy (fS w.heap.size l.heap.size))):=fun l y cq cs ct b hb h=>by
                  rcases h with h|h|h
                  · exact cq b hb h
                  · exact cs b hb h
                  · have:=(S.sep b (ct b hb)).1;have:=h.1;omega
                have a7:∀(l:World) (G:ah) (v:Value),ag P n w0 M l G β σ a l->ag P n w0 M l G β ⟨(au,.v v)::σ.env,σ.aN⟩ (a.put (some au) v) l:=fun l G v cu=>
                  cu.put (j3 bY) (fun _ _ e=>by cases e)
                rcases ck with⟨aC,bp,aU⟩|⟨am,aC,aU⟩|⟨cv,br,ap,cx,cy,cz,aU⟩
                · --in place
                  obtain⟨bq,cA⟩:=bm aC;have aE:=(A.row aC).1;refine aQ _ _ aU ?_;have bu:∀b,b≠p.1.b->(w.setRow p.1.b (t.toList.take (p.1.off+xs.length*GT.width α)++dk f q.2 f.length++t.toList.drop (p.1.off+xs.length*GT.width α+f.length*GT.width α)).toArray).heap[b]? =w.heap[b]? :=fun b hb=>by
                    simp only [World.setRow,Array.getElem?_modify];rw [if_neg (fun e=>hb e.symm)]
                  have bv:(w.setRow p.1.b (t.toList.take (p.1.off+xs.length*GT.width α)++dk f q.2 f.length++t.toList.drop (p.1.off+xs.length*GT.width α+f.length*GT.width α)).toArray).heap.size=w.heap.size:=by simp [World.setRow]
                  have ar:=setRow_heap w p.1.b t (t.toList.take (p.1.off+xs.length*GT.width α)++dk f q.2 f.length++t.toList.drop (p.1.off+xs.length*GT.width α+f.length*GT.width α)).toArray W (0,0) bq;have cB:(xs.length+f.length)*GT.width α<=p.1.cap*GT.width α:=Nat.mul_le_mul_right _ bp;rw [Nat.add_mul] at cB;have Y:=kN f q.2 f.length;have cC:∀L,(w.setRow p.1.b (t.toList.take (p.1.off+xs.length*GT.width α)++dk f q.2 f.length++t.toList.drop (p.1.off+xs.length*GT.width α+f.length*GT.width α)).toArray).cell? ⟨p.1.b,L,none⟩=
                      if L<p.1.off+xs.length*GT.width α then t[L]? else if L<p.1.off+xs.length*GT.width α+f.length*GT.width α then(dk f q.2 f.length)[L-(p.1.off+xs.length*GT.width α)]? else t[L]? :=fun L=>by
                    simp only [World.cell?,ar,Option.isSome_none,Bool.false_eq_true,if_false];have:=u5 t.toList (dk f q.2 f.length) (p.1.off+xs.length*GT.width α) L (by rw [Y];simp;omega);rw [Y] at this
                    simpa using this
                  generalize ao:w.setRow p.1.b (t.toList.take (p.1.off+xs.length*GT.width α)++dk f q.2 f.length++t.toList.drop (p.1.off+xs.length*GT.width α+f.length*GT.width α)).toArray=l at*;have O:aW F w l:=by
                    subst ao;exact⟨rfl,rfl,rfl,by rw [bv];exact Nat.le_refl _,fun b _ bc=>bu b (fun e=>bc (e▸aE))⟩
                  have a8:∀b,N b->b≠p.1.b\/¬F b->l.heap[b]? =u.heap[b]? :=fun b hb a1=>(bu b (a1.elim id (fun h e=>h (e▸aE)))).trans (al b hb);obtain⟨ba,aj,ax,bd⟩:=bo l p.1.b a8 (fun i o b hb=>(R i o b hb).2) (fun i o b hb e=>hd _ (e▸aE) (T i o b hb));refine K _ l _ (p.1,C) (Or F (Or Fy (fS w.heap.size l.heap.size))) (a7 l _ _ (S.JC O hx.sub hx.I1)) (S.IL O) ⟨?_,a3 l,a4 l⟩ (a5 l) ⟨fun _=> .inl,aT,.inl rfl⟩;refine⟨by rw [List.length_append];exact hl,by rw [List.length_append];exact bp,A.JD,A.null,fun _=>⟨.inl aE,_,W,ar,?_⟩,fun i o=>?_,ba,aj,ax,bd⟩
                  · have:(t.toList.take (p.1.off+xs.length*GT.width α)++dk f q.2 f.length++t.toList.drop (p.1.off+xs.length*GT.width α+f.length*GT.width α)).toArray.size=t.size:=by simp [Y];omega
                    rw [this];exact cA
                  · rw [List.length_append] at o;rw [aS];intro j v D;have aI:j<GT.width α:=by
                      have:=(List.getElem?_eq_some_iff.1 D).1;rwa [GT.len] at this
                    rw [cC];by_cases h:i<xs.length
                    · simp only [h,if_true,C] at D;have:=Nat.mul_le_mul_right (GT.width α) (show i+1<=xs.length from h);rw [Nat.add_mul,Nat.one_mul] at this;simp only [];rw [if_pos V];have:=bj i h j v D
                      simpa [World.cell?,bq] using this
                    · simp only [h,if_false,C] at D;have B:i-xs.length<f.length:=by omega
                      have h1:=Nat.mul_le_mul_right (GT.width α) (show i-xs.length+1<=f.length from B);rw [Nat.add_mul,Nat.one_mul] at h1;have ab:i*GT.width α=xs.length*GT.width α+(i-xs.length)*GT.width α:=by
                        rw [←Nat.add_mul];congr 1;omega
                      simp only [];rw [if_neg V,if_pos V];have:=pD f q.2 f.length (i-xs.length) j B aI;rw [←D,←this]
                      congr 1
                      omega
                · --nothing at all
                  refine aQ _ _ aU ?_;have O:aW F w w:=aW.refl _ _;have cK:xs.length=0:=by omega
                  have cO:f.length=0:=by omega
                  refine K _ w _ (p.1,C) (Or F (Or Fy (fS w.heap.size w.heap.size))) (a7 w _ _ (S.JC O hx.sub hx.I1)) (S.IL O) ⟨?_,a3 w,a4 w⟩ (a5 w) ⟨fun _=> .inl,aT,.inl rfl⟩;have Y:(xs++f).length=0:=by rw [List.length_append];exact am
                  exact⟨by rw [Y];exact Nat.zero_le _,by rw [Y];exact Nat.zero_le _,A.JD,A.null,fun h=>(by rw [aC] at h;cases h),fun i o=>V,fun _=>I,fun i o=>V,fun i o=>V,fun i j o=>V⟩
                · --a new block
                  refine aQ _ _ aU ?_;have bx:aW I w {w with heap:=w.heap.push (.cells (dk xs p.2 xs.length++dk f q.2 f.length++ap).toArray e),drawn:=br}:=
                    ⟨rfl,rfl,rfl,aM,fun k hk _=>by simp [Array.getElem?_push,Nat.ne_of_lt hk]⟩
                  have ar:({w with heap:=w.heap.push (.cells (dk xs p.2 xs.length++dk f q.2 f.length++ap).toArray e),drawn:=br}:World).heap[w.heap.size]? =some (.cells (dk xs p.2 xs.length++dk f q.2 f.length++ap).toArray e):=by simp
                  have bv:({w with heap:=w.heap.push (.cells (dk xs p.2 xs.length++dk f q.2 f.length++ap).toArray e),drawn:=br}:World).heap.size=w.heap.size+1:=by simp
                  generalize ao:({w with heap:=w.heap.push (.cells (dk xs p.2 xs.length++dk f q.2 f.length++ap).toArray e),drawn:=br}:World)=l at*;have O:aW F w l:=bx.mono fun _ be=>be.elim;have iq:∀b,N b->l.heap[b]? =u.heap[b]? :=fun b hb=>(bx.block b (S.sep b hb).1 (fun be=>be)).trans (al b hb);have a8:∀b,N b->b≠p.1.b\/¬F b->l.heap[b]? =u.heap[b]? :=fun b hb _=>iq b hb;have bz:∀b,N b->b≠w.heap.size:=fun b hb=>Nat.ne_of_lt (S.sep b hb).1;obtain⟨ba,aj,ax,bd⟩:=bo l w.heap.size a8 (fun i o b hb=>bz b (hx.sub b (R i o b hb).1)) (fun i o b hb=>bz b (hyN b (T i o b hb)));refine K _ l _ (⟨false,w.heap.size,0,cv,none⟩,C) (Or F (Or Fy (fS w.heap.size l.heap.size))) (a7 l _ _ (S.JC O hx.sub hx.I1)) (S.IL O) ⟨?_,a3 l,a4 l⟩ (a5 l) ⟨fun _=> .inl,aT,.inr iq⟩;have bA:=kN xs p.2 xs.length;have cD:=kN f q.2 f.length;refine⟨by rw [List.length_append];exact hl,by rw [List.length_append];exact cx,cy,fun h=>(by cases h),fun _=>⟨.inr (.inr ⟨Nat.le_refl _,by show w.heap.size<l.heap.size;omega⟩),_,e,ar,?_⟩,fun i o=>?_,ba,aj,ax,bd⟩
                  · simp only [List.size_toArray,List.length_append,bA,cD,cz,Nat.zero_add];rw [←Nat.add_mul,←Nat.add_mul];exact Nat.mul_le_mul_right _ V
                  · rw [List.length_append] at o;rw [aS];intro j v D;have aI:j<GT.width α:=by
                      have:=(List.getElem?_eq_some_iff.1 D).1;rwa [GT.len] at this
                    simp only [World.cell?,ar,Option.isSome_none,Bool.false_eq_true,if_false,Nat.zero_add,List.getElem?_toArray];by_cases h:i<xs.length
                    · simp only [h,if_true,C] at D;have:=Nat.mul_le_mul_right (GT.width α) (show i+1<=xs.length from h);rw [Nat.add_mul,Nat.one_mul] at this;rw [List.append_assoc,List.getElem?_append_left V,pD xs p.2 xs.length i j h aI];exact D
                    · simp only [h,if_false,C] at D;have B:i-xs.length<f.length:=by omega
                      have h1:=Nat.mul_le_mul_right (GT.width α) (show i-xs.length+1<=f.length from B);rw [Nat.add_mul,Nat.one_mul] at h1;have ab:i*GT.width α=xs.length*GT.width α+(i-xs.length)*GT.width α:=by
                        rw [←Nat.add_mul];congr 1;omega
                      rw [List.append_assoc,List.getElem?_append_right V,bA,List.getElem?_append_left V];have:=pD f q.2 f.length (i-xs.length) j B aI;rw [←D,←this]
                      congr 1
                      omega
            · cases hop
          · cases hop
        · cases hop
      · cases hop
    · cases hop
  · cases hop
theorem ag.Kh {α:Type} [GT α] {xs f:List α} {p q:ak α} {F:ah} (S:ag P n w0 M u N β σ a w) (hx:af w0 M u N F xs p) (hyr:i_ u N f q) (hfl:∀(x:α) (r:GT.Ptr α),GT.rd a2 N u x r->GT.own a2 I u x r)
    {i:Nat} {by' lx ly:Nat} {d:Tmp} (hlx:lx=xs.length) (hly:ly=f.length) (hop:iJ P n ops i σ=some (J lx p.1,J ly q.1,GT.width α,by',d)) (hl:xs.length+f.length<=a2)
    (K:∀l o t r y,ag P n w0 M o t β ⟨(d,.v (J (xs++f).length r.1))::σ.env,σ.aN⟩ l o->(∀b,N b->¬F b->t b/\o.heap[b]? =u.heap[b]?)->
      af w0 M o t y (xs++f) r->(∀z:ah,U z F->(∀b,z b->N b)->U z y)->b1 l o):wpOp P ops Q i b1 a w:=by
  subst hlx hly;exact S.append hx hyr (Fy:=I) ⟨fun _=>I,fun i A=>hfl _ _ (ae.el hyr i A),fun _ _ b h=>False.elim h,fun _ _ _ _ _ b h=>False.elim h⟩ (fun b _ h=>False.elim h) (fun b h=>False.elim h) (fun b h=>False.elim h) hop hl
    fun l o t r y h1 ab aq bg _=>K l o t r y (by rw [List.length_append];exact h1) ab aq fun z A B=>bg z A (fun b _ h=>False.elim h) B
theorem ag.Kv {α:Type} [GT α] {f:List α} {p q:ak α} {F:ah} (S:ag P n w0 M u N β σ a w) (hx:af w0 M u N F ([]:List α) p) (hyr:i_ u N f q) (hfl:∀(x:α) (r:GT.Ptr α),GT.rd a2 N u x r->GT.own a2 I u x r)
    {i:Nat} {by' lx ly:Nat} {d:Tmp} (hly:ly=f.length)
    (K:∀l o t r y,ag P n w0 M o t β ⟨(d,.v (J f.length r.1))::σ.env,σ.aN⟩ l o->(∀b,N b->¬F b->t b/\o.heap[b]? =u.heap[b]?)->
      af w0 M o t y f r->(∀z:ah,U z F->(∀b,z b->N b)->U z y)->b1 l o) (hlx:lx=0:=by rfl) (hop:iJ P n ops i σ=some (J lx p.1,J ly q.1,GT.width α,by',d):=by kernel_rfl):wpOp P ops Q i b1 a w:=
  S.Kh hx hyr hfl (lx:=lx) (ly:=ly) hlx hly hop (by rw [List.length_nil,Nat.zero_add];exact ae.le hyr) K
theorem ag.J3 {α:Type} [GT α] {xs f:List α} {p q:ak α} {F Fy:ah} (S:ag P n w0 M u N β σ a w) (hx:af w0 M u N F xs p) (hy:af w0 M u N Fy f q) (hd:U F Fy)
    {i:Nat} {by' lx ly:Nat} {d:Tmp} (hlx:lx=xs.length) (hly:ly=f.length) (hop:iJ P n ops i σ=some (J lx p.1,J ly q.1,GT.width α,by',d)) (hl:xs.length+f.length<=a2)
    (K:∀l o t r y,ag P n w0 M o t β ⟨(d,.v (J (xs++f).length r.1))::σ.env,σ.aN⟩ l o->(∀b,N b->¬F b->t b/\o.heap[b]? =u.heap[b]?)->
      af w0 M o t y (xs++f) r->(∀z:ah,U z F->U z Fy->(∀b,z b->N b)->U z y)->b1 l o):wpOp P ops Q i b1 a w:=by
  subst hlx hly;obtain⟨z,A,B,C⟩:=dS.el hy.own;exact S.append hx hy.Ix ⟨z,A,fun i D b hb=>(B i D b hb).1,C⟩ hd hy.sub hy.I1 hop hl
    fun l o t r y h1 ab aq bg _=>K l o t r y (by rw [List.length_append];exact h1) ab aq bg
abbrev bH (α:Type) [GT α]:List Value:=GT.cells (GT.cB:α) GT.bW
theorem bd {x y:Int} (h:x=y):Ending.returned (packed [O x])= .returned (O y):=by rw [h];rfl
theorem aC {x y:Bool} (h:x=y):Ending.returned (packed [B x])= .returned (B y):=by rw [h];rfl
theorem dR {α:Type} [GT α] {x y:α} {p:GT.Ptr α} (h:x=y):Ending.returned (packed [GT.val x p])= .returned (GT.val y p):=by rw [h];rfl
theorem ee {a b c d:Value} (h:a=c) (f:b=d):Ending.returned (packed [a,b])= .returned (.tuple #[c,d]):=by rw [h,f];rfl
theorem ru {a b c d f l:Value} (h:a=d) (o:b=f) (q:c=l):Ending.returned (packed [a,b,c])= .returned (.tuple #[d,f,l]):=by rw [h,o,q];rfl
theorem dI {x y:Int} (h:x=y):O x=O y:=by rw [h]
theorem et {x y:Bool} (h:x=y):B x=B y:=by rw [h]
theorem bo {α:Type} [GT α] {r x:α} {p:GT.Ptr α} {F:ah} {v:Value} (S:ag P n w0 I u N β σ a w) (h:r=x) (d:v=GT.val x p) (o:af w0 I u N F x p):bO I w0 r (.returned (packed [v])) w:=by
  subst h d;exact⟨p,rfl,S.I7,S.own o⟩
theorem a3 {α d:Type} [GT α] [GT d] {r x:α} {r' f:d} {p:GT.Ptr α} {p':GT.Ptr d} {F:ah} {v l:Value} (S:ag P n w0 I u N β σ a w) (h:r=x) (q:r'=f) (t:v=GT.val x p) (y:l=GT.val f p') (o:af w0 I u N F x p) (z:GT.own a2 I w f p'):cf I w0 r r' (.returned (packed [v,l])) w:=by
  subst h q t y;obtain⟨h1,ab⟩:=S.KG o;exact⟨p,p',F,I,rfl,S.I7,h1,z,fun _ _ A=>A,fun b hb=>hb.elim (ab b) (fun A=>False.elim A)⟩
theorem eQ {α d f:Type} [GT α] [GT d] [GT f] {r x:α} {r' l:d} {q t:f} {p:GT.Ptr α} {p':GT.Ptr d} {p'':GT.Ptr f} {F:ah} {v y z:Value} (S:ag P n w0 I u N β σ a w) (h:r=x) (A:r'=l) (B:q=t) (C:v=GT.val x p) (D:y=GT.val l p') (G:z=GT.val t p'')
    (o:af w0 I u N F x p) (H:GT.own a2 I w l p') (J:GT.own a2 I w t p''):g6 I w0 r r' q (.returned (packed [v,y,z])) w:=by
  subst h A B C D G;obtain⟨h1,ab⟩:=S.KG o;exact⟨p,p',p'',F,rfl,S.I7,h1,H,J,ab⟩
def HS {α:Type} [GT α] (F:ah) (w:World) (p:GT.Ptr α) (x oD:α) (k:Int) (e:Ending) (w':World):Prop:=
  e= .returned (O k)/\aW F w w'/\∃p',GT.cells oD p'=GT.cells x p/\GT.own a2 F w' oD p'
theorem ag.I2 {α:Type} [GT α] {F:ah} {x:α} {p:GT.Ptr α} (S:ag P n w0 M u N β σ a w) (h:af w0 M u N F x p):GT.own a2 F w x p:=
  GT.bh h.own (fun b hb _=>(S.sep b (h.sub b hb)).2.1)
end
end Go.Proofs.YtkggcdhigchepaaGreat
namespace Go.Proofs.YtkggcdhigchepaaGreat
open Go
def kO (P:Program):Nat->List Field->Option (List Bool)
  |
    _,[]=>some []
  |i,f::kQ=>
    bif (f.name== "_")|| !Nat.beq f.offset i then none else
    match P.underlying f.type with
    |some (.int .i64)=>(kO P (i+1) kQ).map fun l=>true::l
    |some .bool=>(kO P (i+1) kQ).map fun l=>false::l
    |_=>none
def nZ (P:Program) (t:TypeId):Option (List Bool):=
  match P.underlying t with
  |some (.struct kQ)=>bif P.stoodInHeld t then none else kO P 0 kQ.toList
  |_=>none
def iy:List Bool->List Value->Prop
  |[],_=>True
  |true::ks,.int .i64 _::xs=>iy ks xs
  |false::ks,.bool _::xs=>iy ks xs
  |_,_=>False
def ib:List Bool->List Value->List Value->Bool
  |[],_,_=>true
  |true::ks,.int .i64 a::xs,.int .i64 b::vj=>(a==b)&&ib ks xs vj
  |false::ks,.bool a::xs,.bool b::vj=>(a==b)&&ib ks xs vj
  |_,_,_=>false
theorem rl {P:Program} {t:TypeId} {d:Array Value} {i:Nat} {v:Value} (f:gu P t=some false) (h:d[i]? =some v) (w:World):(part t d i).run P w= .ok v w:=by
  simp [part,rB f,h]
theorem sQ {P:Program} (xs d:Array Value) (w:World):∀(l:List Field) (i:Nat) (ks:List Bool),kO P i l=some ks->iy ks (xs.toList.drop i)->iy ks (d.toList.drop i)->
    (Op.eqFields 9999 xs d l).run P w= .ok (ib ks (xs.toList.drop i) (d.toList.drop i)) w
  |
    [],i,ks,h,_,_=>by
    simp only [kO,Option.some.injEq] at h;subst h;rfl
  |f::l,i,ks,h,hx,hy=>by
    simp only [kO] at h;cases hb:((f.name== "_")|| !Nat.beq f.offset i) with
    |true=>rw [hb] at h;cases h
    |false=>
      rw [hb] at h;simp only [Bool.or_eq_false_iff,Bool.not_eq_false'] at hb;have bc:f.name≠ "_" :=fun e=>by rw [e] at hb;simp at hb
      have H:f.offset=i:=Nat.eq_of_beq_eq_true hb.2;simp only [cond_false] at h;have z:∀(o:Array Value) (v:Value) (A:List Value),o.toList.drop i=v::A->o[i]? =some v/\o.toList.drop (i+1)=A:=fun o v A e=>by
        have h1:(o.toList.drop i)[0]? =some v:=by rw [e];rfl
        have ab:o.toList.drop (i+1)=(o.toList.drop i).drop 1:=by rw [List.drop_drop]
        exact⟨by simpa using h1,by rw [ab,e];rfl⟩
      split at h
      · rename_i hu;cases aU:kO P (i+1) l with
        |
          none=>rw [aU] at h;cases h
        |some B=>
          rw [aU] at h;simp only [Option.map_some,Option.some.injEq] at h;subst h;have q:gu P f.type=some false:=by unfold gu;rw [hu]
          match C:xs.toList.drop i,hx with
          | .int .i64 a::I,hx=>
            match D:d.toList.drop i,hy with
            | .int .i64 b::J,hy=>
              obtain⟨F,r⟩:=z xs _ _ C;obtain⟨G,t⟩:=z d _ _ D;have u:=sQ xs d w l (i+1) B aU (by rw [r];exact hx) (by rw [t];exact hy);unfold Op.eqFields;rw [if_pos bc,H];simp only [Sem.run_bind,rl q F,rl q G,Result.andThen_ok,run_equalIn_int w 9998 f.type .i64 .i64 a b hu];rw [r,t] at u;cases y:(a==b) with
              |false=>simp [ib,y]
              |true=>simp only [ib,y,Bool.true_and,Bool.not_true,Bool.false_eq_true,if_false];exact u
      · rename_i hu;cases aU:kO P (i+1) l with
        |
          none=>rw [aU] at h;cases h
        |some B=>
          rw [aU] at h;simp only [Option.map_some,Option.some.injEq] at h;subst h;have q:gu P f.type=some false:=by unfold gu;rw [hu]
          match C:xs.toList.drop i,hx with
          | .bool a::I,hx=>
            match D:d.toList.drop i,hy with
            | .bool b::J,hy=>
              obtain⟨F,r⟩:=z xs _ _ C;obtain⟨G,t⟩:=z d _ _ D;have u:=sQ xs d w l (i+1) B aU (by rw [r];exact hx) (by rw [t];exact hy);unfold Op.eqFields;rw [if_pos bc,H];simp only [Sem.run_bind,rl q F,rl q G,Result.andThen_ok,run_equalIn_bool' w 9998 f.type a b hu];rw [r,t] at u;cases y:(a==b) with
              |false=>simp [ib,y]
              |true=>simp only [ib,y,Bool.true_and,Bool.not_true,Bool.false_eq_true,if_false];exact u
      · cases h
theorem sR {P:Program} {t:TypeId} {ks:List Bool} (h:nZ P t=some ks) {xs d:List Value} (hx:iy ks xs) (hy:iy ks d) (w:World):(Op.equal t (.agg xs.toArray) (.agg d.toArray)).run P w= .ok (ib ks xs d) w:=by
  unfold nZ at h;split at h
  · rename_i f hu;cases hs:P.stoodInHeld t with
    |
      true=>rw [hs] at h;cases h
    |false=>
      rw [hs] at h;have aF:P.fieldsOf t=f:=by unfold Program.fieldsOf;rw [hu]
      have:=run_equalIn_struct (P:=P) w 9999 t xs.toArray d.toArray (by rw [aF];exact hu) hs;rw [aF] at this;show(Op.equalIn 10000 t _ _).run P w=_;refine this.trans ?_;have:=sQ (P:=P) xs.toArray d.toArray w f.toList 0 ks h (by simpa using hx) (by simpa using hy)
      simpa using this
  · cases h
section
variable {P:Program} {u:World} {N:ah}
theorem xi (x y:aw):ib [true,true] (GT.cells x ()) (GT.cells y ())=decide (x=y):=by
  rw [Bool.eq_iff_iff,decide_eq_true_iff,aw.ext_iff];simp [ib,GT.cells,Bool.and_eq_true]
theorem h4 {t:TypeId} (x y:aw) (h:nZ P t=some [true,true]):dn P u N (.fb (do pure (.bool (←Op.equal t (GT.val x ()) (GT.val y ()))))) (B (decide (x=y))):=fun d _=>by
  show(do pure (.bool (←Op.equal t (GT.val x ()) (GT.val y ()))):Sem Value).run P d=_;have e:=sR h (show iy [true,true] (GT.cells x ()) from trivial) (show iy [true,true] (GT.cells y ()) from trivial) d;rw [xi] at e;rw [Sem.run_bind];show((Op.equal t (.agg (GT.cells x ()).toArray) (.agg (GT.cells y ()).toArray)).run P d).andThen _=_;rw [e];rfl
theorem vk {t:TypeId} (x y:aw) (h:nZ P t=some [true,true]):dn P u N (.fb (do pure (.bool (!(←Op.equal t (GT.val x ()) (GT.val y ())))))) (B (!decide (x=y))):=fun d _=>by
  show(do pure (.bool (!(←Op.equal t (GT.val x ()) (GT.val y ())))):Sem Value).run P d=_;have e:=sR h (show iy [true,true] (GT.cells x ()) from trivial) (show iy [true,true] (GT.cells y ()) from trivial) d;rw [xi] at e;rw [Sem.run_bind];show((Op.equal t (.agg (GT.cells x ()).toArray) (.agg (GT.cells y ()).toArray)).run P d).andThen _=_;rw [e];rfl
theorem D6 (x y:bn):ib [true,true,false,true] (GT.cells x ()) (GT.cells y ())=decide (x=y):=by
  rw [Bool.eq_iff_iff,decide_eq_true_iff,bn.ext_iff];simp [ib,GT.cells,Bool.and_eq_true]
theorem oF {t:TypeId} (x y:bn) (h:nZ P t=some [true,true,false,true]):dn P u N (.fb (do pure (.bool (←Op.equal t (GT.val x ()) (GT.val y ()))))) (B (decide (x=y))):=fun d _=>by
  show(do pure (.bool (←Op.equal t (GT.val x ()) (GT.val y ()))):Sem Value).run P d=_;have e:=sR h (show iy [true,true,false,true] (GT.cells x ()) from trivial) (show iy [true,true,false,true] (GT.cells y ()) from trivial) d;rw [D6] at e;rw [Sem.run_bind];show((Op.equal t (.agg (GT.cells x ()).toArray) (.agg (GT.cells y ()).toArray)).run P d).andThen _=_;rw [e];rfl
end
end Go.Proofs.YtkggcdhigchepaaGreat
namespace Go.Proofs.YtkggcdhigchepaaGreat
open Go
def av (x a b:Int):Bool:=decide (a<=x)&&decide (x<=b)
theorem bj {x a b:Int} (h:av x a b=true):a<=x/\x<=b:=by simpa [av] using h
theorem bC {x a b:Int} (h:av x a b=false):¬(a<=x/\x<=b):=by
  intro g;simp [av,g.1,g.2] at h
def jj (k:Int):Bool:=av k 13 17
def kG (a:eo):Bool:=av a.aO 1 17
def fE (a:eo):cj:=⟨a.x,a.y,a.z==1⟩
def bq (n:Nat) (left:Int):Int:=if left-n<0 then-1 else left-n
def Ic (l:List eo):List eo:=l.filter fun a=>!jj a.aO
def H0 (a:List eo) (t:List bP):List bP:=((a.zip t).filter fun p=>!jj p.1.aO).map (·.2)
theorem hK {α:Type} [GT α] {xs:List α} {k:Nat} (h:k<xs.length):el xs k=xs[k]:=by simp [el,h]
theorem eS {α:Type} [GT α] {xs:List α} {k:Nat} (h:k<xs.length):xs.take (k+1)=xs.take k++[el xs k]:=by
  rw [hK h,List.take_succ_eq_append_getElem h]
theorem j9 {α:Type} [GT α] {xs:List α} {k:Nat} {d:α} (h:k<xs.length):(xs.take k++List.replicate (xs.length-k) d).set k (el xs k)=xs.take (k+1)++List.replicate (xs.length-(k+1)) d:=by
  have e:List.replicate (xs.length-k) d=d::List.replicate (xs.length-(k+1)) d:=by
    rw [show xs.length-k=(xs.length-(k+1))+1 by omega,List.replicate_succ]
  have A:(xs.take k).length=k:=by simp;omega
  rw [eS h,e,List.set_append_right _ _ V,A];simp
theorem kb {α:Type} [GT α] {xs d:List α} {k:Nat} (h:k<xs.length) (f:k<d.length) (e:xs.take k=d.take k) (l:el xs k=el d k):xs.take (k+1)=d.take (k+1):=by
  rw [eS h,eS f,e,l]
theorem kc {α:Type} [GT α] {xs d:List α} {k:Nat} (f:¬el xs k=el d k):¬xs=d:=fun e=>f (by rw [e])
theorem cr {α:Type} {xs:List α} {k:Nat} (h:xs.length<=k):xs.take k=xs:=List.take_of_length_le h
theorem FB {α:Type} [BEq α] [LawfulBEq α] {x y:α} (h:(x != y)=false):x=y:=by
  cases e:x==y
  · rw [bne,e] at h;cases h
  · exact eq_of_beq e
theorem fa {a b:Bool} (h:(a||b)=false):a=false/\b=false:=by cases a<;>cases b<;>simp_all
theorem oI {a b:Bool} (h:(a&&b)=true):a=true/\b=true:=by cases a<;>cases b<;>simp_all
theorem qW {a b c d:Int} (h:((a != b)&&(c != d))=false):a=b\/c=d:=by
  by_cases h1:a=b
  · exact .inl h1
  · by_cases ab:c=d
    · exact .inr ab
    · simp [bne,h1,ab] at h
theorem eC {b:Bool} (h:(!b)=true):b=false:=by cases b<;>simp_all
theorem cM {b:Bool} (h:(!b)=false):b=true:=by cases b<;>simp_all
end Go.Proofs.YtkggcdhigchepaaGreat
namespace Go.Proofs.YtkggcdhigchepaaGreat
open Go
theorem b4 {α:Type} [GT α] {xs:List α} {k:Nat} {y:α} (h:k<xs.length):el (xs.set k y) k=y:=by simp [el,h]
theorem n8 {α:Type} {a l:List α} {i:Nat} {y:α} (h:i<a.length) (hl:l.length=i):(l++a.drop i).set i y=(l++[y])++a.drop (i+1):=by
  rw [List.drop_eq_getElem_cons h,List.set_append_right _ _ V,hl,Nat.sub_self,List.set_cons_zero,List.append_assoc];rfl
def mO (j:Int):Int:=j
def hP (n:Nat) (k:Int):List Int:=(List.range n).map fun(i:Nat)=>mO (k+1*(i:Int))
theorem Ei (n:Nat) (k:Int):(hP n k).length=n:=by simp [hP]
theorem Fv {a:List Int} {i:Nat} {k j:Int} (h:i<a.length) (d:j=k+1*(i:Int)):(hP i k++a.drop i).set i (mO j)=hP (i+1) k++a.drop (i+1):=by
  rw [n8 h (Ei i k),d];unfold hP;rw [List.range_succ,List.map_append];rfl
def mL (j:Int):Bool:=(Int.tmod j 3==0)
def hO (n:Nat) (k:Int):List Bool:=(List.range n).map fun(i:Nat)=>mL (k+1*(i:Int))
theorem Ef (n:Nat) (k:Int):(hO n k).length=n:=by simp [hO]
theorem Fs {a:List Bool} {i:Nat} {k j:Int} (h:i<a.length) (d:j=k+1*(i:Int)):(hO i k++a.drop i).set i (mL j)=hO (i+1) k++a.drop (i+1):=by
  rw [n8 h (Ef i k),d];unfold hO;rw [List.range_succ,List.map_append];rfl
def mP (j:Int):aw:=⟨j,(j+1)⟩
def hg (n:Nat) (k:Int):List aw:=(List.range n).map fun(i:Nat)=>mP (k+2*(i:Int))
theorem Ej (n:Nat) (k:Int):(hg n k).length=n:=by simp [hg]
theorem Fw {a:List aw} {i:Nat} {k j:Int} (h:i<a.length) (d:j=k+2*(i:Int)):(hg i k++a.drop i).set i (mP j)=hg (i+1) k++a.drop (i+1):=by
  rw [n8 h (Ej i k),d];unfold hg;rw [List.range_succ,List.map_append];rfl
def mM (j:Int):aG:=⟨j,(j+1),(j+2),(j+3)⟩
def gJ (n:Nat) (k:Int):List aG:=(List.range n).map fun(i:Nat)=>mM (k+4*(i:Int))
theorem Eg (n:Nat) (k:Int):(gJ n k).length=n:=by simp [gJ]
theorem Ft {a:List aG} {i:Nat} {k j:Int} (h:i<a.length) (d:j=k+4*(i:Int)):(gJ i k++a.drop i).set i (mM j)=gJ (i+1) k++a.drop (i+1):=by
  rw [n8 h (Eg i k),d];unfold gJ;rw [List.range_succ,List.map_append];rfl
def mN (j:Int):bS:=⟨j,(j+1)⟩
def hf (n:Nat) (k:Int):List bS:=(List.range n).map fun(i:Nat)=>mN (k+2*(i:Int))
theorem Eh (n:Nat) (k:Int):(hf n k).length=n:=by simp [hf]
theorem Fu {a:List bS} {i:Nat} {k j:Int} (h:i<a.length) (d:j=k+2*(i:Int)):(hf i k++a.drop i).set i (mN j)=hf (i+1) k++a.drop (i+1):=by
  rw [n8 h (Eh i k),d];unfold hf;rw [List.range_succ,List.map_append];rfl
def EI (j:Int):cj:=⟨j,(j+1),(Int.tmod (j+2) 3==0)⟩
def H4 (n:Nat) (k:Int):List cj:=(List.range n).map fun(i:Nat)=>EI (k+3*(i:Int))
def EJ (j:Int):bn:=⟨j,(j+1),(Int.tmod (j+2) 3==0),(j+3)⟩
def H5 (n:Nat) (k:Int):List bn:=(List.range n).map fun(i:Nat)=>EJ (k+4*(i:Int))
def EH (j:Int):eo:=⟨j,(j+1),(j+2),(j+3),(j+4),(j+5)⟩
def H3 (n:Nat) (k:Int):List eo:=(List.range n).map fun(i:Nat)=>EH (k+6*(i:Int))
def EK (j:Int):bP:=⟨(Int.tmod j 3==0),(j+1)⟩
def H6 (n:Nat) (k:Int):List bP:=(List.range n).map fun(i:Nat)=>EK (k+2*(i:Int))
end Go.Proofs.YtkggcdhigchepaaGreat
namespace Go.Proofs.YtkggcdhigchepaaGreat
open Go
def bX (P:Program) (t:TypeId) (α:Type) [GT α]:Prop:=
  P.cellsOf t=GT.width α/\∀(H:Type) (enc:TypeId×Value->H) (w:World) (fuel:Nat) (cs:List Value) (x:DataW H×List MemPlace),
    DataW.trod enc P w 0 (fun _=>true) true fuel t cs=some x->∃(d:α) (p:GT.Ptr α),cs=GT.cells d p/\GT.rd fT (cp w.heap.size) w d p
theorem F6 {P:Program} {t:TypeId} (d:P.underlying t=some (.int .i64)) (hc:P.cellsOf t=1):bX P t Int:=by
  refine⟨hc,fun q r u f w x h=>?_⟩;cases f with
  |zero=>simp [DataW.trod] at h
  |succ n=>
    unfold DataW.trod at h;rw [d] at h;split at h<;>simp_all;rename_i k y l hk;subst hk;obtain⟨⟨rfl,o⟩,_⟩:=h;refine⟨l,(),by rfl,?_⟩;have:=bounds_i64 o;exact⟨this.1,this.2⟩
theorem F5 {P:Program} {t:TypeId} (d:P.underlying t=some .bool) (hc:P.cellsOf t=1):bX P t Bool:=by
  refine⟨hc,fun l o q f r x h=>?_⟩;cases f with
  |zero=>simp [DataW.trod] at h
  |succ n=>
    unfold DataW.trod at h;rw [d] at h;split at h<;>simp_all;rename_i b;cases b
    · exact .inl ⟨(),rfl,trivial⟩
    · exact .inr ⟨(),rfl,trivial⟩
theorem j5 {P:Program} {t e:TypeId} {α:Type} [GT α] (D:P.underlying t=some (.slice e)) (hc:P.cellsOf t=1) (w:bX P e α):bX P t (List α):=by
  refine⟨hc,fun F G q R T x h=>?_⟩;rcases Go.Deep.open_slice D h with⟨rfl,_⟩|⟨a,o,U,m,n,W,X,rfl,_,H,I,z,_,hx⟩
  · exact⟨[],GT.bW,rfl,GT.cQ (GT.dv _ _ _)⟩
  simp only [if_true] at z;subst z;have:Inhabited α:=⟨GT.cB⟩;have:Inhabited (GT.Ptr α):=⟨GT.bW⟩;obtain⟨f,aF⟩:=Go.Deep.choose_lt (α:=α×GT.Ptr α) (n:=m) (p:=fun i u=>q.cells? 0 (a.add (i*P.cellsOf e)) (P.cellsOf e)=some (GT.cells u.1 u.2)/\GT.rd fT (cp q.heap.size) q u.1 u.2) (fun i d=>by
    obtain⟨K,h1,ab⟩:=hx i d;obtain⟨L,p,rfl,aq⟩:=w.2 F G q n K _ ab;exact⟨(L,p),h1,aq⟩)
  have r:((List.range o).map fun i=>(f i).1).length=o:=by simp
  have A:∀i,i<o->el ((List.range o).map fun i=>(f i).1) i=(f i).1:=fun i d=>by simp [el,d]
  by_cases M:m=0
  · obtain rfl:o=0:=by omega
    subst M;exact⟨[],(⟨true,0,0,0,some a⟩,fun _=>GT.bW),rfl,Nat.zero_le _,Nat.zero_le _,fun h=>absurd h (Nat.lt_irrefl _),fun i d=>absurd d (Nat.not_lt_zero _),fun i d=>absurd d (Nat.not_lt_zero _)⟩
  have N:∃b l,a=⟨b,l,none⟩:=by
    obtain⟨_,O,y⟩:=World.cells?_some (aF 0 V).1;have aq:=y 0 (by rw [w.1];exact GT.Jj);have aA:∃v,(GT.cells (f 0).1 (f 0).2)[0]? =some v:=⟨_,List.getElem?_eq_getElem (by rw [GT.len];exact GT.Jj)⟩;obtain⟨v,Q⟩:=aA;rw [Q,Nat.zero_mul] at aq;simp only [Addr.add,if_true] at aq;obtain⟨b,l,s⟩:=a;cases s with
    |none=>exact⟨b,l,rfl⟩
    |some s=>unfold World.cell? at aq;split at aq<;>simp at aq
  obtain⟨b,l,rfl⟩:=N;have B:∀i,i<m->fR q b (l+i*GT.width α) (GT.cells (f i).1 (f i).2):=fun i d=>by
    obtain⟨_,O,y⟩:=World.cells?_some (aF i d).1;intro j v C;have Y:=(List.getElem?_eq_some_iff.1 C).1;have aq:=y j V;rw [C,w.1,Go.Deep.add_add] at aq;have e:(Addr.mk b l none).add (i*GT.width α+j)=⟨b,l+i*GT.width α+j,none⟩:=by
      unfold Addr.add;split
      · rename_i h;simp
      · simp [Nat.add_assoc]
    rwa [e] at aq
  refine⟨(List.range o).map fun i=>(f i).1,(⟨false,b,l,m,none⟩,fun i=>(f i).2),?_,?_,?_,?_,?_,?_⟩
  · show [Value.slice (some _) o m]=[J (List.length _) _];rw [r];rfl
  · rw [r];unfold maxLen at I;unfold fT;omega
  · rw [r];exact H
  · intro h;refine⟨rfl,?_⟩;exact(B 0 V).lt (by rw [GT.len];exact GT.Jj)
  · intro i d;rw [r] at d;rw [A i d];exact B i V
  · intro i d;rw [r] at d;rw [A i d];exact(aF i V).2
theorem cR {l:Type} {enc:TypeId×Value->l} {P:Program} {w:World} {q:Array Field} {r:List (TypeId×Nat)} (aF:q.toList.map (fun f=>(f.type,f.offset))=r) {n:Nat} {u:List Value} {xs:List (DataW l×List MemPlace)}
    (hl:xs.length=q.size) (hx:∀(i:Nat) (f:Field),q[i]? =some f->DataW.trod enc P w 0 (fun _=>true) true n f.type ((u.drop f.offset).take (P.cellsOf f.type))=xs[i]?)
    (i:Nat) {t:TypeId} {o:Nat} (hi:r[i]? =some (t,o)) {α:Type} [GT α] (y:bX P t α):∃(d:α) (p:GT.Ptr α),(u.drop o).take (GT.width α)=GT.cells d p/\GT.rd fT (cp w.heap.size) w d p:=by
  subst aF;rw [List.getElem?_map,Option.map_eq_some_iff] at hi;obtain⟨f,h1,ab⟩:=hi;simp only [Prod.mk.injEq] at ab;obtain⟨rfl,rfl⟩:=ab;have aq:q[i]? =some f:=by simpa using h1
  have bg:=hx i f aq;have A:i<xs.length:=by
    rw [hl];exact(Array.getElem?_eq_some_iff.1 aq).1
  rw [List.getElem?_eq_getElem A,y.1] at bg;exact y.2 l enc w n _ _ bg
theorem br {d c:List Value} {o w:Nat} (h:(d.drop o).take w=c) (f:Nat) (e:f=o+w):d.drop o=c++d.drop f:=by
  subst h e;rw [←List.drop_drop,List.take_append_drop]
theorem je {d:List Value} {o:Nat} (h:d.length=o):d.drop o=[]:=by
  subst h;exact List.drop_length
theorem vu {f:Type} {enc:TypeId×Value->f} {P:Program} {w:World} {t:TypeId} {α:Type} [GT α] (l:bX P t α) {o:Array Field} (q:P.underlying t=some (.struct o)) (u:GT.agg α=true)
    {r:Reach} {A:Nat} {v:Value} (B:Value.okWide P w r A t v) {d:DataW f} {C:List MemPlace} (h:DataW.Trod enc P w 0 (fun _=>true) true t v d C):
    ∃(d:α) (p:GT.Ptr α),v=GT.val d p/\GT.rd fT (cp w.heap.size) w d p:=by
  obtain⟨A,rfl,_⟩:=Go.WideShapes.okWide_struct q B;obtain⟨A,aF⟩:=h;obtain⟨x,p,h1,ab⟩:=l.2 f enc w A _ _ aF;refine⟨x,p,?_,ab⟩;unfold GT.val;rw [u,cond_true,←h1];rfl
theorem AE {d:Type} {enc:TypeId×Value->d} {P:Program} {w:World} {f:Nat} {l:Nat->Bool} {o:Bool} {q:List TypeId} {r:List Value} {t:List (DataW d)} {p':List MemPlace} (u:DataW.TrodAll enc P w f l o q r t p'):
    ∀{y:List TypeId} {z:List Value} {A:List (DataW d)} {p:List MemPlace},DataW.TrodAll enc P w f l o y z A p->DataW.TrodAll enc P w f l o (y++q) (z++r) (A++t) (p++p')
  |
    [],_,_,_,h=>by
    obtain⟨rfl,rfl,rfl⟩:=Go.ChangeShapes.trodAll_nil h;exact u
  |_::_,_,_,_,h=>by
    obtain⟨v,A,B,C,a,b,rfl,rfl,rfl,h1,ab⟩:=Go.ChangeShapes.trodAll_cons h;exact⟨a,b++p',h1,AE u ab,aM⟩
theorem Gm {d:Type} {enc:TypeId×Value->d} {P:Program} {f:Func} {s:ChangeSpec} {l o q u:Bool} {w y:World} {z:Array Value} {v:Value} {A gs:List (DataW d)} {B pa pv:List MemPlace}
    (C:DataW.Whole enc P f.params.toList s.vars l w z.toList A gs B)
    (D:∀(b:Nat) (F:Nat->Bool) (hd:Bool),DataW.TrodAll enc P y b F hd f.resultTypes.toList (v.resultList f.resultTypes.size) (s.fn d (A++gs)).results [])
    (G:∀F:Nat->Bool,(∀p∈B,F p.block=true)->DataW.TrodAll enc P y 0 F true f.params.toList z.toList (s.fn d (A++gs)).args pa)
    (H:∀F:Nat->Bool,(∀p∈B,F p.block=true)->DataW.TrodVars enc P y F s.vars (s.fn d (A++gs)).vars pv)
    (F:B=pa++pv) (hb:RowKit.Below w.heap.size w y)
    (I:∀(j:Nat) (t:TypeId) (r:Value),f.resultTypes[j]? =some t->(v.resultList f.resultTypes.size)[j]? =some r->Value.okWide P y .any 0 t r):
    s.post enc P f l o q u w z v y:=by
  have J:∀p∈B,(fun b=>decide (b<w.heap.size)) p.block=true:=fun p aY=>by simpa using C.lt p aY
  have K:=C.lt;refine⟨A,gs,B,[],pa,pv,C,D _ _ _,G _ J,H _ J,World.keptBut_mono (fun p aY=>⟨aY,?_⟩) (hb.frame (· ∈B)),fun _=>?_⟩
  · rw [F,List.mem_append] at aY;exact Or.inr aY
  · obtain⟨_,_,_,_,_,A,bc⟩:=C;refine⟨I,_,_,([]++pa)++pv,⟨[]++pa,pv,AE (G _ (fun _ _=>rfl)) (D _ _ _),H _ (fun _ _=>rfl),rfl,?_,?_⟩,?_⟩
    · intro b C aY;have D:MemPlace.cell b C∈B:=by rw [F];simpa using aY
      rw [hb.frozen (p:=⟨b,C,none⟩) (K _ D)];exact A b C D
    · intro A;have:=bc A;rw [F] at this
      simpa using this
    · intro p aY _;rw [F]
      simpa using aY
theorem F4 {P:Program} {t:TypeId} {d:Array Field} {t0 t1:TypeId} (l:P.underlying t=some (.struct d)) (hc:P.cellsOf t=2) (aF:d.toList.map (fun f=>(f.type,f.offset))=[(t0,0),(t1,1)]) (A:bX P t0 (Int)) (h1:bX P t1 (Int)):bX P t aw:=by
  refine⟨hc,fun B C D F G x h=>?_⟩;obtain⟨xs,n,_,_,B,C,hx⟩:=DataW.trod_struct l h;obtain⟨D,F,H,I⟩:=cR aF C hx 0 rfl A;obtain⟨F,J,K,L⟩:=cR aF C hx 1 rfl h1;refine⟨⟨D,F⟩,(),?_,⟨I,L⟩⟩;have e:G.drop 0=_:=br H 1 rfl;rw [br K 2 rfl,je (B.trans hc)] at e;exact e
theorem F2 {P:Program} {t:TypeId} {d:Array Field} {t0 t1:TypeId} (l:P.underlying t=some (.struct d)) (hc:P.cellsOf t=2) (aF:d.toList.map (fun f=>(f.type,f.offset))=[(t0,0),(t1,1)]) (A:bX P t0 (List Bool)) (h1:bX P t1 (List aw)):bX P t a6:=by
  refine⟨hc,fun B C D F G x h=>?_⟩;obtain⟨xs,n,_,_,B,C,hx⟩:=DataW.trod_struct l h;obtain⟨D,F,H,I⟩:=cR aF C hx 0 rfl A;obtain⟨J,K,L,M⟩:=cR aF C hx 1 rfl h1;refine⟨⟨D,J⟩,⟨F,K⟩,?_,⟨I,M⟩⟩;have e:G.drop 0=_:=br H 1 rfl;rw [br L 2 rfl,je (B.trans hc)] at e;exact e
theorem FX {P:Program} {t:TypeId} {d:Array Field} {t0 t1 t2 t3:TypeId} (l:P.underlying t=some (.struct d)) (hc:P.cellsOf t=4) (aF:d.toList.map (fun f=>(f.type,f.offset))=[(t0,0),(t1,1),(t2,2),(t3,3)]) (A:bX P t0 (Int)) (h1:bX P t1 (Int)) (ab:bX P t2 (Int)) (aq:bX P t3 (Int)):bX P t aG:=by
  refine⟨hc,fun B C D F G x h=>?_⟩;obtain⟨xs,n,_,_,B,C,hx⟩:=DataW.trod_struct l h;obtain⟨D,F,H,I⟩:=cR aF C hx 0 rfl A;obtain⟨F,J,K,L⟩:=cR aF C hx 1 rfl h1;obtain⟨A,J,M,N⟩:=cR aF C hx 2 rfl ab;obtain⟨J,O,Q,R⟩:=cR aF C hx 3 rfl aq;refine⟨⟨D,F,A,J⟩,(),?_,⟨I,L,N,R⟩⟩;have e:G.drop 0=_:=br H 1 rfl;rw [br K 2 rfl,br M 3 rfl,br Q 4 rfl,je (B.trans hc)] at e;exact e
theorem F1 {P:Program} {t:TypeId} {d:Array Field} {t0 t1:TypeId} (l:P.underlying t=some (.struct d)) (hc:P.cellsOf t=2) (aF:d.toList.map (fun f=>(f.type,f.offset))=[(t0,0),(t1,1)]) (A:bX P t0 (Int)) (h1:bX P t1 (Int)):bX P t bS:=by
  refine⟨hc,fun B C D F G x h=>?_⟩;obtain⟨xs,n,_,_,B,C,hx⟩:=DataW.trod_struct l h;obtain⟨D,F,H,I⟩:=cR aF C hx 0 rfl A;obtain⟨F,J,K,L⟩:=cR aF C hx 1 rfl h1;refine⟨⟨D,F⟩,(),?_,⟨I,L⟩⟩;have e:G.drop 0=_:=br H 1 rfl;rw [br K 2 rfl,je (B.trans hc)] at e;exact e
theorem FW {P:Program} {t:TypeId} {d:Array Field} {t0 t1 t2:TypeId} (l:P.underlying t=some (.struct d)) (hc:P.cellsOf t=3) (aF:d.toList.map (fun f=>(f.type,f.offset))=[(t0,0),(t1,1),(t2,2)]) (A:bX P t0 (Int)) (h1:bX P t1 (Int)) (ab:bX P t2 (Bool)):bX P t cj:=by
  refine⟨hc,fun B C D F G x h=>?_⟩;obtain⟨xs,n,_,_,B,C,hx⟩:=DataW.trod_struct l h;obtain⟨D,F,H,I⟩:=cR aF C hx 0 rfl A;obtain⟨F,J,K,L⟩:=cR aF C hx 1 rfl h1;obtain⟨A,J,M,N⟩:=cR aF C hx 2 rfl ab;refine⟨⟨D,F,A⟩,(),?_,⟨I,L⟩⟩;have e:G.drop 0=_:=br H 1 rfl;rw [br K 2 rfl,br M 3 rfl,je (B.trans hc)] at e;exact e
theorem FY {P:Program} {t:TypeId} {d:Array Field} {t0 t1 t2 t3:TypeId} (l:P.underlying t=some (.struct d)) (hc:P.cellsOf t=4) (aF:d.toList.map (fun f=>(f.type,f.offset))=[(t0,0),(t1,1),(t2,2),(t3,3)]) (A:bX P t0 (Int)) (h1:bX P t1 (Int)) (ab:bX P t2 (Bool)) (aq:bX P t3 (Int)):bX P t bn:=by
  refine⟨hc,fun B C D F G x h=>?_⟩;obtain⟨xs,n,_,_,B,C,hx⟩:=DataW.trod_struct l h;obtain⟨D,F,H,I⟩:=cR aF C hx 0 rfl A;obtain⟨F,J,K,L⟩:=cR aF C hx 1 rfl h1;obtain⟨A,J,M,N⟩:=cR aF C hx 2 rfl ab;obtain⟨J,N,O,Q⟩:=cR aF C hx 3 rfl aq;refine⟨⟨D,F,A,J⟩,(),?_,⟨I,L,Q⟩⟩;have e:G.drop 0=_:=br H 1 rfl;rw [br K 2 rfl,br M 3 rfl,br O 4 rfl,je (B.trans hc)] at e;exact e
theorem FZ {P:Program} {t:TypeId} {d:Array Field} {t0 t1 t2 t3 t4 t5 t6 t7 t8 t9:TypeId} (l:P.underlying t=some (.struct d)) (hc:P.cellsOf t=15) (aF:d.toList.map (fun f=>(f.type,f.offset))=[(t0,0),(t1,1),(t2,2),(t3,3),(t4,4),(t5,5),(t6,8),(t7,9),(t8,13),(t9,14)]) (A:bX P t0 (List bS)) (h1:bX P t1 (Int)) (ab:bX P t2 (Int)) (aq:bX P t3 (List aw)) (bg:bX P t4 (List aw)) (B:bX P t5 (cj)) (C:bX P t6 (Int)) (D:bX P t7 (bn)) (F:bX P t8 (Bool)) (G:bX P t9 (List Int)):bX P t ai:=by
  refine⟨hc,fun H I J K L x h=>?_⟩;obtain⟨xs,n,_,_,H,I,hx⟩:=DataW.trod_struct l h;obtain⟨J,K,M,N⟩:=cR aF I hx 0 rfl A;obtain⟨O,Q,R,T⟩:=cR aF I hx 1 rfl h1;obtain⟨A,Q,U,W⟩:=cR aF I hx 2 rfl ab;obtain⟨Q,X,Y,d⟩:=cR aF I hx 3 rfl aq;obtain⟨l,o,q,r⟩:=cR aF I hx 4 rfl bg;obtain⟨u,w,y,z⟩:=cR aF I hx 5 rfl B;obtain⟨w,ad,ae,af⟩:=cR aF I hx 6 rfl C;obtain⟨B,ad,ag,ah⟩:=cR aF I hx 7 rfl D;obtain⟨C,ad,aj,ak⟩:=cR aF I hx 8 rfl F;obtain⟨D,ad,ak,al⟩:=cR aF I hx 9 rfl G;refine⟨⟨J,O,A,Q,l,u,w,B,C,D⟩,⟨K,X,o,ad⟩,?_,⟨N,T,W,d,r,z,af,ah,al⟩⟩;have e:L.drop 0=_:=br M 1 rfl;rw [br R 2 rfl,br U 3 rfl,br Y 4 rfl,br q 5 rfl,br y 8 rfl,br ae 9 rfl,br ag 13 rfl,br aj 14 rfl,br ak 15 rfl,je (H.trans hc)] at e;exact e
theorem F3 {P:Program} {t:TypeId} {d:Array Field} {t0 t1 t2 t3 t4 t5 t6 t7 t8:TypeId} (l:P.underlying t=some (.struct d)) (hc:P.cellsOf t=9) (aF:d.toList.map (fun f=>(f.type,f.offset))=[(t0,0),(t1,1),(t2,2),(t3,3),(t4,4),(t5,5),(t6,6),(t7,7),(t8,8)]) (A:bX P t0 (List aw)) (h1:bX P t1 (List (List Int))) (ab:bX P t2 (List Bool)) (aq:bX P t3 (List ai)) (bg:bX P t4 (List Int)) (B:bX P t5 (Int)) (C:bX P t6 (Int)) (D:bX P t7 (List a6)) (F:bX P t8 (Int)):bX P t ay:=by
  refine⟨hc,fun G H I J K x h=>?_⟩;obtain⟨xs,n,_,_,G,H,hx⟩:=DataW.trod_struct l h;obtain⟨I,J,L,M⟩:=cR aF H hx 0 rfl A;obtain⟨N,O,Q,R⟩:=cR aF H hx 1 rfl h1;obtain⟨A,T,U,W⟩:=cR aF H hx 2 rfl ab;obtain⟨X,Y,d,l⟩:=cR aF H hx 3 rfl aq;obtain⟨o,q,r,u⟩:=cR aF H hx 4 rfl bg;obtain⟨w,y,z,ad⟩:=cR aF H hx 5 rfl B;obtain⟨y,ae,af,ag⟩:=cR aF H hx 6 rfl C;obtain⟨B,ae,ah,aj⟩:=cR aF H hx 7 rfl D;obtain⟨C,ak,al,am⟩:=cR aF H hx 8 rfl F;refine⟨⟨I,N,A,X,o,w,y,B,C⟩,⟨J,O,T,Y,q,ae⟩,?_,⟨M,R,W,l,u,ad,ag,aj,am⟩⟩;have e:K.drop 0=_:=br L 1 rfl;rw [br Q 2 rfl,br U 3 rfl,br d 4 rfl,br r 5 rfl,br z 6 rfl,br af 7 rfl,br ah 8 rfl,br al 9 rfl,je (G.trans hc)] at e;exact e
theorem F0 {P:Program} {t:TypeId} {d:Array Field} {t0 t1 t2 t3:TypeId} (l:P.underlying t=some (.struct d)) (hc:P.cellsOf t=4) (aF:d.toList.map (fun f=>(f.type,f.offset))=[(t0,0),(t1,1),(t2,2),(t3,3)]) (A:bX P t0 (List (List Int))) (h1:bX P t1 (List ay)) (ab:bX P t2 (List aG)) (aq:bX P t3 (List aG)):bX P t aa:=by
  refine⟨hc,fun B C D F G x h=>?_⟩;obtain⟨xs,n,_,_,B,C,hx⟩:=DataW.trod_struct l h;obtain⟨D,F,H,I⟩:=cR aF C hx 0 rfl A;obtain⟨J,K,L,M⟩:=cR aF C hx 1 rfl h1;obtain⟨A,N,O,Q⟩:=cR aF C hx 2 rfl ab;obtain⟨R,T,U,W⟩:=cR aF C hx 3 rfl aq;refine⟨⟨D,J,A,R⟩,⟨F,K,N,T⟩,?_,⟨I,M,Q,W⟩⟩;have e:G.drop 0=_:=br H 1 rfl;rw [br L 2 rfl,br O 3 rfl,br U 4 rfl,je (B.trans hc)] at e;exact e
theorem FV {P:Program} {t:TypeId} {d:Array Field} {t0 t1 t2 t3 t4 t5:TypeId} (l:P.underlying t=some (.struct d)) (hc:P.cellsOf t=6) (aF:d.toList.map (fun f=>(f.type,f.offset))=[(t0,0),(t1,1),(t2,2),(t3,3),(t4,4),(t5,5)]) (A:bX P t0 (Int)) (h1:bX P t1 (Int)) (ab:bX P t2 (Int)) (aq:bX P t3 (Int)) (bg:bX P t4 (Int)) (B:bX P t5 (Int)):bX P t eo:=by
  refine⟨hc,fun C D F G H x h=>?_⟩;obtain⟨xs,n,_,_,C,D,hx⟩:=DataW.trod_struct l h;obtain⟨F,G,I,J⟩:=cR aF D hx 0 rfl A;obtain⟨G,K,L,M⟩:=cR aF D hx 1 rfl h1;obtain⟨A,K,N,O⟩:=cR aF D hx 2 rfl ab;obtain⟨K,Q,R,T⟩:=cR aF D hx 3 rfl aq;obtain⟨Q,U,W,X⟩:=cR aF D hx 4 rfl bg;obtain⟨U,Y,d,l⟩:=cR aF D hx 5 rfl B;refine⟨⟨F,G,A,K,Q,U⟩,(),?_,⟨J,M,O,T,X,l⟩⟩;have e:H.drop 0=_:=br I 1 rfl;rw [br L 2 rfl,br N 3 rfl,br R 4 rfl,br W 5 rfl,br d 6 rfl,je (C.trans hc)] at e;exact e
end Go.Proofs.YtkggcdhigchepaaGreat
namespace Go.Proofs.YtkggcdhigchepaaGreat
open Go
class al (α:Type) [GT α] where
  ao:α->Nat
  cut:∀{K b1:Nat} {F:ah} {w:World} {x:α} {p:GT.Ptr α},GT.rd K F w x p->ao x<=b1->GT.rd b1 F w x p
def c1 {α:Type} [GT α] [al α] (xs:List α):Nat:=(xs.map al.ao).sum
instance:al Int where
  ao _:=0
  cut h _:=h
instance:al Bool where
  ao _:=0
  cut h _:=h
theorem dL (n:Nat) (left:Int):(left-n<0/\bq n left=-1)\/(0<=left-n/\bq n left=left-n):=by
  unfold bq;split<;>omega
section
variable {α:Type} [GT α] [al α]
theorem lC:c1 ([]:List α)=0:=rfl
theorem l8 (x:α) (xs:List α):c1 (x::xs)=al.ao x+c1 xs:=by simp [c1]
theorem Av (xs d:List α):c1 (xs++d)=c1 xs+c1 d:=by simp [c1]
theorem Hy (xs:List α) (k:Nat):c1 xs=c1 (xs.take k)+c1 (xs.drop k):=by rw [←Av,List.take_append_drop]
theorem fr {xs:List α} {k:Nat} (h:k<xs.length):c1 (xs.take (k+1))=c1 (xs.take k)+al.ao (el xs k):=by
  rw [List.take_succ_eq_append_getElem h,Av];simp [c1,el,h]
theorem ek (xs:List α) (k:Nat):c1 (xs.take k)<=c1 xs:=by rw [Hy xs k];omega
theorem rT {xs:List α} {k:Nat} (h:xs.length<=k):c1 (xs.take k)=c1 xs:=by rw [List.take_of_length_le h]
theorem rR {xs:List α} {k:Nat} (h:k<xs.length):al.ao (el xs k)<=c1 xs:=by
  have h1:=fr h;have ab:=ek xs (k+1);omega
instance:al (List α) where
  ao xs:=xs.length+c1 xs
  cut h hk:=⟨V,h.cap,h.at_,h.cell,fun i hi=>al.cut (h.el i hi) (by have:=rR hi;omega)⟩
theorem cg (xs:List α):al.ao xs=xs.length+c1 xs:=rfl
theorem eR (d:∀x:α,al.ao x=0) (xs:List α):c1 xs=0:=by
  induction xs with
  |nil=>rfl
  |cons x xs f=>rw [l8,d,f]
end
instance:al aw where
  ao _:=0
  cut h _:=h
instance:al a6 where
  ao x:=al.ao x.IN+al.ao x.IT
  cut h hk:=⟨al.cut h.IN V,al.cut h.IT V⟩
theorem jF (x:a6):al.ao x=al.ao x.IN+al.ao x.IT:=rfl
instance:al aG where
  ao _:=0
  cut h _:=h
instance:al bS where
  ao _:=0
  cut h _:=h
instance:al cj where
  ao _:=0
  cut h _:=h
instance:al bn where
  ao _:=0
  cut h _:=h
instance:al ai where
  ao x:=al.ao x.prog+al.ao x.II+al.ao x.IF+al.ao x.IM
  cut h hk:=⟨al.cut h.prog V,h.aT,h.ar,al.cut h.II V,al.cut h.IF V,h.IJ,h.IA,h.exit,al.cut h.IM V⟩
theorem jE (x:ai):al.ao x=al.ao x.prog+al.ao x.II+al.ao x.IF+al.ao x.IM:=rfl
instance:al aI where
  ao x:=al.ao x.Iy+al.ao x.L+al.ao x.ID
  cut h hk:=⟨al.cut h.Iy V,al.cut h.L V,al.cut h.ID V,h.IA⟩
theorem GU (x:aI):al.ao x=al.ao x.Iy+al.ao x.L+al.ao x.ID:=rfl
instance:al ay where
  ao x:=al.ao x.ad+al.ao x.out+al.ao x.IK+al.ao x.L+al.ao x.ID+al.ao x.Iz
  cut h hk:=⟨al.cut h.ad V,al.cut h.out V,al.cut h.IK V,al.cut h.L V,al.cut h.ID V,h.IA,h.aK,al.cut h.Iz V,h.owned⟩
theorem fk (x:ay):al.ao x=al.ao x.ad+al.ao x.out+al.ao x.IK+al.ao x.L+al.ao x.ID+al.ao x.Iz:=rfl
instance:al aa where
  ao x:=al.ao x.Iy+al.ao x.H+al.ao x.IB+al.ao x.IC
  cut h hk:=⟨al.cut h.Iy V,al.cut h.H V,al.cut h.IB V,al.cut h.IC V⟩
theorem fj (x:aa):al.ao x=al.ao x.Iy+al.ao x.H+al.ao x.IB+al.ao x.IC:=rfl
instance:al eo where
  ao _:=0
  cut h _:=h
instance:al bP where
  ao _:=0
  cut h _:=h
theorem vc (xs:List Int):al.ao xs=xs.length:=by rw [cg,eR (fun _=>rfl)];rfl
theorem vb (xs:List Bool):al.ao xs=xs.length:=by rw [cg,eR (fun _=>rfl)];rfl
theorem vd (xs:List aw):al.ao xs=xs.length:=by rw [cg,eR (fun _=>rfl)];rfl
theorem At (xs:List aG):al.ao xs=xs.length:=by rw [cg,eR (fun _=>rfl)];rfl
theorem Au (xs:List bS):al.ao xs=xs.length:=by rw [cg,eR (fun _=>rfl)];rfl
end Go.Proofs.YtkggcdhigchepaaGreat
namespace Go.Proofs.YtkggcdhigchepaaGreat
open Go
def hE:List ah->ah
  |[]=>I
  |G::l=>Or G (hE l)
theorem U.J0 {d:ah}:U I d:=fun _ h _=>False.elim h
theorem U.or {d C f:ah} (h:U d f) (k:U C f):U (Or d C) f:=fun b h1 ab=>h1.elim (fun A=>h b A ab) (fun A=>k b A ab)
theorem U.part {d F f:ah} (h:U F f) (s:∀b,d b->F b):U d f:=fun b h1 ab=>h b (s b h1) ab
theorem HM {l:List ah} {d:ah} (h:d∈l) (b:Nat) (hb:d b):hE l b:=by
  induction l with
  |nil=>cases h
  |cons A l B=>
    rcases List.mem_cons.1 h with rfl|h
    · exact Or.inl hb
    · exact Or.inr (B h)
theorem iY {l:List ah} {d:Nat->Prop} (h:∀f,f∈l->∀b,f b->d b) (b:Nat) (hb:hE l b):d b:=by
  induction l with
  |nil=>exact False.elim hb
  |cons A l B=>
    rcases hb with hb|hb
    · exact h A List.mem_cons_self b hb
    · exact B (fun f C=>h f (List.mem_cons_of_mem _ C)) hb
theorem ot {l:List ah} (h:l.Pairwise U):g7 (hE l) l:=⟨fun _ d=>HM d,h⟩
theorem bz {l:List ah} (h:l.Pairwise U) {i j:Nat} {d C:ah} (f:i<j) (hi:l[i]? =some d) (o:l[j]? =some C):U d C:=by
  obtain⟨h1,rfl⟩:=List.getElem?_eq_some_iff.1 hi;obtain⟨ab,rfl⟩:=List.getElem?_eq_some_iff.1 o;exact List.pairwise_iff_getElem.1 h i j h1 ab f
section
variable {w0:World} {M:ah} {u:World} {N:ah}
theorem f_ {d f:ah} {x:a6} {p:cJ} (bu:af w0 M u N d x.IN p.IN) (l:af w0 M u N f x.IT p.IT) (o:U d f):af w0 M u N (hE [d,f]) x p:=by
  refine⟨⟨d,f,bu.own,l.own,ot (List.Pairwise.cons (by intro q r;simp only [List.mem_cons,List.not_mem_nil,or_false] at r;rcases r with rfl;exact o) (List.Pairwise.cons (fun q r=>by cases r) List.Pairwise.nil))⟩,?_,?_⟩
  · refine iY fun q r=>?_;simp only [List.mem_cons,List.not_mem_nil,or_false] at r;rcases r with rfl|rfl
    · exact bu.sub
    · exact l.sub
  · refine iY fun q r=>?_;simp only [List.mem_cons,List.not_mem_nil,or_false] at r;rcases r with rfl|rfl
    · exact bu.I1
    · exact l.I1
theorem iE {F:ah} {x:a6} {p:cJ} (o:af w0 M u N F x p):∃d f:ah,af w0 M u N d x.IN p.IN/\af w0 M u N f x.IT p.IT/\(∀b,d b->F b)/\(∀b,f b->F b)/\U d f:=by
  obtain⟨⟨d,f,l,q,s⟩,h1,ab⟩:=o;have r:∀b,d b->F b:=s.sub _ aM;have t:∀b,f b->F b:=s.sub _ aM;exact⟨d,f,⟨l,fun b hb=>h1 b (r b hb),fun b hb=>ab b (r b hb)⟩,⟨q,fun b hb=>h1 b (t b hb),fun b hb=>ab b (t b hb)⟩,r,t,bz s.IY (i:=0) (j:=1) (by decide) rfl rfl⟩
theorem dz {d f l o:ah} {x:ai} {p:bG} (bu:af w0 M u N d x.prog p.prog) (q:af w0 M u N f x.II p.II) (r:af w0 M u N l x.IF p.IF) (t:af w0 M u N o x.IM p.IM) (w:U d f) (y:U d l) (z:U d o) (A:U f l) (B:U f o) (C:U l o) (D:au x.aT) (F:au x.ar) (G:cY x.IJ) (H:au x.IA) (I:ct x.exit):af w0 M u N (hE [d,f,l,o]) x p:=by
  refine⟨⟨d,f,l,o,bu.own,q.own,r.own,t.own,ot (List.Pairwise.cons (by intro J K;simp only [List.mem_cons,List.not_mem_nil,or_false] at K;rcases K with rfl|rfl|rfl;exact w;exact y;exact z) (List.Pairwise.cons (by intro J K;simp only [List.mem_cons,List.not_mem_nil,or_false] at K;rcases K with rfl|rfl;exact A;exact B) (List.Pairwise.cons (by intro J K;simp only [List.mem_cons,List.not_mem_nil,or_false] at K;rcases K with rfl;exact C) (List.Pairwise.cons (fun J K=>by cases K) List.Pairwise.nil)))),D,F,G,H,I⟩,?_,?_⟩
  · refine iY fun J K=>?_;simp only [List.mem_cons,List.not_mem_nil,or_false] at K;rcases K with rfl|rfl|rfl|rfl
    · exact bu.sub
    · exact q.sub
    · exact r.sub
    · exact t.sub
  · refine iY fun J K=>?_;simp only [List.mem_cons,List.not_mem_nil,or_false] at K;rcases K with rfl|rfl|rfl|rfl
    · exact bu.I1
    · exact q.I1
    · exact r.I1
    · exact t.I1
theorem fq {F:ah} {x:ai} {p:bG} (o:af w0 M u N F x p):∃d f l q:ah,af w0 M u N d x.prog p.prog/\af w0 M u N f x.II p.II/\af w0 M u N l x.IF p.IF/\af w0 M u N q x.IM p.IM/\(∀b,d b->F b)/\(∀b,f b->F b)/\(∀b,l b->F b)/\(∀b,q b->F b)/\U d f/\U d l/\U d q/\U f l/\U f q/\U l q:=by
  obtain⟨⟨d,f,l,q,r,t,w,y,s,_,_,_,_,_⟩,h1,ab⟩:=o;have z:∀b,d b->F b:=s.sub _ aM;have A:∀b,f b->F b:=s.sub _ aM;have B:∀b,l b->F b:=s.sub _ aM;have C:∀b,q b->F b:=s.sub _ aM;exact⟨d,f,l,q,⟨r,fun b hb=>h1 b (z b hb),fun b hb=>ab b (z b hb)⟩,⟨t,fun b hb=>h1 b (A b hb),fun b hb=>ab b (A b hb)⟩,⟨w,fun b hb=>h1 b (B b hb),fun b hb=>ab b (B b hb)⟩,⟨y,fun b hb=>h1 b (C b hb),fun b hb=>ab b (C b hb)⟩,z,A,B,C,bz s.IY (i:=0) (j:=1) (by decide) rfl rfl,bz s.IY (i:=0) (j:=2) (by decide) rfl rfl,bz s.IY (i:=0) (j:=3) (by decide) rfl rfl,bz s.IY (i:=1) (j:=2) (by decide) rfl rfl,bz s.IY (i:=1) (j:=3) (by decide) rfl rfl,bz s.IY (i:=2) (j:=3) (by decide) rfl rfl⟩
theorem cO {d f l:ah} {x:aI} {p:bM} (bu:af w0 M u N d x.Iy p.Iy) (o:af w0 M u N f x.L p.L) (q:af w0 M u N l x.ID p.ID) (r:U d f) (t:U d l) (w:U f l) (y:au x.IA):af w0 M u N (hE [d,f,l]) x p:=by
  refine⟨⟨d,f,l,bu.own,o.own,q.own,ot (List.Pairwise.cons (by intro z A;simp only [List.mem_cons,List.not_mem_nil,or_false] at A;rcases A with rfl|rfl;exact r;exact t) (List.Pairwise.cons (by intro z A;simp only [List.mem_cons,List.not_mem_nil,or_false] at A;rcases A with rfl;exact w) (List.Pairwise.cons (fun z A=>by cases A) List.Pairwise.nil))),y⟩,?_,?_⟩
  · refine iY fun z A=>?_;simp only [List.mem_cons,List.not_mem_nil,or_false] at A;rcases A with rfl|rfl|rfl
    · exact bu.sub
    · exact o.sub
    · exact q.sub
  · refine iY fun z A=>?_;simp only [List.mem_cons,List.not_mem_nil,or_false] at A;rcases A with rfl|rfl|rfl
    · exact bu.I1
    · exact o.I1
    · exact q.I1
theorem g3 {F:ah} {x:aI} {p:bM} (o:af w0 M u N F x p):∃d f l:ah,af w0 M u N d x.Iy p.Iy/\af w0 M u N f x.L p.L/\af w0 M u N l x.ID p.ID/\(∀b,d b->F b)/\(∀b,f b->F b)/\(∀b,l b->F b)/\U d f/\U d l/\U f l:=by
  obtain⟨⟨d,f,l,q,r,t,s,_⟩,h1,ab⟩:=o;have w:∀b,d b->F b:=s.sub _ aM;have y:∀b,f b->F b:=s.sub _ aM;have z:∀b,l b->F b:=s.sub _ aM;exact⟨d,f,l,⟨q,fun b hb=>h1 b (w b hb),fun b hb=>ab b (w b hb)⟩,⟨r,fun b hb=>h1 b (y b hb),fun b hb=>ab b (y b hb)⟩,⟨t,fun b hb=>h1 b (z b hb),fun b hb=>ab b (z b hb)⟩,w,y,z,bz s.IY (i:=0) (j:=1) (by decide) rfl rfl,bz s.IY (i:=0) (j:=2) (by decide) rfl rfl,bz s.IY (i:=1) (j:=2) (by decide) rfl rfl⟩
theorem q9 {d f l o q r:ah} {x:ay} {p:cA} (bu:af w0 M u N d x.ad p.ad) (t:af w0 M u N f x.out p.out) (w:af w0 M u N l x.IK p.IK) (y:af w0 M u N o x.L p.L) (z:af w0 M u N q x.ID p.ID) (A:af w0 M u N r x.Iz p.Iz) (B:U d f) (C:U d l) (D:U d o) (F:U d q) (G:U d r) (H:U f l) (I:U f o) (J:U f q) (K:U f r) (L:U l o) (O:U l q) (P:U l r) (Q:U o q) (R:U o r) (T:U q r) (W:au x.IA) (X:au x.aK) (Y:au x.owned):af w0 M u N (hE [d,f,l,o,q,r]) x p:=by
  refine⟨⟨d,f,l,o,q,r,bu.own,t.own,w.own,y.own,z.own,A.own,ot (List.Pairwise.cons (by intro ad ae;simp only [List.mem_cons,List.not_mem_nil,or_false] at ae;rcases ae with rfl|rfl|rfl|rfl|rfl;exact B;exact C;exact D;exact F;exact G) (List.Pairwise.cons (by intro ad ae;simp only [List.mem_cons,List.not_mem_nil,or_false] at ae;rcases ae with rfl|rfl|rfl|rfl;exact H;exact I;exact J;exact K) (List.Pairwise.cons (by intro ad ae;simp only [List.mem_cons,List.not_mem_nil,or_false] at ae;rcases ae with rfl|rfl|rfl;exact L;exact O;exact P) (List.Pairwise.cons (by intro ad ae;simp only [List.mem_cons,List.not_mem_nil,or_false] at ae;rcases ae with rfl|rfl;exact Q;exact R) (List.Pairwise.cons (by intro ad ae;simp only [List.mem_cons,List.not_mem_nil,or_false] at ae;rcases ae with rfl;exact T) (List.Pairwise.cons (fun ad ae=>by cases ae) List.Pairwise.nil)))))),W,X,Y⟩,?_,?_⟩
  · refine iY fun ad ae=>?_;simp only [List.mem_cons,List.not_mem_nil,or_false] at ae;rcases ae with rfl|rfl|rfl|rfl|rfl|rfl
    · exact bu.sub
    · exact t.sub
    · exact w.sub
    · exact y.sub
    · exact z.sub
    · exact A.sub
  · refine iY fun ad ae=>?_;simp only [List.mem_cons,List.not_mem_nil,or_false] at ae;rcases ae with rfl|rfl|rfl|rfl|rfl|rfl
    · exact bu.I1
    · exact t.I1
    · exact w.I1
    · exact y.I1
    · exact z.I1
    · exact A.I1
theorem GR {F:ah} {x:ay} {p:cA} (o:af w0 M u N F x p):∃d f l q r t:ah,af w0 M u N d x.ad p.ad/\af w0 M u N f x.out p.out/\af w0 M u N l x.IK p.IK/\af w0 M u N q x.L p.L/\af w0 M u N r x.ID p.ID/\af w0 M u N t x.Iz p.Iz/\(∀b,d b->F b)/\(∀b,f b->F b)/\(∀b,l b->F b)/\(∀b,q b->F b)/\(∀b,r b->F b)/\(∀b,t b->F b)/\U d f/\U d l/\U d q/\U d r/\U d t/\U f l/\U f q/\U f r/\U f t/\U l q/\U l r/\U l t/\U q r/\U q t/\U r t:=by
  obtain⟨⟨d,f,l,q,r,t,w,y,z,A,B,C,s,_,_,_⟩,h1,ab⟩:=o;have D:∀b,d b->F b:=s.sub _ aM;have G:∀b,f b->F b:=s.sub _ aM;have H:∀b,l b->F b:=s.sub _ aM;have I:∀b,q b->F b:=s.sub _ aM;have J:∀b,r b->F b:=s.sub _ aM;have K:∀b,t b->F b:=s.sub _ aM;exact⟨d,f,l,q,r,t,⟨w,fun b hb=>h1 b (D b hb),fun b hb=>ab b (D b hb)⟩,⟨y,fun b hb=>h1 b (G b hb),fun b hb=>ab b (G b hb)⟩,⟨z,fun b hb=>h1 b (H b hb),fun b hb=>ab b (H b hb)⟩,⟨A,fun b hb=>h1 b (I b hb),fun b hb=>ab b (I b hb)⟩,⟨B,fun b hb=>h1 b (J b hb),fun b hb=>ab b (J b hb)⟩,⟨C,fun b hb=>h1 b (K b hb),fun b hb=>ab b (K b hb)⟩,D,G,H,I,J,K,bz s.IY (i:=0) (j:=1) (by decide) rfl rfl,bz s.IY (i:=0) (j:=2) (by decide) rfl rfl,bz s.IY (i:=0) (j:=3) (by decide) rfl rfl,bz s.IY (i:=0) (j:=4) (by decide) rfl rfl,bz s.IY (i:=0) (j:=5) (by decide) rfl rfl,bz s.IY (i:=1) (j:=2) (by decide) rfl rfl,bz s.IY (i:=1) (j:=3) (by decide) rfl rfl,bz s.IY (i:=1) (j:=4) (by decide) rfl rfl,bz s.IY (i:=1) (j:=5) (by decide) rfl rfl,bz s.IY (i:=2) (j:=3) (by decide) rfl rfl,bz s.IY (i:=2) (j:=4) (by decide) rfl rfl,bz s.IY (i:=2) (j:=5) (by decide) rfl rfl,bz s.IY (i:=3) (j:=4) (by decide) rfl rfl,bz s.IY (i:=3) (j:=5) (by decide) rfl rfl,bz s.IY (i:=4) (j:=5) (by decide) rfl rfl⟩
theorem bK {d f l o:ah} {x:aa} {p:a1} (bu:af w0 M u N d x.Iy p.Iy) (q:af w0 M u N f x.H p.H) (r:af w0 M u N l x.IB p.IB) (t:af w0 M u N o x.IC p.IC) (w:U d f) (y:U d l) (z:U d o) (A:U f l) (B:U f o) (C:U l o):af w0 M u N (hE [d,f,l,o]) x p:=by
  refine⟨⟨d,f,l,o,bu.own,q.own,r.own,t.own,ot (List.Pairwise.cons (by intro D F;simp only [List.mem_cons,List.not_mem_nil,or_false] at F;rcases F with rfl|rfl|rfl;exact w;exact y;exact z) (List.Pairwise.cons (by intro D F;simp only [List.mem_cons,List.not_mem_nil,or_false] at F;rcases F with rfl|rfl;exact A;exact B) (List.Pairwise.cons (by intro D F;simp only [List.mem_cons,List.not_mem_nil,or_false] at F;rcases F with rfl;exact C) (List.Pairwise.cons (fun D F=>by cases F) List.Pairwise.nil))))⟩,?_,?_⟩
  · refine iY fun D F=>?_;simp only [List.mem_cons,List.not_mem_nil,or_false] at F;rcases F with rfl|rfl|rfl|rfl
    · exact bu.sub
    · exact q.sub
    · exact r.sub
    · exact t.sub
  · refine iY fun D F=>?_;simp only [List.mem_cons,List.not_mem_nil,or_false] at F;rcases F with rfl|rfl|rfl|rfl
    · exact bu.I1
    · exact q.I1
    · exact r.I1
    · exact t.I1
theorem cV {F:ah} {x:aa} {p:a1} (o:af w0 M u N F x p):∃d f l q:ah,af w0 M u N d x.Iy p.Iy/\af w0 M u N f x.H p.H/\af w0 M u N l x.IB p.IB/\af w0 M u N q x.IC p.IC/\(∀b,d b->F b)/\(∀b,f b->F b)/\(∀b,l b->F b)/\(∀b,q b->F b)/\U d f/\U d l/\U d q/\U f l/\U f q/\U l q:=by
  obtain⟨⟨d,f,l,q,r,t,w,y,s⟩,h1,ab⟩:=o;have z:∀b,d b->F b:=s.sub _ aM;have A:∀b,f b->F b:=s.sub _ aM;have B:∀b,l b->F b:=s.sub _ aM;have C:∀b,q b->F b:=s.sub _ aM;exact⟨d,f,l,q,⟨r,fun b hb=>h1 b (z b hb),fun b hb=>ab b (z b hb)⟩,⟨t,fun b hb=>h1 b (A b hb),fun b hb=>ab b (A b hb)⟩,⟨w,fun b hb=>h1 b (B b hb),fun b hb=>ab b (B b hb)⟩,⟨y,fun b hb=>h1 b (C b hb),fun b hb=>ab b (C b hb)⟩,z,A,B,C,bz s.IY (i:=0) (j:=1) (by decide) rfl rfl,bz s.IY (i:=0) (j:=2) (by decide) rfl rfl,bz s.IY (i:=0) (j:=3) (by decide) rfl rfl,bz s.IY (i:=1) (j:=2) (by decide) rfl rfl,bz s.IY (i:=1) (j:=3) (by decide) rfl rfl,bz s.IY (i:=2) (j:=3) (by decide) rfl rfl⟩
end
end Go.Proofs.YtkggcdhigchepaaGreat
namespace Go.Proofs.YtkggcdhigchepaaGreat
open Go
def fo (l:List aw) (Z:Int) (k:Nat):Int:=
  if k<l.length then(if(el l k).Z=Z then k else fo l Z (k+1)) else-1
termination_by l.length-k
theorem uK {l:List aw} {Z:Int} {k:Nat} (h:k<l.length) (e:(el l k).Z=Z):fo l Z k=k:=by
  rw [fo,if_pos h,if_pos e]
theorem uL {l:List aw} {Z:Int} {k:Nat} (h:k<l.length) (e:¬(el l k).Z=Z):fo l Z k=fo l Z (k+1):=by
  rw [fo,if_pos h,if_neg e]
theorem uJ {l:List aw} {Z:Int} {k:Nat} (h:l.length<=k):fo l Z k=-1:=by
  rw [fo,if_neg V]
def eH (ms:List ay) (Z:Int) (i:Nat):Int×Int:=
  if i<ms.length then(if fo (el ms i).ad Z 0<0 then eH ms Z (i+1) else((i:Int),fo (el ms i).ad Z 0)) else(-1,-1)
termination_by ms.length-i
theorem zG {d:List ay} {Z:Int} {i k:Nat} (h:i<d.length) (e:fo (el d i).ad Z 0=k):eH d Z i=((i:Int),(k:Int)):=by
  rw [eH,if_pos h,if_neg V,e]
theorem zH {d:List ay} {Z:Int} {i:Nat} (h:i<d.length) (e:fo (el d i).ad Z 0=-1):eH d Z i=eH d Z (i+1):=by
  rw [eH,if_pos h,if_pos V]
theorem uI {d:List ay} {Z:Int} {i:Nat} (h:d.length<=i):eH d Z i=(-1,-1):=by
  rw [eH,if_neg V]
def cc (h:aa) (Z:Int):Int×Int:=if Z<0 then(-1,-1) else eH h.H Z 0
theorem uO {h:aa} {Z:Int} (e:Z<0):cc h Z=(-1,-1):=if_pos e
theorem uP {h:aa} {Z:Int} (e:¬Z<0):cc h Z=eH h.H Z 0:=if_neg e
theorem zL {h:aa} {Z:Int} (e:eH h.H Z 0=(-1,-1)):cc h Z=(-1,-1):=by
  unfold cc;split
  · rfl
  · exact e
def Ee (k:a6):Int:=((k.IN.filter fun b=>b).length:Int)
end Go.Proofs.YtkggcdhigchepaaGreat
namespace Go.Proofs.YtkggcdhigchepaaGreat
open Go
theorem h9 {α:Type} [GT α] {xs:List α} {p:α->Bool} {k:Nat} (h:k<xs.length) (e:(xs.take k).all p=true) (d:p (el xs k)=true):(xs.take (k+1)).all p=true:=by
  rw [eS h,List.all_append];simp [e,d]
theorem gF {α:Type} [GT α] {xs:List α} {p:α->Bool} {k:Nat} (h:k<xs.length) (d:p (el xs k)=false):xs.all p=false:=by
  rw [←Bool.not_eq_true];intro hc;rw [List.all_eq_true] at hc;have hx:=hc (el xs k) (by rw [hK h];exact List.getElem_mem h);rw [hx] at d;cases d
theorem cz {α:Type} {xs:List α} {p:α->Bool} {k:Nat} (h:xs.length<=k) (e:(xs.take k).all p=true):xs.all p=true:=by rwa [cr h] at e
theorem ja {α:Type} [GT α] {xs:List α} {p:α->Bool} (e:xs.all p=true) {k:Nat} (h:k<xs.length):p (el xs k)=true:=by
  rw [List.all_eq_true] at e;exact e _ (by rw [hK h];exact List.getElem_mem h)
theorem jn {α d:Type} [GT α] {f:d->α->d} {l:d} {xs:List α} {k:Nat} (h:k<xs.length):(xs.take (k+1)).foldl f l=f ((xs.take k).foldl f l) (el xs k):=by
  rw [eS h,List.foldl_append];rfl
theorem xA {α d:Type} {f:d->α->d} {l:d} {xs:List α} {k:Nat} (h:xs.length<=k):(xs.take k).foldl f l=xs.foldl f l:=by rw [cr h]
theorem jC {p:Nat->Bool} {k:Nat} (e:(List.range k).all p=true) (d:p k=true):(List.range (k+1)).all p=true:=by
  rw [List.range_succ,List.all_append];simp [e,d]
theorem rv {p:Nat->Bool} {k n:Nat} (h:k<n) (d:p k=false):(List.range n).all p=false:=by
  rw [←Bool.not_eq_true];intro hc;rw [List.all_eq_true] at hc;have hx:=hc k (List.mem_range.2 h);rw [hx] at d;cases d
theorem ry {p:Nat->Bool} {n k:Nat} (e:(List.range n).all p=true) (h:k<n):p k=true:=by
  rw [List.all_eq_true] at e;exact e _ (List.mem_range.2 h)
def Ed (t:List a6) (n:Int):Int:=t.foldl (fun n k=>IntKind.i64.wrap (n+Ee k)) n
def H2 (h:aa):Int:=h.H.foldl (fun n m=>Ed m.Iz n) 0
def gT (i:bS):Bool:=
  if i.I5=1\/i.I5=2\/i.I5=5\/i.I5=6 then av i.x 0 99
  else if i.I5=3\/i.I5=4 then av i.x 0 15
  else if i.I5=7 then i.x==0
  else if i.I5=8 then av i.x 0 11 else false
def fx (p:List bS):Bool:=p.all gT&&av p.length 1 12
def c4 (s:aw) (nm:Int):Bool:=decide (s=⟨-1,0⟩)||(decide (0<nm)&&av s.Z 0 (nm-1)&&av s.IU 1 3)
def dP (t:List aw) (size nm:Int):Bool:=t.all (fun s=>c4 s nm)&&((t.length:Int)==size)
theorem l9 {t:List aw} {d f:Int} (h:dP t d f=true):(t.length:Int)=d:=by
  simp [dP] at h;exact h.2
theorem oz {t:List aw} {d f:Int} (h:dP t d f=true) {k:Nat} (hk:k<t.length):c4 (el t k) f=true:=by
  simp only [dP,Bool.and_eq_true] at h;exact ja h.1 hk
def dV (c:List Int):Bool:=c.all (fun v=>av v 0 99)&&((c.length:Int)==4)
def ey (m:List (List Int)) (nm:Int):Bool:=m.all dV&&((m.length:Int)==nm)
def cw (r n:Int):Bool:=av r 0 3&&av n 0 3&&(eX r n==n)
def hM (c:cj):List Int:=
  (if av c.aK 0 3 then [] else [1])++(if av c.post 0 255 then [] else [2])++(if c.post≠0/\c.I6=false then [3] else [])++(if c.aK=2/\c.post≠0 then [4] else [])
def eF (c:cj):Bool:=((hM c).length:Int)==0
def lP (e:bn):Bool:=
  if e.aO=0\/e.aO=4 then decide (e.Z=0)&& !e.b2&&decide (e.n=0)
  else if e.aO=1 then av e.Z 0 3&&decide (e.n=0)
  else if e.aO=2\/e.aO=3 then av e.n 0 99&&decide (e.Z=0)&& !e.b2 else false
def fm (g:ai):Bool:=
  fx g.prog&&av g.aT 0 99&&av g.ar 0 12&&dP g.II 4 8&&dP g.IF 4 8&&eF g.IJ&&av g.IA 0 255&&lP g.exit&&decide ((g.IM.length:Int)<=40)
def hn (m:ay) (i:Nat):Bool:=
  if el m.ad i=⟨-1,0⟩ then dV (el m.out i) else cw (el m.ad i).IU 1&&decide ((el m.out i).length=0)
def hh (m:ay):Bool:=
  av m.L.length 1 2&&decide (m.Iz.length=m.L.length)&&dP m.ad 8 12&&decide (m.out.length=8)&&decide (m.IK.length=8)
def jk (m:ay):Bool:=decide (m.ID.length<=40)&&av m.IA 0 255&&av m.aK 0 3&&av m.owned 0 1000000000
def ed (m:ay):Bool:=hh m&&jk m&&m.L.all fm&&(List.range 8).all (hn m)
theorem jy {m:ay} (h:ed m=true):m.ad.length=8/\dP m.ad 8 12=true:=by
  simp only [ed,hh,Bool.and_eq_true] at h;have h1:=h.1.1.1.1.1.2;exact⟨by have:=l9 h1;omega,h1⟩
def aH (h:aa) (m:Int):ay×Bool:=if 0<=m/\m<h.H.length then(el h.H m.toNat,true) else(⟨[],[],[],[],[],0,0,[],0⟩,false)
def H8 (h:aa) (m:Int):Int:=(aH h m).1.owned
end Go.Proofs.YtkggcdhigchepaaGreat
namespace Go.Proofs.YtkggcdhigchepaaGreat
open Go
def e7 (n:Nat) (p:Nat->Bool):List Int:=((List.range n).filter p).map fun(i:Nat)=>(i:Int)
theorem e_ {k:Nat} {p:Nat->Bool} (h:p k=true):e7 (k+1) p=e7 k p++[(k:Int)]:=by
  unfold e7;rw [List.range_succ,List.filter_append,List.map_append];simp [h]
theorem e9 {k:Nat} {p:Nat->Bool} (h:p k=false):e7 (k+1) p=e7 k p:=by
  unfold e7;rw [List.range_succ,List.filter_append,List.map_append];simp [h]
theorem jq (n:Nat) (p:Nat->Bool):(e7 n p).length<=n:=by
  unfold e7;rw [List.length_map];exact Nat.le_trans (List.length_filter_le _ _) aM
def cC (h:aa):List Int:=e7 h.Iy.length fun p=>decide ((cc h p).1<0)
def gB (g:ai):Bool:=decide (g.exit=⟨0,0,false,0⟩)&& !g.IX
def Ek (l:List ai):List Int:=e7 l.length fun i=>gB (el l i)
def H_ (h:aa):List (List Int):=h.H.map fun m=>Ek m.L
theorem qP {α d:Type} [GT α] {xs:List α} {f:α->d} {k:Nat} (h:k<xs.length):(xs.take (k+1)).map f=(xs.take k).map f++[f (el xs k)]:=by
  rw [eS h,List.map_append];rfl
def dX (t:List aw) (Z:Int):List Int:=e7 t.length fun i=>decide ((el t i).Z=Z)
def b9 (t:List aw) (Z:Int):aw:=if 0<=Z/\Z<t.length then el t Z.toNat else⟨-1,0⟩
theorem u2 {K:Nat} {F:ah} {w:World} {t:List aw} {p:ak aw} (h:GT.rd K F w t p) (Z:Int):bY (b9 t Z):=by
  unfold b9;split
  · exact ae.el h _ V
  · exact⟨⟨by decide,by decide⟩,⟨by decide,by decide⟩⟩
def eI (m:List (List Int)) (Z:Int):List Int:=if 0<=Z/\Z<m.length then el m Z.toNat else [0,0,0,0]
def jl (h:aa) (m Z:Int):List Int:=
  if(0<=m/\m<h.H.length)/\0<=Z/\Z<8 then
    (if(b9 (el h.H m.toNat).ad Z).Z≠ -1 then eI h.Iy (b9 (el h.H m.toNat).ad Z).Z else eI (el h.H m.toNat).out Z)
  else [0,0,0,0]
theorem xc {α:Type} [GT α] {xs:List α} {i k:Nat} (h:k<i):el (xs.take i) k=el xs k:=by
  unfold el;rw [List.getD_eq_getElem?_getD,List.getD_eq_getElem?_getD,List.getElem?_take_of_lt h]
def hL (b:List aG):Bool:=
  (List.range b.length).all (fun i=>(List.range i).all fun k=>!(decide ((el b i).bm=(el b k).bm)&&decide ((el b i).Z=(el b k).Z)))&&decide ((b.length:Int)<=6)
def hB (u:Option (List Bool)) (s:aw):Option (List Bool):=u.bind fun u=>if s.Z<0 then some u else if el u s.Z.toNat then none else some (u.set s.Z.toNat true)
def iF (u:Option (List Bool)) (m:ay):Option (List Bool):=u.bind fun u=>if ed m then m.ad.foldl hB (some u) else none
def iO (h:aa):Bool:=ey h.Iy 12&&av h.H.length 1 3&&hL h.IB&&hL h.IC
def kH (h:aa):Option (List Bool):=h.H.foldl iF (some (List.replicate 12 false))
def b8 (h:aa):Bool:=iO h&&(kH h).isSome
theorem mI {α d:Type} [GT α] {f:Option d->α->Option d} {l u:Option d} {xs:List α} {k:Nat} (hk:k<xs.length) (bc:∀x,f none x=none) (h:(xs.take k).foldl f l=u) (h1:f u (el xs k)=none):xs.foldl f l=none:=by
  have A:∀B:List α,B.foldl f none=none:=fun B=>by
    induction B with
    |nil=>rfl
    |cons y r B=>simp only [List.foldl_cons,bc,B]
  have e:xs=xs.take k++el xs k::xs.drop (k+1):=by
    rw [hK hk,←List.drop_eq_getElem_cons hk,List.take_append_drop]
  rw [e,List.foldl_append,h,List.foldl_cons,h1,A]
theorem Ad (s:aw):hB none s=none:=rfl
theorem ou (m:ay):iF none m=none:=rfl
theorem ox {u:List Bool} {s:aw} (h:s.Z<0):hB (some u) s=some u:=by simp [hB,h]
theorem u7 {u:List Bool} {s:aw} (h:¬s.Z<0) (d:el u s.Z.toNat=true):hB (some u) s=none:=by simp [hB,h,d]
theorem ka {u:List Bool} {s:aw} (h:¬s.Z<0) (d:el u s.Z.toNat=false):hB (some u) s=some (u.set s.Z.toNat true):=by simp [hB,h,d]
theorem u6 {u:List Bool} {m:ay} (h:ed m=false):iF (some u) m=none:=by simp [iF,h]
theorem ow {u:List Bool} {m:ay} (h:ed m=true):iF (some u) m=m.ad.foldl hB (some u):=by simp [iF,h]
theorem zQ {m:ay} (h:ed m=true) (k:Nat):(el m.ad k).Z<12:=by
  by_cases hk:k<m.ad.length
  · have h1:=oz (jy h).2 hk;simp only [c4,Bool.or_eq_true,Bool.and_eq_true,decide_eq_true_eq] at h1;rcases h1 with h1|h1
    · rw [h1];decide
    · have:=bj h1.1.2;omega
  · unfold el;rw [List.getD_eq_getElem?_getD,List.getElem?_eq_none V];decide
theorem p7 {h:aa} (e:kH h=none):b8 h=false:=by simp [b8,e]
theorem fz {h:aa} (e:b8 h=true):1<=h.H.length/\h.H.length<=3/\h.Iy.length=12:=by
  simp only [b8,iO,ey,Bool.and_eq_true,beq_iff_eq] at e;have h1:=bj e.1.1.1.2;have ab:=e.1.1.1.1.2;omega
def aJ (h:aa) (m:Int):aI:=
  if 0<=m/\m<h.H.length then⟨(List.range 8).map (fun(i:Nat)=>jl h m (i:Int)),(el h.H m.toNat).L,(el h.H m.toNat).ID,(el h.H m.toNat).IA⟩ else⟨[],[],[],0⟩
def xp (h:aa):List aI:=(List.range h.H.length).map fun(i:Nat)=>aJ h (i:Int)
theorem Gz {α:Type} {f:Nat->α} {k:Nat}:(List.range (k+1)).map f=(List.range k).map f++[f k]:=by
  rw [List.range_succ,List.map_append];rfl
theorem ll {h:aa} {m:Int} (e:(aH h m).2=true):0<=m/\m<h.H.length:=by
  unfold aH at e;split at e
  · assumption
  · cases e
theorem zq {h:aa} {m:Int} (e:(aH h m).2=false):¬(0<=m/\m<h.H.length):=by
  unfold aH at e;split at e
  · cases e
  · assumption
theorem l0 {h:aa} {m:Int} (e:0<=m/\m<h.H.length):(aH h m).1=el h.H m.toNat:=by
  unfold aH;rw [if_pos e]
def Ec (h:aa) (l:List aI):Bool:=decide (xp h=l)
def Ia (a b:aa):Bool:=Ec a (xp b)
def Ie (h:aa) (m:Int) (x:ay):aa:=if 0<=m/\m<h.H.length then⟨h.Iy,h.H.set m.toNat x,h.IB,h.IC⟩ else h
theorem iW {α:Type} [GT α] [al α] {xs:List α} {k:Nat} {y:α} (h:k<xs.length):c1 (xs.set k y)+al.ao (el xs k)=c1 xs+al.ao y:=by
  induction xs generalizing k with
  |nil=>simp at h
  |cons x r d=>
    cases k with
    |zero=>
      rw [List.set_cons_zero,l8,l8];show al.ao y+c1 r+al.ao x=al.ao x+c1 r+al.ao y;omega
    |succ k=>
      have:=d (k:=k) (by simpa using h);rw [List.set_cons_succ,l8,l8];have e:el (x::r) (k+1)=el r k:=by simp [el]
      rw [e];omega
theorem va (h:aa) (k:Nat) (y:ay):al.ao (⟨h.Iy,h.H.set k y,h.IB,h.IC⟩:aa)<=al.ao h+al.ao y:=by
  have d:=fj h;have A:=fj (⟨h.Iy,h.H.set k y,h.IB,h.IC⟩:aa);simp only at A;have B:=cg h.H;have A:=cg (h.H.set k y);rw [List.length_set] at A;by_cases hk:k<h.H.length
  · have:=iW (y:=y) hk;omega
  · rw [List.set_eq_of_length_le V] at*;omega
def gK (h:aa) (m aK:Int):aa×Bool:=
  if b8 h=true/\(0<=m/\m<h.H.length)/\0<=aK/\aK<=3 then(⟨h.Iy,h.H.set m.toNat {el h.H m.toNat with aK:=aK},h.IB,h.IC⟩,true) else(h,false)
theorem Hs (h:aa) (k:Nat) (y:ay) (hy:al.ao y<=al.ao h):al.ao (⟨h.Iy,h.H.set k y,h.IB,h.IC⟩:aa)<=2*al.ao h:=by
  have:=va h k y;omega
theorem rQ {h:aa} {k:Nat} (hk:k<h.H.length):al.ao (el h.H k)<=al.ao h:=by
  have ab:=rR hk;have d:=fj h;have A:=cg h.H;omega
theorem Hu (h:aa) (m d:Int):al.ao (gK h m d).1<=2*al.ao h:=by
  unfold gK;split
  · rename_i e;exact Hs h _ _ (rQ (k:=m.toNat) V)
  · simp only;omega
end Go.Proofs.YtkggcdhigchepaaGreat
