/- Worlds that agree on some blocks; typed data read off memory: a class of types whose values are cells given by data and pointers. No program is named here. -/
import Derived.Below
import Derived.Deep.MidRow
import Derived.Laws.CopyRow
import Derived.Orders
import Derived.Deep.Quiet
import Derived.IntWalk
import Derived.Laws.StructEq
import Derived.OpenShut
import Derived.Deep.Slices
import Derived.OrdersHeld
namespace Go.Proofs.YtmeoackmjdoecaaGreat
open Go
abbrev aw:=Nat->Prop
def J (A B:aw):Prop:=∀b,A b->B b->False
theorem J.w {A B C:aw} (d:∀b,B b->C b->False) (h:∀b,A b->B b):J A C:=fun b x y=>d b (h b x) y
def ga (n:Nat):aw:=fun b=>b<n
def ky (b9 hi:Nat):aw:=fun b=>b9<=b/\b<hi
def aa:aw:=fun _=>False
theorem J.symm {A B:aw} (h:J A B):J B A:=fun b x y=>h b y x
structure bX (M:aw) (w w':World):Prop where
  os:w'.os=w.os
  tape:w'.tape=w.tape
  output:w'.output=w.output
  size:w.heap.size<=w'.heap.size
  block:∀k,k<w.heap.size->¬M k->w'.heap[k]? =w.heap[k]?
theorem bX.refl (M:aw) (w:World):bX M w w:=⟨rfl,rfl,rfl,Nat.le_refl _,fun _ _ _=>rfl⟩
theorem bX.step {M M':aw} {a b c:World} (h:bX M a b) (k:bX M' b c) (hm:∀x,x<a.heap.size->M' x->M x):bX M a c:=
  ⟨k.os.trans h.os,k.tape.trans h.tape,k.output.trans h.output,Nat.le_trans h.size k.size,fun x hx bc=>
    (k.block x (Nat.lt_of_lt_of_le hx h.size) (fun aI=>bc (hm x hx aI))).trans (h.block x hx bc)⟩
theorem bX.mono {M M':aw} {a b:World} (h:bX M a b) (hm:∀x,M x->M' x):bX M' a b:=
  ⟨h.os,h.tape,h.output,h.size,fun x hx bc=>h.block x hx (fun q=>bc (hm x q))⟩
theorem bX.trans {M:aw} {a b c:World} (h:bX M a b) (k:bX M b c):bX M a c:=h.step k fun _ _ x=>x
theorem bX.below {w w':World} (h:bX aa w w'):RowKit.Below w.heap.size w w':=
  ⟨h.os,h.tape,h.output,h.size,fun k hk=>h.block k hk (fun x=>x)⟩
theorem bX.draw (M:aw) (w:World) (n:Nat):bX M w {w with drawn:=n}:=⟨rfl,rfl,rfl,Nat.le_refl _,fun _ _ _=>rfl⟩
theorem bX.push (M:aw) (w:World) (o:Obj):bX M w {w with heap:=w.heap.push o}:=
  ⟨rfl,rfl,rfl,by simp,fun k hk _=>by simp [Array.getElem?_push,Nat.ne_of_lt hk]⟩
theorem heap_setCell (w:World) (a:Addr) (v:Value) (k:Nat) (h:k≠a.block):(w.setCell a v).heap[k]? =w.heap[k]? :=by
  simp only [World.setCell,Array.getElem?_modify]
  rw [if_neg (fun e=>h e.symm)]
theorem size_setCell (w:World) (a:Addr) (v:Value):(w.setCell a v).heap.size=w.heap.size:=by simp [World.setCell]
theorem bX.setCell {M:aw} (w:World) (a:Addr) (v:Value) (h:M a.block):bX M w (w.setCell a v):=
  ⟨rfl,rfl,rfl,by rw [size_setCell];exact Nat.le_refl _,fun k _ bc=>heap_setCell w a v k (fun e=>bc (e▸h))⟩
abbrev Plain (v:Value):Prop:=v.oneCell'=true
abbrev k6 (w:World) (b o:Nat) (cs:List Value):Prop:=w.rangeAt b o cs
theorem OA {w w':World} {a:Addr} (h:w'.heap[a.block]? =w.heap[a.block]?):w'.cell? a=w.cell? a:=by
  unfold World.cell?;rw [h]
theorem k6.qU {w w':World} {b o:Nat} {cs:List Value} (h:k6 w b o cs) (e:w'.heap[b]? =w.heap[b]?):k6 w' b o cs:=
  fun j v bJ=>(OA (a:=⟨b,o+j,none⟩) e).trans (h j v bJ)
theorem Zi {w:World} {a:Addr} {v:Value} (h:w.cell? a=some v):a.block<w.heap.size:=by
  unfold World.cell? at h
  rcases Nat.lt_or_ge a.block w.heap.size with hl|hl
  · exact hl
  · rw [Array.getElem?_eq_none hl] at h;cases h
theorem k6.lt {w:World} {b o:Nat} {cs:List Value} (h:k6 w b o cs) (hc:0<cs.length):b<w.heap.size:=by
  have:=h 0 _ (List.getElem?_eq_getElem hc)
  exact Zi this
def aq (x:Int):Prop:=-9223372036854775808<=x/\x<=9223372036854775807
structure jo where
  nil:Bool
  b:Nat
  off:Nat
  cap:Nat
  qR:Option Addr
def jo.addr (p:jo):Option Addr:=bif p.nil then p.qR else some ⟨p.b,p.off,none⟩
abbrev R (x:Int):Value:= .int .i64 x
abbrev B (b:Bool):Value:= .bool b
abbrev ab (n:Nat) (p:jo):Value:= .slice p.addr n p.cap
abbrev aM (b o:Nat):Value:= .pointer (some ⟨b,o,none⟩)
class GT (α:Type) where
  Ptr:Type
  dE:α
  bL:Ptr
  width:Nat
  agg:Bool
  cells:α->Ptr->List Value
  rd:Nat->aw->World->α->Ptr->Prop
  own:Nat->aw->World->α->Ptr->Prop
  jG:0<width
  len:∀x p,(cells x p).length=width
  one:agg=false->width=1
  plain:∀x p v,v∈cells x p->Plain v
  eh:∀{K cS:Nat} {F G:aw} {w:World} {x:α} {p:Ptr},rd K F w x p->K<=cS->(∀b,F b->G b)->rd cS G w x p
  fJ:∀{K:Nat} {F:aw} {w w':World} {x:α} {p:Ptr},rd K F w x p->(∀b,F b->b<w.heap.size->w'.heap[b]? =w.heap[b]?)->rd K F w' x p
  gH:∀{K:Nat} {F:aw} {w:World} {x:α} {p:Ptr},rd K F w x p->rd K (fun b=>F b/\b<w.heap.size) w x p
  fC:∀{K cS:Nat} {F G:aw} {w:World} {x:α} {p:Ptr},own K F w x p->K<=cS->(∀b,F b->G b)->own cS G w x p
  c7:∀{K:Nat} {F:aw} {w w':World} {x:α} {p:Ptr},own K F w x p->(∀b,F b->b<w.heap.size->w'.heap[b]? =w.heap[b]?)->own K F w' x p
  gU:∀{K:Nat} {F:aw} {w:World} {x:α} {p:Ptr},own K F w x p->own K (fun b=>F b/\b<w.heap.size) w x p
  fb:∀{K:Nat} {F:aw} {w:World} {x:α} {p:Ptr},own K F w x p->rd K F w x p
  gu:∀(K:Nat) (F:aw) (w:World),own K F w dE bL
def GT.val {α:Type} [GT α] (x:α) (p:GT.Ptr α):Value:=bif GT.agg α then .agg (GT.cells x p).toArray else(GT.cells x p).headD undef
instance:GT Int where
  Ptr:=Unit
  dE:=0
  bL:=()
  width:=1
  agg:=false
  cells x _:=[R x]
  rd _ _ _ x _:=aq x
  own _ _ _ x _:=aq x
  jG:=Nat.one_pos
  len _ _:=rfl
  one _:=rfl
  plain _ _ v h:=by simp at h;subst h;rfl
  eh h _ _:=h
  fJ h _:=h
  gH h:=h
  fC h _ _:=h
  c7 h _:=h
  gU h:=h
  fb h:=h
  gu _ _ _:=⟨by decide,by decide⟩
instance:GT Bool where
  Ptr:=Unit
  dE:=false
  bL:=()
  width:=1
  agg:=false
  cells x _:=[B x]
  rd _ _ _ _ _:=True
  own _ _ _ _ _:=True
  jG:=Nat.one_pos
  len _ _:=rfl
  one _:=rfl
  plain _ _ v h:=by simp at h;subst h;rfl
  eh h _ _:=h
  fJ h _:=h
  gH h:=h
  fC h _ _:=h
  c7 h _:=h
  gU h:=h
  fb h:=h
  gu _ _ _:=trivial
section lists
variable {α:Type} [GT α]
def el (xs:List α) (i:Nat):α:=xs.getD i (GT.dE)
abbrev af (α:Type) [GT α]:=jo×(Nat->GT.Ptr α)
structure ag (K:Nat) (F:aw) (w:World) (xs:List α) (p:af α):Prop where
  le:xs.length<=K
  cap:xs.length<=p.1.cap
  at_:0<xs.length->p.1.nil=false/\F p.1.b
  cell:∀i,i<xs.length->k6 w p.1.b (p.1.off+i*GT.width α) (GT.cells (el xs i) (p.2 i))
  el:∀i,i<xs.length->GT.rd K F w (el xs i) (p.2 i)
structure jU (K:Nat) (F:aw) (w:World) (xs:List α) (p:af α):Prop where
  le:xs.length<=K
  cap:xs.length<=p.1.cap
  o4:p.1.cap<=9223372036854775807
  null:p.1.nil=true->p.1.cap=0
  row:p.1.nil=false->F p.1.b/\∃(cs:Array Value) (T:TypeId),w.heap[p.1.b]? =some (.cells cs T (0,0))/\p.1.off+p.1.cap*GT.width α<=cs.size
  cell:∀i,i<xs.length->k6 w p.1.b (p.1.off+i*GT.width α) (GT.cells (Go.Proofs.YtmeoackmjdoecaaGreat.el xs i) (p.2 i))
  el:∃G:Nat->aw,(∀i,i<xs.length->GT.own K (G i) w (Go.Proofs.YtmeoackmjdoecaaGreat.el xs i) (p.2 i))/\(∀i,i<xs.length->∀b,G i b->F b/\b≠p.1.b)/\(∀i j,i<xs.length->j<xs.length->i≠j->J (G i) (G j))
instance:GT (List α) where
  Ptr
      :=af α
  dE:=[]
  bL:=(⟨true,0,0,0,none⟩,fun _=>GT.bL)
  width:=1
  agg:=false
  cells xs p:=[ab xs.length p.1]
  rd:=ag
  own:=jU
  jG:=Nat.one_pos
  len _ _:=rfl
  one _:=rfl
  plain _ _ v h:=by simp at h;subst h;rfl
  eh h hk bm:=⟨Nat.le_trans h.le hk,h.cap,fun z=>⟨(h.at_ z).1,bm _ (h.at_ z).2⟩,h.cell,fun i hi=>GT.eh (h.el i hi) hk bm⟩
  fJ h hw:=⟨h.le,h.cap,h.at_,fun i hi=>
      (h.cell i hi).qU (hw _ (h.at_ (Nat.lt_of_le_of_lt (Nat.zero_le _) hi)).2 ((h.cell i hi).lt (by rw [GT.len];exact GT.jG))),
    fun i hi=>GT.fJ (h.el i hi) hw⟩
  gH h:=⟨h.le,h.cap,fun z=>⟨(h.at_ z).1,(h.at_ z).2,(h.cell 0 z).lt (by rw [GT.len];exact GT.jG)⟩,h.cell,fun i hi=>GT.gH (h.el i hi)⟩
  fC h hk bm:=by
    obtain⟨G,cW,bM,c3⟩:=h.el
    exact⟨Nat.le_trans h.le hk,h.cap,h.o4,h.null,fun z=>⟨bm _ (h.row z).1,(h.row z).2⟩,h.cell,G,fun i hi=>GT.fC (cW i hi) hk (fun _ x=>x),fun i hi b hb=>⟨bm _ (bM i hi b hb).1,(bM i hi b hb).2⟩,c3⟩
  c7:=by
    intro K F w w' xs p h hw
    have sK:∀i,i<xs.length->p.1.nil=false:=fun i hi=>by
      cases bc:p.1.nil with
      |false=>rfl
      |true=>have:=h.null bc;have:=h.cap;omega
    have fs:p.1.nil=false->p.1.b<w.heap.size:=fun bc=>by
      obtain⟨_,cs,T,ah,_⟩:=h.row bc
      rcases Nat.lt_or_ge p.1.b w.heap.size with hl|hl
      · exact hl
      · rw [Array.getElem?_eq_none hl] at ah;cases ah
    obtain⟨G,cW,bM,c3⟩:=h.el
    refine⟨h.le,h.cap,h.o4,h.null,fun z=>?_,fun i hi=>(h.cell i hi).qU (hw _ (h.row (sK i hi)).1 (fs (sK i hi))),G,fun i hi=>GT.c7 (cW i hi) (fun b hb hl=>hw b (bM i hi b hb).1 hl),bM,c3⟩
    obtain⟨h1,cs,T,ah,aE⟩:=h.row z
    exact⟨h1,cs,T,(hw _ h1 (fs z)).trans ah,aE⟩
  gU:=by
    intro K F w xs p h
    have fs:p.1.nil=false->p.1.b<w.heap.size:=fun bc=>by
      obtain⟨_,cs,T,ah,_⟩:=h.row bc
      rcases Nat.lt_or_ge p.1.b w.heap.size with hl|hl
      · exact hl
      · rw [Array.getElem?_eq_none hl] at ah;cases ah
    obtain⟨G,cW,bM,c3⟩:=h.el
    exact⟨h.le,h.cap,h.o4,h.null,fun z=>⟨⟨(h.row z).1,fs z⟩,(h.row z).2⟩,h.cell,fun i b=>G i b/\b<w.heap.size,fun i hi=>GT.gU (cW i hi),
      fun i hi b hb=>⟨⟨(bM i hi b hb.1).1,hb.2⟩,(bM i hi b hb.1).2⟩,fun i j hi bJ bc b x y=>c3 i j hi bJ bc b x.1 y.1⟩
  fb:=by
    intro K F w xs p h
    have sK:0<xs.length->p.1.nil=false:=fun hi=>by
      cases bc:p.1.nil with
      |false=>rfl
      |true=>have:=h.null bc;have:=h.cap;omega
    obtain⟨G,cW,bM,c3⟩:=h.el
    exact⟨h.le,h.cap,fun z=>⟨sK z,(h.row (sK z)).1⟩,h.cell,fun i hi=>GT.fb (GT.fC (cW i hi) (Nat.le_refl _) (fun b hb=>(bM i hi b hb).1))⟩
  gu K F w:=⟨Nat.zero_le _,Nat.zero_le _,Nat.zero_le _,fun _=>rfl,fun h=>(by cases h),fun i hi=>absurd hi (Nat.not_lt_zero _),fun _=>aa,fun i hi=>absurd hi (Nat.not_lt_zero _),fun i hi=>absurd hi (Nat.not_lt_zero _),fun i _ hi=>absurd hi (Nat.not_lt_zero _)⟩
end lists
end Go.Proofs.YtmeoackmjdoecaaGreat
namespace Go.Proofs.YtmeoackmjdoecaaGreat
open Go
inductive e9 where
  |v (x:Value)
  |p (k off:Nat)
def e9.val (β:Nat->Nat):e9->Value
  | .v x=>x
  | .p k o=>aM (β k) o
abbrev Env:=List (Nat×e9)
def look:Env->Nat->Option e9
  |[],_=>none
  |(s,x)::r,t=>bif Nat.beq s t then some x else look r t
structure bw where
  env:Env
  ay:List (List Value)
def bw.get (σ:bw):Operand->Option e9
  | .tmp t=>look σ.env t
  | .const v=>some (.v v)
  | .func f=>some (.v (.func (.func f) #[] #[]))
  | .global _=>none
def bw.put (n:Nat) (σ:bw) (dst:Option Nat) (x:e9):Option bw:=
  match dst with
  |none=>some σ
  |some d=>bif Nat.blt d n then some ⟨(d,x)::σ.env,σ.ay⟩ else none
inductive Ask where
  |int (op:BinOp) (k:IntKind) (x y:Int)
  |load (t:TypeId) (a:Value)
  |idx (t:TypeId) (s i:Value)
  |hG (s:Sem Value)
  |call (f:FuncId) (args:List Value)
def DP (op:BinOp) (k:IntKind) (x y:Int):Sem Value:=
  match op with
  | .add| .sub| .mul=>Op.intArith op k x y
  | .quo| .rem=>Op.intDiv op k x y
  | .and| .or| .xor| .andNot=>Op.intBits op k x y
  |_=>Op.intCmp op x y
def Ask.run:Ask->Sem Value
  | .int op k x y=>DP op k x y
  | .load t a=>Instr.loadAt t a
  | .idx t s i=>Instr.indexAt t s i
  | .hG s=>s
  | .call _ _=> .halt .goexit
inductive wT where
  |val (x:e9)
  |ask (q:Ask)
  |new (T:TypeId) (cs:List Value)
  |put (k:Nat) (cs:List Value)
def jl (P:Program) (t:TypeId):Option Nat:=(P.info? t).map (·.size)
def lP (P:Program) (t:TypeId):Option Bool:=
  match P.underlying t with
  |some (.struct _)|some (.array _ _)=>some true
  |some _=>some false
  |none=>none
def zn (P:Program) (t:TypeId) (cs:List Value) (o:Nat):Option Value:=
  match lP P t,jl P t with
  |some true,some s=>bif Nat.ble (o+s) cs.length then some (.agg ((cs.drop o).take s).toArray) else none
  |some false,some _=>cs[o]?
  |_,_=>none
def Cl (P:Program) (t:TypeId) (cs:List Value) (o:Nat) (v:Value):Option (List Value):=
  match jl P t with
  |some s=>bif Nat.beq v.cells.toList.length s&&Nat.ble (o+s) cs.length&&v.cells.toList.all (·.oneCell') then some (cs.take o++v.cells.toList++cs.drop (o+s)) else none
  |none=>none
def partOf (P:Program) (t:TypeId) (cs:Array Value) (o:Nat):Option Value:=
  match lP P t,jl P t with
  |some true,some s=>some (.agg (cs.extract o (o+s)))
  |some false,some _=>cs.toList[o]?
  |_,_=>none
def JO (op:BinOp) (k:IntKind) (a b:Int):Option wT:=
  match op with
  | .lss=>some (.val (.v (.bool (decide (a<b)))))
  | .leq=>some (.val (.v (.bool (decide (a<=b)))))
  | .gtr=>some (.val (.v (.bool (decide (a>b)))))
  | .geq=>some (.val (.v (.bool (decide (a>=b)))))
  | .eql=>some (.val (.v (.bool (a==b))))
  | .neq=>some (.val (.v (.bool (a != b))))
  | .shl| .shr=>none
  |_=>some (.ask (.int op k a b))
def Pb (P:Program) (op:BinOp) (t:TypeId) (x y:Value):Option (Sem Value):=
  match op,P.eqGuardType P.depth t with
  | .eql,false=>some (do pure (.bool (←Op.equal t x y)))
  | .neq,false=>some (do pure (.bool (!(←Op.equal t x y))))
  |_,_=>none
def NS (P:Program) (op:BinOp) (t:TypeId) (x y:Value):Option wT:=
  match x,y with
  | .int k a,.int kb b=>
    match op with
    | .shl| .shr=>some (.ask (.hG (Op.shift op k a kb b)))
    |_=>if k=kb then JO op k a b else none
  | .bool a,.bool b=>
    match op,P.underlying t with
    | .eql,some .bool=>some (.val (.v (.bool (a==b))))
    | .neq,some .bool=>some (.val (.v (.bool (!(a==b)))))
    |_,_=>none
  | .agg a,.agg b=>(Pb P op t (.agg a) (.agg b)).map fun s=> .ask (.hG s)
  |_,_=>none
def tT (σ:bw):List (Nat×Operand)->Option (List (Nat×Value))
  |
    []=>some []
  |(i,x)::r=>
    match σ.get x with
    |some (.v v)=>(tT σ r).map fun l=>(i,v)::l
    |_=>none
def lQ (σ:bw):List Operand->Option (List Value)
  |
    []=>some []
  |x::r=>match σ.get x with
    |some (.v v)=>(lQ σ r).map fun l=>v::l
    |_=>none
def callee (P:Program) (f:FuncId):Bool:=
  match P.funcs[f]? with
  |some fn=>!(fn.name== "runtime.NumGoroutine" ||fn.body.isNone)
  |none=>false
def uJ (P:Program) (σ:bw) (o:Oper):Option wT:=
  match o.op with
  | .move x| .assign x=>(σ.get x).map .val
  | .pick c a b=>
    match σ.get c with
    |some (.v (.bool t))=>(bif t then σ.get a else σ.get b).map .val
    |_=>none
  | .extract x i=>
    match σ.get x with
    |some (.v (.tuple dx))=>dx.toList[i]?.map fun v=> .val (.v v)
    |_=>none
  | .box T x=>
    match σ.get x with
    |some (.v x)=>some (.new T x.cells.toList)
    |_=>none
  | .alloc T=>
    match (P.info? T).bind (·.zero) with
    |some z=>some (.new T z.cells.toList)
    |none=>none
  | .fieldAddr s x f=>
    match P.underlying s with
    |some (.struct iB)=>
      match iB.toList[f]? with
      |some fd=>
        match jl P fd.type with
        |some (_+1)=>
          match σ.get x with
          |some (.p k o)=>some (.val (.p k (o+fd.offset)))
          |some (.v (.pointer (some ⟨b,o,none⟩)))=>some (.val (.v (aM b (o+fd.offset))))
          |_=>none
        |_=>none
      |none=>none
    |_=>none
  | .load t x=>
    match σ.get x with
    |some (.p k o)=>(σ.ay[k]?).bind fun cs=>(zn P t cs o).map fun v=> .val (.v v)
    |some (.v a)=>some (.ask (.load t a))
    |none=>none
  | .store t x y=>
    match σ.get x,σ.get y with
    |some (.p k o),some (.v v)=>(σ.ay[k]?).bind fun cs=>(Cl P t cs o v).map fun l1=> .put k l1
    |_,_=>none
  | .field t x f=>
    match P.underlying t,σ.get x with
    |some (.struct iB),some (.v (.agg cs))=>(iB.toList[f]?).bind fun fd=>(partOf P fd.type cs fd.offset).map fun v=> .val (.v v)
    |_,_=>none
  | .indexAddr t x i=>
    match σ.get x,σ.get i with
    |some (.v s),some (.v j)=>some (.ask (.idx t s j))
    |_,_=>none
  | .binOp op t x y _=>
    match σ.get x,σ.get y with
    |some (.v a),some (.v b)=>NS P op t a b
    |_,_=>none
  | .unOp .not _ x=>
    match σ.get x with
    |some (.v (.bool b))=>some (.val (.v (.bool (!b))))
    |_=>none
  | .unOp .neg _ x=>
    match σ.get x with
    |some (.v (.int k n))=>some (.ask (.int .sub k 0 n))
    |_=>none
  | .convert s d x=>
    match σ.get x with
    |some (.v a)=>some (.ask (.hG (convert s d a)))
    |_=>none
  | .slice t x b9 hi none=>
    match σ.get x,b9.map σ.get,hi.map σ.get with
    |some (.v s),none,none=>some (.ask (.hG (Instr.sliceAt t s none none none)))
    |some (.v s),some (some (.v a)),none=>some (.ask (.hG (Instr.sliceAt t s (some a) none none)))
    |some (.v s),none,some (some (.v b))=>some (.ask (.hG (Instr.sliceAt t s none (some b) none)))
    |some (.v s),some (some (.v a)),some (some (.v b))=>some (.ask (.hG (Instr.sliceAt t s (some a) (some b) none)))
    |_,_,_=>none
  | .call ⟨.builtin .len,args,jW⟩=>
    match args.toList,jW.toList with
    |[x],[t]=>
      match P.underlying t,σ.get x with
      |some (.slice _),some (.v (.slice _ n _))=>some (.val (.v (R n)))
      |_,_=>none
    |_,_=>none
  | .call ⟨.builtin .min,args,_⟩=>
    match args.toList with
    |[x,y]=>
      match σ.get x,σ.get y with
      |some (.v (.int .i64 a)),some (.v (.int .i64 b))=>some (.val (.v (R (if b<a then b else a))))
      |_,_=>none
    |_=>none
  | .call ⟨.builtin .max,args,_⟩=>
    match args.toList with
    |[x,y]=>
      match σ.get x,σ.get y with
      |some (.v (.int .i64 a)),some (.v (.int .i64 b))=>some (.val (.v (R (if b>a then b else a))))
      |_,_=>none
    |_=>none
  | .call ⟨.value (.func f),args,_⟩=>bif callee P f then(lQ σ args.toList).map fun l=> .ask (.call f l) else none
  | .call ⟨.value (.tmp t),args,_⟩=>
    match σ.get (.tmp t) with
    |some (.v (.func (.func f) first captured))=>bif callee P f then(lQ σ args.toList).map fun l=> .ask (.call f (first.toList++l++captured.toList)) else none
    |_=>none
  | .build t parts=>(tT σ parts.toList).map fun l=> .ask (.hG (Instr.build t l.toArray))
  | .makeFunc (.func f) first pV=>
    match lQ σ first.toList,lQ σ pV.toList with
    |some l,some l'=>some (.val (.v (.func (.func f) l.toArray l'.toArray)))
    |_,_=>none
  | .nilCheck x=>
    match σ.get x with
    |some (.p k o)=>some (.val (.p k o))
    |some (.v (.pointer (some qR)))=>some (.val (.v (.pointer (some qR))))
    |_=>none
  |_=>none
def nh (ops:Array Oper) (σ:bw) (o:Oper):Option Bool:=
  match o.guard with
  |none=>some true
  |some (j,want)=>
    match (ops.toList[j]?).bind (·.dst) with
    |none=>none
    |some d=>
      match look σ.env d with
      |some (.v (.bool b))=>some (bif want then b else !b)
      |some (.v (.tuple _))=>some false
      |_=>none
def asd (l:List (List Value)) (k:Nat) (cs:List Value):List (List Value):=l.set k cs
def g9 (P:Program) (n:Nat) (ops:Array Oper):List Oper->bw->List Value->Option (bw×List (Ask×Value))
  |
    [],σ,_=>some (σ,[])
  |o::r,σ,c0=>
    match nh ops σ o with
    |none=>none
    |some false=>(σ.put n o.dst (.v undef)).bind fun σ'=>g9 P n ops r σ' c0
    |some true=>
      match uJ P σ o with
      |none=>none
      |some (.val x)=>(σ.put n o.dst x).bind fun σ'=>g9 P n ops r σ' c0
      |some (.ask q)=>
        match c0 with
        |[]=>none
        |v::uK=>(σ.put n o.dst (.v v)).bind fun σ'=>(g9 P n ops r σ' uK).map fun x=>(x.1,(q,v)::x.2)
      |some (.new _ cs)=>(bw.put n ⟨σ.env,σ.ay++[cs]⟩ o.dst (.p σ.ay.length 0)).bind fun σ'=>g9 P n ops r σ' c0
      |some (.put k cs)=>
        match o.dst with
        |none=>g9 P n ops r ⟨σ.env,σ.ay.set k cs⟩ c0
        |some _=>none
def bw.keep (σ:bw) (m:Nat):List Nat->Env
  |
    []=>[]
  |t::r=>match look σ.env t with
    |some (.v x)=>(t,.v x)::σ.keep m r
    |some (.p k o)=>bif Nat.blt k m then(t,.p k o)::σ.keep m r else σ.keep m r
    |none=>σ.keep m r
def mB (P:Program) (n:Nat) (ops:Array Oper) (i k:Nat) (σ:bw) (c0:List Value) (keep:List Nat) (m:Nat):Option (bw×List (Ask×Value)):=
  bif Nat.ble (i+k) ops.size then(g9 P n ops ((ops.toList.drop i).take k) σ c0).map fun x=>(⟨x.1.keep m keep,x.1.ay.take m⟩,x.2) else none
def Quiet (P:Program) (u:World) (N:aw) (s:Sem Value) (v:Value):Prop:=
  ∀w:World,(∀b,N b->w.heap[b]? =u.heap[b]?)->s.run P w= .ok v w
def Wy (P:Program) (u:World) (N:aw) (f:FuncId) (args:List Value) (v:Value):Prop:=
  ∀w:World,(∀b,N b->b<w.heap.size/\w.heap[b]? =u.heap[b]?)->Calls P f args.toArray w fun e w'=>e= .returned v/\bX aa w w'
def fw (P:Program) (u:World) (N:aw):Ask->Value->Prop
  | .call f args,v=>Wy P u N f args v
  |q,v=>Quiet P u N q.run v
def fe (P:Program) (u:World) (N:aw):List (Ask×Value)->Prop
  |[]=>True
  |c::r=>fw P u N c.1 c.2/\fe P u N r
theorem fe.nil {P:Program} {u:World} {N:aw}:fe P u N []:=trivial
theorem fe.cons {P:Program} {u:World} {N:aw} {q:Ask} {v:Value} {l:List (Ask×Value)} (h:fw P u N q v) (t:fe P u N l):fe P u N ((q,v)::l):=⟨h,t⟩
structure aj (P:Program) (n:Nat) (w0:World) (M:aw) (u:World) (N:aw) (β:Nat->Nat) (σ:bw) (a:Act) (w:World):Prop where
  mA:a.defers=[]
  dh:a.tmps.size=n
  env:∀t s,look σ.env t=some s->a.tmps[t]? =some (s.val β)
  ok:∀t k o,look σ.env t=some (.p k o)->k<σ.ay.length
  box:∀k cs,σ.ay[k]? =some cs->∃T,w.heap[β k]? =some (.cells cs.toArray T (0,0))
  inj:∀j k,j<σ.ay.length->k<σ.ay.length->β j=β k->j=k
  new:∀k,k<σ.ay.length->w0.heap.size<=β k\/M (β k)
  sep:∀b,N b->b<w.heap.size/\w.heap[b]? =u.heap[b]? /\∀k,k<σ.ay.length->β k≠b
  ed:bX M w0 w
  kM:∀b,b<w0.heap.size->¬M b->N b/\u.heap[b]? =w0.heap[b]?
section sound
variable {P:Program} {n:Nat} {w0:World} {M:aw} {u:World} {N:aw} {β:Nat->Nat} {σ:bw} {a:Act} {w:World}
theorem aj.get (S:aj P n w0 M u N β σ a w) {x:Operand} {s:e9} (h:σ.get x=some s):a.eval x=s.val β:=by
  cases x with
  |tmp t=>
    have:=S.env t s h
    simp [Act.eval,this]
  |const v=>simp [bw.get] at h;subst h;rfl
  |global g=>simp [bw.get] at h
  |func f=>simp [bw.get] at h;subst h;rfl
theorem pr {s t:Nat} {x:e9} {r:Env}:look ((s,x)::r) t=if s=t then some x else look r t:=by
  show(bif Nat.beq s t then some x else look r t)=_
  by_cases h:s=t
  · subst h;simp
  · have:Nat.beq s t=false:=by
      cases e:Nat.beq s t with
      |false=>rfl
      |true=>exact absurd (Nat.eq_of_beq_eq_true e) h
    simp [this,h]
theorem aj.put (S:aj P n w0 M u N β σ a w) {dst:Option Nat} {x:e9} {σ':bw} (h:σ.put n dst x=some σ') (hx:∀k o,x= .p k o->k<σ.ay.length):
    aj P n w0 M u N β σ' (a.put dst (x.val β)) w:=by
  cases dst with
  |none=>simp [bw.put] at h;subst h;exact S
  |some d=>
    simp only [bw.put] at h
    cases hd:Nat.blt d n with
    |false=>rw [hd] at h;simp at h
    |true=>
      rw [hd] at h
      simp at h
      subst h
      have fs:d<n:=Nat.le_of_ble_eq_true hd
      refine⟨S.mA,by simp [Act.put,S.dh],fun t s bC=>?_,fun t k o bC=>?_,S.box,S.inj,S.new,S.sep,S.ed,S.kM⟩
      · simp only [pr] at bC
        by_cases e:d=t
        · subst e
          simp at bC
          subst bC
          simp [Act.put,S.dh,fs]
        · simp only [e,if_false] at bC
          simp only [Act.put,Array.getElem?_setIfInBounds_ne e]
          exact S.env t s bC
      · simp only [pr] at bC
        by_cases e:d=t
        · simp [e] at bC
          exact hx k o bC
        · simp only [e,if_false] at bC
          exact S.ok t k o bC
theorem aj.push (S:aj P n w0 M u N β σ a w) (cs:List Value) (T:TypeId):
    aj P n w0 M u N (fun k=>if k=σ.ay.length then w.heap.size else β k) ⟨σ.env,σ.ay++[cs]⟩ a {w with heap:=w.heap.push (.cells cs.toArray T)}:=by
  have hs:∀k,k<σ.ay.length->β k<w.heap.size:=fun k hk=>by
    obtain⟨od,h⟩:=S.box k _ (List.getElem?_eq_getElem hk)
    rcases Nat.lt_or_ge (β k) w.heap.size with hl|hl
    · exact hl
    · rw [Array.getElem?_eq_none hl] at h;cases h
  refine⟨S.mA,S.dh,fun t s bC=>?_,fun t k o bC=>?_,fun k l1 hk=>?_,fun j k bJ hk he=>?_,fun k hk=>?_,fun b hb=>?_,S.ed.trans (bX.push M w _),S.kM⟩
  · rw [S.env t s bC]
    cases s with
    |v x=>rfl
    |p k o=>
      have:=S.ok t k o bC
      have gD:k≠σ.ay.length:=Nat.ne_of_lt this
      simp [e9.val,gD]
  · have:=S.ok t k o bC
    simp;omega
  · by_cases e:k=σ.ay.length
    · subst e
      simp at hk
      subst hk
      exact⟨T,by simp⟩
    · have fs:k<σ.ay.length:=by
        have:=(List.getElem?_eq_some_iff.1 hk).1
        simp at this;omega
      rw [List.getElem?_append_left fs] at hk
      obtain⟨od,h⟩:=S.box k l1 hk
      refine⟨od,?_⟩
      simp only [e,if_false,Array.getElem?_push]
      rw [if_neg (by have:=hs k fs;omega)]
      exact h
  · simp at bJ hk
    by_cases bA:j=σ.ay.length<;>by_cases bt:k=σ.ay.length
    · omega
    · simp only [bA,bt,if_true,if_false] at he
      have:=hs k (by omega);omega
    · simp only [bA,bt,if_true,if_false] at he
      have:=hs j (by omega);omega
    · simp only [bA,bt,if_false] at he
      exact S.inj j k (by omega) (by omega) he
  · simp at hk
    by_cases e:k=σ.ay.length
    · simp only [e,if_true];exact .inl S.ed.size
    · simp only [e,if_false];exact S.new k (by omega)
  · obtain⟨h1,ah,aE⟩:=S.sep b hb
    refine⟨by simp;omega,?_,fun k hk=>?_⟩
    · simp only [Array.getElem?_push]
      rw [if_neg (by omega)]
      exact ah
    · simp at hk
      by_cases e:k=σ.ay.length
      · simp only [e,if_true];omega
      · simp only [e,if_false];exact aE k (by omega)
theorem aj.T3 (S:aj P n w0 M u N β σ a w) {k:Nat} {cs l1:List Value} (hk:σ.ay[k]? =some cs):
    aj P n w0 M u N β ⟨σ.env,σ.ay.set k l1⟩ a (w.setRow (β k) l1.toArray):=by
  have fs:k<σ.ay.length:=(List.getElem?_eq_some_iff.1 hk).1
  have uL:∀b,b≠β k->(w.setRow (β k) l1.toArray).heap[b]? =w.heap[b]? :=fun b hb=>by
    simp only [World.setRow,Array.getElem?_modify]
    rw [if_neg (fun e=>hb e.symm)]
  have ho:(w.setRow (β k) l1.toArray).heap.size=w.heap.size:=by simp [World.setRow]
  refine⟨S.mA,S.dh,S.env,fun t j o bC=>?_,fun j Zq bJ=>?_,fun i j hi bJ=>?_,fun j bJ=>?_,fun b hb=>?_,?_,S.kM⟩
  · have:=S.ok t j o bC;simpa using this
  · by_cases e:j=k
    · subst e
      obtain⟨T,h⟩:=S.box j cs hk
      have bA:(σ.ay.set j l1)[j]? =some l1:=by simp [fs]
      rw [bA] at bJ
      simp at bJ
      subst bJ
      exact⟨T,setRow_heap w _ _ _ _ _ h⟩
    · have bA:(σ.ay.set k l1)[j]? =σ.ay[j]? :=by simp [List.getElem?_set_ne (fun q=>e q.symm)]
      rw [bA] at bJ
      obtain⟨T,h⟩:=S.box j Zq bJ
      have qh:j<σ.ay.length:=(List.getElem?_eq_some_iff.1 bJ).1
      exact⟨T,(uL _ (fun q=>e (S.inj j k qh fs q))).trans h⟩
  · exact S.inj i j (by simpa using hi) (by simpa using bJ)
  · exact S.new j (by simpa using bJ)
  · obtain⟨h1,ah,aE⟩:=S.sep b hb
    exact⟨by rw [ho];exact h1,(uL b (fun e=>aE k fs e.symm)).trans ah,fun j bJ=>aE j (by simpa using bJ)⟩
  · refine⟨S.ed.os,S.ed.tape,S.ed.output,by rw [ho];exact S.ed.size,fun b hb hm=>?_⟩
    rw [uL b (fun e=>(S.new k fs).elim (fun h=>by omega) (fun h=>hm (e▸h)))]
    exact S.ed.block b hb hm
theorem aj.ext (S:aj P n w0 M u N β σ a w) {w':World} (hc:bX aa w w'):aj P n w0 M u N β σ a w':=by
  have hb:∀k,k<σ.ay.length->β k<w.heap.size:=fun k hk=>by
    obtain⟨od,h⟩:=S.box k _ (List.getElem?_eq_getElem hk)
    rcases Nat.lt_or_ge (β k) w.heap.size with hl|hl
    · exact hl
    · rw [Array.getElem?_eq_none hl] at h;cases h
  refine⟨S.mA,S.dh,S.env,S.ok,fun k cs hk=>?_,S.inj,S.new,fun b et=>?_,S.ed.step hc (fun _ _ f=>f.elim),S.kM⟩
  · obtain⟨T,h⟩:=S.box k cs hk
    exact⟨T,(hc.block _ (hb k (List.getElem?_eq_some_iff.1 hk).1) (fun f=>f)).trans h⟩
  · obtain⟨h1,ah,aE⟩:=S.sep b et
    exact⟨Nat.lt_of_lt_of_le h1 hc.size,(hc.block _ h1 (fun f=>f)).trans ah,aE⟩
end sound
end Go.Proofs.YtmeoackmjdoecaaGreat
namespace Go.Proofs.YtmeoackmjdoecaaGreat
open Go
section
variable {P:Program} {n:Nat} {w0:World} {M:aw} {u:World} {N:aw} {β:Nat->Nat} {σ:bw} {a:Act} {w:World}
theorem U_ {t:TypeId} {s:Nat} (h:jl P t=some s):(P.info? t).map (·.size)=some s:=h
theorem uW {t:TypeId} {s:Nat} (h:jl P t=some s) (w:World):(sizeOf t).run P w= .ok s w:=by
  unfold jl at h
  cases hi:P.info? t with
  |none=>simp [hi] at h
  |some i=>simp [hi] at h;subst h;simp [sizeOf,typeInfo,hi]
theorem Mk {t:TypeId} (h:lP P t=some true):∃d,P.underlying t=some d/\d.isRow=true:=by
  unfold lP at h
  split at h<;>first|exact⟨_,‹_›,rfl⟩|cases h
theorem EV {t:TypeId} (h:lP P t=some false) (w:World):(isAgg t).run P w= .ok false w:=by
  unfold lP at h
  split at h
  · cases h
  · cases h
  · rename_i d sI ps hd
    unfold isAgg
    rw [Sem.run_bind,run_underlying hd w]
    cases d<;>first|rfl|exact absurd rfl (sI _)|exact absurd rfl (ps _ _)
  · cases h
theorem UD {t:TypeId} {cs:List Value} {o b:Nat} {v:Value} {T:TypeId} {w:World} (hb:w.heap[b]? =some (.cells cs.toArray T (0,0))) (h:zn P t cs o=some v):
    (Instr.loadAt t (aM b o)).run P w= .ok v w:=by
  have hc:∀j x,cs[j]? =some x->w.cell? ⟨b,j,none⟩=some x:=fun j x bJ=>by simp [World.cell?,hb,bJ]
  unfold zn at h
  split at h
  · rename_i s bR hs
    cases hl:Nat.ble (o+s) cs.length with
    |false=>rw [hl] at h;simp at h
    |true=>
      rw [hl] at h
      simp at h
      subst h
      obtain⟨d,hd,bo⟩:=Mk bR
      have hle:o+s<=cs.length:=Nat.le_of_ble_eq_true hl
      refine run_loadAt_mid w b o t ((cs.drop o).take s) d (fun j x bJ=>?_) hd bo (by rw [U_ hs];simp;omega)
      rw [List.getElem?_take] at bJ
      split at bJ
      · rw [List.getElem?_drop] at bJ
        exact hc _ _ bJ
      · cases bJ
  · rename_i s bR hs
    have hx:=hc o v h
    simp only [Instr.loadAt,Instr.sureAddr,Sem.run_bind,Sem.run_pure,Result.andThen_ok,loadVar,EV bR,Bool.false_eq_true,if_false,run_load,hx]
  · cases h
theorem akD {t:TypeId} {cs l1:List Value} {o b:Nat} {v:Value} {T:TypeId} {w:World} (hb:w.heap[b]? =some (.cells cs.toArray T (0,0))) (h:Cl P t cs o v=some l1):
    (Instr.storeAt t (aM b o) v).run P w= .ok () (w.setRow b l1.toArray):=by
  unfold Cl at h
  split at h
  · rename_i s hs
    cases hl:(Nat.beq v.cells.toList.length s&&Nat.ble (o+s) cs.length&&v.cells.toList.all (·.oneCell')) with
    |false=>rw [hl] at h;simp at h
    |true=>
      rw [hl] at h
      simp only [cond_true,Option.some.injEq] at h
      simp only [Bool.and_eq_true] at hl
      obtain⟨⟨h1,ah⟩,aE⟩:=hl
      have bA:v.cells.toList.length=s:=Nat.eq_of_beq_eq_true h1
      have bt:o+s<=cs.length:=Nat.le_of_ble_eq_true ah
      have:=run_storeCells_at (P:=P) b o T v.cells.toList 0 cs.toArray w hb (by simp at bA ⊢;omega) (fun x hx=>List.all_eq_true.1 aE x hx)
      simp only [Nat.add_zero] at this
      simp only [Instr.storeAt,Instr.sureAddr,Sem.run_bind,Sem.run_pure,Result.andThen_ok,storeVar,uW hs]
      rw [if_neg (by simp at bA ⊢;exact bA)]
      rw [this]
      subst h
      rw [bA]
  · cases h
theorem akH {t:TypeId} {cs:Array Value} {o:Nat} {v:Value} (h:partOf P t cs o=some v) (w:World):(part t cs o).run P w= .ok v w:=by
  unfold partOf at h
  split at h
  · rename_i s bR hs
    simp at h;subst h
    obtain⟨d,hd,bo⟩:=Mk bR
    have adZ:(isAgg t).run P w= .ok true w:=by
      unfold isAgg
      rw [Sem.run_bind,run_underlying hd w]
      cases d<;>simp_all
    simp [part,adZ,uW hs]
  · rename_i s bR hs
    have h':cs[o]? =some v:=by simpa using h
    simp [part,EV bR,h']
  · cases h
def zh (P:Program) (β:Nat->Nat) (σ:bw) (s:Sem Next) (w:World):wT->Prop
  | .val x=>s.run P w= .ok (.value (x.val β)) w/\∀k f,x= .p k f->k<σ.ay.length
  | .ask (.call f args)=>s.run P w= .ok (.enter f args.toArray) w
  | .ask q=>∀v,q.run.run P w= .ok v w->s.run P w= .ok (.value v) w
  | .new T cs=>s.run P w= .ok (.value (aM w.heap.size 0)) {w with heap:=w.heap.push (.cells cs.toArray T)}
  | .put k cs=>s.run P w= .ok .skip (w.setRow (β k) cs.toArray)/\∃kM,σ.ay[k]? =some kM
theorem aj.xS (S:aj P n w0 M u N β σ a w) {x:Operand} {k f:Nat} (h:σ.get x=some (.p k f)):k<σ.ay.length:=by
  cases x with
  |tmp t=>exact S.ok t k f h
  |const v=>simp [bw.get] at h
  |global g=>simp [bw.get] at h
  |func g=>simp [bw.get] at h
theorem afr {op:BinOp} {k:IntKind} {x y:Int} {ac:wT} (h:JO op k x y=some ac) (s:Sem Next) (hs:s.run P w=((DP op k x y).run P w).andThen fun v w'=> .ok (.value v) w'):zh P β σ s w ac:=by
  cases op<;>simp only [JO,Option.some.injEq,reduceCtorEq] at h<;>subst h<;>
    first
      |(refine⟨?_,fun _ _ ax=>by cases ax⟩;rw [hs];rfl)
      |(intro v bu;rw [hs];simp only [Ask.run] at bu;rw [bu];rfl)
theorem aaM (op:BinOp) (t:TypeId) (x y:Operand) (k kb:IntKind) (i j:Int):(eqGuard op t x y (.int k i) (.int kb j)).run P w= .ok () w:=by
  cases op<;>simp [eqGuard]
theorem Pa (op:BinOp) (t:TypeId) (x y:Operand) (i j:Bool):(eqGuard op t x y (.bool i) (.bool j)).run P w= .ok () w:=by
  cases op<;>simp [eqGuard]
theorem O_ (op:BinOp) (t:TypeId) (x y:Operand) (i j:Array Value) (h:P.eqGuardType P.depth t=false):(eqGuard op t x y (.agg i) (.agg j)).run P w= .ok () w:=by
  cases op<;>simp [eqGuard,h]
theorem aaS {t:TypeId} (hu:P.underlying t=some .bool) (i j:Bool) (w:World) (d:Nat):(Op.equalIn (d+1) t (.bool i) (.bool j)).run P w= .ok (i==j) w:=by
  simp only [Op.equalIn,Sem.run_bind,run_underlying hu,Result.andThen_ok,Sem.run_pure]
theorem Pd {t:TypeId} (hu:P.underlying t=some .bool) (i j:Bool) (w:World):(Op.equal t (.bool i) (.bool j)).run P w= .ok (i==j) w:=
  aaS hu i j w 9999
theorem Hp (S:aj P n w0 M u N β σ a w):∀(nA:List (Nat×Operand)) (l:List (Nat×Value)),tT σ nA=some l->nA.map (fun(i,x)=>(i,a.eval x))=l
  |
    [],l,h=>by simp [tT] at h;subst h;rfl
  |(i,x)::r,l,h=>by
    unfold tT at h
    split at h
    · rename_i v hx
      cases bo:tT σ r with
      |none=>simp [bo] at h
      |some l'=>
        simp [bo] at h
        subst h
        simp only [List.map_cons,Hp S r l' bo,S.get hx]
        rfl
    · cases h
theorem wN (S:aj P n w0 M u N β σ a w):∀(l:List Operand) (dx:List Value),lQ σ l=some dx->l.map a.eval=dx
  |
    [],dx,h=>by simp [lQ] at h;subst h;rfl
  |x::r,dx,h=>by
    simp only [lQ] at h
    split at h
    · rename_i v hx
      cases hl:lQ σ r with
      |none=>simp [hl] at h
      |some l=>
        simp [hl] at h;subst h
        simp [wN S r l hl,S.get hx,e9.val]
    · cases h
theorem akE {f:FuncId} {args:Array Operand} {jW:Array TypeId} {l:List Value} (bm:callee P f=true) (ox:args.map a.eval=l.toArray) (ty:TypeId) (w:World):
    (do let d ←resolve a.eval ⟨.value (.func f),args,jW⟩ ty;invoke d.target d.args:Sem Next).run P w= .ok (.enter f l.toArray) w:=by
  unfold callee at bm
  split at bm
  · rename_i fn Ap
    simp only [Bool.not_eq_true',Bool.or_eq_false_iff] at bm
    have sI:fn.name≠ "runtime.NumGoroutine" :=fun e=>by rw [e] at bm;simp at bm
    have ps:¬fn.body=none:=fun e=>by rw [e] at bm;simp at bm
    simp only [resolve,ox,Act.eval,Deferred.ofValue]
    simp [invoke,callFunc,Ap,sI,ps]
  · cases bm
theorem UE {x:Operand} {f:FuncId} {first captured:Array Value} {args:Array Operand} {jW:Array TypeId} {l:List Value} (hx:a.eval x= .func (.func f) first captured) (bm:callee P f=true) (ox:args.map a.eval=l.toArray) (ty:TypeId) (w:World):
    (do let d ←resolve a.eval ⟨.value x,args,jW⟩ ty;invoke d.target d.args:Sem Next).run P w= .ok (.enter f (first.toList++l++captured.toList).toArray) w:=by
  unfold callee at bm
  split at bm
  · rename_i fn Ap
    simp only [Bool.not_eq_true',Bool.or_eq_false_iff] at bm
    have sI:fn.name≠ "runtime.NumGoroutine" :=fun e=>by rw [e] at bm;simp at bm
    have ps:¬fn.body=none:=fun e=>by rw [e] at bm;simp at bm
    simp only [resolve,ox,hx,Deferred.ofValue]
    simp [invoke,callFunc,Ap,sI,ps]
  · cases bm
set_option maxHeartbeats 2000000 in
theorem mj (S:aj P n w0 M u N β σ a w) {o:Oper} {ac:wT} (h:uJ P σ o=some ac):zh P β σ (execOp a.eval o) w ac:=by
  unfold uJ at h
  unfold execOp
  split at h
  · --move
    rename_i x bD
    simp only [bD]
    cases hx:σ.get x with
    |none=>simp [hx] at h
    |some s=>simp [hx] at h;subst h;exact⟨by rw [S.get hx];rfl,fun k f e=>S.xS (e▸hx)⟩
  · rename_i x bD
    simp only [bD]
    cases hx:σ.get x with
    |none=>simp [hx] at h
    |some s=>simp [hx] at h;subst h;exact⟨by rw [S.get hx];rfl,fun k f e=>S.xS (e▸hx)⟩
  · --pick
    rename_i c x y bD
    simp only [bD]
    split at h
    · rename_i t hc
      have e:=S.get hc
      cases t with
      |true=>
        cases hx:σ.get x with
        |none=>simp [hx] at h
        |some s=>
          simp [hx] at h;subst h
          refine⟨?_,fun k f e=>S.xS (e▸hx)⟩
          rw [e,S.get hx];simp [asBool,e9.val]
      |false=>
        cases hx:σ.get y with
        |none=>simp [hx] at h
        |some s=>
          simp [hx] at h;subst h
          refine⟨?_,fun k f e=>S.xS (e▸hx)⟩
          rw [e,S.get hx];simp [asBool,e9.val]
    · cases h
  · --extract
    rename_i x i bD
    simp only [bD]
    split at h
    · rename_i dx hx
      have e:=S.get hx
      cases bu:dx.toList[i]? with
      |none=>simp only [bu,Option.map_none,reduceCtorEq] at h
      |some v=>
        simp only [bu,Option.map_some,Option.some.injEq] at h
        subst h
        have sz:dx[i]? =some v:=by simpa using bu
        refine⟨?_,fun _ _ ax=>by cases ax⟩
        rw [e]
        simp [Instr.extract,e9.val,sz]
    · cases h
  · --box
    rename_i T x bD
    simp only [bD]
    split at h
    · rename_i v hx
      simp at h;subst h
      rw [S.get hx]
      show(do pure (.value (←Instr.box T v)):Sem Next).run P w=_
      simp [Instr.box,newVar,newRow]
    · cases h
  · --alloc
    rename_i T bD
    simp only [bD]
    split at h
    · rename_i z fB
      simp at h;subst h
      cases hi:P.info? T with
      |none=>simp [hi] at fB
      |some i=>
        simp only [hi,Option.bind_some] at fB
        show(do pure (.value (←Instr.alloc T true (.tuple #[]))):Sem Next).run P w=_
        simp [Instr.alloc,zeroValue,typeInfo,hi,fB,newVar,newRow]
    · cases h
  · --fieldAddr
    rename_i s x f bD
    simp only [bD]
    split at h
    · rename_i iB hu
      split at h
      · rename_i fd bm
        split at h
        · rename_i q hs
          have IY:iB[f]? =some fd:=by simpa using bm
          have key:∀(b o:Nat),a.eval x=aM b o->(do pure (Next.value (←Instr.fieldAt s (a.eval x) f)):Sem Next).run P w= .ok (.value (aM b (o+fd.offset))) w:=fun b o hx=>by
            rw [hx]
            simp [Instr.fieldAt,run_underlying hu,IY,Instr.sureAddr,fieldPlace,uW hs,Addr.add_mid]
          split at h
          · rename_i k o hx
            simp at h;subst h
            exact⟨key _ _ (S.get hx),fun kb zR e=>by cases e;exact S.xS hx⟩
          · rename_i b o hx
            simp at h;subst h
            exact⟨key _ _ (S.get hx),fun _ _ ax=>by cases ax⟩
          · cases h
        · cases h
      · cases h
    · cases h
  · --load
    rename_i t x bD
    simp only [bD]
    split at h
    · rename_i k f hx
      cases hc:σ.ay[k]? with
      |none=>simp [hc] at h
      |some cs=>
        simp only [hc,Option.bind_some] at h
        cases bu:zn P t cs f with
        |none=>simp [bu] at h
        |some v=>
          simp [bu] at h;subst h
          obtain⟨T,hb⟩:=S.box k cs hc
          refine⟨?_,fun _ _ ax=>by cases ax⟩
          rw [S.get hx]
          show(do pure (.value (←Instr.loadAt t (aM (β k) f))):Sem Next).run P w=_
          rw [Sem.run_bind,UD hb bu]
          rfl
    · rename_i v hx
      simp at h;subst h
      intro r bo
      rw [S.get hx]
      show(do pure (.value (←Instr.loadAt t v)):Sem Next).run P w=_
      rw [Sem.run_bind]
      simp only [Ask.run] at bo
      rw [bo];rfl
    · cases h
  · --store
    rename_i t x y bD
    simp only [bD]
    split at h
    · rename_i k f v hx hy
      cases hc:σ.ay[k]? with
      |none=>simp [hc] at h
      |some cs=>
        simp only [hc,Option.bind_some] at h
        cases bu:Cl P t cs f v with
        |none=>simp [bu] at h
        |some l1=>
          simp [bu] at h;subst h
          obtain⟨T,hb⟩:=S.box k cs hc
          refine⟨?_,cs,hc⟩
          rw [S.get hx,S.get hy]
          show(do Instr.storeAt t (aM (β k) f) v;pure .skip:Sem Next).run P w=_
          rw [Sem.run_bind,akD hb bu]
          rfl
    · cases h
  · --field
    rename_i t x f bD
    simp only [bD]
    split at h
    · rename_i iB cs hu hx
      cases bm:iB.toList[f]? with
      |none=>simp only [bm,Option.bind_none,reduceCtorEq] at h
      |some fd=>
        simp only [bm,Option.bind_some] at h
        cases bu:partOf P fd.type cs fd.offset with
        |none=>simp [bu] at h
        |some v=>
          simp [bu] at h;subst h
          have IY:iB[f]? =some fd:=by simpa using bm
          refine⟨?_,fun _ _ ax=>by cases ax⟩
          rw [S.get hx]
          show(do pure (.value (←Instr.field t (.agg cs) f)):Sem Next).run P w=_
          simp [Instr.field,run_underlying hu,IY,asAgg,akH bu,e9.val]
    · cases h
  · --indexAddr
    rename_i t x i bD
    simp only [bD]
    split at h
    · rename_i s j hx hi
      simp at h;subst h
      intro r bo
      rw [S.get hx,S.get hi]
      simp only [Ask.run] at bo
      show(do pure (.value (←Instr.indexAt t s j)):Sem Next).run P w=_
      rw [Sem.run_bind,bo];rfl
    · cases h
  · --binOp
    rename_i op t x y asp bD
    simp only [bD]
    split at h
    · rename_i asn asq hx hy
      rw [S.get hx,S.get hy]
      unfold NS at h
      split at h
      · rename_i k i kb j
        have key:∀s:Sem Value,Go.binOp op t (.int k i) (.int kb j)=s->(do pure (.value (←(do eqGuard op t x y (.int k i) (.int kb j);Go.binOp op t (.int k i) (.int kb j)))):Sem Next).run P w=(s.run P w).andThen fun v w'=> .ok (.value v) w':=fun s hs=>by
          simp [aaM,hs]
        split at h
        · simp at h;subst h
          intro v bu
          have:=key _ rfl
          simp only [Ask.run] at bu
          refine this.trans ?_
          unfold Go.binOp
          rw [bu];rfl
        · simp at h;subst h
          intro v bu
          have:=key _ rfl
          simp only [Ask.run] at bu
          refine this.trans ?_
          unfold Go.binOp
          rw [bu];rfl
        · rename_i sI ps
          split at h
          · rename_i hk
            subst hk
            refine afr h _ ?_
            refine(key _ rfl).trans ?_
            congr 2
            cases op<;>first|exact absurd rfl sI|exact absurd rfl ps|(simp [Go.binOp,DP])
          · cases h
      · rename_i i j
        split at h
        · rename_i hu
          simp at h;subst h
          refine⟨?_,fun _ _ ax=>by cases ax⟩
          show(do pure (.value (←(do eqGuard .eql t x y (.bool i) (.bool j);pure (.bool (←Op.equal t (.bool i) (.bool j)))))):Sem Next).run P w=_
          simp only [Sem.run_bind,Pa,Result.andThen_ok,Pd hu,Sem.run_pure,e9.val]
        · rename_i hu
          simp at h;subst h
          refine⟨?_,fun _ _ ax=>by cases ax⟩
          show(do pure (.value (←(do eqGuard .neq t x y (.bool i) (.bool j);pure (.bool (!(←Op.equal t (.bool i) (.bool j))))))):Sem Next).run P w=_
          simp only [Sem.run_bind,Pa,Result.andThen_ok,Pd hu,Sem.run_pure,e9.val]
        · cases h
      · rename_i i j
        unfold Pb at h
        split at h
        · rename_i aJ
          simp only [Option.map_some,Option.some.injEq] at h;subst h
          intro v bu
          simp only [Ask.run] at bu
          show(do pure (.value (←(do eqGuard .eql t x y (.agg i) (.agg j);Go.binOp .eql t (.agg i) (.agg j)))):Sem Next).run P w=_
          rw [Sem.run_bind,Sem.run_bind,O_ _ _ _ _ _ _ aJ]
          show((Go.binOp .eql t (.agg i) (.agg j)).run P w).andThen _=_
          unfold Go.binOp
          rw [bu];rfl
        · rename_i aJ
          simp only [Option.map_some,Option.some.injEq] at h;subst h
          intro v bu
          simp only [Ask.run] at bu
          show(do pure (.value (←(do eqGuard .neq t x y (.agg i) (.agg j);Go.binOp .neq t (.agg i) (.agg j)))):Sem Next).run P w=_
          rw [Sem.run_bind,Sem.run_bind,O_ _ _ _ _ _ _ aJ]
          show((Go.binOp .neq t (.agg i) (.agg j)).run P w).andThen _=_
          unfold Go.binOp
          rw [bu];rfl
        · simp at h
      · cases h
    · cases h
  · --not
    rename_i t x bD
    simp only [bD]
    split at h
    · rename_i b hx
      simp at h;subst h
      refine⟨?_,fun _ _ ax=>by cases ax⟩
      rw [S.get hx]
      rfl
    · cases h
  · --neg
    rename_i t x bD
    simp only [bD]
    split at h
    · rename_i k m hx
      simp at h;subst h
      intro v bu
      simp only [Ask.run] at bu
      rw [S.get hx]
      show(do pure (.value (←Op.unary .neg (.int k m))):Sem Next).run P w=_
      rw [Sem.run_bind]
      show((Op.intArith .sub k 0 m).run P w).andThen _=_
      simp only [DP] at bu
      rw [bu];rfl
    · cases h
  · --convert
    rename_i s d x bD
    simp only [bD]
    split at h
    · rename_i v hx
      simp at h;subst h
      intro r bo
      simp only [Ask.run] at bo
      rw [S.get hx]
      show(do pure (.value (←convert s d v)):Sem Next).run P w=_
      rw [Sem.run_bind,bo];rfl
    · cases h
  · --slice
    rename_i t x b9 hi bD
    simp only [bD]
    split at h
    · rename_i s hx hl ax
      cases b9<;>simp at hl
      cases hi<;>simp at ax
      simp at h;subst h
      intro r bo
      simp only [Ask.run] at bo
      simp only [S.get hx,Option.map_none]
      show(do pure (.value (←Instr.sliceAt t s none none none)):Sem Next).run P w=_
      rw [Sem.run_bind,bo];rfl
    · rename_i s v hx hl ax
      cases b9<;>simp at hl
      cases hi<;>simp at ax
      simp at h;subst h
      intro r bo
      simp only [Ask.run] at bo
      simp only [S.get hx,S.get hl,Option.map_none,Option.map_some]
      show(do pure (.value (←Instr.sliceAt t s (some v) none none)):Sem Next).run P w=_
      rw [Sem.run_bind,bo];rfl
    · rename_i s v hx hl ax
      cases b9<;>simp at hl
      cases hi<;>simp at ax
      simp at h;subst h
      intro r bo
      simp only [Ask.run] at bo
      simp only [S.get hx,S.get ax,Option.map_none,Option.map_some]
      show(do pure (.value (←Instr.sliceAt t s none (some v) none)):Sem Next).run P w=_
      rw [Sem.run_bind,bo];rfl
    · rename_i s v1 v2 hx hl ax
      cases b9<;>simp at hl
      cases hi<;>simp at ax
      simp at h;subst h
      intro r bo
      simp only [Ask.run] at bo
      simp only [S.get hx,S.get hl,S.get ax,Option.map_none,Option.map_some]
      show(do pure (.value (←Instr.sliceAt t s (some v1) (some v2) none)):Sem Next).run P w=_
      rw [Sem.run_bind,bo];rfl
    · cases h
  · --len
    rename_i args jW bD
    simp only [bD]
    split at h
    · rename_i x t bR bC
      split at h
      · rename_i e q m c hu hx
        simp at h;subst h
        refine⟨?_,fun _ _ ax=>by cases ax⟩
        have bA:args=#[x]:=by rw [←Array.toList_inj];exact bR
        have bt:jW=#[t]:=by rw [←Array.toList_inj];exact bC
        subst bA bt
        simp only [resolve,List.map_toArray,List.map_cons,List.map_nil,S.get hx]
        show(do let v ←Builtin.len_ #[t] o.type #[_];pure (Next.value v):Sem Next).run P w=_
        simp [Builtin.len_,run_underlying hu,goInt,e9.val]
      · cases h
    · cases h
  · --min
    rename_i args jW bD
    simp only [bD]
    split at h
    · rename_i x y bR
      split at h
      · rename_i i j hx hy
        simp at h;subst h
        refine⟨?_,fun _ _ ax=>by cases ax⟩
        have bA:args=#[x,y]:=by rw [←Array.toList_inj];exact bR
        subst bA
        simp only [resolve,List.map_toArray,List.map_cons,List.map_nil,S.get hx,S.get hy]
        show(do let v ←Builtin.min_ jW o.type #[.int .i64 i,.int .i64 j];pure (Next.value v):Sem Next).run P w=_
        simp [Builtin.min_,Builtin.min2,e9.val]
      · cases h
    · cases h
  · --max
    rename_i args jW bD
    simp only [bD]
    split at h
    · rename_i x y bR
      split at h
      · rename_i i j hx hy
        simp at h;subst h
        refine⟨?_,fun _ _ ax=>by cases ax⟩
        have bA:args=#[x,y]:=by rw [←Array.toList_inj];exact bR
        subst bA
        simp only [resolve,List.map_toArray,List.map_cons,List.map_nil,S.get hx,S.get hy]
        show(do let v ←Builtin.max_ jW o.type #[.int .i64 i,.int .i64 j];pure (Next.value v):Sem Next).run P w=_
        simp [Builtin.max_,Builtin.max2,e9.val]
      · cases h
    · cases h
  · --call
    rename_i f args jW bD
    simp only [bD]
    cases hc:callee P f with
    |false=>rw [hc] at h;cases h
    |true=>
      rw [hc] at h
      simp only [cond_true] at h
      cases bu:lQ σ args.toList with
      |none=>simp [bu] at h
      |some l=>
        simp [bu] at h;subst h
        exact akE hc (by rw [←Array.toList_inj];simpa using wN S _ _ bu) _ w
  · --call of a function value
    rename_i t args jW bD
    simp only [bD]
    split at h
    · rename_i f first captured hx
      have e:=S.get hx
      cases hc:callee P f with
      |false=>rw [hc] at h;cases h
      |true=>
        rw [hc] at h
        simp only [cond_true] at h
        cases bu:lQ σ args.toList with
        |none=>simp [bu] at h
        |some l=>
          rw [bu] at h
          simp only [Option.map_some,Option.some.injEq] at h
          subst h
          exact UE (l:=l) (x:= .tmp t) e hc (by rw [←Array.toList_inj];simpa using wN S _ _ bu) _ w
    · cases h
  · --build
    rename_i t parts bD
    simp only [bD]
    cases hl:tT σ parts.toList with
    |none=>simp [hl] at h
    |some l=>
      simp [hl] at h;subst h
      intro r bo
      simp only [Ask.run] at bo
      have e:(parts.map fun(i,x)=>(i,a.eval x))=l.toArray:=by
        rw [←Array.toList_inj]
        simpa using Hp S _ _ hl
      show(do pure (.value (←Instr.build t (parts.map fun(i,x)=>(i,a.eval x)))):Sem Next).run P w=_
      rw [e,Sem.run_bind,bo];rfl
  · --makeFunc
    rename_i f first pV bD
    simp only [bD]
    split at h
    · rename_i l l' h1 ah
      simp only [Option.some.injEq] at h;subst h
      refine⟨?_,fun _ _ ax=>by cases ax⟩
      have bA:first.map a.eval=l.toArray:=by rw [←Array.toList_inj];simpa using wN S _ _ h1
      have bt:pV.map a.eval=l'.toArray:=by rw [←Array.toList_inj];simpa using wN S _ _ ah
      show(do pure (.value (←Instr.makeFunc (.func f) (first.map a.eval) (pV.map a.eval))):Sem Next).run P w=_
      rw [bA,bt];rfl
    · cases h
  · --nilCheck
    rename_i x bD
    simp only [bD]
    split at h
    · rename_i k o hx
      simp only [Option.some.injEq] at h;subst h
      exact⟨by rw [S.get hx];rfl,fun k f e=>by cases e;exact S.xS hx⟩
    · rename_i qR hx
      simp only [Option.some.injEq] at h;subst h
      exact⟨by rw [S.get hx];rfl,fun _ _ ax=>by cases ax⟩
    · cases h
  · cases h
end
end Go.Proofs.YtmeoackmjdoecaaGreat
namespace Go.Proofs.YtmeoackmjdoecaaGreat
open Go
def jI (P:Program) (ops:Array Oper) (Q:Exit->Act->World->Prop) (i:Nat) (a:Act) (w:World):Prop:=
  wpOps P ops Q (List.range' i (ops.size-i)) a w
section
variable {P:Program} {n:Nat} {w0:World} {M:aw} {u:World} {N:aw} {β:Nat->Nat} {σ σ':bw} {a:Act} {w:World} {ops:Array Oper} {Q:Exit->Act->World->Prop}
theorem jI.start {id:Nat} (h:jI P ops Q 0 a w):(Code.region id ops false).wp P Q a w:=by
  refine wp_region ?_
  rw [List.range_eq_range']
  exact h
theorem jI.done {i:Nat} (hi:Nat.ble ops.size i=true) (h:Q .normal a w):jI P ops Q i a w:=by
  have:ops.size<=i:=Nat.le_of_ble_eq_true hi
  unfold jI
  rw [show ops.size-i=0 by omega]
  exact h
theorem ma (S:aj P n w0 M u N β σ a w) {o:Oper} {b:Bool} (h:nh ops σ o=some b):Region.wanted o (yielded ops a.tmps)=b:=by
  unfold nh at h
  unfold Region.wanted
  split at h
  · rename_i aJ;rw [aJ];simpa using h
  · rename_i j want aJ
    rw [aJ]
    split at h
    · cases h
    · rename_i d hd
      have Dp:(ops[j]?).bind (·.dst)=some d:=by simpa using hd
      split at h
      · rename_i c hl
        have:=S.env d _ hl
        simp only [e9.val] at this
        simp only [yielded,Dp,Option.bind_some,this]
        simp at h
        subst h
        cases want<;>cases c<;>rfl
      · rename_i dx hl
        have:=S.env d _ hl
        simp only [e9.val] at this
        simp only [yielded,Dp,Option.bind_some,this]
        simp at h
        subst h
        cases want<;>rfl
      · cases h
theorem G4 (σ':bw) (rest:List Nat):∀(l:List Oper) (j:Nat) (σ:bw) (a:Act) (w:World) (β:Nat->Nat) (claims:List (Ask×Value)),
    (∀t o,l[t]? =some o->ops[j+t]? =some o)->g9 P n ops l σ (claims.map (·.2))=some (σ',claims)->fe P u N claims->aj P n w0 M u N β σ a w->
    (∀aD w' ck,aj P n w0 M u N ck σ' aD w'->wpOps P ops Q rest aD w')->wpOps P ops Q (List.range' j l.length++rest) a w
  |
    [],j,σ,a,w,β,claims,_,bB,_,S,K=>by
    simp only [g9,Option.some.injEq,Prod.mk.injEq] at bB
    obtain⟨rfl,_⟩:=bB
    exact K a w β S
  |o::l,j,σ,a,w,β,claims,hl,bB,aI,S,K=>by
    have bD:ops[j]? =some o:=by simpa using hl 0 o rfl
    have Au:∀t ik,l[t]? =some ik->ops[j+1+t]? =some ik:=fun t ik bC=>by
      have:=hl (t+1) ik (by simpa using bC)
      rwa [show j+1+t=j+(t+1) by omega]
    have oc:=G4 σ' rest l (j+1)
    simp only [List.length_cons,List.range'_succ,List.cons_append]
    rw [wpOps_cons]
    unfold wpOp
    simp only [bD]
    simp only [g9] at bB
    split at bB
    · cases bB
    · rename_i aJ
      rw [ma S aJ]
      simp only [Bool.false_eq_true,if_false]
      cases a2:σ.put n o.dst (.v undef) with
      |none=>rw [a2] at bB;cases bB
      |some bf=>
        rw [a2] at bB
        exact oc bf _ w β claims Au bB aI (S.put a2 (fun _ _ e=>by cases e)) K
    · rename_i aJ
      rw [ma S aJ]
      simp only [if_true]
      left
      unfold Oper.wp
      split at bB
      · cases bB
      · rename_i x hx
        obtain⟨h1,ah⟩:=mj S hx
        rw [h1]
        simp only [Oper.upon]
        cases a2:σ.put n o.dst x with
        |none=>rw [a2] at bB;cases bB
        |some bf=>
          rw [a2] at bB
          exact oc bf _ w β claims Au bB aI (S.put a2 ah) K
      · rename_i q hx
        have h1:=mj S hx
        split at bB
        · cases bB
        · rename_i v c0 he
          cases a2:σ.put n o.dst (.v v) with
          |none=>rw [a2] at bB;cases bB
          |some bf=>
            rw [a2] at bB
            simp only [Option.bind_some] at bB
            cases bo:g9 P n ops l bf c0 with
            |none=>rw [bo] at bB;cases bB
            |some r=>
              rw [bo] at bB
              simp only [Option.map_some,Option.some.injEq,Prod.mk.injEq] at bB
              obtain⟨bA,bt⟩:=bB
              subst bt
              simp only [List.map_cons,List.cons.injEq,true_and] at he
              have iE:=S.put a2 (fun _ _ e=>by cases e)
              have fin:∀w',bX aa w w'->wpOps P ops Q (List.range' (j+1) l.length++rest) (a.put o.dst v) w':=fun w' ez=>
                oc bf _ w' β r.2 Au (by rw [he,bo,←bA]) aI.2 (iE.ext ez) K
              cases q with
              |call f args=>
                simp only [zh] at h1
                rw [h1,Oper.upon_enter]
                refine(aI.1 w (fun b hb=>⟨(S.sep b hb).1,(S.sep b hb).2.1⟩)).mono fun e w' ⟨aE,b2⟩=>?_
                subst aE
                exact fin w' b2
              |_=>
                have ah:=h1 v (aI.1 w (fun b hb=>(S.sep b hb).2.1))
                rw [ah]
                exact fin w (bX.refl _ _)
      · rename_i T cs hx
        have h1:=mj S hx
        rw [h1]
        simp only [Oper.upon]
        have jn:=S.push cs T
        cases a2:bw.put n ⟨σ.env,σ.ay++[cs]⟩ o.dst (.p σ.ay.length 0) with
        |none=>rw [a2] at bB;cases bB
        |some bf=>
          rw [a2] at bB
          have rW:=jn.put a2 (fun k o e=>by cases e;simp)
          have e:(e9.p σ.ay.length 0).val (fun k=>if k=σ.ay.length then w.heap.size else β k)=aM w.heap.size 0:=by simp [e9.val]
          rw [e] at rW
          exact oc bf _ _ _ claims Au bB aI rW K
      · rename_i k cs hx
        obtain⟨h1,kM,ah⟩:=mj S hx
        rw [h1]
        simp only [Oper.upon]
        split at bB
        · rename_i hd
          rw [hd]
          exact oc _ _ _ β claims Au bB aI (S.T3 ah) K
        · cases bB
theorem sG (m:Nat):∀(l:List Nat) (t:Nat) (s:e9),look (σ.keep m l) t=some s->look σ.env t=some s/\∀k o,s= .p k o->k<m
  |
    [],t,s,h=>by simp [bw.keep,look] at h
  |x::r,t,s,h=>by
    unfold bw.keep at h
    split at h
    · rename_i v bu
      rw [pr] at h
      split at h
      · rename_i e;subst e
        simp at h;subst h
        exact⟨bu,fun _ _ e=>by cases e⟩
      · exact sG m r t s h
    · rename_i k o bu
      cases hb:Nat.blt k m with
      |false=>rw [hb] at h;exact sG m r t s h
      |true=>
        rw [hb] at h
        simp only [cond_true,pr] at h
        split at h
        · rename_i e;subst e
          simp at h;subst h
          exact⟨bu,fun _ _ e=>by cases e;exact Nat.le_of_ble_eq_true hb⟩
        · exact sG m r t s h
    · exact sG m r t s h
theorem aj.weaken (S:aj P n w0 M u N β σ a w) (m:Nat) (l:List Nat) (hm:∀t k o,look (σ.keep m l) t=some (.p k o)->k<(σ.ay.take m).length):aj P n w0 M u N β ⟨σ.keep m l,σ.ay.take m⟩ a w:=by
  have hle:(σ.ay.take m).length<=σ.ay.length:=by simp;omega
  refine⟨S.mA,S.dh,fun t s h=>S.env t s (sG m l t s h).1,hm,fun k cs h=>S.box k cs ?_,fun j k bJ hk=>S.inj j k (Nat.lt_of_lt_of_le bJ hle) (Nat.lt_of_lt_of_le hk hle),fun k hk=>S.new k (Nat.lt_of_lt_of_le hk hle),fun b hb=>?_,S.ed,S.kM⟩
  · rw [List.getElem?_take] at h
    split at h
    · exact h
    · cases h
  · obtain⟨h1,ah,aE⟩:=S.sep b hb
    exact⟨h1,ah,fun k hk=>aE k (Nat.lt_of_lt_of_le hk hle)⟩
theorem aj.quiet (S:aj P n w0 M u N β σ a w) {i k:Nat} {claims:List (Ask×Value)} {keep:List Nat} {m:Nat} (aI:fe P u N claims)
    (bB:mB P n ops i k σ (claims.map (·.2)) keep m=some (σ',claims)) (K:∀aD w' ck,aj P n w0 M u N ck σ' aD w'->jI P ops Q (i+k) aD w'):jI P ops Q i a w:=by
  unfold mB at bB
  cases hb:Nat.ble (i+k) ops.size with
  |false=>rw [hb] at bB;cases bB
  |true=>
    rw [hb] at bB
    simp only [cond_true] at bB
    have hle:i+k<=ops.size:=Nat.le_of_ble_eq_true hb
    cases bo:g9 P n ops ((ops.toList.drop i).take k) σ (claims.map (·.2)) with
    |none=>rw [bo] at bB;cases bB
    |some r=>
      rw [bo] at bB
      simp only [Option.map_some,Option.some.injEq,Prod.mk.injEq] at bB
      obtain⟨bA,bt⟩:=bB
      have hlen:((ops.toList.drop i).take k).length=k:=by simp;omega
      have key:=G4 (P:=P) (n:=n) (w0:=w0) (M:=M) (u:=u) (N:=N) (ops:=ops) (Q:=Q) r.1 (List.range' (i+k) (ops.size-(i+k))) ((ops.toList.drop i).take k) i σ a w β claims
        (fun t o bC=>by
          rw [List.getElem?_take] at bC
          split at bC
          · rw [List.getElem?_drop] at bC;simpa using bC
          · cases bC) (by rw [bo,←bt]) aI S (fun aD w' ck bT=>?_)
      · rw [hlen] at key
        unfold jI
        rwa [show ops.size-i=k+(ops.size-(i+k)) by omega,←List.range'_append_1]
      · subst bA
        refine K aD w' ck (bT.weaken m keep fun t kb ik h=>?_)
        have h1:=sG m keep t _ h
        have ah:=bT.ok t kb ik h1.1
        have aE:=h1.2 kb ik rfl
        simp;omega
end
end Go.Proofs.YtmeoackmjdoecaaGreat
namespace Go.Proofs.YtmeoackmjdoecaaGreat
open Go
def bz:Nat:=4194304
def u_:Nat:=9223372036854775807
section jumps
variable {next:Act->World->Prop} {Q:Exit->Act->World->Prop} {a:Act} {w:World}
end jumps
section
variable {P:Program} {n:Nat} {w0:World} {M:aw} {u:World} {N:aw} {β:Nat->Nat} {σ σ':bw} {a:Act} {w:World} {ops:Array Oper} {Q:Exit->Act->World->Prop} {cS:Act->World->Prop}
def w9:Nat->List Value->Env
  |_,[]=>[]
  |k,v::r=>(k,.v v)::w9 (k+1) r
theorem Kr:∀(l:List Value) (k t:Nat) (s:e9),look (w9 k l) t=some s->∃v,s= .v v/\k<=t/\l[t-k]? =some v
  |
    [],k,t,s,h=>by simp [w9,look] at h
  |v::r,k,t,s,h=>by
    simp only [w9,pr] at h
    split at h
    · rename_i e;subst e
      simp at h
      exact⟨v,h.symm,Nat.le_refl _,by simp⟩
    · obtain⟨x,h1,ah,aE⟩:=Kr r (k+1) t s h
      refine⟨x,h1,by omega,?_⟩
      rw [show t-k=(t-(k+1))+1 by omega]
      simpa using aE
theorem Calls.walk {f:FuncId} {fn:Func} {c:Code} {args:List Value} {bF:Ending->World->Prop} (M:aw) (bm:P.funcs[f]? =some fn) (hb:fn.body=some c) (bc:Nat.ble args.length fn.ntmps=true)
    (h:∀a β,aj P fn.ntmps w M w (ga w.heap.size) β ⟨w9 0 args,[]⟩ a w->c.wp P (bodyPost P fn bF) a w):Calls P f args.toArray w bF:=by
  have hle:args.length<=fn.ntmps:=Nat.le_of_ble_eq_true bc
  refine calls_of_wp bm hb (h _ (fun _=>0) ⟨rfl,by simp;omega,fun t s bC=>?_,fun t k o bC=>?_,fun k cs hk=>by simp at hk,fun _ _ bJ=>by simp at bJ,fun _ hk=>by simp at hk,fun b hb=>⟨hb,rfl,fun _ hk=>by simp at hk⟩,bX.refl _ _,fun b hb _=>⟨hb,rfl⟩⟩)
  · obtain⟨v,rfl,_,aE⟩:=Kr args 0 t s bC
    have fs:t<args.length:=by
      have:=(List.getElem?_eq_some_iff.1 aE).1;omega
    simp only [Nat.sub_zero] at aE
    simp only [e9.val]
    rw [Array.getElem?_append_left (by simpa using fs)]
    simpa using aE
  · obtain⟨v,e,_⟩:=Kr args 0 t _ bC
    cases e
def EU (P:Program) (σ:bw):ResultVar->Option Value
  | .tmp t=>match look σ.env t with
    |some (.v v)=>some v
    |_=>none
  | .cell t ty=>match look σ.env t with
    |some (.p k o)=>(σ.ay[k]?).bind fun cs=>zn P ty cs o
    |_=>none
def pK (P:Program) (σ:bw):List ResultVar->Option (List Value)
  |
    []=>some []
  |r::l=>match EU P σ r with
    |some v=>(pK P σ l).map fun x=>v::x
    |none=>none
def packed:List Value->Value
  |[v]=>v
  |dx=> .tuple dx.toArray
def Bo (a:Act):ResultVar->Sem Value
  | .tmp t=>pure (a.tmps.getD t undef)
  | .cell aD t=>do loadVar t (←asAddr (a.tmps.getD aD undef))
theorem akv (S:aj P n w0 M u N β σ a w) {r:ResultVar} {v:Value} (h:EU P σ r=some v):
    (Bo a r).run P w= .ok v w:=by
  cases r with
  |tmp t=>
    simp only [EU] at h
    split at h
    · rename_i x hx
      simp at h;subst h
      have:=S.env t _ hx
      simp [Bo,this,e9.val]
    · cases h
  |cell t ty=>
    simp only [EU] at h
    split at h
    · rename_i k o hx
      cases hc:σ.ay[k]? with
      |none=>simp [hc] at h
      |some cs=>
        simp only [hc,Option.bind_some] at h
        obtain⟨T,hb⟩:=S.box k cs hc
        have:=S.env t _ hx
        have hl:=UD (P:=P) hb h
        simp only [Instr.loadAt,Instr.sureAddr,Sem.run_bind,Sem.run_pure,Result.andThen_ok] at hl
        have e:a.tmps.getD t undef=aM (β k) o:=by simp [this,e9.val]
        simp only [Bo,e,asAddr,Sem.run_bind,Sem.run_pure,Result.andThen_ok,hl]
    · cases h
theorem Uu (S:aj P n w0 M u N β σ a w):∀(l:List ResultVar) (dx:List Value),pK P σ l=some dx->
    (l.mapM (Bo a)).run P w= .ok dx w
  |
    [],dx,h=>by simp [pK] at h;subst h;rfl
  |r::l,dx,h=>by
    simp only [pK] at h
    split at h
    · rename_i v bu
      cases hl:pK P σ l with
      |none=>simp [hl] at h
      |some Fe=>
        simp [hl] at h;subst h
        rw [List.mapM_cons]
        rw [Sem.run_bind,akv S bu]
        simp only [Result.andThen_ok]
        rw [Sem.run_bind,Uu S l Fe hl]
        rfl
    · cases h
theorem aj.results (S:aj P n w0 M u N β σ a w) {fn:Func} {dx:List Value} (h:pK P σ fn.results.toList=some dx):(results fn a.tmps).run P w= .ok (packed dx) w:=by
  have e:Go.results fn a.tmps=(do let dx ←fn.results.mapM (Bo a);pure (if h:dx.size=1 then dx[0] else .tuple dx)):=by
    unfold Go.results
    congr 1
  rw [e,Array.mapM_eq_mapM_toList,Sem.run_bind,Sem.run_map,Uu S _ _ h]
  simp only [Result.andThen_ok,Sem.run_pure]
  congr 1
  match dx with
  |[]=>rfl
  |[v]=>rfl
  |_::_::_=>rfl
theorem aj.ret (S:aj P n w0 M u N β σ a w) {fn:Func} {bF:Ending->World->Prop} {dx:List Value} (bu:pK P σ fn.results.toList=some dx) (h:bF (.returned (packed dx)) w):bodyPost P fn bF .ret a w:=
  ⟨S.mA,_,S.results bu,h⟩
theorem aj.Pn (S:aj P n w0 M u N β σ a w) {fn:Func} {bF:Ending->World->Prop} {dx:List Value} (bu:pK P σ fn.results.toList=some dx) (h:bF (.returned (packed dx)) w):bodyPost P fn bF .normal a w:=
  ⟨S.mA,_,S.results bu,h⟩
theorem aj.cond (S:aj P n w0 M u N β σ a w) {c:Operand} {e:Bool} {x y:Code} (he:σ.get c=some (.v (.bool e))) (bC:e=true->x.wp P Q a w) (bm:e=false->y.wp P Q a w):(Code.cond c x y).wp P Q a w:=
  wp_cond_split (S.get he) bC bm
theorem aj.cast (S:aj P n w0 M u N β σ a w) (h:σ=σ'):aj P n w0 M u N β σ' a w:=h▸S
def rH (σ:bw) (keep:List Nat) (m:Nat):Option bw:=bif Nat.ble m σ.ay.length then some ⟨σ.keep m keep,σ.ay.take m⟩ else none
theorem aj.prune (S:aj P n w0 M u N β σ a w) {keep:List Nat} {m:Nat} (h:rH σ keep m=some σ'):aj P n w0 M u N β σ' a w:=by
  unfold rH at h
  cases hb:Nat.ble m σ.ay.length with
  |false=>rw [hb] at h;cases h
  |true=>
    rw [hb] at h
    simp only [cond_true,Option.some.injEq] at h
    subst h
    have hle:m<=σ.ay.length:=Nat.le_of_ble_eq_true hb
    refine S.weaken m keep fun t k o hl=>?_
    have:=(sG m keep t _ hl).2 k o rfl
    simp;omega
theorem alR {c:Code} (Inv:Nat->Act->World->Prop) (m:Nat) (h0:Inv m a w)
    (round:∀m a w,Inv m a w->c.wp P (Exit.then (fun aD w'=>∃hf,hf<m/\Inv hf aD w') Q) a w):(Code.loop c).wp P Q a w:=by
  intro b k cs
  have key:∀n a w,Inv n a w->
      ∃e aD w',Q e aD w'/\Arrives P (lone (b.at a (.code c:: .inLoop c::k)) cs w) b k cs e aD w':=by
    intro n
    induction n using Nat.strongRecOn with
    |_ n gQ=>
      intro a w vI
      obtain⟨e,w_,y1,aI,tX⟩:=round n a w vI b (.inLoop c::k) cs
      cases e with
      |normal=>
        obtain⟨hf,fs,ac4⟩:=aI
        obtain⟨aaY,WZ,alS,afc,ad1⟩:=gQ hf fs w_ y1 ac4
        exact⟨aaY,WZ,alS,afc,.of_steps (Steps.trans tX (.one step_inLoop)) ad1⟩
      |exit id=>exact⟨_,w_,y1,aI,.pass (x:= .inLoop c) rfl (fun _ _=> .inl (by simp)) tX⟩
      |goto l=>exact⟨_,w_,y1,aI,.pass (x:= .inLoop c) rfl (fun _ _=> .inl (by simp)) tX⟩
      |ret=>exact⟨_,w_,y1,aI,.pass (x:= .inLoop c) rfl (fun _ _=> .inl (by simp)) tX⟩
      |panic anH=>exact⟨_,w_,y1,aI,.pass (x:= .inLoop c) rfl (fun _ _=> .inl (by simp)) tX⟩
      |outgrown=>exact⟨_,w_,y1,aI,.pass (x:= .inLoop c) rfl (fun _ _=> .inl (by simp)) tX⟩
  obtain⟨e,aD,w',aI,tX⟩:=key _ a w h0
  exact⟨e,aD,w',aI,.of_steps (.one step_loop) tX⟩
abbrev o1 {α:Type} [GT α] (u:World) (N:aw) (x:α) (p:GT.Ptr α):Prop:=GT.rd bz N u x p
abbrev am8 {α:Type} [GT α] (w:World) (x:α) (p:GT.Ptr α):Prop:=GT.rd bz (ga w.heap.size) w x p
structure ai {α:Type} [GT α] (w0:World) (M:aw) (u:World) (N F:aw) (x:α) (p:GT.Ptr α):Prop where
  own:GT.own bz F u x p
  sub:∀b,F b->N b
  cU:∀b,F b->w0.heap.size<=b\/M b
theorem aj.hp (_:aj P n w0 M u N β σ a w) {α:Type} [GT α]:ai w0 M u N aa ([]:List α) (GT.bL (α:=List α)):=
  ⟨GT.gu _ _ _,fun _ h=>False.elim h,fun _ h=>False.elim h⟩
theorem ai.al {α:Type} [GT α] {F:aw} {x:α} {p:GT.Ptr α} (h:ai w0 M u N F x p):o1 u N x p:=GT.eh (GT.fb h.own) (Nat.le_refl _) h.sub
theorem aj.arg {α:Type} [GT α] {K:Nat} {x:α} {p:GT.Ptr α} (S:aj P n w0 aa u N β σ a w) (h:GT.rd K (ga w0.heap.size) w0 x p):GT.rd K N u x p:=
  GT.eh (GT.fJ h (fun b hb _=>(S.kM b hb (fun f=>f)).2)) (Nat.le_refl _) (fun b hb=>(S.kM b hb (fun f=>f)).1)
theorem aj.rd {α:Type} [GT α] {K:Nat} {x:α} {p:GT.Ptr α} (S:aj P n w0 M u N β σ a w) (h:GT.rd K N u x p):GT.rd K (ga w.heap.size) w x p:=
  GT.eh (GT.gH (GT.fJ h (fun b hb _=>(S.sep b hb).2.1))) (Nat.le_refl _) (fun _ hb=>hb.2)
def Or (A C:aw):aw:=fun b=>A b\/C b
theorem ai.up {α:Type} [GT α] {F:aw} {x:α} {p:GT.Ptr α} {w':World} {aH:aw} (h:ai w0 M u N F x p) (g:∀b,N b->aH b/\w'.heap[b]? =u.heap[b]?):ai w0 M w' aH F x p:=
  ⟨GT.c7 h.own (fun b hb _=>(g b (h.sub b hb)).2),fun b hb=>(g b (h.sub b hb)).1,h.cU⟩
def dZ {α:Type} [GT α] (jV:aw) (w:World) (r:α) (e:Ending) (w':World):Prop:=
  ∃q,e= .returned (GT.val r q)/\bX jV w w'/\GT.own bz (ky w.heap.size w'.heap.size) w' r q
def fG {α gi:Type} [GT α] [GT gi] (jV:aw) (w:World) (r:α) (r':gi) (e:Ending) (w':World):Prop:=
  ∃q fX F b1,e= .returned (.tuple #[GT.val r q,GT.val r' fX])/\bX jV w w'/\GT.own bz F w' r q/\GT.own bz b1 w' r' fX/\J F b1/\∀b,F b\/b1 b->w.heap.size<=b/\b<w'.heap.size
def qO {α gi y3:Type} [GT α] [GT gi] [GT y3] (jV:aw) (w:World) (r:α) (r':gi) (r'':y3) (e:Ending) (w':World):Prop:=
  ∃q fX LB F,e= .returned (.tuple #[GT.val r q,GT.val r' fX,GT.val r'' LB])/\bX jV w w'/\GT.own bz F w' r q/\GT.own bz aa w' r' fX/\GT.own bz aa w' r'' LB/\∀b,F b->w.heap.size<=b/\b<w'.heap.size
def jr (P:Program) (n:Nat) (ops:Array Oper) (i:Nat) (σ:bw):Option (FuncId×List Value×Tmp):=
  match ops.toList[i]? with
  |some o=>
    match nh ops σ o,o.op,o.dst with
    |some true,.call ⟨.value (.func f),args,_⟩,some d=>
      match P.funcs[f]? with
      |some fn=>bif fn.name== "runtime.NumGoroutine" ||fn.body.isNone|| !Nat.blt d n then none else(lQ σ args.toList).map fun l=>(f,l,d)
      |none=>none
    |some true,.call ⟨.value (.tmp t),args,_⟩,some d=>
      match σ.get (.tmp t) with
      |some (.v (.func (.func f) first pV))=>bif callee P f&&Nat.blt d n then(lQ σ args.toList).map fun l=>(f,first.toList++l++pV.toList,d) else none
      |_=>none
    |_,_,_=>none
  |none=>none
theorem va.step {i:Nat} {o:Oper} (bD:ops[i]? =some o) (hw:Region.wanted o (yielded ops a.tmps)=true) (h:o.wp P a w cS Q):wpOp P ops Q i cS a w:=by
  unfold wpOp
  simp only [bD,hw,if_true]
  exact .inl h
theorem jI.op {i:Nat} (hi:Nat.blt i ops.size=true) (h:wpOp P ops Q i (fun aD w'=>jI P ops Q (i+1) aD w') a w):jI P ops Q i a w:=by
  have fs:i<ops.size:=Nat.le_of_ble_eq_true hi
  unfold jI
  rw [show ops.size-i=(ops.size-(i+1))+1 by omega,List.range'_succ,wpOps_cons]
  exact h
theorem aj.after (S:aj P n w0 M u N β σ a w) {w':World} {d:Tmp} {v:Value} (hd:Nat.blt d n=true) (hc:bX aa w w'):
    aj P n w0 M w' (Or N (ky w.heap.size w'.heap.size)) β ⟨(d,.v v)::σ.env,σ.ay⟩ (a.put (some d) v) w':=by
  have a2:σ.put n (some d) (.v v)=some ⟨(d,.v v)::σ.env,σ.ay⟩:=by simp [bw.put,hd]
  have jn:=S.put a2 (fun _ _ e=>by cases e)
  have hb:∀k,k<σ.ay.length->β k<w.heap.size:=fun k hk=>by
    obtain⟨od,h⟩:=S.box k _ (List.getElem?_eq_getElem hk)
    rcases Nat.lt_or_ge (β k) w.heap.size with hl|hl
    · exact hl
    · rw [Array.getElem?_eq_none hl] at h;cases h
  refine⟨jn.mA,jn.dh,jn.env,jn.ok,fun k cs hk=>?_,jn.inj,jn.new,fun b et=>?_,S.ed.step hc (fun _ _ f=>f.elim),fun b hb hm=>?_⟩
  · obtain⟨T,h⟩:=jn.box k cs hk
    have x8:k<σ.ay.length:=(List.getElem?_eq_some_iff.1 hk).1
    exact⟨T,(hc.block _ (hb k x8) (fun f=>f)).trans h⟩
  · rcases et with h|h
    · obtain⟨h1,ah,aE⟩:=jn.sep b h
      exact⟨Nat.lt_of_lt_of_le h1 hc.size,rfl,aE⟩
    · refine⟨h.2,rfl,fun k hk e=>?_⟩
      have:=hb k hk
      have:=h.1
      omega
  · obtain⟨h1,ah⟩:=S.kM b hb hm
    exact⟨.inl h1,((hc.block b (S.sep b h1).1 (fun f=>f)).trans (S.sep b h1).2.1).trans ah⟩
theorem aj.up (S:aj P n w0 M u N β σ a w) {w':World} (hc:bX aa w w'):∀b,N b->Or N (ky w.heap.size w'.heap.size) b/\w'.heap[b]? =u.heap[b]? :=fun b hb=>
  ⟨.inl hb,(hc.block b (S.sep b hb).1 (fun f=>f)).trans (S.sep b hb).2.1⟩
theorem aj.call (S:aj P n w0 M u N β σ a w) {i:Nat} {f:FuncId} {dX:List Value} {d:Tmp} {bF:Ending->World->Prop} (hcall:jr P n ops i σ=some (f,dX,d)) (hc:Calls P f dX.toArray w bF)
    (K:∀e w',bF e w'->∃v,e= .returned v/\cS (a.put (some d) v) w'):wpOp P ops Q i cS a w:=by
  unfold jr at hcall
  split at hcall
  · rename_i o bD
    have j9:ops[i]? =some o:=by simpa using bD
    split at hcall
    · rename_i zR args jW m7 aJ hop hd
      split at hcall
      · rename_i fn Ap
        cases hb:(fn.name== "runtime.NumGoroutine" ||fn.body.isNone|| !Nat.blt m7 n) with
        |true=>rw [hb] at hcall;cases hcall
        |false=>
          rw [hb] at hcall
          simp only [cond_false] at hcall
          cases bu:lQ σ args.toList with
          |none=>simp [bu] at hcall
          |some l=>
            simp [bu] at hcall
            obtain⟨rfl,rfl,rfl⟩:=hcall
            simp only [Bool.or_eq_false_iff] at hb
            refine va.step j9 (ma S aJ) ?_
            have ox:args.map a.eval=l.toArray:=by
              rw [←Array.toList_inj];simpa using wN S _ _ bu
            have oC:(execOp a.eval o).run P w= .ok (.enter zR l.toArray) w:=by
              unfold execOp
              simp only [hop]
              simp only [resolve,ox,Act.eval,Deferred.ofValue]
              have sI:fn.name≠ "runtime.NumGoroutine" :=fun e=>by rw [e] at hb;simp at hb
              have ps:¬fn.body=none:=fun e=>by rw [e] at hb;simp at hb
              simp [invoke,callFunc,Ap,sI,ps]
            unfold Oper.wp
            rw [oC,Oper.upon_enter]
            refine hc.mono fun e w' vM=>?_
            obtain⟨v,rfl,h⟩:=K e w' vM
            rw [hd]
            exact h
      · cases hcall
    · rename_i t args jW m7 aJ hop hd
      split at hcall
      · rename_i zR first pV hx
        have e:=S.get hx
        cases hb:(callee P zR&&Nat.blt m7 n) with
        |false=>rw [hb] at hcall;cases hcall
        |true=>
          rw [hb] at hcall
          simp only [cond_true] at hcall
          simp only [Bool.and_eq_true] at hb
          cases bu:lQ σ args.toList with
          |none=>simp [bu] at hcall
          |some l=>
            simp only [bu,Option.map_some,Option.some.injEq,Prod.mk.injEq] at hcall
            obtain⟨rfl,rfl,rfl⟩:=hcall
            refine va.step j9 (ma S aJ) ?_
            have ox:args.map a.eval=l.toArray:=by
              rw [←Array.toList_inj];simpa using wN S _ _ bu
            have oC:(execOp a.eval o).run P w= .ok (.enter zR (first.toList++l++pV.toList).toArray) w:=by
              unfold execOp
              simp only [hop]
              exact UE (l:=l) (x:= .tmp t) e hb.1 ox _ w
            unfold Oper.wp
            rw [oC,Oper.upon_enter]
            refine hc.mono fun e w' vM=>?_
            obtain⟨v,rfl,h⟩:=K e w' vM
            rw [hd]
            exact h
      · cases hcall
    · cases hcall
  · cases hcall
theorem J.fresh {F:aw} (S:aj P n w0 M u N β σ a w) (w':World) (h:∀b,F b->w.heap.size<=b/\b<w'.heap.size):J N F:=fun b h1 ah=>by
  have:=(S.sep b h1).1
  have:=(h b ah).1
  omega
theorem aj.Ow {α:Type} [GT α] (S:aj P n w0 M u N β σ a w) {i:Nat} {f:FuncId} {dX:List Value} {d:Tmp} {r:α} (hc:Calls P f dX.toArray w (dZ aa w r)) (hcall:jr P n ops i σ=some (f,dX,d)) (hd:Nat.blt d n=true)
    (K:∀aD w' aH q F,aj P n w0 M w' aH β ⟨(d,.v (GT.val r q))::σ.env,σ.ay⟩ aD w'->(∀b,N b->aH b/\w'.heap[b]? =u.heap[b]?)->ai w0 M w' aH F r q->J N F->cS aD w'):wpOp P ops Q i cS a w:=
  S.call hcall hc fun _ w' ⟨q,he,ez,bD⟩=>⟨_,he,K _ w' _ q _ (S.after hd ez) (S.up ez) ⟨bD,fun _ h=> .inr h,fun _ h=> .inl (Nat.le_trans S.ed.size h.1)⟩ (J.fresh S w' fun _ h=>h)⟩
theorem aj.call2 {α gi:Type} [GT α] [GT gi] (S:aj P n w0 M u N β σ a w) {i:Nat} {f:FuncId} {dX:List Value} {d:Tmp} {r:α} {r':gi} (hc:Calls P f dX.toArray w (fG aa w r r')) (hcall:jr P n ops i σ=some (f,dX,d)) (hd:Nat.blt d n=true)
    (K:∀aD w' aH q fX F b1,aj P n w0 M w' aH β ⟨(d,.v (.tuple #[GT.val r q,GT.val r' fX]))::σ.env,σ.ay⟩ aD w'->(∀b,N b->aH b/\w'.heap[b]? =u.heap[b]?)->ai w0 M w' aH F r q->ai w0 M w' aH b1 r' fX->J N F->J N b1->J F b1->cS aD w'):wpOp P ops Q i cS a w:=
  S.call hcall hc fun _ w' ⟨q,fX,F,b1,he,ez,bD,j9,Dp,bm⟩=>⟨_,he,K _ w' _ q fX F b1 (S.after hd ez) (S.up ez)
    ⟨bD,fun b h=> .inr (bm b (.inl h)),fun b h=> .inl (Nat.le_trans S.ed.size (bm b (.inl h)).1)⟩ ⟨j9,fun b h=> .inr (bm b (.inr h)),fun b h=> .inl (Nat.le_trans S.ed.size (bm b (.inr h)).1)⟩
    (J.fresh S w' fun b h=>bm b (.inl h)) (J.fresh S w' fun b h=>bm b (.inr h)) Dp⟩
theorem aj.own {α:Type} [GT α] {F:aw} {x:α} {p:GT.Ptr α} (S:aj P n w0 aa u N β σ a w) (h:ai w0 aa u N F x p):GT.own bz (ky w0.heap.size w.heap.size) w x p:=
  GT.fC (GT.c7 h.own (fun b hb _=>(S.sep b (h.sub b hb)).2.1)) (Nat.le_refl _) (fun b hb=>⟨(h.cU b hb).resolve_right (fun f=>f),(S.sep b (h.sub b hb)).1⟩)
theorem aj.uM {α:Type} [GT α] {F:aw} {x:α} {p:GT.Ptr α} (S:aj P n w0 aa u N β σ a w) (h:ai w0 aa u N F x p):GT.own bz F w x p/\∀b,F b->w0.heap.size<=b/\b<w.heap.size:=
  ⟨GT.c7 h.own (fun b hb _=>(S.sep b (h.sub b hb)).2.1),fun b hb=>⟨(h.cU b hb).resolve_right (fun f=>f),(S.sep b (h.sub b hb)).1⟩⟩
end
end Go.Proofs.YtmeoackmjdoecaaGreat
namespace Go.Proofs.YtmeoackmjdoecaaGreat
open Go
def k_ (P:Program) (n:Nat) (ops:Array Oper):List Oper->bw->List Value->Option (bw×List (Ask×Value))
  |
    [],σ,_=>some (σ,[])
  |o::r,σ,c0=>
    match nh ops σ o with
    |none=>none
    |some false=>(σ.put n o.dst (.v undef)).bind fun σ'=>k_ P n ops r σ' c0
    |some true=>
      match uJ P σ o with
      |some (.val x)=>(σ.put n o.dst x).bind fun σ'=>k_ P n ops r σ' c0
      |some (.ask q)=>
        match c0 with
        |[]=>none
        |v::uK=>(σ.put n o.dst (.v v)).bind fun σ'=>(k_ P n ops r σ' uK).map fun x=>(x.1,(q,v)::x.2)
      |_=>none
def G2 (P:Program) (n:Nat) (ops:Array Oper) (σ:bw) (c0:List Value) (keep:List Nat) (m:Nat):Option (bw×List (Ask×Value)):=
  (k_ P n ops ops.toList σ c0).map fun x=>(⟨x.1.keep m keep,x.1.ay.take m⟩,x.2)
section
variable {P:Program} {n:Nat} {w0:World} {M:aw} {u:World} {N:aw} {β:Nat->Nat} {σ σ':bw} {a:Act} {w:World} {ops:Array Oper} {Q:Exit->Act->World->Prop}
theorem G3 (wd:World) (σ':bw) (Q':Act->Prop):∀(l:List Oper) (σ:bw) (a:Act) (claims:List (Ask×Value)),
    k_ P n ops l σ (claims.map (·.2))=some (σ',claims)->fe P u N claims->aj P n w0 M u N β σ a wd->
    (∀aD,aj P n w0 M u N β σ' aD wd->Q' aD)->wpQuiet P ops (fun w'=>bX aa wd w') Q' l a
  |
    [],σ,a,claims,bB,_,S,K=>by
    simp only [k_,Option.some.injEq,Prod.mk.injEq] at bB
    obtain⟨rfl,_⟩:=bB
    exact K a S
  |o::l,σ,a,claims,bB,aI,S,K=>by
    have oc:=G3 wd σ' Q' l
    simp only [wpQuiet]
    simp only [k_] at bB
    split at bB
    · cases bB
    · rename_i aJ
      rw [ma S aJ]
      simp only [Bool.false_eq_true,if_false]
      cases a2:σ.put n o.dst (.v undef) with
      |none=>rw [a2] at bB;cases bB
      |some bf=>
        rw [a2] at bB
        exact oc bf _ claims bB aI (S.put a2 (fun _ _ e=>by cases e)) K
    · rename_i aJ
      rw [ma S aJ]
      simp only [if_true]
      split at bB
      · rename_i x hx
        cases a2:σ.put n o.dst x with
        |none=>rw [a2] at bB;cases bB
        |some bf=>
          rw [a2] at bB
          refine⟨x.val β,fun w hw=>?_,oc bf _ claims bB aI (S.put a2 (mj S hx).2) K⟩
          unfold Oper.quietAt
          rw [(mj (S.ext hw) hx).1]
          exact⟨rfl,rfl⟩
      · rename_i q hx
        split at bB
        · cases bB
        · rename_i v c0 he
          cases a2:σ.put n o.dst (.v v) with
          |none=>rw [a2] at bB;cases bB
          |some bf=>
            rw [a2] at bB
            simp only [Option.bind_some] at bB
            cases bo:k_ P n ops l bf c0 with
            |none=>rw [bo] at bB;cases bB
            |some r=>
              rw [bo] at bB
              simp only [Option.map_some,Option.some.injEq,Prod.mk.injEq] at bB
              obtain⟨bA,bt⟩:=bB
              subst bt
              simp only [List.map_cons,List.cons.injEq,true_and] at he
              refine⟨v,fun w hw=>?_,oc bf _ r.2 (by rw [he,bo,←bA]) aI.2 (S.put a2 (fun _ _ e=>by cases e)) K⟩
              have bT:=S.ext hw
              have h1:=mj bT hx
              unfold Oper.quietAt
              cases q with
              |call f args=>
                simp only [zh] at h1
                rw [h1]
                exact⟨rfl,(aI.1 w (fun b hb=>⟨(bT.sep b hb).1,(bT.sep b hb).2.1⟩)).mono fun e w' ⟨aE,b2⟩=>⟨aE,hw.trans b2⟩⟩
              |_=>
                rw [h1 v (aI.1 w (fun b hb=>(bT.sep b hb).2.1))]
                exact⟨rfl,rfl⟩
      · cases bB
theorem aj.drawn (S:aj P n w0 M u N β σ a w) {id:Nat} {claims:List (Ask×Value)} {keep:List Nat} {m:Nat} (aI:fe P u N claims)
    (hm:P.follows .mixedOrders=true) (bU:Region.lexB .any ops=true)
    (bB:G2 P n ops σ (claims.map (·.2)) keep m=some (σ',claims)) (K:∀aD w',aj P n w0 M u N β σ' aD w'->Q .normal aD w'):(Code.region id ops true).wp P Q a w:=by
  unfold G2 at bB
  cases bo:k_ P n ops ops.toList σ (claims.map (·.2)) with
  |none=>rw [bo] at bB;cases bB
  |some r=>
    rw [bo] at bB
    simp only [Option.map_some,Option.some.injEq,Prod.mk.injEq] at bB
    obtain⟨bA,bt⟩:=bB
    have jn:aj P n w0 M u N β σ a {w with drawn:=w.drawn+1}:=S.ext (bX.draw aa w _)
    refine wp_region_quiet (C:=fun w'=>bX aa {w with drawn:=w.drawn+1} w') hm bU (bX.refl _ _) ?_
    refine G3 _ r.1 _ ops.toList σ a claims (by rw [bo,←bt]) aI jn fun aD bT w' oD=>?_
    subst bA
    refine K aD w' ((bT.ext oD).weaken m keep fun t k o h=>?_)
    have h1:=sG m keep t _ h
    have ah:=bT.ok t k o h1.1
    have aE:=h1.2 k o rfl
    simp;omega
end
section
variable {P:Program} {u:World} {N:aw}
theorem aq.b9 {x:Int} (h:aq x):-9223372036854775808<=x:=h.1
theorem aq.hi {x:Int} (h:aq x):x<=9223372036854775807:=h.2
theorem u2 {x:Int} (h:aq x):IntKind.i64.wrap x=x:=Go.IntWalk.i64_in x ⟨h.1,by have:=h.2;omega⟩
theorem Nr {x y:Int} (h:aq (x+y)):fw P u N (.int .add .i64 x y) (R (x+y)):=fun w _=>by
  show Result.ok (Value.int .i64 (IntKind.i64.wrap (x+y))) w=_
  rw [u2 h]
theorem Wz {x y:Int}:fw P u N (.int .add .i64 x y) (R (IntKind.i64.wrap (x+y))):=fun _ _=>rfl
theorem WH {x y:Int} (h:aq (x-y)):fw P u N (.int .sub .i64 x y) (R (x-y)):=fun w _=>by
  show Result.ok (Value.int .i64 (IntKind.i64.wrap (x-y))) w=_
  rw [u2 h]
theorem w3 {x y:Int} (h:aq (x*y)):fw P u N (.int .mul .i64 x y) (R (x*y)):=fun w _=>by
  show Result.ok (Value.int .i64 (IntKind.i64.wrap (x*y))) w=_
  rw [u2 h]
theorem rU {x y:Int} (h:y≠0):fw P u N (.int .rem .i64 x y) (R (x.tmod y)):=fun w _=>by
  show(Op.intDiv .rem .i64 x y).run P w=_
  unfold Op.intDiv
  rw [if_neg h];rfl
theorem WG {x y:Int} (h:y≠0) (h':aq (x.tdiv y)):fw P u N (.int .quo .i64 x y) (R (x.tdiv y)):=fun w _=>by
  show(Op.intDiv .quo .i64 x y).run P w=_
  unfold Op.intDiv
  rw [if_neg h]
  show Result.ok (Value.int .i64 (IntKind.i64.wrap (x.tdiv y))) w=_
  rw [u2 h']
def mg (x y:Int):Int:=IntKind.i64.wrap ((BitVec.ofInt 64 x&&& BitVec.ofInt 64 y).toNat)
def AS (x y:Int):Int:=IntKind.i64.wrap ((BitVec.ofInt 64 x|||BitVec.ofInt 64 y).toNat)
def Ku (x y:Int):Int:=IntKind.i64.wrap ((BitVec.ofInt 64 x ^^^ BitVec.ofInt 64 y).toNat)
def v_ (x y:Int):Int:=IntKind.i64.wrap ((BitVec.ofInt 64 x&&& ~~~ BitVec.ofInt 64 y).toNat)
theorem y0 (x:Int):aq (IntKind.i64.wrap x):=by
  rw [IntKind.wrap_i64];exact⟨by omega,by omega⟩
theorem agw (x y:Int):aq (AS x y):=y0 _
theorem aga (x y:Int):aq (v_ x y):=y0 _
theorem te {x y:Int}:fw P u N (.int .and .i64 x y) (R (mg x y)):=fun _ _=>rfl
theorem WC {x y:Int}:fw P u N (.int .or .i64 x y) (R (AS x y)):=fun _ _=>rfl
theorem WD {x y:Int}:fw P u N (.int .xor .i64 x y) (R (Ku x y)):=fun _ _=>rfl
theorem WB {x y:Int}:fw P u N (.int .andNot .i64 x y) (R (v_ x y)):=fun _ _=>rfl
def oS (x y:Int):Int:=IntKind.i64.wrap (x*2 ^ (min y.toNat 64))
def qA (x y:Int):Int:=x.fdiv (2 ^ (min y.toNat 64))
theorem Nt {yk:IntKind} {x y:Int} (h:0<=y):fw P u N (.hG (Op.shift .shl .i64 x yk y)) (R (oS x y)):=fun w _=>by
  show(Op.shift .shl .i64 x yk y).run P w=_
  unfold Op.shift
  rw [if_neg (by omega)];rfl
theorem FO {yk:IntKind} {x y:Int} (h:0<=y):fw P u N (.hG (Op.shift .shr .i64 x yk y)) (R (qA x y)):=fun w _=>by
  show(Op.shift .shr .i64 x yk y).run P w=_
  unfold Op.shift
  rw [if_neg (by omega)];rfl
theorem FN {s d:TypeId} {qE:TypeDesc} {x:Int} (hs:P.underlying s=some qE) (hd:P.underlying d=some (.int .u64)) (h0:0<=x) (h1:x<=9223372036854775807):fw P u N (.hG (Go.convert s d (R x))) (.int .u64 x):=fun w _=>by
  show(Go.convert s d (.int .i64 x)).run P w=_
  unfold Go.convert
  simp only [Sem.run_bind,run_underlying hs,run_underlying hd,Result.andThen_ok]
  have e:IntKind.u64.wrap x=x:=Go.IntWalk.u64_in x ⟨h0,by omega⟩
  unfold Conv.intToInt
  rw [e]
  cases qE<;>rfl
section lists
variable {α:Type} [GT α] {xs:List α} {p:GT.Ptr (List α)}
theorem qN {K:Nat} (h:GT.rd K N u xs p) {t e:TypeId} {i:Int} {k l:Nat} (hl:l=xs.length) (hk:i=k) (hi:k<xs.length) (bC:P.underlying t=some (.slice e)) (he:jl P e=some (GT.width α)):
    fw P u N (.idx t (ab l p.1) (R i)) (aM p.1.b (p.1.off+k*GT.width α)):=fun w _=>by
  subst hl
  have ph:=(ag.at_ h (by omega)).1
  subst hk
  have xB:p.1.addr=some ⟨p.1.b,p.1.off,none⟩:=by unfold jo.addr;rw [ph];rfl
  show(Instr.indexAt t (.slice p.1.addr xs.length p.1.cap) (.int .i64 k)).run P w=_
  unfold Instr.indexAt
  simp only [asIntOf,Sem.run_bind,Sem.run_pure,Result.andThen_ok,run_underlying bC,xB]
  have fs:0<=(k:Int)/\(k:Int)<xs.length:=⟨by omega,by omega⟩
  simp only [fs,and_self,if_true,Sem.run_bind,uW he,Result.andThen_ok,Sem.run_pure,Int.toNat_natCast,Addr.add_mid]
theorem OC {K:Nat} (h:GT.rd K N u xs p) {k:Nat} (hi:k<xs.length) {w:World} (hw:∀b,N b->w.heap[b]? =u.heap[b]?):k6 w p.1.b (p.1.off+k*GT.width α) (GT.cells (el xs k) (p.2 k)):=by
  have h1:=ag.cell h k hi
  intro j v bJ
  rw [←h1 j v bJ]
  exact OA (hw _ (ag.at_ h (by omega)).2)
theorem g7 {K:Nat} (h:GT.rd K N u xs p) {t:TypeId} {k j:Nat} {v:Value} (hi:k<xs.length) (bJ:(GT.cells (el xs k) (p.2 k))[j]? =some v) (bC:lP P t=some false):
    fw P u N (.load t (aM p.1.b (p.1.off+k*GT.width α+j))) v:=fun w hw=>by
  have:=OC h hi hw j v bJ
  show(Instr.loadAt t (.pointer (some ⟨p.1.b,_,none⟩))).run P w=_
  simp only [Instr.loadAt,Instr.sureAddr,Sem.run_bind,Sem.run_pure,Result.andThen_ok,loadVar,EV bC,Bool.false_eq_true,if_false,run_load,this]
theorem e8 {K:Nat} (h:GT.rd K N u xs p) {t:TypeId} {k:Nat} (hi:k<xs.length) (bR:GT.agg α=false) (bC:lP P t=some false):
    fw P u N (.load t (aM p.1.b (p.1.off+k*GT.width α))) (GT.val (el xs k) (p.2 k)):=by
  have hl:=GT.len (el xs k) (p.2 k)
  rw [GT.one bR] at hl
  match hc:GT.cells (el xs k) (p.2 k),hl with
  |[v],_=>
    have e:GT.val (el xs k) (p.2 k)=v:=by unfold GT.val;rw [bR,hc];rfl
    rw [e]
    have:=g7 (P:=P) (j:=0) h hi (v:=v) (by rw [hc];rfl) bC
    simpa using this
theorem WI {K:Nat} (h:GT.rd K N u xs p) {t:TypeId} {k j s:Nat} (hi:k<xs.length) (bR:lP P t=some true) (hs:jl P t=some s) (apz:j+s<=GT.width α):
    fw P u N (.load t (aM p.1.b (p.1.off+k*GT.width α+j))) (.agg (((GT.cells (el xs k) (p.2 k)).drop j).take s).toArray):=fun w hw=>by
  obtain⟨d,hd,bo⟩:=Mk bR
  have hc:=OC h hi hw
  refine run_loadAt_mid w _ _ t _ d (fun i v bu=>?_) hd bo ?_
  · rw [List.getElem?_take] at bu
    split at bu
    · rw [List.getElem?_drop] at bu
      have:=hc _ _ bu
      rwa [←Nat.add_assoc] at this
    · cases bu
  · rw [U_ hs,List.length_take,List.length_drop,GT.len]
    congr 1
    omega
theorem hU {K:Nat} (h:GT.rd K N u xs p) {t:TypeId} {k:Nat} (hi:k<xs.length) (aJ:GT.agg α=true) (bR:lP P t=some true) (hs:jl P t=some (GT.width α)):
    fw P u N (.load t (aM p.1.b (p.1.off+k*GT.width α))) (GT.val (el xs k) (p.2 k)):=by
  have:=WI (P:=P) (j:=0) h hi bR hs (by omega)
  have e:GT.val (el xs k) (p.2 k)= .agg (((GT.cells (el xs k) (p.2 k)).drop 0).take (GT.width α)).toArray:=by
    unfold GT.val
    rw [aJ,List.drop_zero,List.take_of_length_le (by rw [GT.len];exact Nat.le_refl _)]
    rfl
  rw [e]
  simpa using this
end lists
theorem dY {s:Sem Value} {v:Value} (h:∀w,s.run P w= .ok v w):fw P u N (.hG s) v:=fun w _=>h w
theorem Mo {x y:Int} (hy:0<y/\y<=9223372036854775807):aq (Int.tmod x y):=by
  have h1:=Int.tmod_lt_of_pos x hy.1
  rcases Int.le_total 0 x with h0|h0
  · have:=Int.tmod_nonneg y h0
    exact⟨by omega,by omega⟩
  · have e:Int.tmod x y=-Int.tmod (-x) y:=by rw [Int.neg_tmod];omega
    have aE:=Int.tmod_lt_of_pos (-x) hy.1
    exact⟨by omega,by omega⟩
theorem aY {f:FuncId} {args:List Value} {v:Value} (h:∀w,(∀b,N b->b<w.heap.size/\w.heap[b]? =u.heap[b]?)->Calls P f args.toArray w fun e w'=>e= .returned v/\bX aa w w'):fw P u N (.call f args) v:=h
theorem cQ {α:Type} [GT α] {K:Nat} {x:α} {p:GT.Ptr α} (h:GT.rd K N u x p) {w:World} (hw:∀b,N b->b<w.heap.size/\w.heap[b]? =u.heap[b]?):GT.rd K (ga w.heap.size) w x p:=
  GT.eh (GT.fJ h (fun b hb _=>(hw b hb).2)) (Nat.le_refl _) (fun b hb=>(hw b hb).1)
end
end Go.Proofs.YtmeoackmjdoecaaGreat
namespace Go.Proofs.YtmeoackmjdoecaaGreat
open Go
structure nK (F:aw) (l:List aw):Prop where
  sub:∀G,G∈l->∀b,G b->F b
  dJ:l.Pairwise J
theorem nK.mono {F b1:aw} {l:List aw} (h:nK F l) (bm:∀b,F b->b1 b):nK b1 l:=⟨fun G cu b hb=>bm b (h.sub G cu b hb),h.dJ⟩
theorem nK.lt {F:aw} {l:List aw} (h:nK F l) (n:Nat):nK (fun b=>F b/\b<n) (l.map fun G b=>G b/\b<n):=
  ⟨fun G cu b hb=>by
      obtain⟨hT,h1,rfl⟩:=List.mem_map.1 cu
      exact⟨h.sub hT h1 b hb.1,hb.2⟩,
    List.pairwise_map.2 (h.dJ.imp fun hd b x y=>hd b x.1 y.1)⟩
structure aA where
  page:Int
  bW:Int
  deriving DecidableEq
theorem aA.ext_iff {a b:aA}:a=b↔a.page=b.page/\a.bW=b.bW:=by
  cases a;cases b;simp
structure fx (d:aA):Prop where
  page:aq d.page
  bW:aq d.bW
instance:GT aA where
  Ptr:=Unit
  dE:=⟨0,0⟩
  bL:=()
  width:=2
  agg:=true
  cells x _:=[R x.page,R x.bW]
  rd _ _ _ x _:=fx x
  own _ _ _ x _:=fx x
  jG:=by decide
  len _ _:=rfl
  one h:=by cases h
  plain _ _ v h:=by simp only [List.mem_cons,List.not_mem_nil,or_false] at h;rcases h with rfl|rfl<;>rfl
  eh h _ _:=h
  fJ h _:=h
  gH h:=h
  fC h _ _:=h
  c7 h _:=h
  gU h:=h
  fb h:=h
  gu _ _ _:=⟨⟨by decide,by decide⟩,⟨by decide,by decide⟩⟩
structure bO where
  known:List Bool
  bN:List aA
  deriving DecidableEq
theorem bO.ext_iff {a b:bO}:a=b↔a.known=b.known/\a.bN=b.bN:=by
  cases a;cases b;simp
structure hI where
  known:af Bool
  bN:af aA
structure hV (K:Nat) (F:aw) (w:World) (d:bO) (p:hI):Prop where
  known:GT.rd K F w d.known p.known
  bN:GT.rd K F w d.bN p.bN
def Ww (K:Nat) (F:aw) (w:World) (x:bO) (p:hI):Prop:=
  ∃du dr:aw,GT.own K du w x.known p.known/\GT.own K dr w x.bN p.bN/\nK F [du,dr]
instance:GT bO where
  Ptr:=hI
  dE:=⟨[],[]⟩
  bL:=⟨GT.bL (α:=List Bool),GT.bL (α:=List aA)⟩
  width:=2
  agg:=true
  cells x p:=[ab x.known.length p.known.1,ab x.bN.length p.bN.1]
  rd:=hV
  own:=Ww
  jG:=by decide
  len _ _:=rfl
  one h:=by cases h
  plain _ _ v h:=by simp only [List.mem_cons,List.not_mem_nil,or_false] at h;rcases h with rfl|rfl<;>rfl
  eh h hk bm:=⟨GT.eh h.known hk bm,GT.eh h.bN hk bm⟩
  fJ h hw:=⟨GT.fJ h.known hw,GT.fJ h.bN hw⟩
  gH h:=⟨GT.gH h.known,GT.gH h.bN⟩
  fC:=by
    rintro K cS F G w x p ⟨du,dr,h0,h1,s⟩ hk bm
    exact⟨du,dr,GT.fC h0 hk (fun _ y=>y),GT.fC h1 hk (fun _ y=>y),s.mono bm⟩
  c7:=by
    rintro K F w w' x p ⟨du,dr,h0,h1,s⟩ hw
    exact⟨du,dr,GT.c7 h0 (fun b hb=>hw b (s.sub _ (by simp) b hb)),GT.c7 h1 (fun b hb=>hw b (s.sub _ (by simp) b hb)),s⟩
  gU:=by
    rintro K F w x p ⟨du,dr,h0,h1,s⟩
    exact⟨_,_,GT.gU h0,GT.gU h1,s.lt _⟩
  fb:=by
    rintro K F w x p ⟨du,dr,h0,h1,s⟩
    exact⟨GT.eh (GT.fb h0) (Nat.le_refl _) (s.sub _ (by simp)),GT.eh (GT.fb h1) (Nat.le_refl _) (s.sub _ (by simp))⟩
  gu K F w:=⟨aa,aa,GT.gu _ _ _,GT.gu _ _ _,⟨fun G cu b hb=>by simp at cu;rcases cu with rfl<;>exact hb.elim,by simp [J,aa]⟩⟩
structure a0 where
  tag:Int
  page:Int
  host:Int
  bW:Int
  deriving DecidableEq
theorem a0.ext_iff {a b:a0}:a=b↔a.tag=b.tag/\a.page=b.page/\a.host=b.host/\a.bW=b.bW:=by
  cases a;cases b;simp
structure my (d:a0):Prop where
  tag:aq d.tag
  page:aq d.page
  host:aq d.host
  bW:aq d.bW
instance:GT a0 where
  Ptr:=Unit
  dE:=⟨0,0,0,0⟩
  bL:=()
  width:=4
  agg:=true
  cells x _:=[R x.tag,R x.page,R x.host,R x.bW]
  rd _ _ _ x _:=my x
  own _ _ _ x _:=my x
  jG:=by decide
  len _ _:=rfl
  one h:=by cases h
  plain _ _ v h:=by simp only [List.mem_cons,List.not_mem_nil,or_false] at h;rcases h with rfl|rfl|rfl|rfl<;>rfl
  eh h _ _:=h
  fJ h _:=h
  gH h:=h
  fC h _ _:=h
  c7 h _:=h
  gU h:=h
  fb h:=h
  gu _ _ _:=⟨⟨by decide,by decide⟩,⟨by decide,by decide⟩,⟨by decide,by decide⟩,⟨by decide,by decide⟩⟩
structure cE where
  hv:Int
  x:Int
  deriving DecidableEq
theorem cE.ext_iff {a b:cE}:a=b↔a.hv=b.hv/\a.x=b.x:=by
  cases a;cases b;simp
structure k9 (d:cE):Prop where
  hv:aq d.hv
  x:aq d.x
instance:GT cE where
  Ptr:=Unit
  dE:=⟨0,0⟩
  bL:=()
  width:=2
  agg:=true
  cells x _:=[R x.hv,R x.x]
  rd _ _ _ x _:=k9 x
  own _ _ _ x _:=k9 x
  jG:=by decide
  len _ _:=rfl
  one h:=by cases h
  plain _ _ v h:=by simp only [List.mem_cons,List.not_mem_nil,or_false] at h;rcases h with rfl|rfl<;>rfl
  eh h _ _:=h
  fJ h _:=h
  gH h:=h
  fC h _ _:=h
  c7 h _:=h
  gU h:=h
  fb h:=h
  gu _ _ _:=⟨⟨by decide,by decide⟩,⟨by decide,by decide⟩⟩
structure eM where
  bQ:Int
  post:Int
  lL:Bool
  deriving DecidableEq
theorem eM.ext_iff {a b:eM}:a=b↔a.bQ=b.bQ/\a.post=b.post/\a.lL=b.lL:=by
  cases a;cases b;simp
structure hC (d:eM):Prop where
  bQ:aq d.bQ
  post:aq d.post
instance:GT eM where
  Ptr:=Unit
  dE:=⟨0,0,false⟩
  bL:=()
  width:=3
  agg:=true
  cells x _:=[R x.bQ,R x.post,B x.lL]
  rd _ _ _ x _:=hC x
  own _ _ _ x _:=hC x
  jG:=by decide
  len _ _:=rfl
  one h:=by cases h
  plain _ _ v h:=by simp only [List.mem_cons,List.not_mem_nil,or_false] at h;rcases h with rfl|rfl|rfl<;>rfl
  eh h _ _:=h
  fJ h _:=h
  gH h:=h
  fC h _ _:=h
  c7 h _:=h
  gU h:=h
  fb h:=h
  gu _ _ _:=⟨⟨by decide,by decide⟩,⟨by decide,by decide⟩⟩
structure dI where
  kind:Int
  page:Int
  wr:Bool
  n:Int
  deriving DecidableEq
theorem dI.ext_iff {a b:dI}:a=b↔a.kind=b.kind/\a.page=b.page/\a.wr=b.wr/\a.n=b.n:=by
  cases a;cases b;simp
structure iu (d:dI):Prop where
  kind:aq d.kind
  page:aq d.page
  n:aq d.n
instance:GT dI where
  Ptr:=Unit
  dE:=⟨0,0,false,0⟩
  bL:=()
  width:=4
  agg:=true
  cells x _:=[R x.kind,R x.page,B x.wr,R x.n]
  rd _ _ _ x _:=iu x
  own _ _ _ x _:=iu x
  jG:=by decide
  len _ _:=rfl
  one h:=by cases h
  plain _ _ v h:=by simp only [List.mem_cons,List.not_mem_nil,or_false] at h;rcases h with rfl|rfl|rfl|rfl<;>rfl
  eh h _ _:=h
  fJ h _:=h
  gH h:=h
  fC h _ _:=h
  c7 h _:=h
  gU h:=h
  fb h:=h
  gu _ _ _:=⟨⟨by decide,by decide⟩,⟨by decide,by decide⟩,⟨by decide,by decide⟩⟩
structure az where
  prog:List cE
  acc:Int
  aN:Int
  written:List aA
  live:List aA
  bH:eM
  av:Int
  exit:dI
  halted:Bool
  seen:List Int
  deriving DecidableEq
theorem az.ext_iff {a b:az}:a=b↔a.prog=b.prog/\a.acc=b.acc/\a.aN=b.aN/\a.written=b.written/\a.live=b.live/\a.bH=b.bH/\a.av=b.av/\a.exit=b.exit/\a.halted=b.halted/\a.seen=b.seen:=by
  cases a;cases b;simp
structure dB where
  prog:af cE
  written:af aA
  live:af aA
  seen:af Int
structure a5 (K:Nat) (F:aw) (w:World) (d:az) (p:dB):Prop where
  prog:GT.rd K F w d.prog p.prog
  acc:aq d.acc
  aN:aq d.aN
  written:GT.rd K F w d.written p.written
  live:GT.rd K F w d.live p.live
  bH:hC d.bH
  av:aq d.av
  exit:iu d.exit
  seen:GT.rd K F w d.seen p.seen
def Wu (K:Nat) (F:aw) (w:World) (x:az) (p:dB):Prop:=
  ∃du dr dN ev:aw,GT.own K du w x.prog p.prog/\GT.own K dr w x.written p.written/\GT.own K dN w x.live p.live/\GT.own K ev w x.seen p.seen/\nK F [du,dr,dN,ev]/\aq x.acc/\aq x.aN/\hC x.bH/\aq x.av/\iu x.exit
instance:GT az where
  Ptr:=dB
  dE:=⟨[],0,0,[],[],⟨0,0,false⟩,0,⟨0,0,false,0⟩,false,[]⟩
  bL:=⟨GT.bL (α:=List cE),GT.bL (α:=List aA),GT.bL (α:=List aA),GT.bL (α:=List Int)⟩
  width:=15
  agg:=true
  cells x p:=[ab x.prog.length p.prog.1,R x.acc,R x.aN,ab x.written.length p.written.1,ab x.live.length p.live.1,R x.bH.bQ,R x.bH.post,B x.bH.lL,R x.av,R x.exit.kind,R x.exit.page,B x.exit.wr,R x.exit.n,B x.halted,ab x.seen.length p.seen.1]
  rd:=a5
  own:=Wu
  jG:=by decide
  len _ _:=rfl
  one h:=by cases h
  plain _ _ v h:=by simp only [List.mem_cons,List.not_mem_nil,or_false] at h;rcases h with rfl|rfl|rfl|rfl|rfl|rfl|rfl|rfl|rfl|rfl|rfl|rfl|rfl|rfl|rfl<;>rfl
  eh h hk bm:=⟨GT.eh h.prog hk bm,h.acc,h.aN,GT.eh h.written hk bm,GT.eh h.live hk bm,h.bH,h.av,h.exit,GT.eh h.seen hk bm⟩
  fJ h hw:=⟨GT.fJ h.prog hw,h.acc,h.aN,GT.fJ h.written hw,GT.fJ h.live hw,h.bH,h.av,h.exit,GT.fJ h.seen hw⟩
  gH h:=⟨GT.gH h.prog,h.acc,h.aN,GT.gH h.written,GT.gH h.live,h.bH,h.av,h.exit,GT.gH h.seen⟩
  fC:=by
    rintro K cS F G w x p ⟨du,dr,dN,ev,h0,h1,ah,aE,s,f0,f1,f2,f3,f4⟩ hk bm
    exact⟨du,dr,dN,ev,GT.fC h0 hk (fun _ y=>y),GT.fC h1 hk (fun _ y=>y),GT.fC ah hk (fun _ y=>y),GT.fC aE hk (fun _ y=>y),s.mono bm,f0,f1,f2,f3,f4⟩
  c7:=by
    rintro K F w w' x p ⟨du,dr,dN,ev,h0,h1,ah,aE,s,f0,f1,f2,f3,f4⟩ hw
    exact⟨du,dr,dN,ev,GT.c7 h0 (fun b hb=>hw b (s.sub _ (by simp) b hb)),GT.c7 h1 (fun b hb=>hw b (s.sub _ (by simp) b hb)),GT.c7 ah (fun b hb=>hw b (s.sub _ (by simp) b hb)),GT.c7 aE (fun b hb=>hw b (s.sub _ (by simp) b hb)),s,f0,f1,f2,f3,f4⟩
  gU:=by
    rintro K F w x p ⟨du,dr,dN,ev,h0,h1,ah,aE,s,f0,f1,f2,f3,f4⟩
    exact⟨_,_,_,_,GT.gU h0,GT.gU h1,GT.gU ah,GT.gU aE,s.lt _,f0,f1,f2,f3,f4⟩
  fb:=by
    rintro K F w x p ⟨du,dr,dN,ev,h0,h1,ah,aE,s,f0,f1,f2,f3,f4⟩
    exact⟨GT.eh (GT.fb h0) (Nat.le_refl _) (s.sub _ (by simp)),f0,f1,GT.eh (GT.fb h1) (Nat.le_refl _) (s.sub _ (by simp)),GT.eh (GT.fb ah) (Nat.le_refl _) (s.sub _ (by simp)),f2,f3,f4,GT.eh (GT.fb aE) (Nat.le_refl _) (s.sub _ (by simp))⟩
  gu K F w:=⟨aa,aa,aa,aa,GT.gu _ _ _,GT.gu _ _ _,GT.gu _ _ _,GT.gu _ _ _,⟨fun G cu b hb=>by simp at cu;rcases cu with rfl<;>exact hb.elim,by simp [J,aa]⟩,⟨by decide,by decide⟩,⟨by decide,by decide⟩,⟨⟨by decide,by decide⟩,⟨by decide,by decide⟩⟩,⟨by decide,by decide⟩,⟨⟨by decide,by decide⟩,⟨by decide,by decide⟩,⟨by decide,by decide⟩⟩⟩
structure a9 where
  mem:List (List Int)
  U:List az
  outs:List Int
  av:Int
  deriving DecidableEq
theorem a9.ext_iff {a b:a9}:a=b↔a.mem=b.mem/\a.U=b.U/\a.outs=b.outs/\a.av=b.av:=by
  cases a;cases b;simp
structure ec where
  mem:af (List Int)
  U:af az
  outs:af Int
structure b_ (K:Nat) (F:aw) (w:World) (d:a9) (p:ec):Prop where
  mem:GT.rd K F w d.mem p.mem
  U:GT.rd K F w d.U p.U
  outs:GT.rd K F w d.outs p.outs
  av:aq d.av
def Wt (K:Nat) (F:aw) (w:World) (x:a9) (p:ec):Prop:=
  ∃du dr dN:aw,GT.own K du w x.mem p.mem/\GT.own K dr w x.U p.U/\GT.own K dN w x.outs p.outs/\nK F [du,dr,dN]/\aq x.av
instance:GT a9 where
  Ptr:=ec
  dE:=⟨[],[],[],0⟩
  bL:=⟨GT.bL (α:=List (List Int)),GT.bL (α:=List az),GT.bL (α:=List Int)⟩
  width:=4
  agg:=true
  cells x p:=[ab x.mem.length p.mem.1,ab x.U.length p.U.1,ab x.outs.length p.outs.1,R x.av]
  rd:=b_
  own:=Wt
  jG:=by decide
  len _ _:=rfl
  one h:=by cases h
  plain _ _ v h:=by simp only [List.mem_cons,List.not_mem_nil,or_false] at h;rcases h with rfl|rfl|rfl|rfl<;>rfl
  eh h hk bm:=⟨GT.eh h.mem hk bm,GT.eh h.U hk bm,GT.eh h.outs hk bm,h.av⟩
  fJ h hw:=⟨GT.fJ h.mem hw,GT.fJ h.U hw,GT.fJ h.outs hw,h.av⟩
  gH h:=⟨GT.gH h.mem,GT.gH h.U,GT.gH h.outs,h.av⟩
  fC:=by
    rintro K cS F G w x p ⟨du,dr,dN,h0,h1,ah,s,f0⟩ hk bm
    exact⟨du,dr,dN,GT.fC h0 hk (fun _ y=>y),GT.fC h1 hk (fun _ y=>y),GT.fC ah hk (fun _ y=>y),s.mono bm,f0⟩
  c7:=by
    rintro K F w w' x p ⟨du,dr,dN,h0,h1,ah,s,f0⟩ hw
    exact⟨du,dr,dN,GT.c7 h0 (fun b hb=>hw b (s.sub _ (by simp) b hb)),GT.c7 h1 (fun b hb=>hw b (s.sub _ (by simp) b hb)),GT.c7 ah (fun b hb=>hw b (s.sub _ (by simp) b hb)),s,f0⟩
  gU:=by
    rintro K F w x p ⟨du,dr,dN,h0,h1,ah,s,f0⟩
    exact⟨_,_,_,GT.gU h0,GT.gU h1,GT.gU ah,s.lt _,f0⟩
  fb:=by
    rintro K F w x p ⟨du,dr,dN,h0,h1,ah,s,f0⟩
    exact⟨GT.eh (GT.fb h0) (Nat.le_refl _) (s.sub _ (by simp)),GT.eh (GT.fb h1) (Nat.le_refl _) (s.sub _ (by simp)),GT.eh (GT.fb ah) (Nat.le_refl _) (s.sub _ (by simp)),f0⟩
  gu K F w:=⟨aa,aa,aa,GT.gu _ _ _,GT.gu _ _ _,GT.gu _ _ _,⟨fun G cu b hb=>by simp at cu;rcases cu with rfl<;>exact hb.elim,by simp [J,aa]⟩,⟨by decide,by decide⟩⟩
structure aZ where
  outer:List aA
  out:List (List Int)
  bj:List Bool
  U:List az
  outs:List Int
  av:Int
  bQ:Int
  tables:List bO
  owned:Int
  deriving DecidableEq
theorem aZ.ext_iff {a b:aZ}:a=b↔a.outer=b.outer/\a.out=b.out/\a.bj=b.bj/\a.U=b.U/\a.outs=b.outs/\a.av=b.av/\a.bQ=b.bQ/\a.tables=b.tables/\a.owned=b.owned:=by
  cases a;cases b;simp
structure g6 where
  outer:af aA
  out:af (List Int)
  bj:af Bool
  U:af az
  outs:af Int
  tables:af bO
structure bn (K:Nat) (F:aw) (w:World) (d:aZ) (p:g6):Prop where
  outer:GT.rd K F w d.outer p.outer
  out:GT.rd K F w d.out p.out
  bj:GT.rd K F w d.bj p.bj
  U:GT.rd K F w d.U p.U
  outs:GT.rd K F w d.outs p.outs
  av:aq d.av
  bQ:aq d.bQ
  tables:GT.rd K F w d.tables p.tables
  owned:aq d.owned
def Wx (K:Nat) (F:aw) (w:World) (x:aZ) (p:g6):Prop:=
  ∃du dr dN ev gX hH:aw,GT.own K du w x.outer p.outer/\GT.own K dr w x.out p.out/\GT.own K dN w x.bj p.bj/\GT.own K ev w x.U p.U/\GT.own K gX w x.outs p.outs/\GT.own K hH w x.tables p.tables/\nK F [du,dr,dN,ev,gX,hH]/\aq x.av/\aq x.bQ/\aq x.owned
instance:GT aZ where
  Ptr:=g6
  dE:=⟨[],[],[],[],[],0,0,[],0⟩
  bL:=⟨GT.bL (α:=List aA),GT.bL (α:=List (List Int)),GT.bL (α:=List Bool),GT.bL (α:=List az),GT.bL (α:=List Int),GT.bL (α:=List bO)⟩
  width:=9
  agg:=true
  cells x p:=[ab x.outer.length p.outer.1,ab x.out.length p.out.1,ab x.bj.length p.bj.1,ab x.U.length p.U.1,ab x.outs.length p.outs.1,R x.av,R x.bQ,ab x.tables.length p.tables.1,R x.owned]
  rd:=bn
  own:=Wx
  jG:=by decide
  len _ _:=rfl
  one h:=by cases h
  plain _ _ v h:=by simp only [List.mem_cons,List.not_mem_nil,or_false] at h;rcases h with rfl|rfl|rfl|rfl|rfl|rfl|rfl|rfl|rfl<;>rfl
  eh h hk bm:=⟨GT.eh h.outer hk bm,GT.eh h.out hk bm,GT.eh h.bj hk bm,GT.eh h.U hk bm,GT.eh h.outs hk bm,h.av,h.bQ,GT.eh h.tables hk bm,h.owned⟩
  fJ h hw:=⟨GT.fJ h.outer hw,GT.fJ h.out hw,GT.fJ h.bj hw,GT.fJ h.U hw,GT.fJ h.outs hw,h.av,h.bQ,GT.fJ h.tables hw,h.owned⟩
  gH h:=⟨GT.gH h.outer,GT.gH h.out,GT.gH h.bj,GT.gH h.U,GT.gH h.outs,h.av,h.bQ,GT.gH h.tables,h.owned⟩
  fC:=by
    rintro K cS F G w x p ⟨du,dr,dN,ev,gX,hH,h0,h1,ah,aE,b2,cf,s,f0,f1,f2⟩ hk bm
    exact⟨du,dr,dN,ev,gX,hH,GT.fC h0 hk (fun _ y=>y),GT.fC h1 hk (fun _ y=>y),GT.fC ah hk (fun _ y=>y),GT.fC aE hk (fun _ y=>y),GT.fC b2 hk (fun _ y=>y),GT.fC cf hk (fun _ y=>y),s.mono bm,f0,f1,f2⟩
  c7:=by
    rintro K F w w' x p ⟨du,dr,dN,ev,gX,hH,h0,h1,ah,aE,b2,cf,s,f0,f1,f2⟩ hw
    exact⟨du,dr,dN,ev,gX,hH,GT.c7 h0 (fun b hb=>hw b (s.sub _ (by simp) b hb)),GT.c7 h1 (fun b hb=>hw b (s.sub _ (by simp) b hb)),GT.c7 ah (fun b hb=>hw b (s.sub _ (by simp) b hb)),GT.c7 aE (fun b hb=>hw b (s.sub _ (by simp) b hb)),GT.c7 b2 (fun b hb=>hw b (s.sub _ (by simp) b hb)),GT.c7 cf (fun b hb=>hw b (s.sub _ (by simp) b hb)),s,f0,f1,f2⟩
  gU:=by
    rintro K F w x p ⟨du,dr,dN,ev,gX,hH,h0,h1,ah,aE,b2,cf,s,f0,f1,f2⟩
    exact⟨_,_,_,_,_,_,GT.gU h0,GT.gU h1,GT.gU ah,GT.gU aE,GT.gU b2,GT.gU cf,s.lt _,f0,f1,f2⟩
  fb:=by
    rintro K F w x p ⟨du,dr,dN,ev,gX,hH,h0,h1,ah,aE,b2,cf,s,f0,f1,f2⟩
    exact⟨GT.eh (GT.fb h0) (Nat.le_refl _) (s.sub _ (by simp)),GT.eh (GT.fb h1) (Nat.le_refl _) (s.sub _ (by simp)),GT.eh (GT.fb ah) (Nat.le_refl _) (s.sub _ (by simp)),GT.eh (GT.fb aE) (Nat.le_refl _) (s.sub _ (by simp)),GT.eh (GT.fb b2) (Nat.le_refl _) (s.sub _ (by simp)),f0,f1,GT.eh (GT.fb cf) (Nat.le_refl _) (s.sub _ (by simp)),f2⟩
  gu K F w:=⟨aa,aa,aa,aa,aa,aa,GT.gu _ _ _,GT.gu _ _ _,GT.gu _ _ _,GT.gu _ _ _,GT.gu _ _ _,GT.gu _ _ _,⟨fun G cu b hb=>by simp at cu;rcases cu with rfl<;>exact hb.elim,by simp [J,aa]⟩,⟨by decide,by decide⟩,⟨by decide,by decide⟩,⟨by decide,by decide⟩⟩
structure ad where
  mem:List (List Int)
  I:List aZ
  buf:List a0
  ar:List a0
  deriving DecidableEq
theorem ad.ext_iff {a b:ad}:a=b↔a.mem=b.mem/\a.I=b.I/\a.buf=b.buf/\a.ar=b.ar:=by
  cases a;cases b;simp
structure cK where
  mem:af (List Int)
  I:af aZ
  buf:af a0
  ar:af a0
structure a4 (K:Nat) (F:aw) (w:World) (d:ad) (p:cK):Prop where
  mem:GT.rd K F w d.mem p.mem
  I:GT.rd K F w d.I p.I
  buf:GT.rd K F w d.buf p.buf
  ar:GT.rd K F w d.ar p.ar
def Wv (K:Nat) (F:aw) (w:World) (x:ad) (p:cK):Prop:=
  ∃du dr dN ev:aw,GT.own K du w x.mem p.mem/\GT.own K dr w x.I p.I/\GT.own K dN w x.buf p.buf/\GT.own K ev w x.ar p.ar/\nK F [du,dr,dN,ev]
instance:GT ad where
  Ptr:=cK
  dE:=⟨[],[],[],[]⟩
  bL:=⟨GT.bL (α:=List (List Int)),GT.bL (α:=List aZ),GT.bL (α:=List a0),GT.bL (α:=List a0)⟩
  width:=4
  agg:=true
  cells x p:=[ab x.mem.length p.mem.1,ab x.I.length p.I.1,ab x.buf.length p.buf.1,ab x.ar.length p.ar.1]
  rd:=a4
  own:=Wv
  jG:=by decide
  len _ _:=rfl
  one h:=by cases h
  plain _ _ v h:=by simp only [List.mem_cons,List.not_mem_nil,or_false] at h;rcases h with rfl|rfl|rfl|rfl<;>rfl
  eh h hk bm:=⟨GT.eh h.mem hk bm,GT.eh h.I hk bm,GT.eh h.buf hk bm,GT.eh h.ar hk bm⟩
  fJ h hw:=⟨GT.fJ h.mem hw,GT.fJ h.I hw,GT.fJ h.buf hw,GT.fJ h.ar hw⟩
  gH h:=⟨GT.gH h.mem,GT.gH h.I,GT.gH h.buf,GT.gH h.ar⟩
  fC:=by
    rintro K cS F G w x p ⟨du,dr,dN,ev,h0,h1,ah,aE,s⟩ hk bm
    exact⟨du,dr,dN,ev,GT.fC h0 hk (fun _ y=>y),GT.fC h1 hk (fun _ y=>y),GT.fC ah hk (fun _ y=>y),GT.fC aE hk (fun _ y=>y),s.mono bm⟩
  c7:=by
    rintro K F w w' x p ⟨du,dr,dN,ev,h0,h1,ah,aE,s⟩ hw
    exact⟨du,dr,dN,ev,GT.c7 h0 (fun b hb=>hw b (s.sub _ (by simp) b hb)),GT.c7 h1 (fun b hb=>hw b (s.sub _ (by simp) b hb)),GT.c7 ah (fun b hb=>hw b (s.sub _ (by simp) b hb)),GT.c7 aE (fun b hb=>hw b (s.sub _ (by simp) b hb)),s⟩
  gU:=by
    rintro K F w x p ⟨du,dr,dN,ev,h0,h1,ah,aE,s⟩
    exact⟨_,_,_,_,GT.gU h0,GT.gU h1,GT.gU ah,GT.gU aE,s.lt _⟩
  fb:=by
    rintro K F w x p ⟨du,dr,dN,ev,h0,h1,ah,aE,s⟩
    exact⟨GT.eh (GT.fb h0) (Nat.le_refl _) (s.sub _ (by simp)),GT.eh (GT.fb h1) (Nat.le_refl _) (s.sub _ (by simp)),GT.eh (GT.fb ah) (Nat.le_refl _) (s.sub _ (by simp)),GT.eh (GT.fb aE) (Nat.le_refl _) (s.sub _ (by simp))⟩
  gu K F w:=⟨aa,aa,aa,aa,GT.gu _ _ _,GT.gu _ _ _,GT.gu _ _ _,GT.gu _ _ _,⟨fun G cu b hb=>by simp at cu;rcases cu with rfl<;>exact hb.elim,by simp [J,aa]⟩⟩
structure bV where
  kind:Int
  m:Int
  g:Int
  x:Int
  y:Int
  z:Int
  deriving DecidableEq
theorem bV.ext_iff {a b:bV}:a=b↔a.kind=b.kind/\a.m=b.m/\a.g=b.g/\a.x=b.x/\a.y=b.y/\a.z=b.z:=by
  cases a;cases b;simp
structure dv (d:bV):Prop where
  kind:aq d.kind
  m:aq d.m
  g:aq d.g
  x:aq d.x
  y:aq d.y
  z:aq d.z
instance:GT bV where
  Ptr:=Unit
  dE:=⟨0,0,0,0,0,0⟩
  bL:=()
  width:=6
  agg:=true
  cells x _:=[R x.kind,R x.m,R x.g,R x.x,R x.y,R x.z]
  rd _ _ _ x _:=dv x
  own _ _ _ x _:=dv x
  jG:=by decide
  len _ _:=rfl
  one h:=by cases h
  plain _ _ v h:=by simp only [List.mem_cons,List.not_mem_nil,or_false] at h;rcases h with rfl|rfl|rfl|rfl|rfl|rfl<;>rfl
  eh h _ _:=h
  fJ h _:=h
  gH h:=h
  fC h _ _:=h
  c7 h _:=h
  gU h:=h
  fb h:=h
  gu _ _ _:=⟨⟨by decide,by decide⟩,⟨by decide,by decide⟩,⟨by decide,by decide⟩,⟨by decide,by decide⟩,⟨by decide,by decide⟩,⟨by decide,by decide⟩⟩
structure da where
  ok:Bool
  n:Int
  deriving DecidableEq
theorem da.ext_iff {a b:da}:a=b↔a.ok=b.ok/\a.n=b.n:=by
  cases a;cases b;simp
structure kA (d:da):Prop where
  n:aq d.n
instance:GT da where
  Ptr:=Unit
  dE:=⟨false,0⟩
  bL:=()
  width:=2
  agg:=true
  cells x _:=[B x.ok,R x.n]
  rd _ _ _ x _:=kA x
  own _ _ _ x _:=kA x
  jG:=by decide
  len _ _:=rfl
  one h:=by cases h
  plain _ _ v h:=by simp only [List.mem_cons,List.not_mem_nil,or_false] at h;rcases h with rfl|rfl<;>rfl
  eh h _ _:=h
  fJ h _:=h
  gH h:=h
  fC h _ _:=h
  c7 h _:=h
  gU h:=h
  fb h:=h
  gu _ _ _:=⟨⟨by decide,by decide⟩⟩
end Go.Proofs.YtmeoackmjdoecaaGreat
namespace Go.Proofs.YtmeoackmjdoecaaGreat
open Go
section
variable {P:Program} {n:Nat} {w0:World} {M:aw} {u:World} {N:aw} {β:Nat->Nat} {σ σ':bw} {a:Act} {w:World} {ops:Array Oper} {Q:Exit->Act->World->Prop} {cS:Act->World->Prop}
theorem aj.qT (S:aj P n w0 M u N β σ a w) {w':World} {jV:aw} (hc:bX jV w w') (h1:∀b,jV b->N b) (ah:∀b,jV b->w0.heap.size<=b\/M b):
    aj P n w0 M w' (Or N (ky w.heap.size w'.heap.size)) β σ a w':=by
  have hb:∀k,k<σ.ay.length->β k<w.heap.size:=fun k hk=>by
    obtain⟨od,h⟩:=S.box k _ (List.getElem?_eq_getElem hk)
    rcases Nat.lt_or_ge (β k) w.heap.size with hl|hl
    · exact hl
    · rw [Array.getElem?_eq_none hl] at h;cases h
  refine⟨S.mA,S.dh,S.env,S.ok,fun k cs hk=>?_,S.inj,S.new,fun b et=>?_,S.ed.step hc (fun b et hm=>(ah b hm).resolve_left (by omega)),fun b et hm=>?_⟩
  · obtain⟨T,h⟩:=S.box k cs hk
    have x8:k<σ.ay.length:=(List.getElem?_eq_some_iff.1 hk).1
    exact⟨T,(hc.block _ (hb k x8) (fun f=>(S.sep _ (h1 _ f)).2.2 k x8 rfl)).trans h⟩
  · rcases et with h|h
    · obtain⟨bA,bt,fm⟩:=S.sep b h
      exact⟨Nat.lt_of_lt_of_le bA hc.size,rfl,fm⟩
    · refine⟨h.2,rfl,fun k hk e=>?_⟩
      have:=hb k hk
      have:=h.1
      omega
  · obtain⟨bA,bt⟩:=S.kM b et hm
    have bc:¬jV b:=fun f=>by
      rcases ah b f with h|h
      · omega
      · exact hm h
    exact⟨.inl bA,((hc.block b (S.sep b bA).1 bc).trans (S.sep b bA).2.1).trans bt⟩
theorem aj.bp (S:aj P n w0 M u N β σ a w) {w':World} {jV:aw} (hc:bX jV w w'):∀b,N b->¬jV b->Or N (ky w.heap.size w'.heap.size) b/\w'.heap[b]? =u.heap[b]? :=fun b hb hm=>
  ⟨.inl hb,(hc.block b (S.sep b hb).1 hm).trans (S.sep b hb).2.1⟩
theorem ai.bp {α:Type} [GT α] {F jV:aw} {x:α} {p:GT.Ptr α} {w':World} {aH:aw} (h:ai w0 M u N F x p) (hd:J F jV) (g:∀b,N b->¬jV b->aH b/\w'.heap[b]? =u.heap[b]?):ai w0 M w' aH F x p:=
  ⟨GT.c7 h.own (fun b hb _=>(g b (h.sub b hb) (fun m=>hd b hb m)).2),fun b hb=>(g b (h.sub b hb) (fun m=>hd b hb m)).1,h.cU⟩
theorem wb {d:Tmp} {v:Value} (hd:Nat.blt d n=true):σ.put n (some d) (.v v)=some ⟨(d,.v v)::σ.env,σ.ay⟩:=by simp [bw.put,hd]
def EX:Operand->Operand->Bool
  | .tmp s,.tmp r=>Nat.beq s r
  | .const (.int .i64 x),.const (.int .i64 y)=>decide (x=y)
  |_,_=>false
theorem akY {l c:Operand} (h:EX l c=true):σ.get l=σ.get c:=by
  unfold EX at h
  split at h
  · rw [Nat.eq_of_beq_eq_true h]
  · rw [of_decide_eq_true h]
  · cases h
def Kx (P:Program) (n:Nat) (ops:Array Oper) (i:Nat) (σ:bw):Option (Value×List Value×Nat×Nat×Tmp):=
  match ops.toList[i]? with
  |some o=>
    match nh ops σ o,o.op,o.dst with
    |some true,.makeSlice t l c,some d=>
      match P.underlying t,σ.get l with
      |some (.slice e),some (.v (.int .i64 m))=>
        match P.info? e with
        |some i=>
          match i.zero with
          |some z=>bif Nat.blt d n&&EX l c then some (.int .i64 m,z.cells.toList,i.bytes,i.size,d) else none
          |_=>none
        |none=>none
      |_,_=>none
    |_,_,_=>none
  |none=>none
theorem al5 {α:Type} [GT α] (kS:List Value) (fB:kS.length=GT.width α) (m:Nat) (b:Nat) (T:TypeId) (w:World) (hw:w.heap[b]? =some (.cells ((Array.range (m*GT.width α)).map (kS.toArray[· % kS.toArray.size]!)) T (0,0))) (i:Nat) (hi:i<m):
    k6 w b (0+i*GT.width α) kS:=by
  intro j v bJ
  have qh:j<GT.width α:=by rw [←fB];exact(List.getElem?_eq_some_iff.1 bJ).1
  have fs:i*GT.width α+j<m*GT.width α:=by
    have:=Nat.mul_le_mul_right (GT.width α) (show i+1<=m from hi)
    rw [Nat.add_mul] at this;omega
  simp only [World.cell?,hw,Nat.zero_add,Option.isSome_none,Bool.false_eq_true,if_false]
  rw [Array.getElem?_map,Array.getElem?_range]
  simp only [fs,if_true,Option.map_some,Option.some.injEq]
  have DB:(i*GT.width α+j) % GT.width α=j:=by rw [Nat.mul_comm,Nat.mul_add_mod];exact Nat.mod_eq_of_lt qh
  simp only [List.size_toArray,fB,DB]
  simp [bJ]
theorem run_make {t e:TypeId} {info:TypeInfo} {z:Value} {m:Nat} (bC:P.underlying t=some (.slice e)) (hi:P.info? e=some info) (fB:info.zero=some z) (hb:info.bytes*m<=281474976710656) (hm:m<=9223372036854775807) (w:World)
    (hs:0<info.size) (yl:z.cells.size=info.size):
    (Instr.makeSlice t (R m) (R m)).run P w= .ok (.slice (some ⟨w.heap.size,0,none⟩) m m) {w with heap:=w.heap.push (.cells ((Array.range (m*info.size)).map (z.cells[· % z.cells.size]!)) e)}:=by
  unfold Instr.makeSlice
  have hw:IntKind.i64.wrap (m:Int)=m:=u2 ⟨by omega,by omega⟩
  have h1:¬((m:Int)<0):=by omega
  have ah:¬((info.bytes:Int)*m>2 ^ 48):=by
    have:((info.bytes*m:Nat):Int)<=(281474976710656:Nat):=Int.ofNat_le.2 hb
    simp only [Int.natCast_mul] at this
    omega
  have hzero:(zeroValue e).run P w= .ok z w:=by simp [zeroValue,typeInfo,hi,fB]
  simp only [Sem.run_bind,run_underlying bC,Result.andThen_ok,asInt,asIntOf,Sem.run_pure,typeInfo,run_program,hi,hw,h1,ah,decide_false,Bool.or_self,Bool.false_eq_true,Int.lt_irrefl,gt_iff_lt,if_false,Int.toNat_natCast]
  have Jm:∀k:Nat,(askRoom k).run P w= .ok () w:=fun k=>by
    unfold askRoom;split<;>rfl
  simp only [Jm,Result.andThen_ok,sizeOf,typeInfo,Sem.run_bind,run_program,hi,Sem.run_pure]
  by_cases h0:m*info.size=0
  · have:m=0:=by
      rcases Nat.mul_eq_zero.1 h0 with h|h
      · exact h
      · omega
    subst this
    have bo:Array.range 0=#[]:=rfl
    simp [newRow,bo]
  · simp only [h0,if_false,Sem.run_bind,hzero,Result.andThen_ok,Sem.run_pure,newRow,run_newObj]
theorem aj.make {α:Type} [GT α] (S:aj P n w0 M u N β σ a w) {i:Nat} {m by':Nat} {d:Tmp} (hop:Kx P n ops i σ=some (R m,GT.cells (GT.dE:α) GT.bL,by',GT.width α,d)) (hb:by'*m<=281474976710656) (hm:m<=bz)
    (K:∀aD w' aH q F,aj P n w0 M w' aH β ⟨(d,.v (ab m q.1))::σ.env,σ.ay⟩ aD w'->(∀b,N b->aH b/\w'.heap[b]? =u.heap[b]?)->
      ai w0 M w' aH F (List.replicate m (GT.dE:α)) q->J N F->cS aD w'):wpOp P ops Q i cS a w:=by
  unfold Kx at hop
  split at hop
  · rename_i o bD
    have j9:ops[i]? =some o:=by simpa using bD
    split at hop
    · rename_i t l c m7 aJ ss hd
      split at hop
      · rename_i e hf hu hx
        split at hop
        · rename_i info x7
          split at hop
          · rename_i z fB
            cases lj:(Nat.blt m7 n&&EX l c) with
            |false=>rw [lj] at hop;cases hop
            |true=>
                  rw [lj] at hop
                  simp only [Bool.and_eq_true] at lj
                  obtain⟨aec,Jr⟩:=lj
                  have hy:=hx
                  rw [akY (σ:=σ) Jr] at hy
                  simp only [cond_true,Option.some.injEq,Prod.mk.injEq,Value.int.injEq,true_and] at hop
                  obtain⟨rfl,Sb,rfl,ho,rfl⟩:=hop
                  have yl:z.cells.size=info.size:=by
                    have:=GT.len (GT.dE:α) GT.bL
                    rw [←Sb] at this
                    rw [ho];simpa using this
                  have oC:=run_make (P:=P) hu x7 fB hb (by unfold bz at hm;omega) w (by rw [ho];exact GT.jG) yl
                  refine va.step j9 (ma S aJ) ?_
                  have hex:(execOp a.eval o).run P w= .ok (.value (.slice (some ⟨w.heap.size,0,none⟩) m m)) {w with heap:=w.heap.push (.cells ((Array.range (m*info.size)).map (z.cells[· % z.cells.size]!)) e)}:=by
                    unfold execOp
                    simp only [ss,S.get hx,S.get hy]
                    show(do pure (.value (←Instr.makeSlice t (R m) (R m))):Sem Next).run P w=_
                    rw [Sem.run_bind,oC]
                    rfl
                  unfold Oper.wp
                  rw [hex]
                  simp only [Oper.upon,hd]
                  have ez:bX aa w {w with heap:=w.heap.push (.cells ((Array.range (m*info.size)).map (z.cells[· % z.cells.size]!)) e)}:=bX.push aa w _
                  have kt:({w with heap:=w.heap.push (.cells ((Array.range (m*info.size)).map (z.cells[· % z.cells.size]!)) e)}:World).heap[w.heap.size]? =some (.cells ((Array.range (m*info.size)).map (z.cells[· % z.cells.size]!)) e):=by simp
                  refine K _ _ _ (⟨false,w.heap.size,0,m,none⟩,fun _=>GT.bL) (ky w.heap.size _) (S.after aec ez) (S.up ez) ⟨?_,fun _ h=> .inr h,fun _ h=> .inl (Nat.le_trans S.ed.size h.1)⟩ (J.fresh S _ fun _ h=>h)
                  have ks:∀k,k<m->el (List.replicate m (GT.dE:α)) k=GT.dE:=fun k hk=>by simp [el,hk]
                  refine⟨by simpa using hm,by simp,by unfold bz at hm;simp;omega,fun h=>(by cases h),fun _=>⟨⟨Nat.le_refl _,by simp⟩,_,e,kt,by simp [ho]⟩,fun k hk=>?_,fun _=>aa,fun k hk=>?_,fun _ _ b et=>et.elim,fun _ _ _ _ _ b et=>et.elim⟩
                  · simp only [List.length_replicate] at hk
                    rw [ks k hk]
                    have bA:z.cells=(GT.cells (GT.dE:α) GT.bL).toArray:=by rw [←Sb]
                    refine al5 (α:=α) _ (GT.len _ _) m w.heap.size e _ ?_ k hk
                    rw [kt,bA,ho]
                  · simp only [List.length_replicate] at hk
                    rw [ks k hk]
                    exact GT.gu _ _ _
          · cases hop
        · cases hop
      · cases hop
    · cases hop
  · cases hop
end
end Go.Proofs.YtmeoackmjdoecaaGreat
namespace Go.Proofs.YtmeoackmjdoecaaGreat
open Go
section
variable {P:Program} {n:Nat} {w0:World} {M:aw} {u:World} {N:aw} {β:Nat->Nat} {σ σ':bw} {a:Act} {w:World} {ops:Array Oper} {Q:Exit->Act->World->Prop} {cS:Act->World->Prop}
def qC (ops:Array Oper) (i:Nat) (σ:bw):Option (TypeId×Value×Value):=
  match ops.toList[i]? with
  |some o=>
    match nh ops σ o,o.op,o.dst with
    |some true,.store t x y,none=>
      match σ.get x,σ.get y with
      |some (.v a),some (.v v)=>some (t,a,v)
      |_,_=>none
    |_,_,_=>none
  |none=>none
theorem ald (S:aj P n w0 M u N β σ a w) {i:Nat} {t:TypeId} {b o:Nat} {v:Value} {cs:Array Value} {T:TypeId} (hop:qC ops i σ=some (t,aM b o,v)) (hs:jl P t=some v.cells.toList.length) (hpl:v.cells.toList.all (·.oneCell')=true)
    (hb:w.heap[b]? =some (.cells cs T (0,0))) (hle:o+v.cells.toList.length<=cs.size)
    (h:cS a (w.setRow b (cs.toList.take o++v.cells.toList++cs.toList.drop (o+v.cells.toList.length)).toArray)):wpOp P ops Q i cS a w:=by
  unfold qC at hop
  split at hop
  · rename_i uI bD
    have j9:ops[i]? =some uI:=by simpa using bD
    split at hop
    · rename_i BR x y aJ ss hd
      split at hop
      · rename_i gI Fl hx hy
        simp only [Option.some.injEq,Prod.mk.injEq] at hop
        obtain⟨rfl,rfl,rfl⟩:=hop
        refine va.step j9 (ma S aJ) ?_
        have oC:=run_storeCells_at (P:=P) b o T Fl.cells.toList 0 cs w hb (by simp at hle ⊢;exact hle) (fun z fB=>List.all_eq_true.1 hpl z fB)
        simp only [Nat.add_zero] at oC
        have hex:(execOp a.eval uI).run P w= .ok .skip (w.setRow b (cs.toList.take o++Fl.cells.toList++cs.toList.drop (o+Fl.cells.toList.length)).toArray):=by
          unfold execOp
          simp only [ss,S.get hx,S.get hy]
          show(do Instr.storeAt BR (aM b o) Fl;pure .skip:Sem Next).run P w=_
          rw [Sem.run_bind]
          simp only [Instr.storeAt,Instr.sureAddr,Sem.run_bind,Sem.run_pure,Result.andThen_ok,storeVar,uW hs]
          rw [if_neg (by simp),oC]
          rfl
        unfold Oper.wp
        rw [hex]
        simp only [Oper.upon,hd]
        exact h
      · cases hop
    · cases hop
  · cases hop
theorem E6 (l dx:List Value) (o i:Nat) (h:o+dx.length<=l.length):(l.take o++dx++l.drop (o+dx.length))[i]? =if i<o then l[i]? else if i<o+dx.length then dx[i-o]? else l[i]? :=by
  have hl:(l.take o).length=o:=by simp;omega
  by_cases h1:i<o
  · rw [if_pos h1,List.append_assoc,List.getElem?_append_left (by omega),List.getElem?_take,if_pos h1]
  · rw [if_neg h1]
    by_cases ah:i<o+dx.length
    · rw [if_pos ah,List.append_assoc,List.getElem?_append_right (by omega),hl,List.getElem?_append_left (by omega)]
    · rw [if_neg ah,List.append_assoc,List.getElem?_append_right (by omega),hl,List.getElem?_append_right (by omega),List.getElem?_drop]
      congr 1
      omega
theorem jJ {α:Type} [GT α] (xs:List α) (k i:Nat) (y:α) (hk:k<xs.length):el (xs.set k y) i=if i=k then y else el xs i:=by
  unfold el
  simp only [List.getD_eq_getElem?_getD,List.getElem?_set]
  by_cases h:i=k
  · subst h;simp [hk]
  · rw [if_neg (fun e=>h e.symm),if_neg h]
theorem jU.A0 {α:Type} [GT α] {K:Nat} {F:aw} {w:World} {xs:List α} {p:af α} (h:jU K F w xs p) (hl:0<p.1.cap):p.1.nil=false:=by
  cases bc:p.1.nil with
  |false=>rfl
  |true=>have:=h.null bc;omega
theorem aj.qz {α:Type} [GT α] {xs:List α} {p:af α} {F Fy:aw} (S:aj P n w0 M u N β σ a w) (hx:ai w0 M u N F xs p) {i k j off:Nat} {t:TypeId} {v:Value} {y:α} {q:GT.Ptr α} (hop:qC ops i σ=some (t,aM p.1.b off,v))
    (hoff:off=p.1.off+k*GT.width α+j) (hk:k<xs.length) (hs:jl P t=some v.cells.toList.length) (hpl:v.cells.toList.all (·.oneCell')=true) (hjw:j+v.cells.toList.length<=GT.width α)
    (hc:GT.cells y q=(GT.cells (el xs k) (p.2 k)).take j++v.cells.toList++(GT.cells (el xs k) (p.2 k)).drop (j+v.cells.toList.length))
    (hy:∀G,GT.own bz G u (el xs k) (p.2 k)->(∀b,G b->F b)->∃hT,GT.own bz hT u y q/\∀b,hT b->G b\/Fy b) (hd:J F Fy) (hyN:∀b,Fy b->N b) (hyY:∀b,Fy b->w0.heap.size<=b\/M b)
    (K:∀w' aH b1,aj P n w0 M w' aH β σ a w'->(∀b,N b->¬F b->aH b/\w'.heap[b]? =u.heap[b]?)->
      ai w0 M w' aH b1 (xs.set k y) ((p.1,fun i=>if i=k then q else p.2 i):af α)->(∀G:aw,J G F->J G Fy->(∀b,G b->N b)->J G b1)->(∀b,b1 b->F b\/Fy b)->(∀b,N b->aH b)->cS a w'):wpOp P ops Q i cS a w:=by
  have bD:jU bz F u xs p:=hx.own
  have vP:=bD.cap
  have ph:p.1.nil=false:=bD.A0 (by omega)
  obtain⟨eb,cs,T,kt,ho⟩:=bD.row ph
  obtain⟨fs,v7,_⟩:=S.sep _ (hx.sub _ eb)
  have AI:w.heap[p.1.b]? =some (.cells cs T (0,0)):=v7.trans kt
  have hmul:(k+1)*GT.width α<=p.1.cap*GT.width α:=Nat.mul_le_mul_right _ (by omega)
  rw [Nat.add_mul,Nat.one_mul] at hmul
  have hle:off+v.cells.toList.length<=cs.size:=by omega
  refine ald S hop hs hpl AI hle ?_
  have qi:=setRow_heap w p.1.b cs (cs.toList.take off++v.cells.toList++cs.toList.drop (off+v.cells.toList.length)).toArray T (0,0) AI
  have ua:∀b,b≠p.1.b->(w.setRow p.1.b (cs.toList.take off++v.cells.toList++cs.toList.drop (off+v.cells.toList.length)).toArray).heap[b]? =w.heap[b]? :=fun b hb=>by
    simp only [World.setRow,Array.getElem?_modify]
    rw [if_neg (fun e=>hb e.symm)]
  have yh:(w.setRow p.1.b (cs.toList.take off++v.cells.toList++cs.toList.drop (off+v.cells.toList.length)).toArray).heap.size=w.heap.size:=by simp [World.setRow]
  generalize oD:w.setRow p.1.b (cs.toList.take off++v.cells.toList++cs.toList.drop (off+v.cells.toList.length)).toArray=w' at*
  have ez:bX F w w':=by
    subst oD
    exact⟨rfl,rfl,rfl,by rw [yh];exact Nat.le_refl _,fun b _ bc=>ua b (fun e=>bc (e▸eb))⟩
  have k2:∀pos,w'.cell? ⟨p.1.b,pos,none⟩=if pos<off then cs[pos]? else if pos<off+v.cells.toList.length then v.cells.toList[pos-off]? else cs[pos]? :=fun pos=>by
    simp only [World.cell?,qi,Option.isSome_none,Bool.false_eq_true,if_false]
    have:=E6 cs.toList v.cells.toList off pos (by simpa using hle)
    simpa using this
  have hold:∀pos x,u.cell? ⟨p.1.b,pos,none⟩=some x->cs[pos]? =some x:=fun pos x h=>by
    simpa [World.cell?,kt] using h
  refine K w' _ (Or F Fy) (S.qT ez hx.sub hx.cU) (S.bp ez) ⟨?_,fun b hb=> .inl (hb.elim (hx.sub b) (hyN b)),fun b hb=>hb.elim (hx.cU b) (hyY b)⟩ (fun G cW bM _ b hb h=>h.elim (cW b hb) (bM b hb)) (fun _ h=>h) (fun _ h=> .inl h)
  obtain⟨G,cW,bM,c3⟩:=bD.el
  obtain⟨hT,acb,gs⟩:=hy (G k) (cW k hk) (fun b hb=>(bM k hk b hb).1)
  have tW:∀b,F b->b≠p.1.b->w'.heap[b]? =u.heap[b]? :=fun b hb gD=>(ua b gD).trans (S.sep b (hx.sub b hb)).2.1
  have ad0:∀b,Fy b->w'.heap[b]? =u.heap[b]? :=fun b hb=>(ua b (fun e=>hd _ (e▸eb) hb)).trans (S.sep b (hyN b hb)).2.1
  refine⟨by rw [List.length_set];exact bD.le,by rw [List.length_set];exact bD.cap,bD.o4,bD.null,fun _=>⟨.inl eb,_,T,qi,?_⟩,fun i hi=>?_,fun i=>if i=k then hT else G i,fun i hi=>?_,fun i hi b hb=>?_,fun i AL hi h9 gD=>?_⟩
  · have:(cs.toList.take off++v.cells.toList++cs.toList.drop (off+v.cells.toList.length)).toArray.size=cs.size:=by simp at hle ⊢;omega
    rw [this];exact ho
  · rw [List.length_set] at hi
    rw [jJ _ _ _ _ hk]
    by_cases e:i=k
    · subst e
      simp only [if_true]
      intro z x fB
      have yl:z<GT.width α:=by
        have:=(List.getElem?_eq_some_iff.1 fB).1
        rwa [GT.len] at this
      rw [hc,E6 _ _ _ _ (by rw [GT.len];exact hjw)] at fB
      rw [k2]
      by_cases Fm:z<j
      · rw [if_pos Fm] at fB
        rw [if_pos (by omega)]
        exact hold _ _ (bD.cell i hk z x fB)
      · rw [if_neg Fm] at fB
        rw [if_neg (by omega)]
        by_cases Vg:z<j+v.cells.toList.length
        · rw [if_pos Vg] at fB
          rw [if_pos (by omega),←fB]
          congr 1
          omega
        · rw [if_neg Vg] at fB
          rw [if_neg (by omega)]
          exact hold _ _ (bD.cell i hk z x fB)
    · simp only [e,if_false]
      intro z x fB
      have yl:z<GT.width α:=by
        have:=(List.getElem?_eq_some_iff.1 fB).1
        rwa [GT.len] at this
      have h1:=hold _ _ (bD.cell i hi z x fB)
      rw [k2]
      rcases Nat.lt_or_gt_of_ne e with h|h
      · have:=Nat.mul_le_mul_right (GT.width α) (show i+1<=k from h)
        rw [Nat.add_mul,Nat.one_mul] at this
        rw [if_pos (by omega)]
        exact h1
      · have:=Nat.mul_le_mul_right (GT.width α) (show k+1<=i from h)
        rw [Nat.add_mul,Nat.one_mul] at this
        rw [if_neg (by omega),if_neg (by omega)]
        exact h1
  · rw [List.length_set] at hi
    rw [jJ _ _ _ _ hk]
    by_cases e:i=k
    · subst e
      simp only [if_true]
      exact GT.c7 acb fun b hb _=>by
        rcases gs b hb with h|h
        · obtain⟨h1,ah⟩:=bM i hk b h
          exact tW b h1 ah
        · exact ad0 b h
    · simp only [e,if_false]
      exact GT.c7 (cW i hi) fun b hb _=>tW b (bM i hi b hb).1 (bM i hi b hb).2
  · rw [List.length_set] at hi
    by_cases e:i=k
    · subst e
      simp only [if_true] at hb
      rcases gs b hb with h|h
      · exact⟨.inl (bM i hk b h).1,(bM i hk b h).2⟩
      · exact⟨.inr h,fun e=>hd _ (e▸eb) h⟩
    · simp only [e,if_false] at hb
      exact⟨.inl (bM i hi b hb).1,(bM i hi b hb).2⟩
  · rw [List.length_set] at hi h9
    intro b hb et
    by_cases e:i=k
    · by_cases hX:AL=k
      · exact gD (e.trans hX.symm)
      · simp only [e,if_true] at hb
        simp only [hX,if_false] at et
        rcases gs b hb with h|h
        · exact c3 k AL hk h9 (fun q=>hX q.symm) b h et
        · exact hd b (bM AL h9 b et).1 h
    · by_cases hX:AL=k
      · simp only [e,if_false] at hb
        simp only [hX,if_true] at et
        rcases gs b et with h|h
        · exact c3 i k hi hk e b hb h
        · exact hd b (bM i hi b hb).1 h
      · simp only [e,hX,if_false] at hb et
        exact c3 i AL hi h9 gD b hb et
theorem aj.L7 {α:Type} [GT α] {xs:List α} {p:af α} {F Fy:aw} (S:aj P n w0 M u N β σ a w) (hx:ai w0 M u N F xs p) {i k j off:Nat} {t:TypeId} {v:Value} {y:α} {q:GT.Ptr α} (hop:qC ops i σ=some (t,aM p.1.b off,v))
    (hoff:off=p.1.off+k*GT.width α+j) (hk:k<xs.length) (hs:jl P t=some v.cells.toList.length) (hpl:v.cells.toList.all (·.oneCell')=true) (hjw:j+v.cells.toList.length<=GT.width α)
    (hc:GT.cells y q=(GT.cells (el xs k) (p.2 k)).take j++v.cells.toList++(GT.cells (el xs k) (p.2 k)).drop (j+v.cells.toList.length))
    (hy:∀G,GT.own bz G u (el xs k) (p.2 k)->(∀b,G b->F b)->∃hT,GT.own bz hT u y q/\∀b,hT b->G b\/Fy b) (hd:J F Fy) (hyN:∀b,Fy b->N b) (hyY:∀b,Fy b->w0.heap.size<=b\/M b)
    (K:∀w' aH b1 cp,aj P n w0 M w' aH β σ a w'->(∀b,N b->¬F b->aH b/\w'.heap[b]? =u.heap[b]?)->
      ai w0 M w' aH b1 (xs.set k y) (p.1,cp)->(∀G:aw,J G F->J G Fy->(∀b,G b->N b)->J G b1)->(∀b,b1 b->F b\/Fy b)->(∀b,N b->aH b)->cS a w'):wpOp P ops Q i cS a w:=
  S.qz hx hop hoff hk hs hpl hjw hc hy hd hyN hyY fun w' aH b1=>K w' aH b1 _
theorem aj.EW {α:Type} [GT α] {xs:List α} {p:af α} {F Fy:aw} (S:aj P n w0 M u N β σ a w) (hx:ai w0 M u N F xs p) {i k j off:Nat} {t:TypeId} {v:Value} {y:α} {q:GT.Ptr α}
    (hy:∀G,GT.own bz G u (el xs k) (p.2 k)->(∀b,G b->F b)->∃hT,GT.own bz hT u y q/\∀b,hT b->G b\/Fy b) (hd:J F Fy) (hyN:∀b,Fy b->N b) (hyY:∀b,Fy b->w0.heap.size<=b\/M b)
    (K:∀w' aH b1 cp,aj P n w0 M w' aH β σ a w'->(∀b,N b->¬F b->aH b/\w'.heap[b]? =u.heap[b]?)->
      ai w0 M w' aH b1 (xs.set k y) (p.1,cp)->(∀G:aw,J G F->J G Fy->(∀b,G b->N b)->J G b1)->(∀b,b1 b->F b\/Fy b)->(∀b,N b->aH b)->cS a w')
    (hop:qC ops i σ=some (t,aM p.1.b off,v):=by kernel_rfl) (hoff:off=p.1.off+k*GT.width α+j:=by kernel_rfl) (hk:k<xs.length:=by omega) (hs:jl P t=some v.cells.toList.length:=by kernel_rfl) (hpl:v.cells.toList.all (·.oneCell')=true:=by kernel_rfl) (hjw:Nat.ble (j+v.cells.toList.length) (GT.width α)=true:=by kernel_rfl)
    (hc:GT.cells y q=(GT.cells (el xs k) (p.2 k)).take j++v.cells.toList++(GT.cells (el xs k) (p.2 k)).drop (j+v.cells.toList.length):=by kernel_rfl):wpOp P ops Q i cS a w:=
  S.L7 hx hop hoff hk hs hpl (Nat.le_of_ble_eq_true hjw) hc hy hd hyN hyY K
theorem aj.BH {α:Type} [GT α] {xs:List α} {p:af α} {F:aw} (S:aj P n w0 M u N β σ a w) (hx:ai w0 M u N F xs p) {i k j off:Nat} {t:TypeId} {v:Value} {y:α} {q:GT.Ptr α}
    (hy:∀G,GT.own bz G u (el xs k) (p.2 k)->(∀b,G b->F b)->∃hT,GT.own bz hT u y q/\∀b,hT b->G b\/aa b)
    (K:∀w' aH b1 cp,aj P n w0 M w' aH β σ a w'->(∀b,N b->¬F b->aH b/\w'.heap[b]? =u.heap[b]?)->
      ai w0 M w' aH b1 (xs.set k y) (p.1,cp)->(∀G:aw,J G F->J G aa->(∀b,G b->N b)->J G b1)->(∀b,b1 b->F b\/aa b)->(∀b,N b->aH b)->cS a w')
    (hop:qC ops i σ=some (t,aM p.1.b off,v):=by kernel_rfl) (hoff:off=p.1.off+k*GT.width α+j:=by kernel_rfl) (hk:k<xs.length:=by omega) (hs:jl P t=some v.cells.toList.length:=by kernel_rfl) (hpl:v.cells.toList.all (·.oneCell')=true:=by kernel_rfl) (hjw:Nat.ble (j+v.cells.toList.length) (GT.width α)=true:=by kernel_rfl)
    (hc:GT.cells y q=(GT.cells (el xs k) (p.2 k)).take j++v.cells.toList++(GT.cells (el xs k) (p.2 k)).drop (j+v.cells.toList.length):=by kernel_rfl):wpOp P ops Q i cS a w:=
  S.L7 hx hop hoff hk hs hpl (Nat.le_of_ble_eq_true hjw) hc hy (fun _ _ h=>False.elim h) (fun _ h=>False.elim h) (fun _ h=>False.elim h) K
theorem aj.n4 {α:Type} [GT α] {xs:List α} {p:af α} {F Fy:aw} (S:aj P n w0 M u N β σ a w) (hx:ai w0 M u N F xs p) {i k off:Nat} {t:TypeId} {y:α} {q:GT.Ptr α} (hy:ai w0 M u N Fy y q) (hd:J F Fy)
    (K:∀w' aH b1 cp,aj P n w0 M w' aH β σ a w'->(∀b,N b->¬F b->aH b/\w'.heap[b]? =u.heap[b]?)->
      ai w0 M w' aH b1 (xs.set k y) (p.1,cp)->(∀G:aw,J G F->J G Fy->(∀b,G b->N b)->J G b1)->(∀b,b1 b->F b\/Fy b)->(∀b,N b->aH b)->cS a w')
    (hop:qC ops i σ=some (t,aM p.1.b off,GT.val y q):=by kernel_rfl) (hoff:off=p.1.off+k*GT.width α+0:=by kernel_rfl) (hk:k<xs.length:=by omega) (hs:jl P t=some (GT.val y q).cells.toList.length:=by kernel_rfl) (hpl:(GT.val y q).cells.toList.all (·.oneCell')=true:=by kernel_rfl) (hjw:Nat.ble (0+(GT.val y q).cells.toList.length) (GT.width α)=true:=by kernel_rfl)
    (hc:GT.cells y q=(GT.cells (el xs k) (p.2 k)).take 0++(GT.val y q).cells.toList++(GT.cells (el xs k) (p.2 k)).drop (0+(GT.val y q).cells.toList.length):=by kernel_rfl):wpOp P ops Q i cS a w:=
  S.L7 hx hop hoff hk hs hpl (Nat.le_of_ble_eq_true hjw) hc (fun _ _ _=>⟨Fy,hy.own,fun _ h=> .inr h⟩) hd hy.sub hy.cU K
end
end Go.Proofs.YtmeoackmjdoecaaGreat
namespace Go.Proofs.YtmeoackmjdoecaaGreat
open Go
section
variable {P:Program} {n:Nat} {w0:World} {M:aw} {u:World} {N:aw} {β:Nat->Nat} {σ σ':bw} {a:Act} {w:World} {ops:Array Oper} {Q:Exit->Act->World->Prop} {cS:Act->World->Prop}
def rowOf (s:Nat):Nat->List (Nat×Value)->Option (List Value)
  |_,[]=>some []
  |k,(i,v)::r=>bif Nat.beq i k&&Nat.beq v.cells.toList.length s then(rowOf s (k+1) r).map fun l=>v.cells.toList++l else none
theorem Pz (off:Nat):∀(l:List Value) (j:Nat) (pre x wJ:List Value),pre.length=off+j->x.length=l.length->
    (l.zipIdx j).foldl (fun(cs:Array Value) (c:Value×Nat)=>cs.setIfInBounds (off+c.2) c.1) (pre++x++wJ).toArray=(pre++l++wJ).toArray
  |
    [],j,pre,x,wJ,h1,ah=>by
    have:x=[]:=List.length_eq_zero_iff.1 (by simpa using ah)
    subst this;simp
  |v::l,j,pre,x,wJ,h1,ah=>by
    match x,ah with
    |y::gI,ah=>
      simp only [List.zipIdx_cons,List.foldl_cons]
      have e:((pre++y::gI++wJ).toArray.setIfInBounds (off+j) v)=((pre++[v])++gI++wJ).toArray:=by
        simp only [List.setIfInBounds_toArray]
        congr 1
        rw [List.append_assoc,List.set_append_right _ _ (by omega),h1]
        simp
      rw [e,Pz off l (j+1) (pre++[v]) gI wJ (by simp;omega) (by simpa using ah)]
      simp
theorem Pq (s:Nat):∀(l:List (Nat×Value)) (k:Nat) (row pre rest:List Value),rowOf s k l=some row->pre.length=k*s->rest.length=l.length*s->
    Instr.fill (fun i=>some (i*s,s)) (pre++rest).toArray l=some (pre++row).toArray
  |
    [],k,row,pre,rest,h,h1,ah=>by
    simp only [rowOf,Option.some.injEq] at h
    subst h
    have:rest=[]:=List.length_eq_zero_iff.1 (by simpa using ah)
    subst this
    simp [Instr.fill]
  |(i,v)::r,k,row,pre,rest,h,h1,ah=>by
    simp only [rowOf] at h
    cases hb:(Nat.beq i k&&Nat.beq v.cells.toList.length s) with
    |false=>rw [hb] at h;cases h
    |true=>
      rw [hb] at h
      simp only [Bool.and_eq_true] at hb
      have bA:i=k:=Nat.eq_of_beq_eq_true hb.1
      have bt:v.cells.toList.length=s:=Nat.eq_of_beq_eq_true hb.2
      subst bA
      simp only [cond_true] at h
      cases bo:rowOf s (i+1) r with
      |none=>rw [bo] at h;cases h
      |some yQ=>
        rw [bo] at h
        simp only [Option.map_some,Option.some.injEq] at h
        subst h
        have hlen:rest.length=s+r.length*s:=by rw [ah,List.length_cons,Nat.add_mul,Nat.one_mul,Nat.add_comm]
        have hs:v.cells.size=s:=by simpa using bt
        unfold Instr.fill
        have c:(v.cells.size≠s||decide (i*s+v.cells.size>(pre++rest).toArray.size))=false:=by
          simp [hs,h1,hlen]
        simp only [c,Bool.false_eq_true,if_false]
        have bm:v.cells.zipIdx.foldl (fun(cs:Array Value) (x:Value×Nat)=>cs.setIfInBounds (i*s+x.2) x.1) (pre++rest).toArray=(pre++v.cells.toList++rest.drop s).toArray:=by
          rw [←Array.foldl_toList,Array.toList_zipIdx]
          have:=Pz (i*s) v.cells.toList 0 pre (rest.take s) (rest.drop s) (by omega) (by simp;omega)
          simpa using this
        have:=Pq s r (i+1) yQ (pre++v.cells.toList) (rest.drop s) bo (by simp [Nat.add_mul,h1] at bt ⊢;omega) (by simp;omega)
        have fm:(fun(cs:Array Value) (x:Value×Nat)=>match x with|(c,j)=>cs.setIfInBounds (i*s+j) c)=fun cs x=>cs.setIfInBounds (i*s+x.2) x.1:=by
          funext cs x;rfl
        rw [fm,bm,this]
        simp
def tl (P:Program) (n:Nat) (ops:Array Oper) (i:Nat) (σ:bw):Option (List Value×Nat×Tmp):=
  match ops.toList[i]? with
  |some o=>
    match nh ops σ o,o.op,o.dst with
    |some true,.buildSlice t len parts,some d=>
      match P.underlying t with
      |some (.slice e)=>
        match P.info? e with
        |some info=>
          match info.zero,tT σ parts.toList with
          |some z,some l=>bif Nat.blt d n&&Nat.beq z.cells.toList.length info.size&&Nat.beq l.length len&&Nat.ble (len*info.size) 16777216&&Nat.blt 0 info.size then(rowOf info.size 0 l).map fun r=>(r,len,d) else none
          |_,_=>none
        |none=>none
      |_=>none
    |_,_,_=>none
  |none=>none
theorem aj.cF (S:aj P n w0 M u N β σ a w) {i:Nat} {row:List Value} {m:Nat} {d:Tmp} (hop:tl P n ops i σ=some (row,m,d))
    (K:∀aD w' T,aj P n w0 M w' (Or N (ky w.heap.size w'.heap.size)) β ⟨(d,.v (ab m ⟨false,w.heap.size,0,m,none⟩))::σ.env,σ.ay⟩ aD w'->(∀b,N b->Or N (ky w.heap.size w'.heap.size) b/\w'.heap[b]? =u.heap[b]?)->
      w'.heap[w.heap.size]? =some (.cells row.toArray T (0,0))->w'.heap.size=w.heap.size+1->cS aD w'):wpOp P ops Q i cS a w:=by
  unfold tl at hop
  split at hop
  · rename_i o bD
    have j9:ops[i]? =some o:=by simpa using bD
    split at hop
    · rename_i t len parts m7 aJ ss hd
      split at hop
      · rename_i e hu
        split at hop
        · rename_i info x7
          split at hop
          · rename_i z l fB hl
            cases lj:(Nat.blt m7 n&&Nat.beq z.cells.toList.length info.size&&Nat.beq l.length len&&Nat.ble (len*info.size) 16777216&&Nat.blt 0 info.size) with
            |false=>rw [lj] at hop;cases hop
            |true=>
              rw [lj] at hop
              simp only [cond_true] at hop
              simp only [Bool.and_eq_true] at lj
              obtain⟨⟨⟨⟨bd,fl⟩,jX⟩,o2⟩,a3⟩:=lj
              have bt:z.cells.toList.length=info.size:=Nat.eq_of_beq_eq_true fl
              have fm:l.length=len:=Nat.eq_of_beq_eq_true jX
              have vu:len*info.size<=16777216:=Nat.le_of_ble_eq_true o2
              have O4:0<info.size:=Nat.le_of_ble_eq_true a3
              cases bo:rowOf info.size 0 l with
              |none=>rw [bo] at hop;cases hop
              |some yQ=>
                rw [bo] at hop
                simp only [Option.map_some,Option.some.injEq,Prod.mk.injEq] at hop
                obtain⟨rfl,rfl,rfl⟩:=hop
                refine va.step j9 (ma S aJ) ?_
                have ae0:(parts.map fun(i,x)=>(i,a.eval x))=l.toArray:=by
                  rw [←Array.toList_inj]
                  simpa using Hp S _ _ hl
                have hzero:(zeroValue e).run P w= .ok z w:=by simp [zeroValue,typeInfo,x7,fB]
                have Rj:∀Cn:Array Value,Cn.size=len*info.size->Instr.fill (fun i=>some (i*info.size,info.size)) Cn l=some yQ.toArray:=fun Cn hc=>by
                  have:=Pq info.size l 0 yQ [] Cn.toList bo (by simp) (by rw [fm];simpa using hc)
                  simpa using this
                have hex:(execOp a.eval o).run P w= .ok (.value (.slice (some ⟨w.heap.size,0,none⟩) len len)) {w with heap:=w.heap.push (.cells yQ.toArray e)}:=by
                  unfold execOp
                  simp only [ss]
                  show(do pure (.value (←Instr.buildSlice t len (parts.map fun(i,x)=>(i,a.eval x)))):Sem Next).run P w=_
                  rw [ae0]
                  unfold Instr.buildSlice
                  have bc:¬(len*info.size>2 ^ 24):=by omega
                  simp only [Sem.run_bind,run_underlying hu,Result.andThen_ok,sizeOf,typeInfo,run_program,x7,Sem.run_pure]
                  simp only [bc,if_false]
                  by_cases h0:len*info.size=0
                  · simp only [h0,if_true,Sem.run_bind,Sem.run_pure,Result.andThen_ok]
                    rw [Rj _ (by simp [h0])]
                    simp [newRow]
                  · simp only [h0,if_false,Sem.run_bind,hzero,Sem.run_pure,Result.andThen_ok]
                    rw [Rj _ (by simp)]
                    simp [newRow]
                unfold Oper.wp
                rw [hex]
                simp only [Oper.upon,hd]
                have ez:bX aa w {w with heap:=w.heap.push (.cells yQ.toArray e)}:=bX.push aa w _
                exact K _ _ e (S.after bd ez) (S.up ez) (by simp) (by simp)
          · cases hop
        · cases hop
      · cases hop
    · cases hop
  · cases hop
theorem aj.jq {α:Type} [GT α] (S:aj P n w0 M u N β σ a w) {i:Nat} {d:Tmp} (hop:tl P n ops i σ=some ([],0,d))
    (K:∀aD w' aH q F,aj P n w0 M w' aH β ⟨(d,.v (ab 0 q.1))::σ.env,σ.ay⟩ aD w'->(∀b,N b->aH b/\w'.heap[b]? =u.heap[b]?)->
      ai w0 M w' aH F ([]:List α) q->J N F->cS aD w'):wpOp P ops Q i cS a w:=by
  refine S.cF hop fun aD w' T bT up kt ho=>K aD w' _ (⟨false,w.heap.size,0,0,none⟩,fun _=>GT.bL) (ky w.heap.size w'.heap.size) bT up ⟨?_,fun _ h=> .inr h,fun _ h=> .inl (Nat.le_trans S.ed.size h.1)⟩ (J.fresh S w' fun _ h=>h)
  exact⟨Nat.zero_le _,Nat.zero_le _,Nat.zero_le _,fun h=>(by cases h),fun _=>⟨⟨Nat.le_refl _,(by show w.heap.size<w'.heap.size;omega)⟩,_,T,kt,by simp⟩,fun i hi=>absurd hi (Nat.not_lt_zero _),fun _=>aa,fun i hi=>absurd hi (Nat.not_lt_zero _),fun i hi=>absurd hi (Nat.not_lt_zero _),fun i _ hi=>absurd hi (Nat.not_lt_zero _)⟩
theorem aj.pT {α:Type} [GT α] {x:α} {p:GT.Ptr α} {F:aw} (S:aj P n w0 M u N β σ a w) (hx:GT.own bz F u x p) (hN:∀b,F b->N b) (hY:∀b,F b->w0.heap.size<=b\/M b) {i:Nat} {d:Tmp} (hop:tl P n ops i σ=some (GT.cells x p,1,d))
    (K:∀aD w' aH q b1,aj P n w0 M w' aH β ⟨(d,.v (ab 1 q.1))::σ.env,σ.ay⟩ aD w'->(∀b,N b->aH b/\w'.heap[b]? =u.heap[b]?)->
      ai w0 M w' aH b1 [x] q->(∀G:aw,J G F->(∀b,G b->N b)->J G b1)->cS aD w'):wpOp P ops Q i cS a w:=by
  refine S.cF hop fun aD w' T bT up kt ho=>K aD w' _ (⟨false,w.heap.size,0,1,none⟩,fun _=>p) (Or F (ky w.heap.size w'.heap.size)) bT up ⟨?_,fun b h=>h.elim (fun h=> .inl (hN b h)) .inr,fun b h=>h.elim (hY b) (fun h=> .inl (Nat.le_trans S.ed.size h.1))⟩
    (fun G cW bM b hb h=>h.elim (cW b hb) (J.fresh S w' (fun _ h=>h) b (bM b hb)))
  have fs:∀b,F b->b<w.heap.size:=fun b hb=>(S.sep b (hN b hb)).1
  refine⟨(show 1<=bz by decide),Nat.le_refl _,(show 1<=9223372036854775807 by decide),fun h=>(by cases h),fun _=>⟨.inr ⟨Nat.le_refl _,(by show w.heap.size<w'.heap.size;omega)⟩,_,T,kt,by simp [GT.len]⟩,fun i hi=>?_,fun _=>F,fun i hi=>?_,fun i hi b hb=>⟨.inl hb,fun e=>by have:=fs b hb;simp only [] at e;omega⟩,fun i j hi bJ gD=>?_⟩
  · simp at hi;subst hi
    intro j v bJ
    have As:(GT.cells x p)[j]? =some v:=bJ
    simp only [World.cell?,kt,Option.isSome_none,Bool.false_eq_true,if_false]
    simpa using As
  · simp at hi;subst hi
    exact GT.c7 hx fun b hb _=>(up b (hN b hb)).2
  · simp at hi bJ;omega
theorem PQ (m:Nat):∀(r c:Nat),Builtin.growBy m r c<=2*m+400\/Builtin.growBy m r c<=c
  |
    0,c=> .inr (by simp [Builtin.growBy])
  |r+1,c=>by
    unfold Builtin.growBy
    split
    · exact .inr (Nat.le_refl _)
    · rename_i h
      rcases PQ m r (c+(c+768) / 4) with h'|h'
      · exact .inl h'
      · exact .inl (by omega)
theorem ag2 (need cap:Nat) (h:cap<need):Builtin.nextslicecap need cap<=2*need+400:=by
  unfold Builtin.nextslicecap
  split
  · omega
  · split
    · omega
    · rcases PQ need 4 cap with h'|h'<;>omega
def r0 (P:Program) (n:Nat) (ops:Array Oper) (i:Nat) (σ:bw):Option (Value×Value×Nat×Nat×Tmp):=
  match ops.toList[i]? with
  |some o=>
    match nh ops σ o,o.op,o.dst with
    |some true,.call ⟨.builtin .append,args,jW⟩,some d=>
      match args.toList,jW.toList with
      |[x,y],[t1,t2]=>
        match P.underlying t1,P.underlying t2,σ.get x,σ.get y with
        |some (.slice e),some (.slice _),some (.v s),some (.v r)=>
          match P.info? e with
          |some info=>
            match info.zero with
            |some z=>bif Nat.blt d n&&Nat.beq z.cells.toList.length info.size&&Nat.ble info.bytes 4096&&Nat.blt 0 info.bytes then some (s,r,info.size,info.bytes,d) else none
            |none=>none
          |none=>none
        |_,_,_,_=>none
      |_,_=>none
    |_,_,_=>none
  |none=>none
def fA {α:Type} [GT α] (xs:List α) (p:Nat->GT.Ptr α) (m:Nat):List Value:=(List.range m).flatMap fun i=>GT.cells (el xs i) (p i)
theorem q8 {α:Type} [GT α] (xs:List α) (p:Nat->GT.Ptr α) (m:Nat):(fA xs p m).length=m*GT.width α:=by
  unfold fA
  induction m with
  |zero=>simp
  |succ m gQ=>rw [List.range_succ,List.flatMap_append,List.length_append,gQ];simp [GT.len,Nat.add_mul]
theorem xK {α:Type} [GT α] (xs:List α) (p:Nat->GT.Ptr α) (m:Nat):∀(i j:Nat),i<m->j<GT.width α->(fA xs p m)[i*GT.width α+j]? =(GT.cells (el xs i) (p i))[j]? :=by
  induction m with
  |zero=>intro i j h;omega
  |succ m gQ=>
    intro i j hi bJ
    have hs:fA xs p (m+1)=fA xs p m++GT.cells (el xs m) (p m):=by
      unfold fA;rw [List.range_succ,List.flatMap_append];simp
    rw [hs]
    have hl:=q8 xs p m
    by_cases h:i<m
    · have:=Nat.mul_le_mul_right (GT.width α) (show i+1<=m from h)
      rw [Nat.add_mul,Nat.one_mul] at this
      rw [List.getElem?_append_left (by omega)]
      exact gQ i j h bJ
    · have:i=m:=by omega
      subst this
      rw [List.getElem?_append_right (by omega),hl]
      congr 1
      omega
theorem Ps {α:Type} [GT α] (xs:List α) (p:Nat->GT.Ptr α) (m:Nat):∀v∈fA xs p m,v.oneCell'=true:=by
  intro v bu
  unfold fA at bu
  rw [List.mem_flatMap] at bu
  obtain⟨i,_,h⟩:=bu
  exact GT.plain _ _ v h
theorem Bs {α:Type} [GT α] {xs:List α} {p:af α} {w:World} (hc:∀i,i<xs.length->k6 w p.1.b (p.1.off+i*GT.width α) (GT.cells (el xs i) (p.2 i))) (bc:p.1.nil=true->xs.length=0) (s:Nat) (hs:s=GT.width α):
    (Builtin.firstCells s xs.length (ab xs.length p.1)).run P w= .ok (fA xs p.2 xs.length).toArray w:=by
  subst hs
  unfold ab jo.addr
  cases h:p.1.nil with
  |true=>
    have:=bc h
    simp only [cond_true,Builtin.firstCells,this]
    cases p.1.qR<;>simp [fA,loadCells,loadCellsFrom]
  |false=>
    simp only [cond_false,Builtin.firstCells]
    have:=run_loadCells_list (P:=P) w ⟨p.1.b,p.1.off,none⟩ (fA xs p.2 xs.length) (fun k v hk=>by
      have pf:k<xs.length*GT.width α:=by
        have:=(List.getElem?_eq_some_iff.1 hk).1
        rwa [q8] at this
      have aeb:=Nat.div_add_mod k (GT.width α)
      have t_:=Nat.mod_lt k (GT.jG (α:=α))
      have fS:k / GT.width α<xs.length:=by
        rw [Nat.div_lt_iff_lt_mul GT.jG];exact pf
      have e:k=k / GT.width α*GT.width α+k % GT.width α:=by rw [Nat.mul_comm];exact aeb.symm
      rw [e,xK xs p.2 xs.length _ _ fS t_] at hk
      have:=hc _ fS _ _ hk
      rw [Addr.add_mid]
      rwa [Nat.add_assoc,←e] at this)
    rw [q8] at this
    exact this
theorem akC {α:Type} [GT α] {xs aU:List α} {p q:af α} {t1 t2 e bt ty:TypeId} {info:TypeInfo} {z:Value} {w:World} {cs:Array Value} {T:TypeId}
    (h1
        :P.underlying t1=some (.slice e)) (ah:P.underlying t2=some (.slice bt)) (hi:P.info? e=some info) (fB:info.zero=some z) (yl:z.cells.toList.length=info.size) (ho:info.size=GT.width α) (ad9:info.bytes<=4096) (ape:0<info.bytes)
    (hx:∀i,i<xs.length->k6 w p.1.b (p.1.off+i*GT.width α) (GT.cells (el xs i) (p.2 i))) (R8:p.1.nil=true->p.1.cap=0) (JA:xs.length<=p.1.cap)
    (kt:p.1.nil=false->w.heap[p.1.b]? =some (.cells cs T (0,0))/\p.1.off+p.1.cap*GT.width α<=cs.size)
    (hy:∀i,i<aU.length->k6 w q.1.b (q.1.off+i*GT.width α) (GT.cells (el aU i) (q.2 i))) (yj:q.1.nil=true->aU.length=0) (hl:xs.length+aU.length<=bz):
    (p.1.nil=false/\xs.length+aU.length<=p.1.cap/\(Builtin.append_ #[t1,t2] ty #[ab xs.length p.1,ab aU.length q.1]).run P w= .ok (ab (xs.length+aU.length) p.1)
        (w.setRow p.1.b (cs.toList.take (p.1.off+xs.length*GT.width α)++fA aU q.2 aU.length++cs.toList.drop (p.1.off+xs.length*GT.width α+aU.length*GT.width α)).toArray))\/
    (xs.length+aU.length=0/\p.1.nil=true/\(Builtin.append_ #[t1,t2] ty #[ab xs.length p.1,ab aU.length q.1]).run P w= .ok (ab (xs.length+aU.length) p.1) w)\/
    ∃(cap:Nat) (gk:Nat) (kS:List Value),xs.length+aU.length<=cap/\cap<=9223372036854775807/\kS.length=(cap-(xs.length+aU.length))*GT.width α/\(Builtin.append_ #[t1,t2] ty #[ab xs.length p.1,ab aU.length q.1]).run P w=
      .ok (ab (xs.length+aU.length) ⟨false,w.heap.size,0,cap,none⟩) {w with heap:=w.heap.push (.cells (fA xs p.2 xs.length++fA aU q.2 aU.length++kS).toArray e),drawn:=gk}:=by
  have R9:p.1.nil=true->xs.length=0:=fun h=>by have:=R8 h;omega
  have abh:=Bs (P:=P) hx R9 info.size ho
  have vy:=Bs (P:=P) hy yj info.size ho
  rw [ho] at abh vy
  have ap_:∀k,TypeDesc.slice bt≠ .int k:=fun k h=>by cases h
  have ap7:(match (TypeDesc.slice bt:TypeDesc) with| .int _=>true|_=>false)=false:=rfl
  unfold bz at hl
  by_cases vS:xs.length+aU.length<=p.1.cap
  · cases sr:p.1.nil with
    |
      true=>
      have apf:=R8 sr
      right;left
      refine⟨by omega,rfl,?_⟩
      have xB:p.1.addr=p.1.qR:=by unfold jo.addr;rw [sr];rfl
      have p0:aU.length=0:=by omega
      rw [p0] at vy
      simp only [fA,List.range_zero,List.flatMap_nil] at vy
      rw [p0]
      have bA:xs.length+0<=p.1.cap:=by omega
      simp only [ab,xB] at vy ⊢
      cases apb:p.1.qR<;>simp only [Builtin.append_,List.getElem?_toArray,List.getElem?_cons_zero,List.getElem?_cons_succ,Sem.run_bind,run_underlying h1,run_underlying ah,Result.andThen_ok,sizeOf,typeInfo,run_program,hi,Sem.run_pure,Bool.false_eq_true,if_false,Builtin.lenOf,bA,if_true,Bool.not_false,ho,vy]
      rfl
    |false=>
      left
      obtain⟨bo,aqf⟩:=kt sr
      refine⟨rfl,vS,?_⟩
      have xB:p.1.addr=some ⟨p.1.b,p.1.off,none⟩:=by unfold jo.addr;rw [sr];rfl
      have hmul:(xs.length+aU.length)*GT.width α<=p.1.cap*GT.width α:=Nat.mul_le_mul_right _ vS
      rw [Nat.add_mul] at hmul
      have iY:=run_storeCells_at (P:=P) p.1.b (p.1.off+xs.length*GT.width α) T (fA aU q.2 aU.length) 0 cs w bo (by rw [q8];simp only [Nat.add_zero];omega) (Ps _ _ _)
      simp only [Nat.add_zero] at iY
      simp only [ab,xB] at vy ⊢
      simp only [Builtin.append_,List.getElem?_toArray,List.getElem?_cons_zero,List.getElem?_cons_succ,Sem.run_bind,run_underlying h1,run_underlying ah,Result.andThen_ok,sizeOf,typeInfo,run_program,hi,Sem.run_pure,Bool.false_eq_true,if_false,Builtin.lenOf,vS,if_true,Bool.not_false,vy,Addr.add_mid,ho]
      rw [iY,q8]
      rfl
  · right;right
    have ap9:=ag2 (xs.length+aU.length) p.1.cap (by omega)
    have hb:Builtin.nextslicecap (xs.length+aU.length) p.1.cap*info.bytes<=(2*4194304+400)*4096:=Nat.mul_le_mul (by omega) ad9
    have cW:¬(((xs.length+aU.length:Nat):Int)>IntKind.i64.max/\(False\/info.bytes=0)):=fun h=>by
      rcases h.2 with h|h
      · exact h
      · omega
    have bM:¬(Builtin.nextslicecap (xs.length+aU.length) p.1.cap*info.bytes>2 ^ 48):=by omega
    have aI:(Question.appendCap (xs.length+aU.length) p.1.cap e).forced=false:=rfl
    let cap:=(Question.appendCap (xs.length+aU.length) p.1.cap e).cut (w.tape w.drawn (.appendCap (xs.length+aU.length) p.1.cap e))
    have vP:cap=(xs.length+aU.length)+w.tape w.drawn (.appendCap (xs.length+aU.length) p.1.cap e) % (2 ^ 63-(xs.length+aU.length)):=rfl
    have t_:w.tape w.drawn (.appendCap (xs.length+aU.length) p.1.cap e) % (2 ^ 63-(xs.length+aU.length))<2 ^ 63-(xs.length+aU.length):=Nat.mod_lt _ (by omega)
    have hzero:(zeroValue e).run P {w with drawn:=w.drawn+1}= .ok z {w with drawn:=w.drawn+1}:=by simp [zeroValue,typeInfo,hi,fB]
    have Hc:=Bs (P:=P) (w:={w with drawn:=w.drawn+1}) (xs:=xs) (p:=p) hx R9 info.size ho
    have Hd:=Bs (P:=P) (w:={w with drawn:=w.drawn+1}) (xs:=aU) (p:=q) hy yj info.size ho
    rw [ho] at Hc Hd
    have Jm:∀(k:Nat) (w:World),(askRoom k).run P w= .ok () w:=fun k w=>by unfold askRoom;split<;>rfl
    refine⟨cap,w.drawn+1,(Builtin.zeroCells z.cells (cap-(xs.length+aU.length))).toList,by omega,by omega,?_,?_⟩
    · unfold Builtin.zeroCells
      have:z.cells.size=GT.width α:=by rw [←ho,←yl];simp
      simp [this]
    · have ez:(choose (.appendCap (xs.length+aU.length) p.1.cap e)).run P w= .ok cap {w with drawn:=w.drawn+1}:=rfl
      simp only [ab] at Hc Hd ⊢
      simp only [Builtin.append_,List.getElem?_toArray,List.getElem?_cons_zero,List.getElem?_cons_succ,Sem.run_bind,run_underlying h1,run_underlying ah,Result.andThen_ok,sizeOf,typeInfo,run_program,hi,Sem.run_pure,Bool.false_eq_true,if_false,Builtin.lenOf,vS,Bool.not_false,if_true,cW,bM,ez,Jm,ho,Hc,Hd,hzero,newRow,run_newObj]
      have aaH:(fA xs p.2 xs.length).toArray++(fA aU q.2 aU.length).toArray++Builtin.zeroCells z.cells (cap-(xs.length+aU.length))=(fA xs p.2 xs.length++fA aU q.2 aU.length++(Builtin.zeroCells z.cells (cap-(xs.length+aU.length))).toList).toArray:=by
        apply Array.ext'
        simp
      rw [aaH]
      rfl
theorem aj.append {α:Type} [GT α] {xs aU:List α} {p q:af α} {F Fy:aw} (S:aj P n w0 M u N β σ a w) (hx:ai w0 M u N F xs p) (hyr:o1 u N aU q)
    (AK:∃G:Nat->aw,(∀i,i<aU.length->GT.own bz (G i) u (el aU i) (q.2 i))/\(∀i,i<aU.length->∀b,G i b->Fy b)/\(∀i j,i<aU.length->j<aU.length->i≠j->J (G i) (G j)))
    (hd:J F Fy) (hyN:∀b,Fy b->N b) (hyY:∀b,Fy b->w0.heap.size<=b\/M b) {i:Nat} {by':Nat} {d:Tmp} (hop:r0 P n ops i σ=some (ab xs.length p.1,ab aU.length q.1,GT.width α,by',d)) (hl:xs.length+aU.length<=bz)
    (K:∀aD w' aH r b1,aj P n w0 M w' aH β ⟨(d,.v (ab (xs.length+aU.length) r.1))::σ.env,σ.ay⟩ aD w'->(∀b,N b->¬F b->aH b/\w'.heap[b]? =u.heap[b]?)->
      ai w0 M w' aH b1 (xs++aU) r->(∀G:aw,J G F->J G Fy->(∀b,G b->N b)->J G b1)->((∀b,N b->aH b)/\(∀i,i<xs.length->r.2 i=p.2 i)/\(r.1=p.1\/∀b,N b->w'.heap[b]? =u.heap[b]?))->cS aD w'):wpOp P ops Q i cS a w:=by
  unfold r0 at hop
  split at hop
  · rename_i o bD
    have j9:ops[i]? =some o:=by simpa using bD
    split at hop
    · rename_i args jW m7 aJ ss IX
      split at hop
      · rename_i x y t1 t2 bR bC
        split at hop
        · rename_i e bt s r Jv v5 Js Jt
          split at hop
          · rename_i info x7
            split at hop
            · rename_i z fB
              cases lj:(Nat.blt m7 n&&Nat.beq z.cells.toList.length info.size&&Nat.ble info.bytes 4096&&Nat.blt 0 info.bytes) with
              |false=>rw [lj] at hop;cases hop
              |true=>
                rw [lj] at hop
                simp only [cond_true,Option.some.injEq,Prod.mk.injEq] at hop
                obtain⟨rfl,rfl,ho,_,rfl⟩:=hop
                simp only [Bool.and_eq_true] at lj
                obtain⟨⟨⟨bd,fl⟩,jX⟩,o2⟩:=lj
                have bA:args=#[x,y]:=by rw [←Array.toList_inj];exact bR
                have GW:jW=#[t1,t2]:=by rw [←Array.toList_inj];exact bC
                subst bA GW
                have j_:jU bz F u xs p:=hx.own
                have JF:ag bz N u aU q:=hyr
                obtain⟨G,cW,bM,c3⟩:=j_.el
                obtain⟨Nn,acd,vA,ace⟩:=AK
                have ud:∀b,N b->w.heap[b]? =u.heap[b]? :=fun b hb=>(S.sep b hb).2.1
                have JA:∀i,i<xs.length->k6 w p.1.b (p.1.off+i*GT.width α) (GT.cells (el xs i) (p.2 i)):=fun i hi=>by
                  have ph:=j_.A0 (by have:=j_.cap;omega)
                  exact(j_.cell i hi).qU (ud _ (hx.sub _ (j_.row ph).1))
                have JE:∀i,i<aU.length->k6 w q.1.b (q.1.off+i*GT.width α) (GT.cells (el aU i) (q.2 i)):=fun i hi=>
                  (JF.cell i hi).qU (ud _ (JF.at_ (by omega)).2)
                have yj:q.1.nil=true->aU.length=0:=fun h=>by
                  rcases Nat.eq_zero_or_pos aU.length with h0|h0
                  · exact h0
                  · have:=(JF.at_ h0).1;rw [h] at this;cases this
                obtain⟨cs,T,Rd⟩:∃(cs:Array Value) (T:TypeId),p.1.nil=false->w.heap[p.1.b]? =some (.cells cs T (0,0))/\p.1.off+p.1.cap*GT.width α<=cs.size:=by
                  cases bc:p.1.nil with
                  |true=>exact⟨#[],0,fun h=>by cases h⟩
                  |false=>
                    obtain⟨eb,cs,T,h1,ah⟩:=j_.row bc
                    exact⟨cs,T,fun _=>⟨(ud _ (hx.sub _ eb)).trans h1,ah⟩⟩
                have oC:=akC (P:=P) (ty:=o.type) Jv v5 x7 fB (Nat.eq_of_beq_eq_true fl) ho (Nat.le_of_ble_eq_true jX) (Nat.le_of_ble_eq_true o2) JA j_.null j_.cap Rd JE yj hl
                have step:∀(v:Value) (w':World),(Builtin.append_ #[t1,t2] o.type #[ab xs.length p.1,ab aU.length q.1]).run P w= .ok v w'->cS (a.put (some m7) v) w'->wpOp P ops Q i cS a w:=fun v w' bo hk=>by
                  refine va.step j9 (ma S aJ) ?_
                  have hex:(execOp a.eval o).run P w= .ok (.value v) w':=by
                    unfold execOp
                    simp only [ss]
                    simp only [resolve,List.map_toArray,List.map_cons,List.map_nil,S.get Js,S.get Jt]
                    show(do let v ←Builtin.append_ #[t1,t2] o.type #[ab xs.length p.1,ab aU.length q.1];pure (Next.value v):Sem Next).run P w=_
                    rw [Sem.run_bind,bo]
                    rfl
                  unfold Oper.wp
                  rw [hex]
                  simp only [Oper.upon,IX]
                  exact hk
                have GY:∀i,el (xs++aU) i=if i<xs.length then el xs i else el aU (i-xs.length):=fun i=>by
                  unfold el
                  simp only [List.getD_eq_getElem?_getD,List.getElem?_append]
                  split<;>rfl
                let qw:Nat->GT.Ptr α:=fun i=>if i<xs.length then p.2 i else q.2 (i-xs.length)
                have Jp:∀i,i<xs.length->qw i=p.2 i:=fun i hi=>if_pos hi
                let nJ:Nat->aw:=fun i=>if i<xs.length then G i else Nn (i-xs.length)
                --the an2 own blocks,in any world ase leaves asf as asg asl
                have Rf:∀(w':World) (r1:Nat),(∀b,N b->b≠p.1.b\/¬F b->w'.heap[b]? =u.heap[b]?)->(∀i,i<xs.length->∀b,G i b->b≠r1)->(∀i,i<aU.length->∀b,Nn i b->b≠r1)->
                    ∃nJ:Nat->aw,(∀i,i<(xs++aU).length->GT.own bz (nJ i) w' (el (xs++aU) i) (qw i))/\(∀i,i<(xs++aU).length->∀b,nJ i b->Or F (Or Fy (ky w.heap.size w'.heap.size)) b/\b≠r1)/\(∀i j,i<(xs++aU).length->j<(xs++aU).length->i≠j->J (nJ i) (nJ j)):=fun w' r1 oD gD aeR=>by
                  refine⟨nJ,fun i hi=>?_,fun i hi b hb=>?_,fun i j hi bJ qg=>?_⟩
                  · rw [List.length_append] at hi
                    rw [GY]
                    by_cases h:i<xs.length
                    · simp only [nJ,qw,h,if_true]
                      exact GT.c7 (cW i h) fun b hb _=>oD b (hx.sub b (bM i h b hb).1) (.inl (bM i h b hb).2)
                    · simp only [nJ,qw,h,if_false]
                      have h9:i-xs.length<aU.length:=by omega
                      exact GT.c7 (acd _ h9) fun b hb _=>oD b (hyN b (vA _ h9 b hb)) (.inr fun eb=>hd b eb (vA _ h9 b hb))
                  · rw [List.length_append] at hi
                    by_cases h:i<xs.length
                    · simp only [nJ,h,if_true] at hb
                      exact⟨.inl (bM i h b hb).1,gD i h b hb⟩
                    · simp only [nJ,h,if_false] at hb
                      have h9:i-xs.length<aU.length:=by omega
                      exact⟨.inr (.inl (vA _ h9 b hb)),aeR _ h9 b hb⟩
                  · rw [List.length_append] at hi bJ
                    intro b hb et
                    by_cases h:i<xs.length<;>by_cases h':j<xs.length
                    · simp only [nJ,h,h',if_true] at hb et
                      exact c3 i j h h' qg b hb et
                    · simp only [nJ,h,h',if_true,if_false] at hb et
                      exact hd b (bM i h b hb).1 (vA _ (by omega) b et)
                    · simp only [nJ,h,h',if_true,if_false] at hb et
                      exact hd b (bM j h' b et).1 (vA _ (by omega) b hb)
                    · simp only [nJ,h,h',if_false] at hb et
                      exact ace _ _ (by omega) (by omega) (by omega) b hb et
                have I0:∀w':World,∀b,Or F (Or Fy (ky w.heap.size w'.heap.size)) b->Or N (ky w.heap.size w'.heap.size) b:=fun w' b h=>by
                  rcases h with h|h|h
                  · exact .inl (hx.sub b h)
                  · exact .inl (hyN b h)
                  · exact .inr h
                have ue:∀w':World,∀b,Or F (Or Fy (ky w.heap.size w'.heap.size)) b->w0.heap.size<=b\/M b:=fun w' b h=>by
                  rcases h with h|h|h
                  · exact hx.cU b h
                  · exact hyY b h
                  · exact .inl (Nat.le_trans S.ed.size h.1)
                have IW:∀(w':World) (G:aw),J G F->J G Fy->(∀b,G b->N b)->J G (Or F (Or Fy (ky w.heap.size w'.heap.size))):=fun w' G d1 d2 hs b hb h=>by
                  rcases h with h|h|h
                  · exact d1 b hb h
                  · exact d2 b hb h
                  · have:=(S.sep b (hs b hb)).1
                    have:=h.1
                    omega
                have iE:∀(w':World) (aH:aw) (v:Value),aj P n w0 M w' aH β σ a w'->aj P n w0 M w' aH β ⟨(m7,.v v)::σ.env,σ.ay⟩ (a.put (some m7) v) w':=fun w' aH v bT=>
                  bT.put (wb bd) (fun _ _ e=>by cases e)
                rcases oC with⟨sr,vS,bo⟩|⟨h0,sr,bo⟩|⟨cap,gk,kS,vO,sm,JH,bo⟩
                · --in place
                  obtain⟨kt,afe⟩:=Rd sr
                  have xW:=(j_.row sr).1
                  refine step _ _ bo ?_
                  have ua:∀b,b≠p.1.b->(w.setRow p.1.b (cs.toList.take (p.1.off+xs.length*GT.width α)++fA aU q.2 aU.length++cs.toList.drop (p.1.off+xs.length*GT.width α+aU.length*GT.width α)).toArray).heap[b]? =w.heap[b]? :=fun b hb=>by
                    simp only [World.setRow,Array.getElem?_modify]
                    rw [if_neg (fun e=>hb e.symm)]
                  have yh:(w.setRow p.1.b (cs.toList.take (p.1.off+xs.length*GT.width α)++fA aU q.2 aU.length++cs.toList.drop (p.1.off+xs.length*GT.width α+aU.length*GT.width α)).toArray).heap.size=w.heap.size:=by simp [World.setRow]
                  have qi:=setRow_heap w p.1.b cs (cs.toList.take (p.1.off+xs.length*GT.width α)++fA aU q.2 aU.length++cs.toList.drop (p.1.off+xs.length*GT.width α+aU.length*GT.width α)).toArray T (0,0) kt
                  have hmul:(xs.length+aU.length)*GT.width α<=p.1.cap*GT.width α:=Nat.mul_le_mul_right _ vS
                  rw [Nat.add_mul] at hmul
                  have hlen:=q8 aU q.2 aU.length
                  have k2:∀pos,(w.setRow p.1.b (cs.toList.take (p.1.off+xs.length*GT.width α)++fA aU q.2 aU.length++cs.toList.drop (p.1.off+xs.length*GT.width α+aU.length*GT.width α)).toArray).cell? ⟨p.1.b,pos,none⟩=
                      if pos<p.1.off+xs.length*GT.width α then cs[pos]? else if pos<p.1.off+xs.length*GT.width α+aU.length*GT.width α then(fA aU q.2 aU.length)[pos-(p.1.off+xs.length*GT.width α)]? else cs[pos]? :=fun pos=>by
                    simp only [World.cell?,qi,Option.isSome_none,Bool.false_eq_true,if_false]
                    have:=E6 cs.toList (fA aU q.2 aU.length) (p.1.off+xs.length*GT.width α) pos (by rw [hlen];simp;omega)
                    rw [hlen] at this
                    simpa using this
                  generalize oD:w.setRow p.1.b (cs.toList.take (p.1.off+xs.length*GT.width α)++fA aU q.2 aU.length++cs.toList.drop (p.1.off+xs.length*GT.width α+aU.length*GT.width α)).toArray=w' at*
                  have ez:bX F w w':=by
                    subst oD
                    exact⟨rfl,rfl,rfl,by rw [yh];exact Nat.le_refl _,fun b _ bc=>ua b (fun e=>bc (e▸xW))⟩
                  have v7:∀b,N b->b≠p.1.b\/¬F b->w'.heap[b]? =u.heap[b]? :=fun b hb gD=>(ua b (gD.elim id (fun h e=>h (e▸xW)))).trans (ud b hb)
                  obtain⟨FJ,bA,bt,fm⟩:=Rf w' p.1.b v7 (fun i hi b hb=>(bM i hi b hb).2) (fun i hi b hb e=>hd _ (e▸xW) (vA i hi b hb))
                  refine K _ w' _ (p.1,qw) (Or F (Or Fy (ky w.heap.size w'.heap.size))) (iE w' _ _ (S.qT ez hx.sub hx.cU)) (S.bp ez) ⟨?_,I0 w',ue w'⟩ (IW w') ⟨fun _=> .inl,Jp,.inl rfl⟩
                  refine⟨by rw [List.length_append];exact hl,by rw [List.length_append];exact vS,j_.o4,j_.null,fun _=>⟨.inl xW,_,T,qi,?_⟩,fun i hi=>?_,FJ,bA,bt,fm⟩
                  · have:(cs.toList.take (p.1.off+xs.length*GT.width α)++fA aU q.2 aU.length++cs.toList.drop (p.1.off+xs.length*GT.width α+aU.length*GT.width α)).toArray.size=cs.size:=by simp [hlen];omega
                    rw [this];exact afe
                  · rw [List.length_append] at hi
                    rw [GY]
                    intro j v bu
                    have qh:j<GT.width α:=by
                      have:=(List.getElem?_eq_some_iff.1 bu).1
                      rwa [GT.len] at this
                    rw [k2]
                    by_cases h:i<xs.length
                    · simp only [h,if_true,qw] at bu
                      have:=Nat.mul_le_mul_right (GT.width α) (show i+1<=xs.length from h)
                      rw [Nat.add_mul,Nat.one_mul] at this
                      simp only []
                      rw [if_pos (by omega)]
                      have:=JA i h j v bu
                      simpa [World.cell?,kt] using this
                    · simp only [h,if_false,qw] at bu
                      have h9:i-xs.length<aU.length:=by omega
                      have h1:=Nat.mul_le_mul_right (GT.width α) (show i-xs.length+1<=aU.length from h9)
                      rw [Nat.add_mul,Nat.one_mul] at h1
                      have ah:i*GT.width α=xs.length*GT.width α+(i-xs.length)*GT.width α:=by
                        rw [←Nat.add_mul];congr 1;omega
                      simp only []
                      rw [if_neg (by omega),if_pos (by omega)]
                      have:=xK aU q.2 aU.length (i-xs.length) j h9 qh
                      rw [←bu,←this]
                      congr 1
                      omega
                · --nothing at all
                  refine step _ _ bo ?_
                  have ez:bX F w w:=bX.refl _ _
                  have ex:xs.length=0:=by omega
                  have an3:aU.length=0:=by omega
                  refine K _ w _ (p.1,qw) (Or F (Or Fy (ky w.heap.size w.heap.size))) (iE w _ _ (S.qT ez hx.sub hx.cU)) (S.bp ez) ⟨?_,I0 w,ue w⟩ (IW w) ⟨fun _=> .inl,Jp,.inl rfl⟩
                  have hlen:(xs++aU).length=0:=by rw [List.length_append];exact h0
                  exact⟨by rw [hlen];exact Nat.zero_le _,by rw [hlen];exact Nat.zero_le _,j_.o4,j_.null,fun h=>(by rw [sr] at h;cases h),fun i hi=>(by omega),fun _=>aa,fun i hi=>(by omega),fun i hi=>(by omega),fun i j hi=>(by omega)⟩
                · --a new block
                  refine step _ _ bo ?_
                  have Rb:bX aa w {w with heap:=w.heap.push (.cells (fA xs p.2 xs.length++fA aU q.2 aU.length++kS).toArray e),drawn:=gk}:=
                    ⟨rfl,rfl,rfl,by simp,fun k hk _=>by simp [Array.getElem?_push,Nat.ne_of_lt hk]⟩
                  have qi:({w with heap:=w.heap.push (.cells (fA xs p.2 xs.length++fA aU q.2 aU.length++kS).toArray e),drawn:=gk}:World).heap[w.heap.size]? =some (.cells (fA xs p.2 xs.length++fA aU q.2 aU.length++kS).toArray e):=by simp
                  have yh:({w with heap:=w.heap.push (.cells (fA xs p.2 xs.length++fA aU q.2 aU.length++kS).toArray e),drawn:=gk}:World).heap.size=w.heap.size+1:=by simp
                  generalize oD:({w with heap:=w.heap.push (.cells (fA xs p.2 xs.length++fA aU q.2 aU.length++kS).toArray e),drawn:=gk}:World)=w' at*
                  have ez:bX F w w':=Rb.mono fun _ f=>f.elim
                  have mb:∀b,N b->w'.heap[b]? =u.heap[b]? :=fun b hb=>(Rb.block b (S.sep b hb).1 (fun f=>f)).trans (ud b hb)
                  have v7:∀b,N b->b≠p.1.b\/¬F b->w'.heap[b]? =u.heap[b]? :=fun b hb _=>mb b hb
                  have RA:∀b,N b->b≠w.heap.size:=fun b hb=>Nat.ne_of_lt (S.sep b hb).1
                  obtain⟨FJ,bA,bt,fm⟩:=Rf w' w.heap.size v7 (fun i hi b hb=>RA b (hx.sub b (bM i hi b hb).1)) (fun i hi b hb=>RA b (hyN b (vA i hi b hb)))
                  refine K _ w' _ (⟨false,w.heap.size,0,cap,none⟩,qw) (Or F (Or Fy (ky w.heap.size w'.heap.size))) (iE w' _ _ (S.qT ez hx.sub hx.cU)) (S.bp ez) ⟨?_,I0 w',ue w'⟩ (IW w') ⟨fun _=> .inl,Jp,.inr mb⟩
                  have hlx:=q8 xs p.2 xs.length
                  have hly:=q8 aU q.2 aU.length
                  refine⟨by rw [List.length_append];exact hl,by rw [List.length_append];exact vO,sm,fun h=>(by cases h),fun _=>⟨.inr (.inr ⟨Nat.le_refl _,by show w.heap.size<w'.heap.size;omega⟩),_,e,qi,?_⟩,fun i hi=>?_,FJ,bA,bt,fm⟩
                  · simp only [List.size_toArray,List.length_append,hlx,hly,JH,Nat.zero_add]
                    rw [←Nat.add_mul,←Nat.add_mul]
                    exact Nat.mul_le_mul_right _ (by omega)
                  · rw [List.length_append] at hi
                    rw [GY]
                    intro j v bu
                    have qh:j<GT.width α:=by
                      have:=(List.getElem?_eq_some_iff.1 bu).1
                      rwa [GT.len] at this
                    simp only [World.cell?,qi,Option.isSome_none,Bool.false_eq_true,if_false,Nat.zero_add,List.getElem?_toArray]
                    by_cases h:i<xs.length
                    · simp only [h,if_true,qw] at bu
                      have:=Nat.mul_le_mul_right (GT.width α) (show i+1<=xs.length from h)
                      rw [Nat.add_mul,Nat.one_mul] at this
                      rw [List.append_assoc,List.getElem?_append_left (by omega),xK xs p.2 xs.length i j h qh]
                      exact bu
                    · simp only [h,if_false,qw] at bu
                      have h9:i-xs.length<aU.length:=by omega
                      have h1:=Nat.mul_le_mul_right (GT.width α) (show i-xs.length+1<=aU.length from h9)
                      rw [Nat.add_mul,Nat.one_mul] at h1
                      have ah:i*GT.width α=xs.length*GT.width α+(i-xs.length)*GT.width α:=by
                        rw [←Nat.add_mul];congr 1;omega
                      rw [List.append_assoc,List.getElem?_append_right (by omega),hlx,List.getElem?_append_left (by omega)]
                      have:=xK aU q.2 aU.length (i-xs.length) j h9 qh
                      rw [←bu,←this]
                      congr 1
                      omega
            · cases hop
          · cases hop
        · cases hop
      · cases hop
    · cases hop
  · cases hop
theorem aj.Cd {α:Type} [GT α] {xs aU:List α} {p q:af α} {F:aw} (S:aj P n w0 M u N β σ a w) (hx:ai w0 M u N F xs p) (hyr:o1 u N aU q) (hfl:∀(x:α) (r:GT.Ptr α),GT.rd bz N u x r->GT.own bz aa u x r)
    {i:Nat} {by' lx ly:Nat} {d:Tmp} (hlx:lx=xs.length) (hly:ly=aU.length) (hop:r0 P n ops i σ=some (ab lx p.1,ab ly q.1,GT.width α,by',d)) (hl:xs.length+aU.length<=bz)
    (K:∀aD w' aH r b1,aj P n w0 M w' aH β ⟨(d,.v (ab (xs++aU).length r.1))::σ.env,σ.ay⟩ aD w'->(∀b,N b->¬F b->aH b/\w'.heap[b]? =u.heap[b]?)->
      ai w0 M w' aH b1 (xs++aU) r->(∀G:aw,J G F->(∀b,G b->N b)->J G b1)->cS aD w'):wpOp P ops Q i cS a w:=by
  subst hlx hly
  exact S.append hx hyr (Fy:=aa) ⟨fun _=>aa,fun i hi=>hfl _ _ (ag.el hyr i hi),fun _ _ b h=>False.elim h,fun _ _ _ _ _ b h=>False.elim h⟩ (fun b _ h=>False.elim h) (fun b h=>False.elim h) (fun b h=>False.elim h) hop hl
    fun aD w' aH r b1 h1 ah aE b2 _=>K aD w' aH r b1 (by rw [List.length_append];exact h1) ah aE fun G cW bM=>b2 G cW (fun b _ h=>False.elim h) bM
theorem aj.pR {α:Type} [GT α] {aU:List α} {p q:af α} {F:aw} (S:aj P n w0 M u N β σ a w) (hx:ai w0 M u N F ([]:List α) p) (hyr:o1 u N aU q) (hfl:∀(x:α) (r:GT.Ptr α),GT.rd bz N u x r->GT.own bz aa u x r)
    {i:Nat} {by' lx ly:Nat} {d:Tmp} (hly:ly=aU.length)
    (K:∀aD w' aH r b1,aj P n w0 M w' aH β ⟨(d,.v (ab aU.length r.1))::σ.env,σ.ay⟩ aD w'->(∀b,N b->¬F b->aH b/\w'.heap[b]? =u.heap[b]?)->
      ai w0 M w' aH b1 aU r->(∀G:aw,J G F->(∀b,G b->N b)->J G b1)->cS aD w') (hlx:lx=0:=by rfl) (hop:r0 P n ops i σ=some (ab lx p.1,ab ly q.1,GT.width α,by',d):=by kernel_rfl):wpOp P ops Q i cS a w:=
  S.Cd hx hyr hfl (lx:=lx) (ly:=ly) hlx hly hop (by rw [List.length_nil,Nat.zero_add];exact ag.le hyr) K
theorem aj.vf {α:Type} [GT α] {xs aU:List α} {p q:af α} {F Fy:aw} (S:aj P n w0 M u N β σ a w) (hx:ai w0 M u N F xs p) (hy:ai w0 M u N Fy aU q) (hd:J F Fy)
    {i:Nat} {by' lx ly:Nat} {d:Tmp} (hlx:lx=xs.length) (hly:ly=aU.length) (hop:r0 P n ops i σ=some (ab lx p.1,ab ly q.1,GT.width α,by',d)) (hl:xs.length+aU.length<=bz)
    (K:∀aD w' aH r b1,aj P n w0 M w' aH β ⟨(d,.v (ab (xs++aU).length r.1))::σ.env,σ.ay⟩ aD w'->(∀b,N b->¬F b->aH b/\w'.heap[b]? =u.heap[b]?)->
      ai w0 M w' aH b1 (xs++aU) r->(∀G:aw,J G F->J G Fy->(∀b,G b->N b)->J G b1)->cS aD w'):wpOp P ops Q i cS a w:=by
  subst hlx hly
  obtain⟨G,cW,bM,c3⟩:=jU.el hy.own
  exact S.append hx hy.al ⟨G,cW,fun i hi b hb=>(bM i hi b hb).1,c3⟩ hd hy.sub hy.cU hop hl
    fun aD w' aH r b1 h1 ah aE b2 _=>K aD w' aH r b1 (by rw [List.length_append];exact h1) ah aE b2
abbrev c2 (α:Type) [GT α]:List Value:=GT.cells (GT.dE:α) GT.bL
theorem g3 {x y:Int} (h:x=y):Ending.returned (packed [R x])= .returned (R y):=by rw [h];rfl
theorem b4 {x y:Bool} (h:x=y):Ending.returned (packed [B x])= .returned (B y):=by rw [h];rfl
theorem mq {α:Type} [GT α] {x y:α} {p:GT.Ptr α} (h:x=y):Ending.returned (packed [GT.val x p])= .returned (GT.val y p):=by rw [h];rfl
theorem lO {a b c d:Value} (h:a=c) (h':b=d):Ending.returned (packed [a,b])= .returned (.tuple #[c,d]):=by rw [h,h'];rfl
theorem Uv {a b c aD kX NU:Value} (h:a=aD) (h':b=kX) (Hs:c=NU):Ending.returned (packed [a,b,c])= .returned (.tuple #[aD,kX,NU]):=by rw [h,h',Hs];rfl
theorem l5 {x y:Int} (h:x=y):R x=R y:=by rw [h]
theorem m8 {x y:Bool} (h:x=y):B x=B y:=by rw [h]
theorem cT {α:Type} [GT α] {r x:α} {p:GT.Ptr α} {F:aw} {v:Value} (S:aj P n w0 aa u N β σ a w) (h:r=x) (bu:v=GT.val x p) (o:ai w0 aa u N F x p):dZ aa w0 r (.returned (packed [v])) w:=by
  subst h bu
  exact⟨p,rfl,S.ed,S.own o⟩
theorem cB {α gi:Type} [GT α] [GT gi] {r x:α} {r' gI:gi} {p:GT.Ptr α} {p':GT.Ptr gi} {F:aw} {v lr:Value} (S:aj P n w0 aa u N β σ a w) (h:r=x) (h':r'=gI) (bu:v=GT.val x p) (sz:lr=GT.val gI p') (o:ai w0 aa u N F x p) (ik:GT.own bz aa w gI p'):fG aa w0 r r' (.returned (packed [v,lr])) w:=by
  subst h h' bu sz
  obtain⟨h1,ah⟩:=S.uM o
  exact⟨p,p',F,aa,rfl,S.ed,h1,ik,fun _ _ f=>f,fun b hb=>hb.elim (ah b) (fun f=>False.elim f)⟩
theorem akw {α gi:Type} [GT α] [GT gi] {r x:α} {r' gI:gi} {p:GT.Ptr α} {p':GT.Ptr gi} {F b1:aw} {v lr:Value} (S:aj P n w0 aa u N β σ a w) (h:r=x) (h':r'=gI) (bu:v=GT.val x p) (sz:lr=GT.val gI p') (o:ai w0 aa u N F x p) (ik:ai w0 aa u N b1 gI p') (hd:J F b1):fG aa w0 r r' (.returned (packed [v,lr])) w:=by
  subst h h' bu sz
  obtain⟨h1,ah⟩:=S.uM o
  obtain⟨aE,b2⟩:=S.uM ik
  exact⟨p,p',F,b1,rfl,S.ed,h1,aE,hd,fun b hb=>hb.elim (ah b) (b2 b)⟩
theorem lq {α gi y3:Type} [GT α] [GT gi] [GT y3] {r x:α} {r' gI:gi} {r'' Mp:y3} {p:GT.Ptr α} {p':GT.Ptr gi} {p'':GT.Ptr y3} {F:aw} {v lr Vb:Value} (S:aj P n w0 aa u N β σ a w) (h:r=x) (h':r'=gI) (Hs:r''=Mp) (bu:v=GT.val x p) (sz:lr=GT.val gI p') (afi:Vb=GT.val Mp p'')
    (o:ai w0 aa u N F x p) (ik:GT.own bz aa w gI p') (ag3:GT.own bz aa w Mp p''):qO aa w0 r r' r'' (.returned (packed [v,lr,Vb])) w:=by
  subst h h' Hs bu sz afi
  obtain⟨h1,ah⟩:=S.uM o
  exact⟨p,p',p'',F,rfl,S.ed,h1,ik,ag3,ah⟩
def anc {α:Type} [GT α] (F:aw) (w:World) (p:GT.Ptr α) (x gI:α) (k:Int) (e:Ending) (w':World):Prop:=
  e= .returned (R k)/\bX F w w'/\∃p',GT.cells gI p'=GT.cells x p/\GT.own bz F w' gI p'
theorem aj.hP {α:Type} [GT α] {F:aw} {x:α} {p:GT.Ptr α} (S:aj P n w0 M u N β σ a w) (h:ai w0 M u N F x p):GT.own bz F w x p:=
  GT.c7 h.own (fun b hb _=>(S.sep b (h.sub b hb)).2.1)
end
end Go.Proofs.YtmeoackmjdoecaaGreat
namespace Go.Proofs.YtmeoackmjdoecaaGreat
open Go
def tL (P:Program):Nat->List Field->Option (List Bool)
  |
    _,[]=>some []
  |i,f::iB=>
    bif (f.name== "_")|| !Nat.beq f.offset i then none else
    match P.underlying f.type with
    |some (.int .i64)=>(tL P (i+1) iB).map fun l=>true::l
    |some .bool=>(tL P (i+1) iB).map fun l=>false::l
    |_=>none
def tM (P:Program) (t:TypeId):Option (List Bool):=
  match P.underlying t with
  |some (.struct iB)=>bif P.stoodInHeld t then none else tL P 0 iB.toList
  |_=>none
def lK:List Bool->List Value->Prop
  |[],_=>True
  |true::db,.int .i64 _::xs=>lK db xs
  |false::db,.bool _::xs=>lK db xs
  |_,_=>False
def lC:List Bool->List Value->List Value->Bool
  |[],_,_=>true
  |true::db,.int .i64 a::xs,.int .i64 b::aU=>(a==b)&&lC db xs aU
  |false::db,.bool a::xs,.bool b::aU=>(a==b)&&lC db xs aU
  |_,_,_=>false
theorem EG {P:Program} {t:TypeId} {cs:Array Value} {i:Nat} {v:Value} (bC:lP P t=some false) (h:cs[i]? =some v) (w:World):(part t cs i).run P w= .ok v w:=by
  simp [part,EV bC,h]
theorem G0 {P:Program} (xs aU:Array Value) (w:World):∀(iB:List Field) (i:Nat) (db:List Bool),tL P i iB=some db->lK db (xs.toList.drop i)->lK db (aU.toList.drop i)->
    (Op.eqFields 9999 xs aU iB).run P w= .ok (lC db (xs.toList.drop i) (aU.toList.drop i)) w
  |
    [],i,db,h,_,_=>by
    simp only [tL,Option.some.injEq] at h
    subst h;rfl
  |f::iB,i,db,h,hx,hy=>by
    simp only [tL] at h
    cases hb:((f.name== "_")|| !Nat.beq f.offset i) with
    |true=>rw [hb] at h;cases h
    |false=>
      rw [hb] at h
      simp only [Bool.or_eq_false_iff,Bool.not_eq_false'] at hb
      have bc:f.name≠ "_" :=fun e=>by rw [e] at hb;simp at hb
      have bD:f.offset=i:=Nat.eq_of_beq_eq_true hb.2
      simp only [cond_false] at h
      have tail:∀(kS:Array Value) (v:Value) (r:List Value),kS.toList.drop i=v::r->kS[i]? =some v/\kS.toList.drop (i+1)=r:=fun kS v r e=>by
        have h1:(kS.toList.drop i)[0]? =some v:=by rw [e];rfl
        have ah:kS.toList.drop (i+1)=(kS.toList.drop i).drop 1:=by rw [List.drop_drop]
        exact⟨by simpa using h1,by rw [ah,e];rfl⟩
      split at h
      · rename_i hu
        cases bo:tL P (i+1) iB with
        |none=>rw [bo] at h;cases h
        |some Kb=>
          rw [bo] at h
          simp only [Option.map_some,Option.some.injEq] at h
          subst h
          have tW:lP P f.type=some false:=by unfold lP;rw [hu]
          match JB:xs.toList.drop i,hx with
          | .int .i64 a::alW,hx=>
            match AK:aU.toList.drop i,hy with
            | .int .i64 b::al2,hy=>
              obtain⟨Jz,v8⟩:=tail xs _ _ JB
              obtain⟨JD,AJ⟩:=tail aU _ _ AK
              have gQ:=G0 xs aU w iB (i+1) Kb bo (by rw [v8];exact hx) (by rw [AJ];exact hy)
              unfold Op.eqFields
              rw [if_pos bc,bD]
              simp only [Sem.run_bind,EG tW Jz,EG tW JD,Result.andThen_ok,run_equalIn_int w 9998 f.type .i64 .i64 a b hu]
              rw [v8,AJ] at gQ
              cases lh:(a==b) with
              |false=>simp [lC,lh]
              |true=>simp only [lC,lh,Bool.true_and,Bool.not_true,Bool.false_eq_true,if_false];exact gQ
      · rename_i hu
        cases bo:tL P (i+1) iB with
        |none=>rw [bo] at h;cases h
        |some Kb=>
          rw [bo] at h
          simp only [Option.map_some,Option.some.injEq] at h
          subst h
          have tW:lP P f.type=some false:=by unfold lP;rw [hu]
          match JB:xs.toList.drop i,hx with
          | .bool a::alW,hx=>
            match AK:aU.toList.drop i,hy with
            | .bool b::al2,hy=>
              obtain⟨Jz,v8⟩:=tail xs _ _ JB
              obtain⟨JD,AJ⟩:=tail aU _ _ AK
              have gQ:=G0 xs aU w iB (i+1) Kb bo (by rw [v8];exact hx) (by rw [AJ];exact hy)
              unfold Op.eqFields
              rw [if_pos bc,bD]
              simp only [Sem.run_bind,EG tW Jz,EG tW JD,Result.andThen_ok,run_equalIn_bool' w 9998 f.type a b hu]
              rw [v8,AJ] at gQ
              cases lh:(a==b) with
              |false=>simp [lC,lh]
              |true=>simp only [lC,lh,Bool.true_and,Bool.not_true,Bool.false_eq_true,if_false];exact gQ
      · cases h
theorem xD {P:Program} {t:TypeId} {db:List Bool} (h:tM P t=some db) {xs aU:List Value} (hx:lK db xs) (hy:lK db aU) (w:World):(Op.equal t (.agg xs.toArray) (.agg aU.toArray)).run P w= .ok (lC db xs aU) w:=by
  unfold tM at h
  split at h
  · rename_i iB hu
    cases hs:P.stoodInHeld t with
    |true=>rw [hs] at h;cases h
    |false=>
      rw [hs] at h
      have bm:P.fieldsOf t=iB:=by unfold Program.fieldsOf;rw [hu]
      have:=run_equalIn_struct (P:=P) w 9999 t xs.toArray aU.toArray (by rw [bm];exact hu) hs
      rw [bm] at this
      show(Op.equalIn 10000 t _ _).run P w=_
      refine this.trans ?_
      have:=G0 (P:=P) xs.toArray aU.toArray w iB.toList 0 db h (by simpa using hx) (by simpa using hy)
      simpa using this
  · cases h
section
variable {P:Program} {u:World} {N:aw}
theorem Pc (x y:aA):lC [true,true] (GT.cells x ()) (GT.cells y ())=decide (x=y):=by
  rw [Bool.eq_iff_iff,decide_eq_true_iff,aA.ext_iff]
  simp [lC,GT.cells,Bool.and_eq_true]
theorem y4 {t:TypeId} (x y:aA) (h:tM P t=some [true,true]):fw P u N (.hG (do pure (.bool (←Op.equal t (GT.val x ()) (GT.val y ()))))) (B (decide (x=y))):=fun w _=>by
  show(do pure (.bool (←Op.equal t (GT.val x ()) (GT.val y ()))):Sem Value).run P w=_
  have e:=xD h (show lK [true,true] (GT.cells x ()) from trivial) (show lK [true,true] (GT.cells y ()) from trivial) w
  rw [Pc] at e
  rw [Sem.run_bind]
  show((Op.equal t (.agg (GT.cells x ()).toArray) (.agg (GT.cells y ()).toArray)).run P w).andThen _=_
  rw [e];rfl
theorem Vl {t:TypeId} (x y:aA) (h:tM P t=some [true,true]):fw P u N (.hG (do pure (.bool (!(←Op.equal t (GT.val x ()) (GT.val y ())))))) (B (!decide (x=y))):=fun w _=>by
  show(do pure (.bool (!(←Op.equal t (GT.val x ()) (GT.val y ())))):Sem Value).run P w=_
  have e:=xD h (show lK [true,true] (GT.cells x ()) from trivial) (show lK [true,true] (GT.cells y ()) from trivial) w
  rw [Pc] at e
  rw [Sem.run_bind]
  show((Op.equal t (.agg (GT.cells x ()).toArray) (.agg (GT.cells y ()).toArray)).run P w).andThen _=_
  rw [e];rfl
theorem aaQ (x y:cE):lC [true,true] (GT.cells x ()) (GT.cells y ())=decide (x=y):=by
  rw [Bool.eq_iff_iff,decide_eq_true_iff,cE.ext_iff]
  simp [lC,GT.cells,Bool.and_eq_true]
theorem Vk {t:TypeId} (x y:cE) (h:tM P t=some [true,true]):fw P u N (.hG (do pure (.bool (!(←Op.equal t (GT.val x ()) (GT.val y ())))))) (B (!decide (x=y))):=fun w _=>by
  show(do pure (.bool (!(←Op.equal t (GT.val x ()) (GT.val y ())))):Sem Value).run P w=_
  have e:=xD h (show lK [true,true] (GT.cells x ()) from trivial) (show lK [true,true] (GT.cells y ()) from trivial) w
  rw [aaQ] at e
  rw [Sem.run_bind]
  show((Op.equal t (.agg (GT.cells x ()).toArray) (.agg (GT.cells y ()).toArray)).run P w).andThen _=_
  rw [e];rfl
theorem aaO (x y:eM):lC [true,true,false] (GT.cells x ()) (GT.cells y ())=decide (x=y):=by
  rw [Bool.eq_iff_iff,decide_eq_true_iff,eM.ext_iff]
  simp [lC,GT.cells,Bool.and_eq_true]
theorem Vj {t:TypeId} (x y:eM) (h:tM P t=some [true,true,false]):fw P u N (.hG (do pure (.bool (←Op.equal t (GT.val x ()) (GT.val y ()))))) (B (decide (x=y))):=fun w _=>by
  show(do pure (.bool (←Op.equal t (GT.val x ()) (GT.val y ()))):Sem Value).run P w=_
  have e:=xD h (show lK [true,true,false] (GT.cells x ()) from trivial) (show lK [true,true,false] (GT.cells y ()) from trivial) w
  rw [aaO] at e
  rw [Sem.run_bind]
  show((Op.equal t (.agg (GT.cells x ()).toArray) (.agg (GT.cells y ()).toArray)).run P w).andThen _=_
  rw [e];rfl
theorem aaP (x y:dI):lC [true,true,false,true] (GT.cells x ()) (GT.cells y ())=decide (x=y):=by
  rw [Bool.eq_iff_iff,decide_eq_true_iff,dI.ext_iff]
  simp [lC,GT.cells,Bool.and_eq_true]
theorem MY {t:TypeId} (x y:dI) (h:tM P t=some [true,true,false,true]):fw P u N (.hG (do pure (.bool (←Op.equal t (GT.val x ()) (GT.val y ()))))) (B (decide (x=y))):=fun w _=>by
  show(do pure (.bool (←Op.equal t (GT.val x ()) (GT.val y ()))):Sem Value).run P w=_
  have e:=xD h (show lK [true,true,false,true] (GT.cells x ()) from trivial) (show lK [true,true,false,true] (GT.cells y ()) from trivial) w
  rw [aaP] at e
  rw [Sem.run_bind]
  show((Op.equal t (.agg (GT.cells x ()).toArray) (.agg (GT.cells y ()).toArray)).run P w).andThen _=_
  rw [e];rfl
theorem aaR (x y:da):lC [false,true] (GT.cells x ()) (GT.cells y ())=decide (x=y):=by
  rw [Bool.eq_iff_iff,decide_eq_true_iff,da.ext_iff]
  simp [lC,GT.cells,Bool.and_eq_true]
theorem Vm {t:TypeId} (x y:da) (h:tM P t=some [false,true]):fw P u N (.hG (do pure (.bool (!(←Op.equal t (GT.val x ()) (GT.val y ())))))) (B (!decide (x=y))):=fun w _=>by
  show(do pure (.bool (!(←Op.equal t (GT.val x ()) (GT.val y ())))):Sem Value).run P w=_
  have e:=xD h (show lK [false,true] (GT.cells x ()) from trivial) (show lK [false,true] (GT.cells y ()) from trivial) w
  rw [aaR] at e
  rw [Sem.run_bind]
  show((Op.equal t (.agg (GT.cells x ()).toArray) (.agg (GT.cells y ()).toArray)).run P w).andThen _=_
  rw [e];rfl
end
end Go.Proofs.YtmeoackmjdoecaaGreat
namespace Go.Proofs.YtmeoackmjdoecaaGreat
open Go
def aS (x a b:Int):Bool:=decide (a<=x)&&decide (x<=b)
theorem cM {x a b:Int} (h:aS x a b=true):a<=x/\x<=b:=by simpa [aS] using h
theorem dC {x a b:Int} (h:aS x a b=false):¬(a<=x/\x<=b):=by
  intro g;simp [aS,g.1,g.2] at h
def mL (k:Int):Bool:=aS k 13 17
def an4 (a:bV):Bool:=aS a.kind 1 17
def ih (a:bV):eM:=⟨a.x,a.y,a.z==1⟩
def aoo (n:Nat) (left:Int):Int:=if left-n<0 then-1 else left-n
def k1 (l:List bV):List bV:=l.filter fun a=>!mL a.kind
def ko (a:List bV) (t:List da):List da:=((a.zip t).filter fun p=>!mL p.1.kind).map (·.2)
theorem hJ {α:Type} [GT α] {xs:List α} {k:Nat} (h:k<xs.length):el xs k=xs[k]:=by simp [el,h]
theorem iH {α:Type} [GT α] {xs:List α} {k:Nat} (h:k<xs.length):xs.take (k+1)=xs.take k++[el xs k]:=by
  rw [hJ h,List.take_succ_eq_append_getElem h]
theorem wK {α:Type} [GT α] {xs aU:List α} {k:Nat} (h:k<xs.length) (h':k<aU.length) (e:xs.take k=aU.take k) (hX:el xs k=el aU k):xs.take (k+1)=aU.take (k+1):=by
  rw [iH h,iH h',e,hX]
theorem qD {α:Type} [GT α] {xs aU:List α} {k:Nat} (hX:¬el xs k=el aU k):¬xs=aU:=fun e=>hX (by rw [e])
theorem fj {α:Type} {xs:List α} {k:Nat} (h:xs.length<=k):xs.take k=xs:=List.take_of_length_le h
theorem Sf {l:List bV} {t:List da} {k:Nat} (h:k<l.length) (h':k<t.length):
    ko (l.take (k+1)) (t.take (k+1))=ko (l.take k) (t.take k)++if mL (el l k).kind then [] else [el t k]:=by
  have hl:(l.take k).length=(t.take k).length:=by simp;omega
  rw [iH h,iH h']
  unfold ko
  rw [List.zip_append hl,List.filter_append,List.map_append]
  congr 1
  cases hk:mL (el l k).kind<;>simp [hk]
theorem afq (l:List bV) (t:List da) (k:Nat) (h:l.length<=k):(ko l t).length<=k:=by
  unfold ko
  rw [List.length_map]
  exact Nat.le_trans (List.length_filter_le _ _) (by simp;omega)
theorem oL {a b:Bool} (h:(a||b)=false):a=false/\b=false:=by cases a<;>cases b<;>simp_all
theorem NF {a b:Bool} (h:(a&&b)=true):a=true/\b=true:=by cases a<;>cases b<;>simp_all
theorem Tu {a b c d:Int} (h:((a != b)&&(c != d))=false):a=b\/c=d:=by
  by_cases h1:a=b
  · exact .inl h1
  · by_cases ah:c=d
    · exact .inr ah
    · simp [bne,h1,ah] at h
theorem cw {b:Bool} (h:(!b)=true):b=false:=by cases b<;>simp_all
theorem cl {b:Bool} (h:(!b)=false):b=true:=by cases b<;>simp_all
theorem Vh {α β:Type}:∀(k:Nat) (l:List α) (t:List β),(l.take k).zip (t.take k)=(l.zip t).take k
  |0,l,t=>by simp
  |k+1,[],t=>by simp
  |k+1,a::l,[]=>by simp
  |k+1,a::l,b::t=>by simp [Vh k l t]
theorem Se {l:List bV} {t:List da} {k:Nat} (h:l.length<=k\/t.length<=k):ko l t=ko (l.take k) (t.take k):=by
  unfold ko
  rw [Vh,List.take_of_length_le (by simp;omega)]
end Go.Proofs.YtmeoackmjdoecaaGreat
namespace Go.Proofs.YtmeoackmjdoecaaGreat
open Go
theorem fg {α:Type} [GT α] {xs:List α} {k:Nat} {y:α} (h:k<xs.length):el (xs.set k y) k=y:=by simp [el,h]
theorem GX {α:Type} [GT α] (f:Nat->α) (n i:Nat) (h:i<n):el ((List.range n).map f) i=f i:=by simp [el,h]
def ab6 (j:Int):Int:=j
def aoe (n:Nat) (k:Int):List Int:=(List.range n).map fun(i:Nat)=>ab6 (k+1*(i:Int))
def ab1 (j:Int):Bool:=(Int.tmod j 3==0)
def an_ (n:Nat) (k:Int):List Bool:=(List.range n).map fun(i:Nat)=>ab1 (k+1*(i:Int))
def ab7 (j:Int):aA:=⟨j,(j+1)⟩
def aof (n:Nat) (k:Int):List aA:=(List.range n).map fun(i:Nat)=>ab7 (k+2*(i:Int))
def ab3 (j:Int):a0:=⟨j,(j+1),(j+2),(j+3)⟩
def aob (n:Nat) (k:Int):List a0:=(List.range n).map fun(i:Nat)=>ab3 (k+4*(i:Int))
def ab5 (j:Int):cE:=⟨j,(j+1)⟩
def aod (n:Nat) (k:Int):List cE:=(List.range n).map fun(i:Nat)=>ab5 (k+2*(i:Int))
def ab2 (j:Int):eM:=⟨j,(j+1),(Int.tmod (j+2) 3==0)⟩
def aoa (n:Nat) (k:Int):List eM:=(List.range n).map fun(i:Nat)=>ab2 (k+3*(i:Int))
def ab4 (j:Int):dI:=⟨j,(j+1),(Int.tmod (j+2) 3==0),(j+3)⟩
def aoc (n:Nat) (k:Int):List dI:=(List.range n).map fun(i:Nat)=>ab4 (k+4*(i:Int))
def ab0 (j:Int):bV:=⟨j,(j+1),(j+2),(j+3),(j+4),(j+5)⟩
def an9 (n:Nat) (k:Int):List bV:=(List.range n).map fun(i:Nat)=>ab0 (k+6*(i:Int))
def ab8 (j:Int):da:=⟨(Int.tmod j 3==0),(j+1)⟩
def aog (n:Nat) (k:Int):List da:=(List.range n).map fun(i:Nat)=>ab8 (k+2*(i:Int))
end Go.Proofs.YtmeoackmjdoecaaGreat
namespace Go.Proofs.YtmeoackmjdoecaaGreat
open Go
def w2 (P:Program) (t:TypeId) (α:Type) [GT α]:Prop:=
  P.cellsOf t=GT.width α/\∀(H:Type) (enc:TypeId×Value->H) (w:World) (fuel:Nat) (cs:List Value) (x:DataW H×List MemPlace),
    DataW.trod enc P w 0 (fun _=>true) true fuel t cs=some x->∃(d:α) (p:GT.Ptr α),cs=GT.cells d p/\GT.rd u_ (ga w.heap.size) w d p
theorem aiJ {P:Program} {t e:TypeId} {α:Type} [GT α] (bC:P.underlying t=some (.slice e)) (hc:P.cellsOf t=1) (bD:w2 P e α):w2 P t (List α):=by
  refine⟨hc,fun H enc w fuel cs x h=>?_⟩
  rcases Go.Deep.open_slice bC h with⟨rfl,_⟩|⟨a,len,cap,m,n,D,am7,rfl,_,hl,hm,AA,_,hx⟩
  · exact⟨[],GT.bL,rfl,GT.fb (GT.gu _ _ _)⟩
  simp only [if_true] at AA
  subst AA
  have:Inhabited α:=⟨GT.dE⟩
  have:Inhabited (GT.Ptr α):=⟨GT.bL⟩
  obtain⟨f,bm⟩:=Go.Deep.choose_lt (α:=α×GT.Ptr α) (n:=m) (p:=fun i y=>w.cells? 0 (a.add (i*P.cellsOf e)) (P.cellsOf e)=some (GT.cells y.1 y.2)/\GT.rd u_ (ga w.heap.size) w y.1 y.2) (fun i hi=>by
    obtain⟨l1,h1,ah⟩:=hx i hi
    obtain⟨d,p,rfl,aE⟩:=bD.2 H enc w n l1 _ ah
    exact⟨(d,p),h1,aE⟩)
  have hlen:((List.range len).map fun i=>(f i).1).length=len:=by simp
  have ks:∀i,i<len->el ((List.range len).map fun i=>(f i).1) i=(f i).1:=fun i hi=>by simp [el,hi]
  by_cases h0:m=0
  · obtain rfl:len=0:=by omega
    subst h0
    exact⟨[],(⟨true,0,0,0,some a⟩,fun _=>GT.bL),rfl,Nat.zero_le _,Nat.zero_le _,fun h=>absurd h (Nat.lt_irrefl _),fun i hi=>absurd hi (Nat.not_lt_zero _),fun i hi=>absurd hi (Nat.not_lt_zero _)⟩
  have DM:∃b o,a=⟨b,o,none⟩:=by
    obtain⟨_,tY,sm⟩:=World.cells?_some (bm 0 (by omega)).1
    have aE:=sm 0 (by rw [bD.1];exact GT.jG)
    have aJ:∃v,(GT.cells (f 0).1 (f 0).2)[0]? =some v:=⟨_,List.getElem?_eq_getElem (by rw [GT.len];exact GT.jG)⟩
    obtain⟨v,bu⟩:=aJ
    rw [bu,Nat.zero_mul] at aE
    simp only [Addr.add,if_true] at aE
    obtain⟨b,o,s⟩:=a
    cases s with
    |none=>exact⟨b,o,rfl⟩
    |some s=>unfold World.cell? at aE;split at aE<;>simp at aE
  obtain⟨b,o,rfl⟩:=DM
  have k2:∀i,i<m->k6 w b (o+i*GT.width α) (GT.cells (f i).1 (f i).2):=fun i hi=>by
    obtain⟨_,tY,sm⟩:=World.cells?_some (bm i hi).1
    intro j v bJ
    have qh:=(List.getElem?_eq_some_iff.1 bJ).1
    have aE:=sm j (by omega)
    rw [bJ,bD.1,Go.Deep.add_add] at aE
    have e:(Addr.mk b o none).add (i*GT.width α+j)=⟨b,o+i*GT.width α+j,none⟩:=by
      unfold Addr.add
      split
      · rename_i h;simp
      · simp [Nat.add_assoc]
    rwa [e] at aE
  refine⟨(List.range len).map fun i=>(f i).1,(⟨false,b,o,m,none⟩,fun i=>(f i).2),?_,?_,?_,?_,?_,?_⟩
  · show [Value.slice (some _) len m]=[ab (List.length _) _]
    rw [hlen]
    rfl
  · rw [hlen];unfold maxLen at hm;unfold u_;omega
  · rw [hlen];exact hl
  · intro h
    refine⟨rfl,?_⟩
    exact(k2 0 (by omega)).lt (by rw [GT.len];exact GT.jG)
  · intro i hi
    rw [hlen] at hi
    rw [ks i hi]
    exact k2 i (by omega)
  · intro i hi
    rw [hlen] at hi
    rw [ks i hi]
    exact(bm i (by omega)).2
theorem gk {cs c:List Value} {o w:Nat} (h:(cs.drop o).take w=c) (ik:Nat) (e:ik=o+w):cs.drop o=c++cs.drop ik:=by
  subst h e
  rw [←List.drop_drop,List.take_append_drop]
theorem WX {H:Type} {enc:TypeId×Value->H} {P:Program} {w:World} {t e:TypeId} {α:Type} [GT α] (bD:w2 P t (List α)) (bC:P.underlying t=some (.slice e))
    {r:Reach} {r1:Nat} {v:Value} (bu:Value.okWide P w r r1 t v) {d:DataW H} {nA:List MemPlace} (h:DataW.Trod enc P w 0 (fun _=>true) true t v d nA):
    ∃(d:List α) (p:af α),v=ab d.length p.1/\ag u_ (ga w.heap.size) w d p:=by
  obtain⟨a,len,cap,rfl⟩:=Go.WideShapes.okWide_slice bC bu
  obtain⟨fuel,bm⟩:=h
  obtain⟨x,p,h1,ah⟩:=bD.2 H enc w fuel _ _ bm
  refine⟨x,p,?_,ah⟩
  have aE:[Value.slice a len cap]=[ab x.length p.1]:=h1
  exact(List.cons.inj aE).1
theorem U8 {H:Type} {enc:TypeId×Value->H} {P:Program} {w:World} {base:Nat} {spare:Nat->Bool} {held:Bool} {U9:List TypeId} {Fe:List Value} {O2:List (DataW H)} {p':List MemPlace} (h':DataW.TrodAll enc P w base spare held U9 Fe O2 p'):
    ∀{qE:List TypeId} {dx:List Value} {qY:List (DataW H)} {p:List MemPlace},DataW.TrodAll enc P w base spare held qE dx qY p->DataW.TrodAll enc P w base spare held (qE++U9) (dx++Fe) (qY++O2) (p++p')
  |
    [],_,_,_,h=>by
    obtain⟨rfl,rfl,rfl⟩:=Go.ChangeShapes.trodAll_nil h
    exact h'
  |_::_,_,_,_,h=>by
    obtain⟨v,asj,d,anR,a,b,rfl,rfl,rfl,h1,ah⟩:=Go.ChangeShapes.trodAll_cons h
    exact⟨a,b++p',h1,U8 h' ah,by simp⟩
theorem ai7 {H:Type} {enc:TypeId×Value->H} {P:Program} {f:Func} {s:ChangeSpec} {apart fresh handsOn again:Bool} {W vc:World} {args:Array Value} {v:Value} {qY gs:List (DataW H)} {before pa pv:List MemPlace}
    (aO:DataW.Whole enc P f.params.toList s.vars apart W args.toList qY gs before)
    (RZ:∀(b:Nat) (sp:Nat->Bool) (hd:Bool),DataW.TrodAll enc P vc b sp hd f.resultTypes.toList (v.resultList f.resultTypes.size) (s.fn H (qY++gs)).results [])
    (ox:∀sp:Nat->Bool,(∀p∈before,sp p.block=true)->DataW.TrodAll enc P vc 0 sp true f.params.toList args.toList (s.fn H (qY++gs)).args pa)
    (R7:∀sp:Nat->Bool,(∀p∈before,sp p.block=true)->DataW.TrodVars enc P vc sp s.vars (s.fn H (qY++gs)).vars pv)
    (ub:before=pa++pv) (hb:RowKit.Below W.heap.size W vc)
    (yd:∀(j:Nat) (t:TypeId) (r:Value),f.resultTypes[j]? =some t->(v.resultList f.resultTypes.size)[j]? =some r->Value.okWide P vc .any 0 t r):
    s.post enc P f apart fresh handsOn again W args v vc:=by
  have hold:∀p∈before,(fun b=>decide (b<W.heap.size)) p.block=true:=fun p a2=>by simpa using aO.lt p a2
  have fs:=aO.lt
  refine⟨qY,gs,before,[],pa,pv,aO,RZ _ _ _,ox _ hold,R7 _ hold,World.keptBut_mono (fun p a2=>⟨a2,?_⟩) (hb.frame (· ∈before)),fun _=>?_⟩
  · rw [ub,List.mem_append] at a2
    exact Or.inr a2
  · obtain⟨_,_,_,_,_,fB,bc⟩:=aO
    refine⟨yd,_,_,([]++pa)++pv,⟨[]++pa,pv,U8 (ox _ (fun _ _=>rfl)) (RZ _ _ _),R7 _ (fun _ _=>rfl),rfl,?_,?_⟩,?_⟩
    · intro b off a2
      have RO:MemPlace.cell b off∈before:=by rw [ub];simpa using a2
      rw [hb.frozen (p:=⟨b,off,none⟩) (fs _ RO)]
      exact fB b off RO
    · intro bR
      have:=bc bR
      rw [ub] at this
      simpa using this
    · intro p a2 _
      rw [ub]
      simpa using a2
end Go.Proofs.YtmeoackmjdoecaaGreat
namespace Go.Proofs.YtmeoackmjdoecaaGreat
open Go
class c1 (α:Type) [GT α] where
  dh:α->Nat
  cut:∀{K cS:Nat} {F:aw} {w:World} {x:α} {p:GT.Ptr α},GT.rd K F w x p->dh x<=cS->GT.rd cS F w x p
def mX {α:Type} [GT α] [c1 α] (xs:List α):Nat:=(xs.map c1.dh).sum
instance:c1 Int where
  dh _:=0
  cut h _:=h
instance:c1 Bool where
  dh _:=0
  cut h _:=h
section
variable {α:Type} [GT α] [c1 α]
theorem UZ (xs aU:List α):mX (xs++aU)=mX xs+mX aU:=by simp [mX]
theorem alp (xs:List α) (k:Nat):mX xs=mX (xs.take k)+mX (xs.drop k):=by rw [←UZ,List.take_append_drop]
theorem alq {xs:List α} {k:Nat} (h:k<xs.length):mX (xs.take (k+1))=mX (xs.take k)+c1.dh (el xs k):=by
  rw [List.take_succ_eq_append_getElem h,UZ]
  simp [mX,el,h]
theorem alr (xs:List α) (k:Nat):mX (xs.take k)<=mX xs:=by rw [alp xs k];omega
theorem aln {xs:List α} {k:Nat} (h:k<xs.length):c1.dh (el xs k)<=mX xs:=by
  have h1:=alq h
  have ah:=alr xs (k+1)
  omega
instance:c1 (List α) where
  dh xs:=xs.length+mX xs
  cut h hk:=⟨by omega,h.cap,h.at_,h.cell,fun i hi=>c1.cut (h.el i hi) (by have:=aln hi;omega)⟩
theorem alo (xs:List α):c1.dh xs=xs.length+mX xs:=rfl
end
instance:c1 aA where
  dh _:=0
  cut h _:=h
instance:c1 bO where
  dh x:=c1.dh x.known+c1.dh x.bN
  cut h hk:=⟨c1.cut h.known (by omega),c1.cut h.bN (by omega)⟩
theorem alk (x:bO):c1.dh x=c1.dh x.known+c1.dh x.bN:=rfl
instance:c1 a0 where
  dh _:=0
  cut h _:=h
instance:c1 cE where
  dh _:=0
  cut h _:=h
instance:c1 eM where
  dh _:=0
  cut h _:=h
instance:c1 dI where
  dh _:=0
  cut h _:=h
instance:c1 az where
  dh x:=c1.dh x.prog+c1.dh x.written+c1.dh x.live+c1.dh x.seen
  cut h hk:=⟨c1.cut h.prog (by omega),h.acc,h.aN,c1.cut h.written (by omega),c1.cut h.live (by omega),h.bH,h.av,h.exit,c1.cut h.seen (by omega)⟩
theorem ali (x:az):c1.dh x=c1.dh x.prog+c1.dh x.written+c1.dh x.live+c1.dh x.seen:=rfl
instance:c1 a9 where
  dh x:=c1.dh x.mem+c1.dh x.U+c1.dh x.outs
  cut h hk:=⟨c1.cut h.mem (by omega),c1.cut h.U (by omega),c1.cut h.outs (by omega),h.av⟩
theorem alh (x:a9):c1.dh x=c1.dh x.mem+c1.dh x.U+c1.dh x.outs:=rfl
instance:c1 aZ where
  dh x:=c1.dh x.outer+c1.dh x.out+c1.dh x.bj+c1.dh x.U+c1.dh x.outs+c1.dh x.tables
  cut h hk:=⟨c1.cut h.outer (by omega),c1.cut h.out (by omega),c1.cut h.bj (by omega),c1.cut h.U (by omega),c1.cut h.outs (by omega),h.av,h.bQ,c1.cut h.tables (by omega),h.owned⟩
theorem alm (x:aZ):c1.dh x=c1.dh x.outer+c1.dh x.out+c1.dh x.bj+c1.dh x.U+c1.dh x.outs+c1.dh x.tables:=rfl
instance:c1 ad where
  dh x:=c1.dh x.mem+c1.dh x.I+c1.dh x.buf+c1.dh x.ar
  cut h hk:=⟨c1.cut h.mem (by omega),c1.cut h.I (by omega),c1.cut h.buf (by omega),c1.cut h.ar (by omega)⟩
theorem alj (x:ad):c1.dh x=c1.dh x.mem+c1.dh x.I+c1.dh x.buf+c1.dh x.ar:=rfl
instance:c1 bV where
  dh _:=0
  cut h _:=h
instance:c1 da where
  dh _:=0
  cut h _:=h
end Go.Proofs.YtmeoackmjdoecaaGreat
namespace Go.Proofs.YtmeoackmjdoecaaGreat
open Go
def s8:List aw->aw
  |[]=>aa
  |G::l=>Or G (s8 l)
theorem J.AZ {X:aw}:J aa X:=fun _ h _=>False.elim h
theorem J.or {A C X:aw} (h:J A X) (k:J C X):J (Or A C) X:=fun b h1 ah=>h1.elim (fun y=>h b y ah) (fun y=>k b y ah)
theorem J.part {A F X:aw} (h:J F X) (s:∀b,A b->F b):J A X:=fun b h1 ah=>h b (s b h1) ah
theorem alH {l:List aw} {G:aw} (h:G∈l) (b:Nat) (hb:G b):s8 l b:=by
  induction l with
  |nil=>cases h
  |cons A l gQ=>
    rcases List.mem_cons.1 h with rfl|h
    · exact Or.inl hb
    · exact Or.inr (gQ h)
theorem rO {l:List aw} {X:Nat->Prop} (h:∀G,G∈l->∀b,G b->X b) (b:Nat) (hb:s8 l b):X b:=by
  induction l with
  |nil=>exact False.elim hb
  |cons A l gQ=>
    rcases hb with hb|hb
    · exact h A List.mem_cons_self b hb
    · exact gQ (fun G cu=>h G (List.mem_cons_of_mem _ cu)) hb
theorem BK {l:List aw} (h:l.Pairwise J):nK (s8 l) l:=⟨fun _ cu=>alH cu,h⟩
theorem ea {l:List aw} (h:l.Pairwise J) {i j:Nat} {A C:aw} (qg:i<j) (hi:l[i]? =some A) (bJ:l[j]? =some C):J A C:=by
  obtain⟨h1,rfl⟩:=List.getElem?_eq_some_iff.1 hi
  obtain⟨ah,rfl⟩:=List.getElem?_eq_some_iff.1 bJ
  exact List.pairwise_iff_getElem.1 h i j h1 ah qg
section
variable {w0:World} {M:aw} {u:World} {N:aw}
theorem pD {dt F1:aw} {x:bO} {p:hI} (cL:ai w0 M u N dt x.known p.known) (fp:ai w0 M u N F1 x.bN p.bN) (r5:J dt F1):ai w0 M u N (s8 [dt,F1]) x p:=by
  refine⟨⟨dt,F1,cL.own,fp.own,BK (List.Pairwise.cons (by intro G cu;simp only [List.mem_cons,List.not_mem_nil,or_false] at cu;rcases cu with rfl;exact r5) (List.Pairwise.cons (fun G cu=>by cases cu) List.Pairwise.nil))⟩,?_,?_⟩
  · refine rO fun G cu=>?_
    simp only [List.mem_cons,List.not_mem_nil,or_false] at cu
    rcases cu with rfl|rfl
    · exact cL.sub
    · exact fp.sub
  · refine rO fun G cu=>?_
    simp only [List.mem_cons,List.not_mem_nil,or_false] at cu
    rcases cu with rfl|rfl
    · exact cL.cU
    · exact fp.cU
theorem yV {F:aw} {x:bO} {p:hI} (o:ai w0 M u N F x p):∃dt F1:aw,ai w0 M u N dt x.known p.known/\ai w0 M u N F1 x.bN p.bN/\(∀b,dt b->F b)/\(∀b,F1 b->F b)/\J dt F1:=by
  obtain⟨⟨dt,F1,gC,cW,s⟩,h1,ah⟩:=o
  have gw:∀b,dt b->F b:=s.sub _ (by simp)
  have s1:∀b,F1 b->F b:=s.sub _ (by simp)
  exact⟨dt,F1,⟨gC,fun b hb=>h1 b (gw b hb),fun b hb=>ah b (gw b hb)⟩,⟨cW,fun b hb=>h1 b (s1 b hb),fun b hb=>ah b (s1 b hb)⟩,gw,s1,ea s.dJ (i:=0) (j:=1) (by decide) rfl rfl⟩
theorem ke {dt F1 aX cR:aw} {x:az} {p:dB} (cL:ai w0 M u N dt x.prog p.prog) (fp:ai w0 M u N F1 x.written p.written) (eX:ai w0 M u N aX x.live p.live) (au:ai w0 M u N cR x.seen p.seen) (r5:J dt F1) (vk:J dt aX) (zA:J dt cR) (vl:J F1 aX) (zB:J F1 cR) (zI:J aX cR) (f0:aq x.acc) (f1:aq x.aN) (f2:hC x.bH) (f3:aq x.av) (f4:iu x.exit):ai w0 M u N (s8 [dt,F1,aX,cR]) x p:=by
  refine⟨⟨dt,F1,aX,cR,cL.own,fp.own,eX.own,au.own,BK (List.Pairwise.cons (by intro G cu;simp only [List.mem_cons,List.not_mem_nil,or_false] at cu;rcases cu with rfl|rfl|rfl;exact r5;exact vk;exact zA) (List.Pairwise.cons (by intro G cu;simp only [List.mem_cons,List.not_mem_nil,or_false] at cu;rcases cu with rfl|rfl;exact vl;exact zB) (List.Pairwise.cons (by intro G cu;simp only [List.mem_cons,List.not_mem_nil,or_false] at cu;rcases cu with rfl;exact zI) (List.Pairwise.cons (fun G cu=>by cases cu) List.Pairwise.nil)))),f0,f1,f2,f3,f4⟩,?_,?_⟩
  · refine rO fun G cu=>?_
    simp only [List.mem_cons,List.not_mem_nil,or_false] at cu
    rcases cu with rfl|rfl|rfl|rfl
    · exact cL.sub
    · exact fp.sub
    · exact eX.sub
    · exact au.sub
  · refine rO fun G cu=>?_
    simp only [List.mem_cons,List.not_mem_nil,or_false] at cu
    rcases cu with rfl|rfl|rfl|rfl
    · exact cL.cU
    · exact fp.cU
    · exact eX.cU
    · exact au.cU
theorem qB {F:aw} {x:az} {p:dB} (o:ai w0 M u N F x p):∃dt F1 aX cR:aw,ai w0 M u N dt x.prog p.prog/\ai w0 M u N F1 x.written p.written/\ai w0 M u N aX x.live p.live/\ai w0 M u N cR x.seen p.seen/\(∀b,dt b->F b)/\(∀b,F1 b->F b)/\(∀b,aX b->F b)/\(∀b,cR b->F b)/\J dt F1/\J dt aX/\J dt cR/\J F1 aX/\J F1 cR/\J aX cR:=by
  obtain⟨⟨dt,F1,aX,cR,gC,cW,bM,c3,s,_,_,_,_,_⟩,h1,ah⟩:=o
  have gw:∀b,dt b->F b:=s.sub _ (by simp)
  have s1:∀b,F1 b->F b:=s.sub _ (by simp)
  have s2:∀b,aX b->F b:=s.sub _ (by simp)
  have ja:∀b,cR b->F b:=s.sub _ (by simp)
  exact⟨dt,F1,aX,cR,⟨gC,fun b hb=>h1 b (gw b hb),fun b hb=>ah b (gw b hb)⟩,⟨cW,fun b hb=>h1 b (s1 b hb),fun b hb=>ah b (s1 b hb)⟩,⟨bM,fun b hb=>h1 b (s2 b hb),fun b hb=>ah b (s2 b hb)⟩,⟨c3,fun b hb=>h1 b (ja b hb),fun b hb=>ah b (ja b hb)⟩,gw,s1,s2,ja,ea s.dJ (i:=0) (j:=1) (by decide) rfl rfl,ea s.dJ (i:=0) (j:=2) (by decide) rfl rfl,ea s.dJ (i:=0) (j:=3) (by decide) rfl rfl,ea s.dJ (i:=1) (j:=2) (by decide) rfl rfl,ea s.dJ (i:=1) (j:=3) (by decide) rfl rfl,ea s.dJ (i:=2) (j:=3) (by decide) rfl rfl⟩
theorem kN {dt F1 aX:aw} {x:a9} {p:ec} (cL:ai w0 M u N dt x.mem p.mem) (fp:ai w0 M u N F1 x.U p.U) (eX:ai w0 M u N aX x.outs p.outs) (r5:J dt F1) (vk:J dt aX) (vl:J F1 aX) (f0:aq x.av):ai w0 M u N (s8 [dt,F1,aX]) x p:=by
  refine⟨⟨dt,F1,aX,cL.own,fp.own,eX.own,BK (List.Pairwise.cons (by intro G cu;simp only [List.mem_cons,List.not_mem_nil,or_false] at cu;rcases cu with rfl|rfl;exact r5;exact vk) (List.Pairwise.cons (by intro G cu;simp only [List.mem_cons,List.not_mem_nil,or_false] at cu;rcases cu with rfl;exact vl) (List.Pairwise.cons (fun G cu=>by cases cu) List.Pairwise.nil))),f0⟩,?_,?_⟩
  · refine rO fun G cu=>?_
    simp only [List.mem_cons,List.not_mem_nil,or_false] at cu
    rcases cu with rfl|rfl|rfl
    · exact cL.sub
    · exact fp.sub
    · exact eX.sub
  · refine rO fun G cu=>?_
    simp only [List.mem_cons,List.not_mem_nil,or_false] at cu
    rcases cu with rfl|rfl|rfl
    · exact cL.cU
    · exact fp.cU
    · exact eX.cU
theorem wH {F:aw} {x:a9} {p:ec} (o:ai w0 M u N F x p):∃dt F1 aX:aw,ai w0 M u N dt x.mem p.mem/\ai w0 M u N F1 x.U p.U/\ai w0 M u N aX x.outs p.outs/\(∀b,dt b->F b)/\(∀b,F1 b->F b)/\(∀b,aX b->F b)/\J dt F1/\J dt aX/\J F1 aX:=by
  obtain⟨⟨dt,F1,aX,gC,cW,bM,s,_⟩,h1,ah⟩:=o
  have gw:∀b,dt b->F b:=s.sub _ (by simp)
  have s1:∀b,F1 b->F b:=s.sub _ (by simp)
  have s2:∀b,aX b->F b:=s.sub _ (by simp)
  exact⟨dt,F1,aX,⟨gC,fun b hb=>h1 b (gw b hb),fun b hb=>ah b (gw b hb)⟩,⟨cW,fun b hb=>h1 b (s1 b hb),fun b hb=>ah b (s1 b hb)⟩,⟨bM,fun b hb=>h1 b (s2 b hb),fun b hb=>ah b (s2 b hb)⟩,gw,s1,s2,ea s.dJ (i:=0) (j:=1) (by decide) rfl rfl,ea s.dJ (i:=0) (j:=2) (by decide) rfl rfl,ea s.dJ (i:=1) (j:=2) (by decide) rfl rfl⟩
theorem Bd {dt F1 aX cR fQ de:aw} {x:aZ} {p:g6} (cL:ai w0 M u N dt x.outer p.outer) (fp:ai w0 M u N F1 x.out p.out) (eX:ai w0 M u N aX x.bj p.bj) (au:ai w0 M u N cR x.U p.U) (eY:ai w0 M u N fQ x.outs p.outs) (cG:ai w0 M u N de x.tables p.tables) (r5:J dt F1) (vk:J dt aX) (zA:J dt cR) (Zt:J dt fQ) (Zu:J dt de) (vl:J F1 aX) (zB:J F1 cR) (Zv:J F1 fQ) (Zw:J F1 de) (zI:J aX cR) (ZI:J aX fQ) (ZJ:J aX de) (Z1:J cR fQ) (Z2:J cR de) (aar:J fQ de) (f0:aq x.av) (f1:aq x.bQ) (f2:aq x.owned):ai w0 M u N (s8 [dt,F1,aX,cR,fQ,de]) x p:=by
  refine⟨⟨dt,F1,aX,cR,fQ,de,cL.own,fp.own,eX.own,au.own,eY.own,cG.own,BK (List.Pairwise.cons (by intro G cu;simp only [List.mem_cons,List.not_mem_nil,or_false] at cu;rcases cu with rfl|rfl|rfl|rfl|rfl;exact r5;exact vk;exact zA;exact Zt;exact Zu) (List.Pairwise.cons (by intro G cu;simp only [List.mem_cons,List.not_mem_nil,or_false] at cu;rcases cu with rfl|rfl|rfl|rfl;exact vl;exact zB;exact Zv;exact Zw) (List.Pairwise.cons (by intro G cu;simp only [List.mem_cons,List.not_mem_nil,or_false] at cu;rcases cu with rfl|rfl|rfl;exact zI;exact ZI;exact ZJ) (List.Pairwise.cons (by intro G cu;simp only [List.mem_cons,List.not_mem_nil,or_false] at cu;rcases cu with rfl|rfl;exact Z1;exact Z2) (List.Pairwise.cons (by intro G cu;simp only [List.mem_cons,List.not_mem_nil,or_false] at cu;rcases cu with rfl;exact aar) (List.Pairwise.cons (fun G cu=>by cases cu) List.Pairwise.nil)))))),f0,f1,f2⟩,?_,?_⟩
  · refine rO fun G cu=>?_
    simp only [List.mem_cons,List.not_mem_nil,or_false] at cu
    rcases cu with rfl|rfl|rfl|rfl|rfl|rfl
    · exact cL.sub
    · exact fp.sub
    · exact eX.sub
    · exact au.sub
    · exact eY.sub
    · exact cG.sub
  · refine rO fun G cu=>?_
    simp only [List.mem_cons,List.not_mem_nil,or_false] at cu
    rcases cu with rfl|rfl|rfl|rfl|rfl|rfl
    · exact cL.cU
    · exact fp.cU
    · exact eX.cU
    · exact au.cU
    · exact eY.cU
    · exact cG.cU
theorem UW {F:aw} {x:aZ} {p:g6} (o:ai w0 M u N F x p):∃dt F1 aX cR fQ de:aw,ai w0 M u N dt x.outer p.outer/\ai w0 M u N F1 x.out p.out/\ai w0 M u N aX x.bj p.bj/\ai w0 M u N cR x.U p.U/\ai w0 M u N fQ x.outs p.outs/\ai w0 M u N de x.tables p.tables/\(∀b,dt b->F b)/\(∀b,F1 b->F b)/\(∀b,aX b->F b)/\(∀b,cR b->F b)/\(∀b,fQ b->F b)/\(∀b,de b->F b)/\J dt F1/\J dt aX/\J dt cR/\J dt fQ/\J dt de/\J F1 aX/\J F1 cR/\J F1 fQ/\J F1 de/\J aX cR/\J aX fQ/\J aX de/\J cR fQ/\J cR de/\J fQ de:=by
  obtain⟨⟨dt,F1,aX,cR,fQ,de,gC,cW,bM,c3,ej,gb,s,_,_,_⟩,h1,ah⟩:=o
  have gw:∀b,dt b->F b:=s.sub _ (by simp)
  have s1:∀b,F1 b->F b:=s.sub _ (by simp)
  have s2:∀b,aX b->F b:=s.sub _ (by simp)
  have ja:∀b,cR b->F b:=s.sub _ (by simp)
  have BD:∀b,fQ b->F b:=s.sub _ (by simp)
  have yR:∀b,de b->F b:=s.sub _ (by simp)
  exact⟨dt,F1,aX,cR,fQ,de,⟨gC,fun b hb=>h1 b (gw b hb),fun b hb=>ah b (gw b hb)⟩,⟨cW,fun b hb=>h1 b (s1 b hb),fun b hb=>ah b (s1 b hb)⟩,⟨bM,fun b hb=>h1 b (s2 b hb),fun b hb=>ah b (s2 b hb)⟩,⟨c3,fun b hb=>h1 b (ja b hb),fun b hb=>ah b (ja b hb)⟩,⟨ej,fun b hb=>h1 b (BD b hb),fun b hb=>ah b (BD b hb)⟩,⟨gb,fun b hb=>h1 b (yR b hb),fun b hb=>ah b (yR b hb)⟩,gw,s1,s2,ja,BD,yR,ea s.dJ (i:=0) (j:=1) (by decide) rfl rfl,ea s.dJ (i:=0) (j:=2) (by decide) rfl rfl,ea s.dJ (i:=0) (j:=3) (by decide) rfl rfl,ea s.dJ (i:=0) (j:=4) (by decide) rfl rfl,ea s.dJ (i:=0) (j:=5) (by decide) rfl rfl,ea s.dJ (i:=1) (j:=2) (by decide) rfl rfl,ea s.dJ (i:=1) (j:=3) (by decide) rfl rfl,ea s.dJ (i:=1) (j:=4) (by decide) rfl rfl,ea s.dJ (i:=1) (j:=5) (by decide) rfl rfl,ea s.dJ (i:=2) (j:=3) (by decide) rfl rfl,ea s.dJ (i:=2) (j:=4) (by decide) rfl rfl,ea s.dJ (i:=2) (j:=5) (by decide) rfl rfl,ea s.dJ (i:=3) (j:=4) (by decide) rfl rfl,ea s.dJ (i:=3) (j:=5) (by decide) rfl rfl,ea s.dJ (i:=4) (j:=5) (by decide) rfl rfl⟩
theorem hz {dt F1 aX cR:aw} {x:ad} {p:cK} (cL:ai w0 M u N dt x.mem p.mem) (fp:ai w0 M u N F1 x.I p.I) (eX:ai w0 M u N aX x.buf p.buf) (au:ai w0 M u N cR x.ar p.ar) (r5:J dt F1) (vk:J dt aX) (zA:J dt cR) (vl:J F1 aX) (zB:J F1 cR) (zI:J aX cR):ai w0 M u N (s8 [dt,F1,aX,cR]) x p:=by
  refine⟨⟨dt,F1,aX,cR,cL.own,fp.own,eX.own,au.own,BK (List.Pairwise.cons (by intro G cu;simp only [List.mem_cons,List.not_mem_nil,or_false] at cu;rcases cu with rfl|rfl|rfl;exact r5;exact vk;exact zA) (List.Pairwise.cons (by intro G cu;simp only [List.mem_cons,List.not_mem_nil,or_false] at cu;rcases cu with rfl|rfl;exact vl;exact zB) (List.Pairwise.cons (by intro G cu;simp only [List.mem_cons,List.not_mem_nil,or_false] at cu;rcases cu with rfl;exact zI) (List.Pairwise.cons (fun G cu=>by cases cu) List.Pairwise.nil))))⟩,?_,?_⟩
  · refine rO fun G cu=>?_
    simp only [List.mem_cons,List.not_mem_nil,or_false] at cu
    rcases cu with rfl|rfl|rfl|rfl
    · exact cL.sub
    · exact fp.sub
    · exact eX.sub
    · exact au.sub
  · refine rO fun G cu=>?_
    simp only [List.mem_cons,List.not_mem_nil,or_false] at cu
    rcases cu with rfl|rfl|rfl|rfl
    · exact cL.cU
    · exact fp.cU
    · exact eX.cU
    · exact au.cU
theorem n5 {F:aw} {x:ad} {p:cK} (o:ai w0 M u N F x p):∃dt F1 aX cR:aw,ai w0 M u N dt x.mem p.mem/\ai w0 M u N F1 x.I p.I/\ai w0 M u N aX x.buf p.buf/\ai w0 M u N cR x.ar p.ar/\(∀b,dt b->F b)/\(∀b,F1 b->F b)/\(∀b,aX b->F b)/\(∀b,cR b->F b)/\J dt F1/\J dt aX/\J dt cR/\J F1 aX/\J F1 cR/\J aX cR:=by
  obtain⟨⟨dt,F1,aX,cR,gC,cW,bM,c3,s⟩,h1,ah⟩:=o
  have gw:∀b,dt b->F b:=s.sub _ (by simp)
  have s1:∀b,F1 b->F b:=s.sub _ (by simp)
  have s2:∀b,aX b->F b:=s.sub _ (by simp)
  have ja:∀b,cR b->F b:=s.sub _ (by simp)
  exact⟨dt,F1,aX,cR,⟨gC,fun b hb=>h1 b (gw b hb),fun b hb=>ah b (gw b hb)⟩,⟨cW,fun b hb=>h1 b (s1 b hb),fun b hb=>ah b (s1 b hb)⟩,⟨bM,fun b hb=>h1 b (s2 b hb),fun b hb=>ah b (s2 b hb)⟩,⟨c3,fun b hb=>h1 b (ja b hb),fun b hb=>ah b (ja b hb)⟩,gw,s1,s2,ja,ea s.dJ (i:=0) (j:=1) (by decide) rfl rfl,ea s.dJ (i:=0) (j:=2) (by decide) rfl rfl,ea s.dJ (i:=0) (j:=3) (by decide) rfl rfl,ea s.dJ (i:=1) (j:=2) (by decide) rfl rfl,ea s.dJ (i:=1) (j:=3) (by decide) rfl rfl,ea s.dJ (i:=2) (j:=3) (by decide) rfl rfl⟩
end
end Go.Proofs.YtmeoackmjdoecaaGreat
namespace Go.Proofs.YtmeoackmjdoecaaGreat
open Go
def kp (l:List aA) (page:Int) (k:Nat):Int:=
  if k<l.length then(if(el l k).page=page then k else kp l page (k+1)) else-1
termination_by l.length-k
theorem Lj {l:List aA} {page:Int} {k:Nat} (h:k<l.length) (e:(el l k).page=page):kp l page k=k:=by
  rw [kp,if_pos h,if_pos e]
theorem Lk {l:List aA} {page:Int} {k:Nat} (h:k<l.length) (e:¬(el l k).page=page):kp l page k=kp l page (k+1):=by
  rw [kp,if_pos h,if_neg e]
theorem TN {l:List aA} {page:Int} {k:Nat} (h:l.length<=k):kp l page k=-1:=by
  rw [kp,if_neg (by omega)]
def iQ (ms:List aZ) (page:Int) (i:Nat):Int×Int:=
  if i<ms.length then(if kp (el ms i).outer page 0<0 then iQ ms page (i+1) else((i:Int),kp (el ms i).outer page 0)) else(-1,-1)
termination_by ms.length-i
theorem aiL {ms:List aZ} {page:Int} {i k:Nat} (h:i<ms.length) (e:kp (el ms i).outer page 0=k):iQ ms page i=((i:Int),(k:Int)):=by
  rw [iQ,if_pos h,if_neg (by omega),e]
theorem aiM {ms:List aZ} {page:Int} {i:Nat} (h:i<ms.length) (e:kp (el ms i).outer page 0=-1):iQ ms page i=iQ ms page (i+1):=by
  rw [iQ,if_pos h,if_pos (by omega)]
theorem TK {ms:List aZ} {page:Int} {i:Nat} (h:ms.length<=i):iQ ms page i=(-1,-1):=by
  rw [iQ,if_neg (by omega)]
def eG (h:ad) (page:Int):Int×Int:=if page<0 then(-1,-1) else iQ h.I page 0
theorem TQ {h:ad} {page:Int} (e:page<0):eG h page=(-1,-1):=if_pos e
theorem Lo {h:ad} {page:Int} (e:¬page<0):eG h page=iQ h.I page 0:=if_neg e
theorem aiP {h:ad} {page:Int} (e:iQ h.I page 0=(-1,-1)):eG h page=(-1,-1):=by
  unfold eG;split
  · rfl
  · exact e
def aa1 (k:bO):Int:=((k.known.filter fun b=>b).length:Int)
end Go.Proofs.YtmeoackmjdoecaaGreat
namespace Go.Proofs.YtmeoackmjdoecaaGreat
open Go
theorem w8 {α:Type} [GT α] {xs:List α} {p:α->Bool} {k:Nat} (h:k<xs.length) (e:(xs.take k).all p=true) (hX:p (el xs k)=true):(xs.take (k+1)).all p=true:=by
  rw [iH h,List.all_append];simp [e,hX]
theorem ti {α:Type} [GT α] {xs:List α} {p:α->Bool} {k:Nat} (h:k<xs.length) (hX:p (el xs k)=false):xs.all p=false:=by
  rw [←Bool.not_eq_true]
  intro hc
  rw [List.all_eq_true] at hc
  have hx:=hc (el xs k) (by rw [hJ h];exact List.getElem_mem h)
  rw [hx] at hX
  cases hX
theorem iK {α:Type} {xs:List α} {p:α->Bool} {k:Nat} (h:xs.length<=k) (e:(xs.take k).all p=true):xs.all p=true:=by rwa [fj h] at e
theorem w7 {α:Type} [GT α] {xs:List α} {p:α->Bool} (e:xs.all p=true) {k:Nat} (h:k<xs.length):p (el xs k)=true:=by
  rw [List.all_eq_true] at e
  exact e _ (by rw [hJ h];exact List.getElem_mem h)
theorem zV {α β:Type} [GT α] {f:β->α->β} {z:β} {xs:List α} {k:Nat} (h:k<xs.length):(xs.take (k+1)).foldl f z=f ((xs.take k).foldl f z) (el xs k):=by
  rw [iH h,List.foldl_append];rfl
theorem abd {α β:Type} {f:β->α->β} {z:β} {xs:List α} {k:Nat} (h:xs.length<=k):(xs.take k).foldl f z=xs.foldl f z:=by rw [fj h]
theorem Br {p:Nat->Bool} {k:Nat} (e:(List.range k).all p=true) (hX:p k=true):(List.range (k+1)).all p=true:=by
  rw [List.range_succ,List.all_append];simp [e,hX]
theorem Uy {p:Nat->Bool} {k n:Nat} (h:k<n) (hX:p k=false):(List.range n).all p=false:=by
  rw [←Bool.not_eq_true]
  intro hc
  rw [List.all_eq_true] at hc
  have hx:=hc k (List.mem_range.2 h)
  rw [hx] at hX
  cases hX
theorem Uz {p:Nat->Bool} {n k:Nat} (e:(List.range n).all p=true) (h:k<n):p k=true:=by
  rw [List.all_eq_true] at e
  exact e _ (List.mem_range.2 h)
def aa0 (t:List bO) (n:Int):Int:=t.foldl (fun n k=>IntKind.i64.wrap (n+aa1 k)) n
def an8 (h:ad):Int:=h.I.foldl (fun n m=>aa0 m.tables n) 0
def tG (i:cE):Bool:=
  if i.hv=1\/i.hv=2\/i.hv=5\/i.hv=6 then aS i.x 0 99
  else if i.hv=3\/i.hv=4 then aS i.x 0 15
  else if i.hv=7 then i.x==0
  else if i.hv=8 then aS i.x 0 11 else false
def p7 (p:List cE):Bool:=p.all tG&&aS p.length 1 12
def fz (s:aA) (fi:Int):Bool:=decide (s=⟨-1,0⟩)||(decide (0<fi)&&aS s.page 0 (fi-1)&&aS s.bW 1 3)
def h7 (t:List aA) (size fi:Int):Bool:=t.all (fun s=>fz s fi)&&((t.length:Int)==size)
theorem E_ {t:List aA} {size fi:Int} (h:h7 t size fi=true):(t.length:Int)=size:=by
  simp [h7] at h;exact h.2
theorem BS {t:List aA} {size fi:Int} (h:h7 t size fi=true) {k:Nat} (hk:k<t.length):fz (el t k) fi=true:=by
  simp only [h7,Bool.and_eq_true] at h
  exact w7 h.1 hk
def iR (c:List Int):Bool:=c.all (fun v=>aS v 0 99)&&((c.length:Int)==4)
def iy (m:List (List Int)) (fi:Int):Bool:=m.all iR&&((m.length:Int)==fi)
def eB (r n:Int):Bool:=aS r 0 3&&aS n 0 3&&(mg r n==n)
def tD (c:eM):List Int:=
  (if aS c.bQ 0 3 then [] else [1])++(if aS c.post 0 255 then [] else [2])++(if c.post≠0/\c.lL=false then [3] else [])++(if c.bQ=2/\c.post≠0 then [4] else [])
def km (c:eM):Bool:=((tD c).length:Int)==0
def C6 (e:dI):Bool:=
  if e.kind=0\/e.kind=4 then decide (e.page=0)&& !e.wr&&decide (e.n=0)
  else if e.kind=1 then aS e.page 0 3&&decide (e.n=0)
  else if e.kind=2\/e.kind=3 then aS e.n 0 99&&decide (e.page=0)&& !e.wr else false
def na (g:az):Bool:=
  p7 g.prog&&aS g.acc 0 99&&aS g.aN 0 12&&h7 g.written 4 8&&h7 g.live 4 8&&km g.bH&&aS g.av 0 255&&C6 g.exit&&decide ((g.seen.length:Int)<=40)
def nb (m:aZ) (i:Nat):Bool:=
  if el m.outer i=⟨-1,0⟩ then iR (el m.out i) else eB (el m.outer i).bW 1&&decide ((el m.out i).length=0)
def p5 (m:aZ):Bool:=
  aS m.U.length 1 2&&decide (m.tables.length=m.U.length)&&h7 m.outer 8 12&&decide (m.out.length=8)&&decide (m.bj.length=8)
def vw (m:aZ):Bool:=decide (m.outs.length<=40)&&aS m.av 0 255&&aS m.bQ 0 3&&aS m.owned 0 1000000000
def iP (m:aZ):Bool:=p5 m&&vw m&&m.U.all na&&(List.range 8).all (nb m)
theorem ux {m:aZ} (h:iP m=true):m.outer.length=8/\h7 m.outer 8 12=true:=by
  simp only [iP,p5,Bool.and_eq_true] at h
  have h1:=h.1.1.1.1.1.2
  exact⟨by have:=E_ h1;omega,h1⟩
def aC (h:ad) (m:Int):aZ×Bool:=if 0<=m/\m<h.I.length then(el h.I m.toNat,true) else(⟨[],[],[],[],[],0,0,[],0⟩,false)
def aoj (h:ad) (m:Int):Int:=(aC h m).1.owned
end Go.Proofs.YtmeoackmjdoecaaGreat
namespace Go.Proofs.YtmeoackmjdoecaaGreat
open Go
def j3 (n:Nat) (p:Nat->Bool):List Int:=((List.range n).filter p).map fun(i:Nat)=>(i:Int)
theorem pk {k:Nat} {p:Nat->Bool} (h:p k=true):j3 (k+1) p=j3 k p++[(k:Int)]:=by
  unfold j3;rw [List.range_succ,List.filter_append,List.map_append];simp [h]
theorem pj {k:Nat} {p:Nat->Bool} (h:p k=false):j3 (k+1) p=j3 k p:=by
  unfold j3;rw [List.range_succ,List.filter_append,List.map_append];simp [h]
theorem AM (n:Nat) (p:Nat->Bool):(j3 n p).length<=n:=by
  unfold j3;rw [List.length_map];exact Nat.le_trans (List.length_filter_le _ _) (by simp)
def eN (h:ad):List Int:=j3 h.mem.length fun p=>decide ((eG h p).1<0)
def q1 (g:az):Bool:=decide (g.exit=⟨0,0,false,0⟩)&& !g.halted
def aa2 (l:List az):List Int:=j3 l.length fun i=>q1 (el l i)
def aol (h:ad):List (List Int):=h.I.map fun m=>aa2 m.U
theorem Tb {α β:Type} [GT α] {xs:List α} {f:α->β} {k:Nat} (h:k<xs.length):(xs.take (k+1)).map f=(xs.take k).map f++[f (el xs k)]:=by
  rw [iH h,List.map_append];rfl
def kH (t:List aA) (page:Int):List Int:=j3 t.length fun i=>decide ((el t i).page=page)
def dw (t:List aA) (page:Int):aA:=if 0<=page/\page<t.length then el t page.toNat else⟨-1,0⟩
theorem UT {K:Nat} {F:aw} {w:World} {t:List aA} {p:af aA} (h:GT.rd K F w t p) (page:Int):fx (dw t page):=by
  unfold dw
  split
  · exact ag.el h _ (by omega)
  · exact⟨⟨by decide,by decide⟩,⟨by decide,by decide⟩⟩
def gl (m:List (List Int)) (page:Int):List Int:=if 0<=page/\page<m.length then el m page.toNat else [0,0,0,0]
def l8 (h:ad) (m page:Int):List Int:=
  if(0<=m/\m<h.I.length)/\0<=page/\page<8 then
    (if(dw (el h.I m.toNat).outer page).page≠ -1 then gl h.mem (dw (el h.I m.toNat).outer page).page else gl (el h.I m.toNat).out page)
  else [0,0,0,0]
theorem C1 {α:Type} [GT α] {xs:List α} {i k:Nat} (h:k<i):el (xs.take i) k=el xs k:=by
  unfold el
  rw [List.getD_eq_getElem?_getD,List.getD_eq_getElem?_getD,List.getElem?_take_of_lt h]
def lD (b:List a0):Bool:=
  (List.range b.length).all (fun i=>(List.range i).all fun k=>!(decide ((el b i).tag=(el b k).tag)&&decide ((el b i).page=(el b k).page)))&&decide ((b.length:Int)<=6)
def n6 (u:Option (List Bool)) (s:aA):Option (List Bool):=u.bind fun u=>if s.page<0 then some u else if el u s.page.toNat then none else some (u.set s.page.toNat true)
def pO (u:Option (List Bool)) (m:aZ):Option (List Bool):=u.bind fun u=>if iP m then m.outer.foldl n6 (some u) else none
def q4 (h:ad):Bool:=iy h.mem 12&&aS h.I.length 1 3&&lD h.buf&&lD h.ar
def tF (h:ad):Option (List Bool):=h.I.foldl pO (some (List.replicate 12 false))
def dg (h:ad):Bool:=q4 h&&(tF h).isSome
theorem Hb {α β:Type} [GT α] {f:Option β->α->Option β} {z u:Option β} {xs:List α} {k:Nat} (hk:k<xs.length) (bc:∀x,f none x=none) (h:(xs.take k).foldl f z=u) (h1:f u (el xs k)=none):xs.foldl f z=none:=by
  have key:∀aU:List α,aU.foldl f none=none:=fun aU=>by
    induction aU with
    |nil=>rfl
    |cons y r gQ=>simp only [List.foldl_cons,bc,gQ]
  have e:xs=xs.take k++el xs k::xs.drop (k+1):=by
    rw [hJ hk,←List.drop_eq_getElem_cons hk,List.take_append_drop]
  rw [e,List.foldl_append,h,List.foldl_cons,h1,key]
theorem alc (s:aA):n6 none s=none:=rfl
theorem Me (m:aZ):pO none m=none:=rfl
theorem E8 {u:List Bool} {s:aA} (h:s.page<0):n6 (some u) s=some u:=by simp [n6,h]
theorem UY {u:List Bool} {s:aA} (h:¬s.page<0) (h':el u s.page.toNat=true):n6 (some u) s=none:=by simp [n6,h,h']
theorem yW {u:List Bool} {s:aA} (h:¬s.page<0) (h':el u s.page.toNat=false):n6 (some u) s=some (u.set s.page.toNat true):=by simp [n6,h,h']
theorem UX {u:List Bool} {m:aZ} (h:iP m=false):pO (some u) m=none:=by simp [pO,h]
theorem E7 {u:List Bool} {m:aZ} (h:iP m=true):pO (some u) m=m.outer.foldl n6 (some u):=by simp [pO,h]
theorem ai5 {m:aZ} (h:iP m=true) (k:Nat):(el m.outer k).page<12:=by
  by_cases hk:k<m.outer.length
  · have h1:=BS (ux h).2 hk
    simp only [fz,Bool.or_eq_true,Bool.and_eq_true,decide_eq_true_eq] at h1
    rcases h1 with h1|h1
    · rw [h1];decide
    · have:=cM h1.1.2;omega
  · unfold el
    rw [List.getD_eq_getElem?_getD,List.getElem?_eq_none (by omega)]
    decide
theorem RI {h:ad} (e:tF h=none):dg h=false:=by simp [dg,e]
theorem oA {h:ad} (e:dg h=true):1<=h.I.length/\h.I.length<=3/\h.mem.length=12:=by
  simp only [dg,q4,iy,Bool.and_eq_true,beq_iff_eq] at e
  have h1:=cM e.1.1.1.2
  have ah:=e.1.1.1.1.2
  omega
def aG (h:ad) (m:Int):a9:=
  if 0<=m/\m<h.I.length then⟨(List.range 8).map (fun(i:Nat)=>l8 h m (i:Int)),(el h.I m.toNat).U,(el h.I m.toNat).outs,(el h.I m.toNat).av⟩ else⟨[],[],[],0⟩
def js (h:ad):List a9:=(List.range h.I.length).map fun(i:Nat)=>aG h (i:Int)
theorem LW {α:Type} {f:Nat->α} {k:Nat}:(List.range (k+1)).map f=(List.range k).map f++[f k]:=by
  rw [List.range_succ,List.map_append];rfl
theorem ry {h:ad} {m:Int} (e:(aC h m).2=true):0<=m/\m<h.I.length:=by
  unfold aC at e
  split at e
  · assumption
  · cases e
theorem KF {h:ad} {m:Int} (e:(aC h m).2=false):¬(0<=m/\m<h.I.length):=by
  unfold aC at e
  split at e
  · cases e
  · assumption
theorem uw {h:ad} {m:Int} (e:0<=m/\m<h.I.length):(aC h m).1=el h.I m.toNat:=by
  unfold aC;rw [if_pos e]
theorem FX (h:ad):(js h).length=h.I.length:=by simp [js]
theorem O6 {h:ad} {i:Nat} (hi:i<h.I.length):el (js h) i=aG h (i:Int):=by
  unfold js el
  simp [hi]
def xH (h:ad) (l:List a9):Bool:=decide (js h=l)
def sc (a b:ad):Bool:=xH a (js b)
def aop (h:ad) (m:Int) (x:aZ):ad:=if 0<=m/\m<h.I.length then⟨h.mem,h.I.set m.toNat x,h.buf,h.ar⟩ else h
def mP (h:ad) (m bQ:Int):ad×Bool:=
  if dg h=true/\(0<=m/\m<h.I.length)/\0<=bQ/\bQ<=3 then(⟨h.mem,h.I.set m.toNat {el h.I m.toNat with bQ:=bQ},h.buf,h.ar⟩,true) else(h,false)
end Go.Proofs.YtmeoackmjdoecaaGreat
namespace Go.Proofs.YtmeoackmjdoecaaGreat
open Go
def zP (ops:Array Oper) (j k:Nat):Bool:=
  match ops[j]? with
  |some o=>o.after.any fun e=>Region.binds .any e&&Nat.beq e.on k
  |none=>false
def uN (ops:Array Oper):Nat->List Nat->Bool
  |_,[]=>true
  |j,k::r=>zP ops j k&&uN ops k r
def rR (ops:Array Oper) (b0:Array Bool):Prop:=∀j k,zP ops j k=true->b0.getD j false=true->b0.getD k false=true
theorem O5 {ops:Array Oper} {j k:Nat} (h:zP ops j k=true):∃o e,ops[j]? =some o/\e∈o.after/\Region.binds .any e=true/\e.on=k:=by
  unfold zP at h
  split at h
  · rename_i o bD
    obtain⟨e,he,ah⟩:=Array.any_eq_true'.1 h
    simp only [Bool.and_eq_true] at ah
    exact⟨o,e,bD,he,ah.1,Nat.eq_of_beq_eq_true ah.2⟩
  · cases h
theorem Ut {ops:Array Oper} {b0:Array Bool} {j k:Nat} (bJ:j∈Region.ready .any ops b0) (h:zP ops j k=true):b0.getD k false=true:=by
  obtain⟨o,e,bD,he,hb,rfl⟩:=O5 h
  obtain⟨_,ik,j9,mb⟩:=mem_ready.1 bJ
  rw [bD] at j9
  cases j9
  exact mb e he hb
theorem ak7 {b0:Array Bool} {j i:Nat} (h:(b0.setIfInBounds i true).getD j false=true):b0.getD j false=true\/j=i:=by
  by_cases e:i=j
  · exact .inr e.symm
  · left
    rwa [getD_set_ne false e] at h
theorem rR.set {ops:Array Oper} {b0:Array Bool} {i:Nat} (h:rR ops b0) (hi:i∈Region.ready .any ops b0):rR ops (b0.setIfInBounds i true):=fun j k he bJ=>by
  refine getD_set_true ?_
  rcases ak7 bJ with h1|rfl
  · exact h j k he h1
  · exact Ut hi he
theorem rR.path {ops:Array Oper} {b0:Array Bool} (h:rR ops b0):∀(l:List Nat) (j i:Nat),uN ops j l=true->(j::l).getLast?=some i->b0.getD j false=true->b0.getD i false=true
  |
    [],j,i,_,hl,bJ=>by
    simp at hl;subst hl;exact bJ
  |k::r,j,i,a2,hl,bJ=>by
    simp only [uN,Bool.and_eq_true] at a2
    rw [List.getLast?_cons_cons] at hl
    exact h.path r k i a2.2 hl (h j k a2.1 bJ)
section
variable {P:Program} {ops:Array Oper} {bF:Act->World->Prop} {C:World->Prop} {st:Nat}
abbrev mx (bF:Act->World->Prop):Exit->Act->World->Prop:=fun e a w=>e= .normal/\bF a w
def ao (P:Program) (ops:Array Oper) (bF:Act->World->Prop) (st:Nat) (C:World->Prop):Nat->Array Bool->Act->World->Prop
  |
    0,b0,a,w=>Region.ready .any ops b0=[]/\bF a w
  |f+1,b0,a,w=>(Region.ready .any ops b0=[]->bF a w)/\
    ∀i∈Region.ready .any ops b0,wpOp P ops (mx bF) i (fun aD w'=>((b0.setIfInBounds i true).getD st false=false->C w')/\ao P ops bF st C f (b0.setIfInBounds i true) aD w') a w
theorem ao.any:∀(f:Nat) (b0:Array Bool) (a:Act) (w:World),ao P ops bF st C f b0 a w->wpAny P .any ops (mx bF) f b0 a w
  |0,_,_,_,h=>⟨h.1,rfl,h.2⟩
  |f+1,_,_,_,h=>⟨fun h0=>⟨rfl,h.1 h0⟩,fun i hi=>wpOp_mono (fun aD w' h'=>ao.any f _ aD w' h'.2) (h.2 i hi)⟩
theorem ao.mono {MX:World->Prop} (hc:∀w,MX w->C w):∀(f:Nat) (b0:Array Bool) (a:Act) (w:World),ao P ops bF st MX f b0 a w->ao P ops bF st C f b0 a w
  |0,_,_,_,h=>h
  |f+1,_,_,_,h=>⟨h.1,fun i hi=>wpOp_mono (fun aD w' h'=>⟨fun h0=>hc _ (h'.1 h0),ao.mono hc f _ aD w' h'.2⟩) (h.2 i hi)⟩
theorem ao.first {i:Nat} {ny:Oper} {v:Value} (hi:ops[i]? =some ny) (AG:Region.noSelect ops=true) (Sa:ops.size<=st\/∃k l,uN ops st (k::l)=true/\(k::l).getLast?=some i):
    ∀
      (f:Nat) (b0:Array Bool) (a:Act) (w:World),rR ops b0->b0.size<=ops.size->
      (∀j nz,ops[j]? =some nz->j≠i->b0.getD j true=false->(∀e∈nz.after,Region.binds .any e=true->e.on≠i)->ny.apart ops nz=true)->
      i∈Region.ready .any ops b0->YieldsIf P ops C ny v a->C w->
      ao P ops bF st C f (b0.setIfInBounds i true) (a.put ny.dst v) w->ao P ops bF st C (f+1) b0 a w:=by
  intro f
  have Jg:∀c a w,mx bF (.panic c) (a.put ny.dst v) w->mx bF (.panic c) a w:=fun _ _ _ h=>(by cases h.1)
  have BU:∀(b0:Array Bool),i∈Region.ready .any ops b0->b0.getD i false=false:=fun b0 bo=>by
    have h0:=(mem_ready.1 bo).1
    rcases Nat.lt_or_ge i b0.size with h'|h'
    · simp [h'] at h0 ⊢;exact h0
    · simp [Array.getElem?_eq_none h']
  have h9:i<ops.size:=(Array.getElem?_eq_some_iff.1 hi).1
  have Tv:∀(b0:Array Bool),rR ops b0->i∈Region.ready .any ops b0->∀j,j∈Region.ready .any ops b0->j≠st:=fun b0 pe bo j bJ e=>by
    subst e
    rcases Sa with h|⟨k,l,h1,ah⟩
    · obtain⟨_,o,bD,_⟩:=mem_ready.1 bJ
      have:=(Array.getElem?_eq_some_iff.1 bD).1
      omega
    · simp only [uN,Bool.and_eq_true] at h1
      have:=pe.path l k i h1.2 ah (Ut bJ h1.1)
      rw [BU b0 bo] at this
      cases this
  have alg:∀(b0:Array Bool),rR ops b0->b0.size<=ops.size->i∈Region.ready .any ops b0->b0.getD st false=false:=fun b0 pe ho bo=>by
    cases h:b0.getD st false with
    |false=>rfl
    |true=>
      rcases Sa with h0|⟨k,l,h1,ah⟩
      · simp [Array.getElem?_eq_none (show b0.size<=st by omega)] at h
      · simp only [uN,Bool.and_eq_true] at h1
        have:=pe.path l k i h1.2 ah (pe st k h1.1 h)
        rw [BU b0 bo] at this
        cases this
  induction f with
  |zero=>
    intro b0 a w pe ho _ bo hy bx H
    refine⟨fun h=>(by rw [h] at bo;cases bo),fun j bJ=>?_⟩
    by_cases lG:j=i
    · subst lG;exact hy.wpOp hi bx ⟨fun _=>bx,H⟩
    · have:=ready_mono bJ lG
      rw [H.1] at this
      cases this
  |succ f gQ=>
    intro b0 a w pe ho Aq bo hy bx H
    refine⟨fun h=>(by rw [h] at bo;cases bo),fun j bJ=>?_⟩
    by_cases lG:j=i
    · subst lG;exact hy.wpOp hi bx ⟨fun _=>bx,H⟩
    have aeA:=Tv b0 pe bo j bJ
    have aey:=Tv b0 pe bo i bo
    have h1:=H.2 j (ready_mono bJ lG)
    obtain⟨At,nz,vX,mb⟩:=mem_ready.1 bJ
    have Jf:∀e∈nz.after,Region.binds .any e=true->e.on≠i:=fun e he hb heq=>by
      have ah:=mb e he hb
      rw [heq,BU b0 bo] at ah
      cases ah
    have ah:=wpOp_putIf vX (Aq j nz vX lG At Jf) (fun cs b=>Region.noSelect_spec AG i ny cs b hi) (fun cs b=>Region.noSelect_spec AG j nz cs b vX) Jg hy h1
    have I1:∀k ok,ops[k]? =some ok->k≠i->(b0.setIfInBounds j true).getD k true=false->(∀e∈ok.after,Region.binds .any e=true->e.on≠i)->ny.apart ops ok=true:=fun k ok hk I6 hu Je=>by
      refine Aq k ok hk I6 ?_ Je
      by_cases oz:j=k
      · subst oz;exact At
      · rwa [getD_set_ne true oz] at hu
    refine wpOp_mono (fun aD w' aE=>?_) ah
    obtain⟨b2,cf,dU⟩:=aE
    have iY:=alg b0 pe ho bo
    have Ac:C w':=cf (by rw [getD_set_ne false aeA,getD_set_ne false aey];exact iY)
    rw [Array.setIfInBounds_comm _ _ (Ne.symm lG)] at dU
    exact⟨fun _=>Ac,gQ (b0.setIfInBounds j true) aD w' (pe.set bJ) (by simpa using ho) I1 (ready_mono bo (Ne.symm lG)) b2 Ac dU⟩
theorem ao.done {b0:Array Bool} {a:Act} {w:World} (bo:Region.ready .any ops b0=[]) (h:bF a w):∀f,ao P ops bF st C f b0 a w
  |0=>⟨bo,h⟩
  |_+1=>⟨fun _=>h,by rw [bo];simp⟩
theorem ao.many {rs:List Nat} {f:Nat} {b0:Array Bool} {a:Act} {w:World} (bo:Region.ready .any ops b0=rs) (gD:rs.isEmpty=false)
    (h:∀i∈rs,wpOp P ops (mx bF) i (fun aD w'=>((b0.setIfInBounds i true).getD st false=false->C w')/\ao P ops bF st C f (b0.setIfInBounds i true) aD w') a w):ao P ops bF st C (f+1) b0 a w:=
  ⟨fun h0=>(by rw [h0] at bo;subst bo;cases gD),bo▸h⟩
theorem ao.one {i f:Nat} {b0:Array Bool} {a:Act} {w:World} (bo:Region.ready .any ops b0=[i])
    (h:wpOp P ops (mx bF) i (fun aD w'=>((b0.setIfInBounds i true).getD st false=false->C w')/\ao P ops bF st C f (b0.setIfInBounds i true) aD w') a w):ao P ops bF st C (f+1) b0 a w:=
  ao.many bo rfl fun j bJ=>by
    simp only [List.mem_cons,List.not_mem_nil,or_false] at bJ
    subst bJ
    exact h
theorem ao.last {f:Nat} {l:Array Bool} {a:Act} {w:World} (iY:l.getD st false=true) (h:ao P ops bF st C f l a w):(l.getD st false=false->C w)/\ao P ops bF st C f l a w:=
  ⟨fun h0=>(by rw [iY] at h0;cases h0),h⟩
def OD (ops:Array Oper) (b0:Array Bool):Bool:=
  (List.range ops.size).all fun j=>!b0.getD j false||(match ops[j]? with|some o=>o.after.all fun e=>!Region.binds .any e||b0.getD e.on false|none=>true)
theorem Zl {b0:Array Bool} (h:OD ops b0=true):rR ops b0:=fun j k he bJ=>by
  obtain⟨o,e,bD,hm,hb,rfl⟩:=O5 he
  have fs:j<ops.size:=(Array.getElem?_eq_some_iff.1 bD).1
  have h1:=List.all_eq_true.1 h j (List.mem_range.2 fs)
  rw [bJ,bD] at h1
  simp only [Bool.not_true,Bool.false_or] at h1
  have ah:=Array.all_eq_true_iff_forall_mem.1 h1 e hm
  rw [hb] at ah
  simpa using ah
def AD (ops:Array Oper) (st:Nat) (b0:Array Bool) (i:Nat) (path:List Nat):Bool:=
  Region.noSelect ops&&Region.free .any ops b0 i&&(Region.ready .any ops b0).contains i&&OD ops b0&&Nat.ble b0.size ops.size&&
    (Nat.ble ops.size st||(match path with|[]=>false|k::l=>uN ops st (k::l)&&(match (k::l).getLast? with|some x=>Nat.beq x i|none=>false)))
end
section
variable {P:Program} {n:Nat} {w0:World} {M:aw} {u:World} {N:aw} {β:Nat->Nat} {σ σ':bw} {a:Act} {w:World} {ops:Array Oper} {bF:Act->World->Prop} {C:World->Prop} {st:Nat}
structure eK (w0:World) (M:aw) (u:World) (N:aw) (β:Nat->Nat) (ay:List (List Value)) (w':World):Prop where
  box:∀(k:Nat) (cs:List Value),ay[k]? =some cs->∃T,w'.heap[β k]? =some (.cells cs.toArray T (0,0))
  sep:∀b,N b->b<w'.heap.size/\w'.heap[b]? =u.heap[b]?
  ed:bX M w0 w'
theorem aj.rc (S:aj P n w0 M u N β σ a w):eK w0 M u N β σ.ay w:=⟨S.box,fun b hb=>⟨(S.sep b hb).1,(S.sep b hb).2.1⟩,S.ed⟩
theorem aj.move (S:aj P n w0 M u N β σ a w) {w':World} (h:eK w0 M u N β σ.ay w'):aj P n w0 M u N β σ a w':=
  ⟨S.mA,S.dh,S.env,S.ok,h.box,S.inj,S.new,fun b hb=>⟨(h.sep b hb).1,(h.sep b hb).2,(S.sep b hb).2.2⟩,h.ed,S.kM⟩
theorem aj.df (S:aj P n w0 M u N β σ a w) {Q:Exit->Act->World->Prop} {id f:Nat} (st:Nat) (hm:P.follows .mixedOrders=true) (bm:ops.size=f)
    (h:∀w',aj P n w0 M u N β σ a w'->ao P ops (fun a w=>Q .normal a w) st (eK w0 M u N β σ.ay) f (Array.replicate f false) a w'):(Code.region id ops true).wp P Q a w:=by
  refine Code.wp_mono (Q:=mx fun a w=>Q .normal a w) (fun e a w aI=>aI.1▸aI.2) (wp_region_any hm ?_)
  rw [bm]
  exact ao.any _ _ _ _ (h _ (S.ext (bX.draw aa w _)))
theorem ao.next {c8:World} {aH:aw} {ay:List (List Value)} {f:Nat} {l:Array Bool} (bT:aj P n w0 M c8 aH β σ' a w) (up:∀b,N b->aH b/\c8.heap[b]? =u.heap[b]?) (jf:σ'.ay=ay)
    (h:ao P ops bF st (eK w0 M c8 aH β σ'.ay) f l a w):(l.getD st false=false->eK w0 M u N β ay w)/\ao P ops bF st (eK w0 M u N β ay) f l a w:=by
  subst jf
  have back:∀w',eK w0 M c8 aH β σ'.ay w'->eK w0 M u N β σ'.ay w':=fun w' h=>⟨h.box,fun b hb=>⟨(h.sep b (up b hb).1).1,(h.sep b (up b hb).1).2.trans (up b hb).2⟩,h.ed⟩
  exact⟨fun _=>back _ bT.rc,ao.mono back _ _ _ _ h⟩
theorem ao.keep {c8:World} {aH:aw} {ay:List (List Value)} {f:Nat} {l:Array Bool} (bT:aj P n w0 M c8 aH β σ' a w) (up:∀b,N b->aH b/\c8.heap[b]? =u.heap[b]?) (jf:σ'.ay=ay)
    (h:ao P ops bF st (eK w0 M u N β ay) f l a w):(l.getD st false=false->eK w0 M u N β ay w)/\ao P ops bF st (eK w0 M u N β ay) f l a w:=by
  subst jf
  have back:∀w',eK w0 M c8 aH β σ'.ay w'->eK w0 M u N β σ'.ay w':=fun w' h=>⟨h.box,fun b hb=>⟨(h.sep b (up b hb).1).1,(h.sep b (up b hb).1).2.trans (up b hb).2⟩,h.ed⟩
  exact⟨fun _=>back _ bT.rc,h⟩
theorem ao.stay {ck:Nat->Nat} {ay:List (List Value)} {f:Nat} {l:Array Bool} (bT:aj P n w0 M u N ck σ' a w) (k3:∀k,k<ay.length->ck k=β k) (jf:∀(k:Nat) (cs:List Value),ay[k]? =some cs->σ'.ay[k]? =some cs)
    (h:ao P ops bF st (eK w0 M u N ck σ'.ay) f l a w):(l.getD st false=false->eK w0 M u N β ay w)/\ao P ops bF st (eK w0 M u N β ay) f l a w:=by
  have back:∀w',eK w0 M u N ck σ'.ay w'->eK w0 M u N β ay w':=fun w' h=>⟨fun k cs hk=>by
      rw [←k3 k (List.getElem?_eq_some_iff.1 hk).1]
      exact h.box k cs (jf k cs hk),h.sep,h.ed⟩
  exact⟨fun _=>back _ bT.rc,ao.mono back _ _ _ _ h⟩
def cc (n:Nat) (l:List Nat):Array Bool:=l.foldl (fun a i=>a.setIfInBounds i true) (Array.replicate n false)
theorem ao.mh {f:Nat} {l:Array Bool} (h:∀W:Nat->Array Bool->Act->World->Prop,W=ao P ops bF st C->W f l a w):ao P ops bF st C f l a w:=h _ rfl
theorem ao.l0 {W:Nat->Array Bool->Act->World->Prop} {f:Nat} {l l':Array Bool} (e:l=l') (h:W f l' a w):W f l a w:=e▸h
theorem lT {Q:Exit->Act->World->Prop} {c:Code} (R:Act->World->Prop) (h:c.wp P (mx R) a w) (k:∀a w,R a w->Q .normal a w):c.wp P Q a w:=
  Code.wp_mono (Q:=mx R) (fun _ a w aI=>aI.1▸k a w aI.2) h
theorem Pj {Q:Exit->Act->World->Prop} {cS:Act->World->Prop} {i:Nat} {o:Oper} {claims:List (Ask×Value)} (bD:ops[i]? =some o) (bB:g9 P n ops [o] σ (claims.map (·.2))=some (σ',claims)) (aI:fe P u N claims)
    (S:aj P n w0 M u N β σ a w) (K:∀aD w' ck,aj P n w0 M u N ck σ' aD w'->(∀k,k<σ.ay.length->ck k=β k)->cS aD w'):wpOp P ops Q i cS a w:=by
  unfold wpOp
  simp only [bD]
  simp only [g9] at bB
  split at bB
  · cases bB
  · rename_i aJ
    rw [ma S aJ]
    simp only [Bool.false_eq_true,if_false]
    cases a2:σ.put n o.dst (.v undef) with
    |none=>rw [a2] at bB;cases bB
    |some bf=>
      rw [a2] at bB
      simp only [Option.bind_some,Option.some.injEq,Prod.mk.injEq] at bB
      obtain⟨rfl,_⟩:=bB
      exact K _ _ _ (S.put a2 (fun _ _ e=>by cases e)) (fun _ _=>rfl)
  · rename_i aJ
    rw [ma S aJ]
    simp only [if_true]
    left
    unfold Oper.wp
    split at bB
    · cases bB
    · rename_i x hx
      obtain⟨h1,ah⟩:=mj S hx
      rw [h1]
      simp only [Oper.upon]
      cases a2:σ.put n o.dst x with
      |none=>rw [a2] at bB;cases bB
      |some bf=>
        rw [a2] at bB
        simp only [Option.bind_some,Option.some.injEq,Prod.mk.injEq] at bB
        obtain⟨rfl,_⟩:=bB
        exact K _ _ _ (S.put a2 ah) (fun _ _=>rfl)
    · rename_i q hx
      have h1:=mj S hx
      split at bB
      · cases bB
      · rename_i v c0 he
        cases a2:σ.put n o.dst (.v v) with
        |none=>rw [a2] at bB;cases bB
        |some bf=>
          rw [a2] at bB
          simp only [Option.bind_some,Option.map_some,Option.some.injEq,Prod.mk.injEq] at bB
          obtain⟨rfl,bt⟩:=bB
          subst bt
          have iE:=S.put a2 (fun _ _ e=>by cases e)
          cases q with
          |call f args=>
            simp only [zh] at h1
            rw [h1,Oper.upon_enter]
            refine(aI.1 w (fun b hb=>⟨(S.sep b hb).1,(S.sep b hb).2.1⟩)).mono fun e w' ⟨aE,b2⟩=>?_
            subst aE
            exact K _ _ _ (iE.ext b2) (fun _ _=>rfl)
          |_=>
            have ah:=h1 v (aI.1 w (fun b hb=>(S.sep b hb).2.1))
            rw [ah]
            exact K _ _ _ iE (fun _ _=>rfl)
    · rename_i T cs hx
      have h1:=mj S hx
      rw [h1]
      simp only [Oper.upon]
      have jn:=S.push cs T
      cases a2:bw.put n ⟨σ.env,σ.ay++[cs]⟩ o.dst (.p σ.ay.length 0) with
      |none=>rw [a2] at bB;cases bB
      |some bf=>
        rw [a2] at bB
        simp only [Option.bind_some,Option.some.injEq,Prod.mk.injEq] at bB
        obtain⟨rfl,_⟩:=bB
        have rW:=jn.put a2 (fun k o e=>by cases e;simp)
        have e:(e9.p σ.ay.length 0).val (fun k=>if k=σ.ay.length then w.heap.size else β k)=aM w.heap.size 0:=by simp [e9.val]
        rw [e] at rW
        exact K _ _ _ rW (fun k hk=>by simp [Nat.ne_of_lt hk])
    · rename_i k cs hx
      obtain⟨h1,kM,ah⟩:=mj S hx
      rw [h1]
      simp only [Oper.upon]
      split at bB
      · rename_i hd
        rw [hd]
        simp only [Option.some.injEq,Prod.mk.injEq] at bB
        obtain⟨rfl,_⟩:=bB
        exact K _ _ _ (S.T3 ah) (fun _ _=>rfl)
      · cases bB
theorem Pg {i:Nat} {c0:List Value} {claims:List (Ask×Value)} {keep:List Nat} {m:Nat} (h:mB P n ops i 1 σ c0 keep m=some (σ',claims)):
    ∃o bf,ops[i]? =some o/\g9 P n ops [o] σ c0=some (bf,claims)/\σ'=⟨bf.keep m keep,bf.ay.take m⟩:=by
  unfold mB at h
  cases hb:Nat.ble (i+1) ops.size with
  |false=>rw [hb] at h;cases h
  |true=>
    rw [hb] at h
    have hle:i+1<=ops.size:=Nat.le_of_ble_eq_true hb
    have bD:ops[i]? =some ops[i]:=Array.getElem?_eq_getElem (by omega)
    have hl:(ops.toList.drop i).take 1=[ops[i]]:=by
      rw [List.drop_eq_getElem_cons (show i<ops.toList.length by simp;omega)]
      simp
    simp only [cond_true,hl] at h
    cases bo:g9 P n ops [ops[i]] σ c0 with
    |none=>rw [bo] at h;cases h
    |some r=>
      rw [bo] at h
      simp only [Option.map_some,Option.some.injEq,Prod.mk.injEq] at h
      exact⟨_,r.1,bD,by rw [bo,←h.2],h.1.symm⟩
theorem aj.Ff (S:aj P n w0 M u N β σ a w) (m:Nat) (keep:List Nat):aj P n w0 M u N β ⟨σ.keep m keep,σ.ay.take m⟩ a w:=
  S.weaken m keep fun t kb ik h=>by
    have h1:=sG m keep t _ h
    have ah:=S.ok t kb ik h1.1
    have aE:=h1.2 kb ik rfl
    simp;omega
theorem aj.Mf {Q:Exit->Act->World->Prop} {cS:Act->World->Prop} (S:aj P n w0 M u N β σ a w) {i:Nat} {claims:List (Ask×Value)} {keep:List Nat} {m:Nat} (aI:fe P u N claims)
    (bB:mB P n ops i 1 σ (claims.map (·.2)) keep m=some (σ',claims)) (K:∀aD w' ck,aj P n w0 M u N ck σ' aD w'->(∀k,k<σ.ay.length->ck k=β k)->cS aD w'):wpOp P ops Q i cS a w:=by
  obtain⟨o,bf,bD,he,rfl⟩:=Pg bB
  exact Pj bD he aI S fun aD w' ck bT k3=>K aD w' ck (bT.Ff m keep) k3
def zk (P:Program) (ops:Array Oper) (σ:bw) (i:Nat):Bool:=
  match ops[i]? with
  |some o=>
    match nh ops σ o with
    |some false=>true
    |some true=>
      match uJ P σ o with
      |some (.val _)=>true
      |some (.ask (.call _ _))=>false
      |some (.ask _)=>true
      |_=>false
    |none=>false
  |none=>false
theorem aj.hoist (S:aj P n w0 M u N β σ a w) {i f:Nat} {b0:Array Bool} {path:List Nat} {claims:List (Ask×Value)} {keep:List Nat} {m:Nat} (ax:AD ops st b0 i path=true) (qd:zk P ops σ i=true)
    (aI:fe P u N claims) (bB:mB P n ops i 1 σ (claims.map (·.2)) keep m=some (σ',claims))
    (K:∀aD,aj P n w0 M u N β σ' aD w->ao P ops bF st (eK w0 M u N β σ.ay) f (b0.setIfInBounds i true) aD w):ao P ops bF st (eK w0 M u N β σ.ay) (f+1) b0 a w:=by
  obtain⟨o,bf,bD,he,rfl⟩:=Pg bB
  simp only [AD,Bool.and_eq_true,Bool.or_eq_true] at ax
  obtain⟨⟨⟨⟨⟨bd,fl⟩,jX⟩,o2⟩,a3⟩,FZ⟩:=ax
  have a2:ops.size<=st\/∃k l,uN ops st (k::l)=true/\(k::l).getLast?=some i:=by
    rcases FZ with h|h
    · exact .inl (Nat.le_of_ble_eq_true h)
    · right
      split at h
      · cases h
      · rename_i k l
        simp only [Bool.and_eq_true] at h
        obtain⟨h1,ah⟩:=h
        split at ah
        · rename_i x hx
          exact⟨k,l,h1,by rw [hx,Nat.eq_of_beq_eq_true ah]⟩
        · cases ah
  have fin:∀v,YieldsIf P ops (eK w0 M u N β σ.ay) o v a->aj P n w0 M u N β bf (a.put o.dst v) w->ao P ops bF st (eK w0 M u N β σ.ay) (f+1) b0 a w:=fun v hy jn=>
    ao.first bD bd a2 f b0 a w (Zl o2) (Nat.le_of_ble_eq_true a3) (Region.free_spec bD fl) (by simpa using jX) hy S.rc (K _ (jn.Ff m keep))
  unfold zk at qd
  rw [bD] at qd
  simp only [g9] at he
  split at he
  · cases he
  · rename_i aJ
    cases iE:σ.put n o.dst (.v undef) with
    |none=>rw [iE] at he;cases he
    |some Fp=>
      rw [iE] at he
      simp only [Option.bind_some,Option.some.injEq,Prod.mk.injEq] at he
      obtain⟨rfl,_⟩:=he
      exact fin undef (.inr ⟨ma S aJ,rfl⟩) (S.put iE (fun _ _ e=>by cases e))
  · rename_i aJ
    simp only [aJ] at qd
    have hw:=ma S aJ
    split at he
    · cases he
    · rename_i x hx
      cases iE:σ.put n o.dst x with
      |none=>rw [iE] at he;cases he
      |some Fp=>
        rw [iE] at he
        simp only [Option.bind_some,Option.some.injEq,Prod.mk.injEq] at he
        obtain⟨rfl,_⟩:=he
        exact fin (x.val β) (.inl ⟨hw,fun w' h=>(mj (S.move h) hx).1⟩) (S.put iE (mj S hx).2)
    · rename_i q hx
      split at he
      · cases he
      · rename_i v c0 hc
        cases iE:σ.put n o.dst (.v v) with
        |none=>rw [iE] at he;cases he
        |some Fp=>
          rw [iE] at he
          simp only [Option.bind_some,Option.map_some,Option.some.injEq,Prod.mk.injEq] at he
          obtain⟨rfl,bt⟩:=he
          subst bt
          refine fin v (.inl ⟨hw,fun w' h=>?_⟩) (S.put iE (fun _ _ e=>by cases e))
          have bT:=S.move h
          have h1:=mj bT hx
          cases q with
          |call g args=>simp only [hx] at qd;cases qd
          |_=>exact h1 v (aI.1 w' (fun b hb=>(bT.sep b hb).2.1))
    · rename_i T cs hx
      simp only [hx] at qd
      cases qd
    · rename_i k cs hx
      simp only [hx] at qd
      cases qd
end
end Go.Proofs.YtmeoackmjdoecaaGreat
