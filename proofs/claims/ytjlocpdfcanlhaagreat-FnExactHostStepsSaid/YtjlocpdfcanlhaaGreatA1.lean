/- Worlds that agree on some blocks; typed data read off memory: a class of types whose values are cells given by data and pointers. No program is named here. -/
import Derived.Below
import Derived.Deep.MidRow
import Derived.Laws.CopyRow
import Derived.Orders
import Derived.Deep.Quiet
import Derived.IntWalk
import Derived.Laws.StructEq
import Derived.OpenShut
import Derived.Deep.Slices
namespace Go.Proofs.YtjlocpdfcanlhaaGreat
open Go
abbrev au:=Nat->Prop
def J (A B:au):Prop:=∀b,A b->B b->False
theorem J.w {A B C:au} (d:∀b,B b->C b->False) (h:∀b,A b->B b):J A C:=fun b x y=>d b (h b x) y
def fc (n:Nat):au:=fun b=>b<n
def k0 (lo hi:Nat):au:=fun b=>lo<=b/\b<hi
def ab:au:=fun _=>False
theorem J.symm {A B:au} (h:J A B):J B A:=fun b x y=>h b y x
structure bB (M:au) (w w':World):Prop where
  os:w'.os=w.os
  tape:w'.tape=w.tape
  output:w'.output=w.output
  size:w.heap.size<=w'.heap.size
  block:∀k,k<w.heap.size->¬M k->w'.heap[k]? =w.heap[k]?
theorem bB.refl (M:au) (w:World):bB M w w:=⟨rfl,rfl,rfl,Nat.le_refl _,fun _ _ _=>rfl⟩
theorem bB.step {M zF:au} {a b c:World} (h:bB M a b) (k:bB zF b c) (hm:∀x,x<a.heap.size->zF x->M x):bB M a c:=
  ⟨k.os.trans h.os,k.tape.trans h.tape,k.output.trans h.output,Nat.le_trans h.size k.size,fun x hx cY=>
    (k.block x (Nat.lt_of_lt_of_le hx h.size) (fun a9=>cY (hm x hx a9))).trans (h.block x hx cY)⟩
theorem bB.mono {M zF:au} {a b:World} (h:bB M a b) (hm:∀x,M x->zF x):bB zF a b:=
  ⟨h.os,h.tape,h.output,h.size,fun x hx cY=>h.block x hx (fun q=>cY (hm x q))⟩
theorem bB.trans {M:au} {a b c:World} (h:bB M a b) (k:bB M b c):bB M a c:=h.step k fun _ _ x=>x
theorem bB.below {w w':World} (h:bB ab w w'):RowKit.Below w.heap.size w w':=
  ⟨h.os,h.tape,h.output,h.size,fun k hk=>h.block k hk (fun x=>x)⟩
theorem bB.draw (M:au) (w:World) (n:Nat):bB M w {w with drawn:=n}:=⟨rfl,rfl,rfl,Nat.le_refl _,fun _ _ _=>rfl⟩
theorem bB.push (M:au) (w:World) (o:Obj):bB M w {w with heap:=w.heap.push o}:=
  ⟨rfl,rfl,rfl,by simp,fun k hk _=>by simp [Array.getElem?_push,Nat.ne_of_lt hk]⟩
theorem heap_setCell (w:World) (a:Addr) (v:Value) (k:Nat) (h:k≠a.block):(w.setCell a v).heap[k]? =w.heap[k]? :=by
  simp only [World.setCell,Array.getElem?_modify]
  rw [if_neg (fun e=>h e.symm)]
theorem size_setCell (w:World) (a:Addr) (v:Value):(w.setCell a v).heap.size=w.heap.size:=by simp [World.setCell]
theorem bB.setCell {M:au} (w:World) (a:Addr) (v:Value) (h:M a.block):bB M w (w.setCell a v):=
  ⟨rfl,rfl,rfl,by rw [size_setCell];exact Nat.le_refl _,fun k _ cY=>heap_setCell w a v k (fun e=>cY (e▸h))⟩
abbrev Plain (v:Value):Prop:=v.oneCell'=true
abbrev kW (w:World) (b o:Nat) (cs:List Value):Prop:=w.rangeAt b o cs
theorem Qp {w w':World} {a:Addr} (h:w'.heap[a.block]? =w.heap[a.block]?):w'.cell? a=w.cell? a:=by
  unfold World.cell?;rw [h]
theorem kW.uQ {w w':World} {b o:Nat} {cs:List Value} (h:kW w b o cs) (e:w'.heap[b]? =w.heap[b]?):kW w' b o cs:=
  fun j v bZ=>(Qp (a:=⟨b,o+j,none⟩) e).trans (h j v bZ)
theorem aaD {w:World} {a:Addr} {v:Value} (h:w.cell? a=some v):a.block<w.heap.size:=by
  unfold World.cell? at h
  rcases Nat.lt_or_ge a.block w.heap.size with hl|hl
  · exact hl
  · rw [Array.getElem?_eq_none hl] at h;cases h
theorem kW.lt {w:World} {b o:Nat} {cs:List Value} (h:kW w b o cs) (hc:0<cs.length):b<w.heap.size:=by
  have:=h 0 _ (List.getElem?_eq_getElem hc)
  exact aaD this
def a_ (x:Int):Prop:=-9223372036854775808<=x/\x<=9223372036854775807
structure mh where
  nil:Bool
  b:Nat
  off:Nat
  cap:Nat
  rR:Option Addr
def mh.addr (p:mh):Option Addr:=bif p.nil then p.rR else some ⟨p.b,p.off,none⟩
abbrev aa (x:Int):Value:= .int .i64 x
abbrev B (b:Bool):Value:= .bool b
abbrev R (n:Nat) (p:mh):Value:= .slice p.addr n p.cap
abbrev bh (b o:Nat):Value:= .pointer (some ⟨b,o,none⟩)
class GT (α:Type) where
  Ptr:Type
  eR:α
  cZ:Ptr
  width:Nat
  agg:Bool
  cells:α->Ptr->List Value
  rd:Nat->au->World->α->Ptr->Prop
  own:Nat->au->World->α->Ptr->Prop
  jS:0<width
  len:∀x p,(cells x p).length=width
  one:agg=false->width=1
  plain:∀x p v,v∈cells x p->Plain v
  eH:∀{K dh:Nat} {F G:au} {w:World} {x:α} {p:Ptr},rd K F w x p->K<=dh->(∀b,F b->G b)->rd dh G w x p
  gn:∀{K:Nat} {F:au} {w w':World} {x:α} {p:Ptr},rd K F w x p->(∀b,F b->b<w.heap.size->w'.heap[b]? =w.heap[b]?)->rd K F w' x p
  gC:∀{K:Nat} {F:au} {w:World} {x:α} {p:Ptr},rd K F w x p->rd K (fun b=>F b/\b<w.heap.size) w x p
  fO:∀{K dh:Nat} {F G:au} {w:World} {x:α} {p:Ptr},own K F w x p->K<=dh->(∀b,F b->G b)->own dh G w x p
  b8:∀{K:Nat} {F:au} {w w':World} {x:α} {p:Ptr},own K F w x p->(∀b,F b->b<w.heap.size->w'.heap[b]? =w.heap[b]?)->own K F w' x p
  gN:∀{K:Nat} {F:au} {w:World} {x:α} {p:Ptr},own K F w x p->own K (fun b=>F b/\b<w.heap.size) w x p
  gl:∀{K:Nat} {F:au} {w:World} {x:α} {p:Ptr},own K F w x p->rd K F w x p
  gw:∀(K:Nat) (F:au) (w:World),own K F w eR cZ
def GT.val {α:Type} [GT α] (x:α) (p:GT.Ptr α):Value:=bif GT.agg α then .agg (GT.cells x p).toArray else(GT.cells x p).headD undef
instance:GT Int where
  Ptr:=Unit
  eR:=0
  cZ:=()
  width:=1
  agg:=false
  cells x _:=[aa x]
  rd _ _ _ x _:=a_ x
  own _ _ _ x _:=a_ x
  jS:=Nat.one_pos
  len _ _:=rfl
  one _:=rfl
  plain _ _ v h:=by simp at h;subst h;rfl
  eH h _ _:=h
  gn h _:=h
  gC h:=h
  fO h _ _:=h
  b8 h _:=h
  gN h:=h
  gl h:=h
  gw _ _ _:=⟨by decide,by decide⟩
instance:GT Bool where
  Ptr:=Unit
  eR:=false
  cZ:=()
  width:=1
  agg:=false
  cells x _:=[B x]
  rd _ _ _ _ _:=True
  own _ _ _ _ _:=True
  jS:=Nat.one_pos
  len _ _:=rfl
  one _:=rfl
  plain _ _ v h:=by simp at h;subst h;rfl
  eH h _ _:=h
  gn h _:=h
  gC h:=h
  fO h _ _:=h
  b8 h _:=h
  gN h:=h
  gl h:=h
  gw _ _ _:=trivial
section lists
variable {α:Type} [GT α]
def el (xs:List α) (i:Nat):α:=xs.getD i (GT.eR)
abbrev aD (α:Type) [GT α]:=mh×(Nat->GT.Ptr α)
structure ae (K:Nat) (F:au) (w:World) (xs:List α) (p:aD α):Prop where
  le:xs.length<=K
  cap:xs.length<=p.1.cap
  at_:0<xs.length->p.1.nil=false/\F p.1.b
  cell:∀i,i<xs.length->kW w p.1.b (p.1.off+i*GT.width α) (GT.cells (el xs i) (p.2 i))
  el:∀i,i<xs.length->GT.rd K F w (el xs i) (p.2 i)
structure g4 (K:Nat) (F:au) (w:World) (xs:List α) (p:aD α):Prop where
  le:xs.length<=K
  cap:xs.length<=p.1.cap
  pe:p.1.cap<=9223372036854775807
  null:p.1.nil=true->p.1.cap=0
  row:p.1.nil=false->F p.1.b/\∃(cs:Array Value) (T:TypeId),w.heap[p.1.b]? =some (.cells cs T (0,0))/\p.1.off+p.1.cap*GT.width α<=cs.size
  cell:∀i,i<xs.length->kW w p.1.b (p.1.off+i*GT.width α) (GT.cells (Go.Proofs.YtjlocpdfcanlhaaGreat.el xs i) (p.2 i))
  el:∃G:Nat->au,(∀i,i<xs.length->GT.own K (G i) w (Go.Proofs.YtjlocpdfcanlhaaGreat.el xs i) (p.2 i))/\(∀i,i<xs.length->∀b,G i b->F b/\b≠p.1.b)/\(∀i j,i<xs.length->j<xs.length->i≠j->J (G i) (G j))
instance:GT (List α) where
  Ptr
      :=aD α
  eR:=[]
  cZ:=(⟨true,0,0,0,none⟩,fun _=>GT.cZ)
  width:=1
  agg:=false
  cells xs p:=[R xs.length p.1]
  rd:=ae
  own:=g4
  jS:=Nat.one_pos
  len _ _:=rfl
  one _:=rfl
  plain _ _ v h:=by simp at h;subst h;rfl
  eH h hk bc:=⟨Nat.le_trans h.le hk,h.cap,fun z=>⟨(h.at_ z).1,bc _ (h.at_ z).2⟩,h.cell,fun i hi=>GT.eH (h.el i hi) hk bc⟩
  gn h hw:=⟨h.le,h.cap,h.at_,fun i hi=>
      (h.cell i hi).uQ (hw _ (h.at_ (Nat.lt_of_le_of_lt (Nat.zero_le _) hi)).2 ((h.cell i hi).lt (by rw [GT.len];exact GT.jS))),
    fun i hi=>GT.gn (h.el i hi) hw⟩
  gC h:=⟨h.le,h.cap,fun z=>⟨(h.at_ z).1,(h.at_ z).2,(h.cell 0 z).lt (by rw [GT.len];exact GT.jS)⟩,h.cell,fun i hi=>GT.gC (h.el i hi)⟩
  fO h hk bc:=by
    obtain⟨G,cn,a8,b7⟩:=h.el
    exact⟨Nat.le_trans h.le hk,h.cap,h.pe,h.null,fun z=>⟨bc _ (h.row z).1,(h.row z).2⟩,h.cell,G,fun i hi=>GT.fO (cn i hi) hk (fun _ x=>x),fun i hi b hb=>⟨bc _ (a8 i hi b hb).1,(a8 i hi b hb).2⟩,b7⟩
  b8:=by
    intro K F w w' xs p h hw
    have BJ:∀i,i<xs.length->p.1.nil=false:=fun i hi=>by
      cases cY:p.1.nil with
      |false=>rfl
      |true=>have:=h.null cY;have:=h.cap;omega
    have eW:p.1.nil=false->p.1.b<w.heap.size:=fun cY=>by
      obtain⟨_,cs,T,an,_⟩:=h.row cY
      rcases Nat.lt_or_ge p.1.b w.heap.size with hl|hl
      · exact hl
      · rw [Array.getElem?_eq_none hl] at an;cases an
    obtain⟨G,cn,a8,b7⟩:=h.el
    refine⟨h.le,h.cap,h.pe,h.null,fun z=>?_,fun i hi=>(h.cell i hi).uQ (hw _ (h.row (BJ i hi)).1 (eW (BJ i hi))),G,fun i hi=>GT.b8 (cn i hi) (fun b hb hl=>hw b (a8 i hi b hb).1 hl),a8,b7⟩
    obtain⟨h1,cs,T,an,aF⟩:=h.row z
    exact⟨h1,cs,T,(hw _ h1 (eW z)).trans an,aF⟩
  gN:=by
    intro K F w xs p h
    have eW:p.1.nil=false->p.1.b<w.heap.size:=fun cY=>by
      obtain⟨_,cs,T,an,_⟩:=h.row cY
      rcases Nat.lt_or_ge p.1.b w.heap.size with hl|hl
      · exact hl
      · rw [Array.getElem?_eq_none hl] at an;cases an
    obtain⟨G,cn,a8,b7⟩:=h.el
    exact⟨h.le,h.cap,h.pe,h.null,fun z=>⟨⟨(h.row z).1,eW z⟩,(h.row z).2⟩,h.cell,fun i b=>G i b/\b<w.heap.size,fun i hi=>GT.gN (cn i hi),
      fun i hi b hb=>⟨⟨(a8 i hi b hb.1).1,hb.2⟩,(a8 i hi b hb.1).2⟩,fun i j hi bZ cY b x y=>b7 i j hi bZ cY b x.1 y.1⟩
  gl:=by
    intro K F w xs p h
    have BJ:0<xs.length->p.1.nil=false:=fun hi=>by
      cases cY:p.1.nil with
      |false=>rfl
      |true=>have:=h.null cY;have:=h.cap;omega
    obtain⟨G,cn,a8,b7⟩:=h.el
    exact⟨h.le,h.cap,fun z=>⟨BJ z,(h.row (BJ z)).1⟩,h.cell,fun i hi=>GT.gl (GT.fO (cn i hi) (Nat.le_refl _) (fun b hb=>(a8 i hi b hb).1))⟩
  gw K F w:=⟨Nat.zero_le _,Nat.zero_le _,Nat.zero_le _,fun _=>rfl,fun h=>(by cases h),fun i hi=>absurd hi (Nat.not_lt_zero _),fun _=>ab,fun i hi=>absurd hi (Nat.not_lt_zero _),fun i hi=>absurd hi (Nat.not_lt_zero _),fun i _ hi=>absurd hi (Nat.not_lt_zero _)⟩
end lists
end Go.Proofs.YtjlocpdfcanlhaaGreat
namespace Go.Proofs.YtjlocpdfcanlhaaGreat
open Go
inductive eQ where
  |v (x:Value)
  |p (k off:Nat)
def eQ.val (β:Nat->Nat):eQ->Value
  | .v x=>x
  | .p k o=>bh (β k) o
abbrev Env:=List (Nat×eQ)
def look:Env->Nat->Option eQ
  |[],_=>none
  |(s,x)::r,t=>bif Nat.beq s t then some x else look r t
structure b3 where
  env:Env
  aM:List (List Value)
def b3.get (σ:b3):Operand->Option eQ
  | .tmp t=>look σ.env t
  | .const v=>some (.v v)
  | .func f=>some (.v (.func (.func f) #[] #[]))
  | .global _=>none
def b3.put (n:Nat) (σ:b3) (dst:Option Nat) (x:eQ):Option b3:=
  match dst with
  |none=>some σ
  |some d=>bif Nat.blt d n then some ⟨(d,x)::σ.env,σ.aM⟩ else none
inductive Ask where
  |int (op:BinOp) (k:IntKind) (x y:Int)
  |load (t:TypeId) (a:Value)
  |idx (t:TypeId) (s i:Value)
  |ja (s:Sem Value)
  |call (f:FuncId) (args:List Value)
def EU (op:BinOp) (k:IntKind) (x y:Int):Sem Value:=
  match op with
  | .add| .sub| .mul=>Op.intArith op k x y
  | .quo| .rem=>Op.intDiv op k x y
  | .and| .or| .xor| .andNot=>Op.intBits op k x y
  |_=>Op.intCmp op x y
def Ask.run:Ask->Sem Value
  | .int op k x y=>EU op k x y
  | .load t a=>Instr.loadAt t a
  | .idx t s i=>Instr.indexAt t s i
  | .ja s=>s
  | .call _ _=> .halt .goexit
inductive xa where
  |val (x:eQ)
  |ask (q:Ask)
  |new (T:TypeId) (cs:List Value)
  |put (k:Nat) (cs:List Value)
def jn (P:Program) (t:TypeId):Option Nat:=(P.info? t).map (·.size)
def lC (P:Program) (t:TypeId):Option Bool:=
  match P.underlying t with
  |some (.struct _)|some (.array _ _)=>some true
  |some _=>some false
  |none=>none
def zU (P:Program) (t:TypeId) (cs:List Value) (o:Nat):Option Value:=
  match lC P t,jn P t with
  |some true,some s=>bif Nat.ble (o+s) cs.length then some (.agg ((cs.drop o).take s).toArray) else none
  |some false,some _=>cs[o]?
  |_,_=>none
def Du (P:Program) (t:TypeId) (cs:List Value) (o:Nat) (v:Value):Option (List Value):=
  match jn P t with
  |some s=>bif Nat.beq v.cells.toList.length s&&Nat.ble (o+s) cs.length&&v.cells.toList.all (·.oneCell') then some (cs.take o++v.cells.toList++cs.drop (o+s)) else none
  |none=>none
def partOf (P:Program) (t:TypeId) (cs:Array Value) (o:Nat):Option Value:=
  match lC P t,jn P t with
  |some true,some s=>some (.agg (cs.extract o (o+s)))
  |some false,some _=>cs.toList[o]?
  |_,_=>none
def Ks (op:BinOp) (k:IntKind) (a b:Int):Option xa:=
  match op with
  | .lss=>some (.val (.v (.bool (decide (a<b)))))
  | .leq=>some (.val (.v (.bool (decide (a<=b)))))
  | .gtr=>some (.val (.v (.bool (decide (a>b)))))
  | .geq=>some (.val (.v (.bool (decide (a>=b)))))
  | .eql=>some (.val (.v (.bool (a==b))))
  | .neq=>some (.val (.v (.bool (a != b))))
  | .shl| .shr=>none
  |_=>some (.ask (.int op k a b))
def QY (P:Program) (op:BinOp) (t:TypeId) (x y:Value):Option (Sem Value):=
  match op,P.eqGuardType P.depth t with
  | .eql,false=>some (do pure (.bool (←Op.equal t x y)))
  | .neq,false=>some (do pure (.bool (!(←Op.equal t x y))))
  |_,_=>none
def O7 (P:Program) (op:BinOp) (t:TypeId) (x y:Value):Option xa:=
  match x,y with
  | .int k a,.int fz b=>
    match op with
    | .shl| .shr=>some (.ask (.ja (Op.shift op k a fz b)))
    |_=>if k=fz then Ks op k a b else none
  | .bool a,.bool b=>
    match op,P.underlying t with
    | .eql,some .bool=>some (.val (.v (.bool (a==b))))
    | .neq,some .bool=>some (.val (.v (.bool (!(a==b)))))
    |_,_=>none
  | .agg a,.agg b=>(QY P op t (.agg a) (.agg b)).map fun s=> .ask (.ja s)
  |_,_=>none
def tz (σ:b3):List (Nat×Operand)->Option (List (Nat×Value))
  |
    []=>some []
  |(i,x)::r=>
    match σ.get x with
    |some (.v v)=>(tz σ r).map fun l=>(i,v)::l
    |_=>none
def mQ (σ:b3):List Operand->Option (List Value)
  |
    []=>some []
  |x::r=>match σ.get x with
    |some (.v v)=>(mQ σ r).map fun l=>v::l
    |_=>none
def callee (P:Program) (f:FuncId):Bool:=
  match P.funcs[f]? with
  |some fn=>!(fn.name== "runtime.NumGoroutine" ||fn.body.isNone)
  |none=>false
def tZ (P:Program) (σ:b3) (o:Oper):Option xa:=
  match o.op with
  | .move x| .assign x=>(σ.get x).map .val
  | .pick c a b=>
    match σ.get c with
    |some (.v (.bool t))=>(bif t then σ.get a else σ.get b).map .val
    |_=>none
  | .extract x i=>
    match σ.get x with
    |some (.v (.tuple er))=>er.toList[i]?.map fun v=> .val (.v v)
    |_=>none
  | .box T x=>
    match σ.get x with
    |some (.v x)=>some (.new T x.cells.toList)
    |_=>none
  | .alloc T=>
    match (P.info? T).bind (·.zero) with
    |some z=>some (.new T z.cells.toList)
    |none=>none
  | .fieldAddr s x f=>
    match P.underlying s with
    |some (.struct eE)=>
      match eE.toList[f]? with
      |some fd=>
        match jn P fd.type with
        |some (_+1)=>
          match σ.get x with
          |some (.p k o)=>some (.val (.p k (o+fd.offset)))
          |some (.v (.pointer (some ⟨b,o,none⟩)))=>some (.val (.v (bh b (o+fd.offset))))
          |_=>none
        |_=>none
      |none=>none
    |_=>none
  | .load t x=>
    match σ.get x with
    |some (.p k o)=>(σ.aM[k]?).bind fun cs=>(zU P t cs o).map fun v=> .val (.v v)
    |some (.v a)=>some (.ask (.load t a))
    |none=>none
  | .store t x y=>
    match σ.get x,σ.get y with
    |some (.p k o),some (.v v)=>(σ.aM[k]?).bind fun cs=>(Du P t cs o v).map fun lM=> .put k lM
    |_,_=>none
  | .field t x f=>
    match P.underlying t,σ.get x with
    |some (.struct eE),some (.v (.agg cs))=>(eE.toList[f]?).bind fun fd=>(partOf P fd.type cs fd.offset).map fun v=> .val (.v v)
    |_,_=>none
  | .indexAddr t x i=>
    match σ.get x,σ.get i with
    |some (.v s),some (.v j)=>some (.ask (.idx t s j))
    |_,_=>none
  | .binOp op t x y _=>
    match σ.get x,σ.get y with
    |some (.v a),some (.v b)=>O7 P op t a b
    |_,_=>none
  | .unOp .not _ x=>
    match σ.get x with
    |some (.v (.bool b))=>some (.val (.v (.bool (!b))))
    |_=>none
  | .unOp .neg _ x=>
    match σ.get x with
    |some (.v (.int k n))=>some (.ask (.int .sub k 0 n))
    |_=>none
  | .convert s d x=>
    match σ.get x with
    |some (.v a)=>some (.ask (.ja (convert s d a)))
    |_=>none
  | .slice t x lo hi none=>
    match σ.get x,lo.map σ.get,hi.map σ.get with
    |some (.v s),none,none=>some (.ask (.ja (Instr.sliceAt t s none none none)))
    |some (.v s),some (some (.v a)),none=>some (.ask (.ja (Instr.sliceAt t s (some a) none none)))
    |some (.v s),none,some (some (.v b))=>some (.ask (.ja (Instr.sliceAt t s none (some b) none)))
    |some (.v s),some (some (.v a)),some (some (.v b))=>some (.ask (.ja (Instr.sliceAt t s (some a) (some b) none)))
    |_,_,_=>none
  | .call ⟨.builtin .len,args,k2⟩=>
    match args.toList,k2.toList with
    |[x],[t]=>
      match P.underlying t,σ.get x with
      |some (.slice _),some (.v (.slice _ n _))=>some (.val (.v (aa n)))
      |_,_=>none
    |_,_=>none
  | .call ⟨.builtin .min,args,_⟩=>
    match args.toList with
    |[x,y]=>
      match σ.get x,σ.get y with
      |some (.v (.int .i64 a)),some (.v (.int .i64 b))=>some (.val (.v (aa (if b<a then b else a))))
      |_,_=>none
    |_=>none
  | .call ⟨.builtin .max,args,_⟩=>
    match args.toList with
    |[x,y]=>
      match σ.get x,σ.get y with
      |some (.v (.int .i64 a)),some (.v (.int .i64 b))=>some (.val (.v (aa (if b>a then b else a))))
      |_,_=>none
    |_=>none
  | .call ⟨.value (.func f),args,_⟩=>bif callee P f then(mQ σ args.toList).map fun l=> .ask (.call f l) else none
  | .call ⟨.value (.tmp t),args,_⟩=>
    match σ.get (.tmp t) with
    |some (.v (.func (.func f) first captured))=>bif callee P f then(mQ σ args.toList).map fun l=> .ask (.call f (first.toList++l++captured.toList)) else none
    |_=>none
  | .build t parts=>(tz σ parts.toList).map fun l=> .ask (.ja (Instr.build t l.toArray))
  | .makeFunc (.func f) first td=>
    match mQ σ first.toList,mQ σ td.toList with
    |some l,some l'=>some (.val (.v (.func (.func f) l.toArray l'.toArray)))
    |_,_=>none
  | .nilCheck x=>
    match σ.get x with
    |some (.p k o)=>some (.val (.p k o))
    |some (.v (.pointer (some rR)))=>some (.val (.v (.pointer (some rR))))
    |_=>none
  |_=>none
def oy (ops:Array Oper) (σ:b3) (o:Oper):Option Bool:=
  match o.guard with
  |none=>some true
  |some (j,want)=>
    match (ops.toList[j]?).bind (·.dst) with
    |none=>none
    |some d=>
      match look σ.env d with
      |some (.v (.bool b))=>some (bif want then b else !b)
      |some (.v (.tuple _))=>some false
      |_=>none
def aqQ (l:List (List Value)) (k:Nat) (cs:List Value):List (List Value):=l.set k cs
def gF (P:Program) (n:Nat) (ops:Array Oper):List Oper->b3->List Value->Option (b3×List (Ask×Value))
  |
    [],σ,_=>some (σ,[])
  |o::r,σ,c7=>
    match oy ops σ o with
    |none=>none
    |some false=>(σ.put n o.dst (.v undef)).bind fun σ'=>gF P n ops r σ' c7
    |some true=>
      match tZ P σ o with
      |none=>none
      |some (.val x)=>(σ.put n o.dst x).bind fun σ'=>gF P n ops r σ' c7
      |some (.ask q)=>
        match c7 with
        |[]=>none
        |v::t_=>(σ.put n o.dst (.v v)).bind fun σ'=>(gF P n ops r σ' t_).map fun x=>(x.1,(q,v)::x.2)
      |some (.new _ cs)=>(b3.put n ⟨σ.env,σ.aM++[cs]⟩ o.dst (.p σ.aM.length 0)).bind fun σ'=>gF P n ops r σ' c7
      |some (.put k cs)=>
        match o.dst with
        |none=>gF P n ops r ⟨σ.env,σ.aM.set k cs⟩ c7
        |some _=>none
def b3.keep (σ:b3) (m:Nat):List Nat->Env
  |
    []=>[]
  |t::r=>match look σ.env t with
    |some (.v x)=>(t,.v x)::σ.keep m r
    |some (.p k o)=>bif Nat.blt k m then(t,.p k o)::σ.keep m r else σ.keep m r
    |none=>σ.keep m r
def nN (P:Program) (n:Nat) (ops:Array Oper) (i k:Nat) (σ:b3) (c7:List Value) (keep:List Nat) (m:Nat):Option (b3×List (Ask×Value)):=
  bif Nat.ble (i+k) ops.size then(gF P n ops ((ops.toList.drop i).take k) σ c7).map fun x=>(⟨x.1.keep m keep,x.1.aM.take m⟩,x.2) else none
def Quiet (P:Program) (u:World) (N:au) (s:Sem Value) (v:Value):Prop:=
  ∀w:World,(∀b,N b->w.heap[b]? =u.heap[b]?)->s.run P w= .ok v w
def Xh (P:Program) (u:World) (N:au) (f:FuncId) (args:List Value) (v:Value):Prop:=
  ∀w:World,(∀b,N b->b<w.heap.size/\w.heap[b]? =u.heap[b]?)->Calls P f args.toArray w fun e w'=>e= .returned v/\bB ab w w'
def g5 (P:Program) (u:World) (N:au):Ask->Value->Prop
  | .call f args,v=>Xh P u N f args v
  |q,v=>Quiet P u N q.run v
def fA (P:Program) (u:World) (N:au):List (Ask×Value)->Prop
  |[]=>True
  |c::r=>g5 P u N c.1 c.2/\fA P u N r
theorem fA.nil {P:Program} {u:World} {N:au}:fA P u N []:=trivial
theorem fA.cons {P:Program} {u:World} {N:au} {q:Ask} {v:Value} {l:List (Ask×Value)} (h:g5 P u N q v) (t:fA P u N l):fA P u N ((q,v)::l):=⟨h,t⟩
structure aj (P:Program) (n:Nat) (w0:World) (M:au) (u:World) (N:au) (β:Nat->Nat) (σ:b3) (a:Act) (w:World):Prop where
  ml:a.defers=[]
  aW:a.tmps.size=n
  env:∀t s,look σ.env t=some s->a.tmps[t]? =some (s.val β)
  ok:∀t k o,look σ.env t=some (.p k o)->k<σ.aM.length
  box:∀k cs,σ.aM[k]? =some cs->∃T,w.heap[β k]? =some (.cells cs.toArray T (0,0))
  inj:∀j k,j<σ.aM.length->k<σ.aM.length->β j=β k->j=k
  new:∀k,k<σ.aM.length->w0.heap.size<=β k\/M (β k)
  sep:∀b,N b->b<w.heap.size/\w.heap[b]? =u.heap[b]? /\∀k,k<σ.aM.length->β k≠b
  fu:bB M w0 w
  k8:∀b,b<w0.heap.size->¬M b->N b/\u.heap[b]? =w0.heap[b]?
section sound
variable {P:Program} {n:Nat} {w0:World} {M:au} {u:World} {N:au} {β:Nat->Nat} {σ:b3} {a:Act} {w:World}
theorem aj.get (S:aj P n w0 M u N β σ a w) {x:Operand} {s:eQ} (h:σ.get x=some s):a.eval x=s.val β:=by
  cases x with
  |tmp t=>
    have:=S.env t s h
    simp [Act.eval,this]
  |const v=>simp [b3.get] at h;subst h;rfl
  |global g=>simp [b3.get] at h
  |func f=>simp [b3.get] at h;subst h;rfl
theorem pE {s t:Nat} {x:eQ} {r:Env}:look ((s,x)::r) t=if s=t then some x else look r t:=by
  show(bif Nat.beq s t then some x else look r t)=_
  by_cases h:s=t
  · subst h;simp
  · have:Nat.beq s t=false:=by
      cases e:Nat.beq s t with
      |false=>rfl
      |true=>exact absurd (Nat.eq_of_beq_eq_true e) h
    simp [this,h]
theorem aj.put (S:aj P n w0 M u N β σ a w) {dst:Option Nat} {x:eQ} {σ':b3} (h:σ.put n dst x=some σ') (hx:∀k o,x= .p k o->k<σ.aM.length):
    aj P n w0 M u N β σ' (a.put dst (x.val β)) w:=by
  cases dst with
  |none=>simp [b3.put] at h;subst h;exact S
  |some d=>
    simp only [b3.put] at h
    cases hd:Nat.blt d n with
    |false=>rw [hd] at h;simp at h
    |true=>
      rw [hd] at h
      simp at h
      subst h
      have eW:d<n:=Nat.le_of_ble_eq_true hd
      refine⟨S.ml,by simp [Act.put,S.aW],fun t s bx=>?_,fun t k o bx=>?_,S.box,S.inj,S.new,S.sep,S.fu,S.k8⟩
      · simp only [pE] at bx
        by_cases e:d=t
        · subst e
          simp at bx
          subst bx
          simp [Act.put,S.aW,eW]
        · simp only [e,if_false] at bx
          simp only [Act.put,Array.getElem?_setIfInBounds_ne e]
          exact S.env t s bx
      · simp only [pE] at bx
        by_cases e:d=t
        · simp [e] at bx
          exact hx k o bx
        · simp only [e,if_false] at bx
          exact S.ok t k o bx
theorem aj.push (S:aj P n w0 M u N β σ a w) (cs:List Value) (T:TypeId):
    aj P n w0 M u N (fun k=>if k=σ.aM.length then w.heap.size else β k) ⟨σ.env,σ.aM++[cs]⟩ a {w with heap:=w.heap.push (.cells cs.toArray T)}:=by
  have hs:∀k,k<σ.aM.length->β k<w.heap.size:=fun k hk=>by
    obtain⟨oh,h⟩:=S.box k _ (List.getElem?_eq_getElem hk)
    rcases Nat.lt_or_ge (β k) w.heap.size with hl|hl
    · exact hl
    · rw [Array.getElem?_eq_none hl] at h;cases h
  refine⟨S.ml,S.aW,fun t s bx=>?_,fun t k o bx=>?_,fun k lM hk=>?_,fun j k bZ hk he=>?_,fun k hk=>?_,fun b hb=>?_,S.fu.trans (bB.push M w _),S.k8⟩
  · rw [S.env t s bx]
    cases s with
    |v x=>rfl
    |p k o=>
      have:=S.ok t k o bx
      have kH:k≠σ.aM.length:=Nat.ne_of_lt this
      simp [eQ.val,kH]
  · have:=S.ok t k o bx
    simp;omega
  · by_cases e:k=σ.aM.length
    · subst e
      simp at hk
      subst hk
      exact⟨T,by simp⟩
    · have eW:k<σ.aM.length:=by
        have:=(List.getElem?_eq_some_iff.1 hk).1
        simp at this;omega
      rw [List.getElem?_append_left eW] at hk
      obtain⟨oh,h⟩:=S.box k lM hk
      refine⟨oh,?_⟩
      simp only [e,if_false,Array.getElem?_push]
      rw [if_neg (by have:=hs k eW;omega)]
      exact h
  · simp at bZ hk
    by_cases cu:j=σ.aM.length<;>by_cases cB:k=σ.aM.length
    · omega
    · simp only [cu,cB,if_true,if_false] at he
      have:=hs k (by omega);omega
    · simp only [cu,cB,if_true,if_false] at he
      have:=hs j (by omega);omega
    · simp only [cu,cB,if_false] at he
      exact S.inj j k (by omega) (by omega) he
  · simp at hk
    by_cases e:k=σ.aM.length
    · simp only [e,if_true];exact .inl S.fu.size
    · simp only [e,if_false];exact S.new k (by omega)
  · obtain⟨h1,an,aF⟩:=S.sep b hb
    refine⟨by simp;omega,?_,fun k hk=>?_⟩
    · simp only [Array.getElem?_push]
      rw [if_neg (by omega)]
      exact an
    · simp at hk
      by_cases e:k=σ.aM.length
      · simp only [e,if_true];omega
      · simp only [e,if_false];exact aF k (by omega)
theorem aj.Vu (S:aj P n w0 M u N β σ a w) {k:Nat} {cs lM:List Value} (hk:σ.aM[k]? =some cs):
    aj P n w0 M u N β ⟨σ.env,σ.aM.set k lM⟩ a (w.setRow (β k) lM.toArray):=by
  have eW:k<σ.aM.length:=(List.getElem?_eq_some_iff.1 hk).1
  have Mm:∀b,b≠β k->(w.setRow (β k) lM.toArray).heap[b]? =w.heap[b]? :=fun b hb=>by
    simp only [World.setRow,Array.getElem?_modify]
    rw [if_neg (fun e=>hb e.symm)]
  have hH:(w.setRow (β k) lM.toArray).heap.size=w.heap.size:=by simp [World.setRow]
  refine⟨S.ml,S.aW,S.env,fun t j o bx=>?_,fun j aaG bZ=>?_,fun i j hi bZ=>?_,fun j bZ=>?_,fun b hb=>?_,?_,S.k8⟩
  · have:=S.ok t j o bx;simpa using this
  · by_cases e:j=k
    · subst e
      obtain⟨T,h⟩:=S.box j cs hk
      have cu:(σ.aM.set j lM)[j]? =some lM:=by simp [eW]
      rw [cu] at bZ
      simp at bZ
      subst bZ
      exact⟨T,setRow_heap w _ _ _ _ _ h⟩
    · have cu:(σ.aM.set k lM)[j]? =σ.aM[j]? :=by simp [List.getElem?_set_ne (fun q=>e q.symm)]
      rw [cu] at bZ
      obtain⟨T,h⟩:=S.box j aaG bZ
      have sn:j<σ.aM.length:=(List.getElem?_eq_some_iff.1 bZ).1
      exact⟨T,(Mm _ (fun q=>e (S.inj j k sn eW q))).trans h⟩
  · exact S.inj i j (by simpa using hi) (by simpa using bZ)
  · exact S.new j (by simpa using bZ)
  · obtain⟨h1,an,aF⟩:=S.sep b hb
    exact⟨by rw [hH];exact h1,(Mm b (fun e=>aF k eW e.symm)).trans an,fun j bZ=>aF j (by simpa using bZ)⟩
  · refine⟨S.fu.os,S.fu.tape,S.fu.output,by rw [hH];exact S.fu.size,fun b hb hm=>?_⟩
    rw [Mm b (fun e=>(S.new k eW).elim (fun h=>by omega) (fun h=>hm (e▸h)))]
    exact S.fu.block b hb hm
theorem aj.ext (S:aj P n w0 M u N β σ a w) {w':World} (hc:bB ab w w'):aj P n w0 M u N β σ a w':=by
  have hb:∀k,k<σ.aM.length->β k<w.heap.size:=fun k hk=>by
    obtain⟨oh,h⟩:=S.box k _ (List.getElem?_eq_getElem hk)
    rcases Nat.lt_or_ge (β k) w.heap.size with hl|hl
    · exact hl
    · rw [Array.getElem?_eq_none hl] at h;cases h
  refine⟨S.ml,S.aW,S.env,S.ok,fun k cs hk=>?_,S.inj,S.new,fun b eU=>?_,S.fu.step hc (fun _ _ f=>f.elim),S.k8⟩
  · obtain⟨T,h⟩:=S.box k cs hk
    exact⟨T,(hc.block _ (hb k (List.getElem?_eq_some_iff.1 hk).1) (fun f=>f)).trans h⟩
  · obtain⟨h1,an,aF⟩:=S.sep b eU
    exact⟨Nat.lt_of_lt_of_le h1 hc.size,(hc.block _ h1 (fun f=>f)).trans an,aF⟩
end sound
end Go.Proofs.YtjlocpdfcanlhaaGreat
namespace Go.Proofs.YtjlocpdfcanlhaaGreat
open Go
section
variable {P:Program} {n:Nat} {w0:World} {M:au} {u:World} {N:au} {β:Nat->Nat} {σ:b3} {a:Act} {w:World}
theorem Wp {t:TypeId} {s:Nat} (h:jn P t=some s):(P.info? t).map (·.size)=some s:=h
theorem zb {t:TypeId} {s:Nat} (h:jn P t=some s) (w:World):(sizeOf t).run P w= .ok s w:=by
  unfold jn at h
  cases hi:P.info? t with
  |none=>simp [hi] at h
  |some i=>simp [hi] at h;subst h;simp [sizeOf,typeInfo,hi]
theorem N0 {t:TypeId} (h:lC P t=some true):∃d,P.underlying t=some d/\d.isRow=true:=by
  unfold lC at h
  split at h<;>first|exact⟨_,‹_›,rfl⟩|cases h
theorem Gg {t:TypeId} (h:lC P t=some false) (w:World):(isAgg t).run P w= .ok false w:=by
  unfold lC at h
  split at h
  · cases h
  · cases h
  · rename_i d sz sA hd
    unfold isAgg
    rw [Sem.run_bind,run_underlying hd w]
    cases d<;>first|rfl|exact absurd rfl (sz _)|exact absurd rfl (sA _ _)
  · cases h
theorem VW {t:TypeId} {cs:List Value} {o b:Nat} {v:Value} {T:TypeId} {w:World} (hb:w.heap[b]? =some (.cells cs.toArray T (0,0))) (h:zU P t cs o=some v):
    (Instr.loadAt t (bh b o)).run P w= .ok v w:=by
  have hc:∀j x,cs[j]? =some x->w.cell? ⟨b,j,none⟩=some x:=fun j x bZ=>by simp [World.cell?,hb,bZ]
  unfold zU at h
  split at h
  · rename_i s ay hs
    cases hl:Nat.ble (o+s) cs.length with
    |false=>rw [hl] at h;simp at h
    |true=>
      rw [hl] at h
      simp at h
      subst h
      obtain⟨d,hd,bp⟩:=N0 ay
      have hle:o+s<=cs.length:=Nat.le_of_ble_eq_true hl
      refine run_loadAt_mid w b o t ((cs.drop o).take s) d (fun j x bZ=>?_) hd bp (by rw [Wp hs];simp;omega)
      rw [List.getElem?_take] at bZ
      split at bZ
      · rw [List.getElem?_drop] at bZ
        exact hc _ _ bZ
      · cases bZ
  · rename_i s ay hs
    have hx:=hc o v h
    simp only [Instr.loadAt,Instr.sureAddr,Sem.run_bind,Sem.run_pure,Result.andThen_ok,loadVar,Gg ay,Bool.false_eq_true,if_false,run_load,hx]
  · cases h
theorem ajA {t:TypeId} {cs lM:List Value} {o b:Nat} {v:Value} {T:TypeId} {w:World} (hb:w.heap[b]? =some (.cells cs.toArray T (0,0))) (h:Du P t cs o v=some lM):
    (Instr.storeAt t (bh b o) v).run P w= .ok () (w.setRow b lM.toArray):=by
  unfold Du at h
  split at h
  · rename_i s hs
    cases hl:(Nat.beq v.cells.toList.length s&&Nat.ble (o+s) cs.length&&v.cells.toList.all (·.oneCell')) with
    |false=>rw [hl] at h;simp at h
    |true=>
      rw [hl] at h
      simp only [cond_true,Option.some.injEq] at h
      simp only [Bool.and_eq_true] at hl
      obtain⟨⟨h1,an⟩,aF⟩:=hl
      have cu:v.cells.toList.length=s:=Nat.eq_of_beq_eq_true h1
      have cB:o+s<=cs.length:=Nat.le_of_ble_eq_true an
      have:=run_storeCells_at (P:=P) b o T v.cells.toList 0 cs.toArray w hb (by simp at cu ⊢;omega) (fun x hx=>List.all_eq_true.1 aF x hx)
      simp only [Nat.add_zero] at this
      simp only [Instr.storeAt,Instr.sureAddr,Sem.run_bind,Sem.run_pure,Result.andThen_ok,storeVar,zb hs]
      rw [if_neg (by simp at cu ⊢;exact cu)]
      rw [this]
      subst h
      rw [cu]
  · cases h
theorem ajC {t:TypeId} {cs:Array Value} {o:Nat} {v:Value} (h:partOf P t cs o=some v) (w:World):(part t cs o).run P w= .ok v w:=by
  unfold partOf at h
  split at h
  · rename_i s ay hs
    simp at h;subst h
    obtain⟨d,hd,bp⟩:=N0 ay
    have aeq:(isAgg t).run P w= .ok true w:=by
      unfold isAgg
      rw [Sem.run_bind,run_underlying hd w]
      cases d<;>simp_all
    simp [part,aeq,zb hs]
  · rename_i s ay hs
    have cl:cs[o]? =some v:=by simpa using h
    simp [part,Gg ay,cl]
  · cases h
def zK (P:Program) (β:Nat->Nat) (σ:b3) (s:Sem Next) (w:World):xa->Prop
  | .val x=>s.run P w= .ok (.value (x.val β)) w/\∀k f,x= .p k f->k<σ.aM.length
  | .ask (.call f args)=>s.run P w= .ok (.enter f args.toArray) w
  | .ask q=>∀v,q.run.run P w= .ok v w->s.run P w= .ok (.value v) w
  | .new T cs=>s.run P w= .ok (.value (bh w.heap.size 0)) {w with heap:=w.heap.push (.cells cs.toArray T)}
  | .put k cs=>s.run P w= .ok .skip (w.setRow (β k) cs.toArray)/\∃k8,σ.aM[k]? =some k8
theorem aj.yj (S:aj P n w0 M u N β σ a w) {x:Operand} {k f:Nat} (h:σ.get x=some (.p k f)):k<σ.aM.length:=by
  cases x with
  |tmp t=>exact S.ok t k f h
  |const v=>simp [b3.get] at h
  |global g=>simp [b3.get] at h
  |func g=>simp [b3.get] at h
theorem afF {op:BinOp} {k:IntKind} {x y:Int} {ac:xa} (h:Ks op k x y=some ac) (s:Sem Next) (hs:s.run P w=((EU op k x y).run P w).andThen fun v w'=> .ok (.value v) w'):zK P β σ s w ac:=by
  cases op<;>simp only [Ks,Option.some.injEq,reduceCtorEq] at h<;>subst h<;>
    first
      |(refine⟨?_,fun _ _ aX=>by cases aX⟩;rw [hs];rfl)
      |(intro v b2;rw [hs];simp only [Ask.run] at b2;rw [b2];rfl)
theorem abm (op:BinOp) (t:TypeId) (x y:Operand) (k fz:IntKind) (i j:Int):(eqGuard op t x y (.int k i) (.int fz j)).run P w= .ok () w:=by
  cases op<;>simp [eqGuard]
theorem QX (op:BinOp) (t:TypeId) (x y:Operand) (i j:Bool):(eqGuard op t x y (.bool i) (.bool j)).run P w= .ok () w:=by
  cases op<;>simp [eqGuard]
theorem QW (op:BinOp) (t:TypeId) (x y:Operand) (i j:Array Value) (h:P.eqGuardType P.depth t=false):(eqGuard op t x y (.agg i) (.agg j)).run P w= .ok () w:=by
  cases op<;>simp [eqGuard,h]
theorem abo {t:TypeId} (hu:P.underlying t=some .bool) (i j:Bool) (w:World) (d:Nat):(Op.equalIn (d+1) t (.bool i) (.bool j)).run P w= .ok (i==j) w:=by
  simp only [Op.equalIn,Sem.run_bind,run_underlying hu,Result.andThen_ok,Sem.run_pure]
theorem Q0 {t:TypeId} (hu:P.underlying t=some .bool) (i j:Bool) (w:World):(Op.equal t (.bool i) (.bool j)).run P w= .ok (i==j) w:=
  abo hu i j w 9999
theorem I3 (S:aj P n w0 M u N β σ a w):∀(ue:List (Nat×Operand)) (l:List (Nat×Value)),tz σ ue=some l->ue.map (fun(i,x)=>(i,a.eval x))=l
  |
    [],l,h=>by simp [tz] at h;subst h;rfl
  |(i,x)::r,l,h=>by
    unfold tz at h
    split at h
    · rename_i v hx
      cases bp:tz σ r with
      |none=>simp [bp] at h
      |some l'=>
        simp [bp] at h
        subst h
        simp only [List.map_cons,I3 S r l' bp,S.get hx]
        rfl
    · cases h
theorem w4 (S:aj P n w0 M u N β σ a w):∀(l:List Operand) (er:List Value),mQ σ l=some er->l.map a.eval=er
  |
    [],er,h=>by simp [mQ] at h;subst h;rfl
  |x::r,er,h=>by
    simp only [mQ] at h
    split at h
    · rename_i v hx
      cases hl:mQ σ r with
      |none=>simp [hl] at h
      |some l=>
        simp [hl] at h;subst h
        simp [w4 S r l hl,S.get hx,eQ.val]
    · cases h
theorem ajB {f:FuncId} {args:Array Operand} {k2:Array TypeId} {l:List Value} (bc:callee P f=true) (qh:args.map a.eval=l.toArray) (ty:TypeId) (w:World):
    (do let d ←resolve a.eval ⟨.value (.func f),args,k2⟩ ty;invoke d.target d.args:Sem Next).run P w= .ok (.enter f l.toArray) w:=by
  unfold callee at bc
  split at bc
  · rename_i fn Ba
    simp only [Bool.not_eq_true',Bool.or_eq_false_iff] at bc
    have sz:fn.name≠ "runtime.NumGoroutine" :=fun e=>by rw [e] at bc;simp at bc
    have sA:¬fn.body=none:=fun e=>by rw [e] at bc;simp at bc
    simp only [resolve,qh,Act.eval,Deferred.ofValue]
    simp [invoke,callFunc,Ba,sz,sA]
  · cases bc
theorem VX {x:Operand} {f:FuncId} {first captured:Array Value} {args:Array Operand} {k2:Array TypeId} {l:List Value} (hx:a.eval x= .func (.func f) first captured) (bc:callee P f=true) (qh:args.map a.eval=l.toArray) (ty:TypeId) (w:World):
    (do let d ←resolve a.eval ⟨.value x,args,k2⟩ ty;invoke d.target d.args:Sem Next).run P w= .ok (.enter f (first.toList++l++captured.toList).toArray) w:=by
  unfold callee at bc
  split at bc
  · rename_i fn Ba
    simp only [Bool.not_eq_true',Bool.or_eq_false_iff] at bc
    have sz:fn.name≠ "runtime.NumGoroutine" :=fun e=>by rw [e] at bc;simp at bc
    have sA:¬fn.body=none:=fun e=>by rw [e] at bc;simp at bc
    simp only [resolve,qh,hx,Deferred.ofValue]
    simp [invoke,callFunc,Ba,sz,sA]
  · cases bc
set_option maxHeartbeats 2000000 in
theorem l_ (S:aj P n w0 M u N β σ a w) {o:Oper} {ac:xa} (h:tZ P σ o=some ac):zK P β σ (execOp a.eval o) w ac:=by
  unfold tZ at h
  unfold execOp
  split at h
  · --move
    rename_i x bN
    simp only [bN]
    cases hx:σ.get x with
    |none=>simp [hx] at h
    |some s=>simp [hx] at h;subst h;exact⟨by rw [S.get hx];rfl,fun k f e=>S.yj (e▸hx)⟩
  · rename_i x bN
    simp only [bN]
    cases hx:σ.get x with
    |none=>simp [hx] at h
    |some s=>simp [hx] at h;subst h;exact⟨by rw [S.get hx];rfl,fun k f e=>S.yj (e▸hx)⟩
  · --pick
    rename_i c x y bN
    simp only [bN]
    split at h
    · rename_i t hc
      have e:=S.get hc
      cases t with
      |true=>
        cases hx:σ.get x with
        |none=>simp [hx] at h
        |some s=>
          simp [hx] at h;subst h
          refine⟨?_,fun k f e=>S.yj (e▸hx)⟩
          rw [e,S.get hx];simp [asBool,eQ.val]
      |false=>
        cases hx:σ.get y with
        |none=>simp [hx] at h
        |some s=>
          simp [hx] at h;subst h
          refine⟨?_,fun k f e=>S.yj (e▸hx)⟩
          rw [e,S.get hx];simp [asBool,eQ.val]
    · cases h
  · --extract
    rename_i x i bN
    simp only [bN]
    split at h
    · rename_i er hx
      have e:=S.get hx
      cases b2:er.toList[i]? with
      |none=>simp only [b2,Option.map_none,reduceCtorEq] at h
      |some v=>
        simp only [b2,Option.map_some,Option.some.injEq] at h
        subst h
        have wh:er[i]? =some v:=by simpa using b2
        refine⟨?_,fun _ _ aX=>by cases aX⟩
        rw [e]
        simp [Instr.extract,eQ.val,wh]
    · cases h
  · --box
    rename_i T x bN
    simp only [bN]
    split at h
    · rename_i v hx
      simp at h;subst h
      rw [S.get hx]
      show(do pure (.value (←Instr.box T v)):Sem Next).run P w=_
      simp [Instr.box,newVar,newRow]
    · cases h
  · --alloc
    rename_i T bN
    simp only [bN]
    split at h
    · rename_i z ej
      simp at h;subst h
      cases hi:P.info? T with
      |none=>simp [hi] at ej
      |some i=>
        simp only [hi,Option.bind_some] at ej
        show(do pure (.value (←Instr.alloc T true (.tuple #[]))):Sem Next).run P w=_
        simp [Instr.alloc,zeroValue,typeInfo,hi,ej,newVar,newRow]
    · cases h
  · --fieldAddr
    rename_i s x f bN
    simp only [bN]
    split at h
    · rename_i eE hu
      split at h
      · rename_i fd bc
        split at h
        · rename_i q hs
          have JI:eE[f]? =some fd:=by simpa using bc
          have key:∀(b o:Nat),a.eval x=bh b o->(do pure (Next.value (←Instr.fieldAt s (a.eval x) f)):Sem Next).run P w= .ok (.value (bh b (o+fd.offset))) w:=fun b o hx=>by
            rw [hx]
            simp [Instr.fieldAt,run_underlying hu,JI,Instr.sureAddr,fieldPlace,zb hs,Addr.add_mid]
          split at h
          · rename_i k o hx
            simp at h;subst h
            exact⟨key _ _ (S.get hx),fun fz An e=>by cases e;exact S.yj hx⟩
          · rename_i b o hx
            simp at h;subst h
            exact⟨key _ _ (S.get hx),fun _ _ aX=>by cases aX⟩
          · cases h
        · cases h
      · cases h
    · cases h
  · --load
    rename_i t x bN
    simp only [bN]
    split at h
    · rename_i k f hx
      cases hc:σ.aM[k]? with
      |none=>simp [hc] at h
      |some cs=>
        simp only [hc,Option.bind_some] at h
        cases b2:zU P t cs f with
        |none=>simp [b2] at h
        |some v=>
          simp [b2] at h;subst h
          obtain⟨T,hb⟩:=S.box k cs hc
          refine⟨?_,fun _ _ aX=>by cases aX⟩
          rw [S.get hx]
          show(do pure (.value (←Instr.loadAt t (bh (β k) f))):Sem Next).run P w=_
          rw [Sem.run_bind,VW hb b2]
          rfl
    · rename_i v hx
      simp at h;subst h
      intro r bp
      rw [S.get hx]
      show(do pure (.value (←Instr.loadAt t v)):Sem Next).run P w=_
      rw [Sem.run_bind]
      simp only [Ask.run] at bp
      rw [bp];rfl
    · cases h
  · --store
    rename_i t x y bN
    simp only [bN]
    split at h
    · rename_i k f v hx hy
      cases hc:σ.aM[k]? with
      |none=>simp [hc] at h
      |some cs=>
        simp only [hc,Option.bind_some] at h
        cases b2:Du P t cs f v with
        |none=>simp [b2] at h
        |some lM=>
          simp [b2] at h;subst h
          obtain⟨T,hb⟩:=S.box k cs hc
          refine⟨?_,cs,hc⟩
          rw [S.get hx,S.get hy]
          show(do Instr.storeAt t (bh (β k) f) v;pure .skip:Sem Next).run P w=_
          rw [Sem.run_bind,ajA hb b2]
          rfl
    · cases h
  · --field
    rename_i t x f bN
    simp only [bN]
    split at h
    · rename_i eE cs hu hx
      cases bc:eE.toList[f]? with
      |none=>simp only [bc,Option.bind_none,reduceCtorEq] at h
      |some fd=>
        simp only [bc,Option.bind_some] at h
        cases b2:partOf P fd.type cs fd.offset with
        |none=>simp [b2] at h
        |some v=>
          simp [b2] at h;subst h
          have JI:eE[f]? =some fd:=by simpa using bc
          refine⟨?_,fun _ _ aX=>by cases aX⟩
          rw [S.get hx]
          show(do pure (.value (←Instr.field t (.agg cs) f)):Sem Next).run P w=_
          simp [Instr.field,run_underlying hu,JI,asAgg,ajC b2,eQ.val]
    · cases h
  · --indexAddr
    rename_i t x i bN
    simp only [bN]
    split at h
    · rename_i s j hx hi
      simp at h;subst h
      intro r bp
      rw [S.get hx,S.get hi]
      simp only [Ask.run] at bp
      show(do pure (.value (←Instr.indexAt t s j)):Sem Next).run P w=_
      rw [Sem.run_bind,bp];rfl
    · cases h
  · --binOp
    rename_i op t x y aq6 bN
    simp only [bN]
    split at h
    · rename_i aq3 aq7 hx hy
      rw [S.get hx,S.get hy]
      unfold O7 at h
      split at h
      · rename_i k i fz j
        have key:∀s:Sem Value,Go.binOp op t (.int k i) (.int fz j)=s->(do pure (.value (←(do eqGuard op t x y (.int k i) (.int fz j);Go.binOp op t (.int k i) (.int fz j)))):Sem Next).run P w=(s.run P w).andThen fun v w'=> .ok (.value v) w':=fun s hs=>by
          simp [abm,hs]
        split at h
        · simp at h;subst h
          intro v b2
          have:=key _ rfl
          simp only [Ask.run] at b2
          refine this.trans ?_
          unfold Go.binOp
          rw [b2];rfl
        · simp at h;subst h
          intro v b2
          have:=key _ rfl
          simp only [Ask.run] at b2
          refine this.trans ?_
          unfold Go.binOp
          rw [b2];rfl
        · rename_i sz sA
          split at h
          · rename_i hk
            subst hk
            refine afF h _ ?_
            refine(key _ rfl).trans ?_
            congr 2
            cases op<;>first|exact absurd rfl sz|exact absurd rfl sA|(simp [Go.binOp,EU])
          · cases h
      · rename_i i j
        split at h
        · rename_i hu
          simp at h;subst h
          refine⟨?_,fun _ _ aX=>by cases aX⟩
          show(do pure (.value (←(do eqGuard .eql t x y (.bool i) (.bool j);pure (.bool (←Op.equal t (.bool i) (.bool j)))))):Sem Next).run P w=_
          simp only [Sem.run_bind,QX,Result.andThen_ok,Q0 hu,Sem.run_pure,eQ.val]
        · rename_i hu
          simp at h;subst h
          refine⟨?_,fun _ _ aX=>by cases aX⟩
          show(do pure (.value (←(do eqGuard .neq t x y (.bool i) (.bool j);pure (.bool (!(←Op.equal t (.bool i) (.bool j))))))):Sem Next).run P w=_
          simp only [Sem.run_bind,QX,Result.andThen_ok,Q0 hu,Sem.run_pure,eQ.val]
        · cases h
      · rename_i i j
        unfold QY at h
        split at h
        · rename_i aJ
          simp only [Option.map_some,Option.some.injEq] at h;subst h
          intro v b2
          simp only [Ask.run] at b2
          show(do pure (.value (←(do eqGuard .eql t x y (.agg i) (.agg j);Go.binOp .eql t (.agg i) (.agg j)))):Sem Next).run P w=_
          rw [Sem.run_bind,Sem.run_bind,QW _ _ _ _ _ _ aJ]
          show((Go.binOp .eql t (.agg i) (.agg j)).run P w).andThen _=_
          unfold Go.binOp
          rw [b2];rfl
        · rename_i aJ
          simp only [Option.map_some,Option.some.injEq] at h;subst h
          intro v b2
          simp only [Ask.run] at b2
          show(do pure (.value (←(do eqGuard .neq t x y (.agg i) (.agg j);Go.binOp .neq t (.agg i) (.agg j)))):Sem Next).run P w=_
          rw [Sem.run_bind,Sem.run_bind,QW _ _ _ _ _ _ aJ]
          show((Go.binOp .neq t (.agg i) (.agg j)).run P w).andThen _=_
          unfold Go.binOp
          rw [b2];rfl
        · simp at h
      · cases h
    · cases h
  · --not
    rename_i t x bN
    simp only [bN]
    split at h
    · rename_i b hx
      simp at h;subst h
      refine⟨?_,fun _ _ aX=>by cases aX⟩
      rw [S.get hx]
      rfl
    · cases h
  · --neg
    rename_i t x bN
    simp only [bN]
    split at h
    · rename_i k m hx
      simp at h;subst h
      intro v b2
      simp only [Ask.run] at b2
      rw [S.get hx]
      show(do pure (.value (←Op.unary .neg (.int k m))):Sem Next).run P w=_
      rw [Sem.run_bind]
      show((Op.intArith .sub k 0 m).run P w).andThen _=_
      simp only [EU] at b2
      rw [b2];rfl
    · cases h
  · --convert
    rename_i s d x bN
    simp only [bN]
    split at h
    · rename_i v hx
      simp at h;subst h
      intro r bp
      simp only [Ask.run] at bp
      rw [S.get hx]
      show(do pure (.value (←convert s d v)):Sem Next).run P w=_
      rw [Sem.run_bind,bp];rfl
    · cases h
  · --slice
    rename_i t x lo hi bN
    simp only [bN]
    split at h
    · rename_i s hx hl aX
      cases lo<;>simp at hl
      cases hi<;>simp at aX
      simp at h;subst h
      intro r bp
      simp only [Ask.run] at bp
      simp only [S.get hx,Option.map_none]
      show(do pure (.value (←Instr.sliceAt t s none none none)):Sem Next).run P w=_
      rw [Sem.run_bind,bp];rfl
    · rename_i s v hx hl aX
      cases lo<;>simp at hl
      cases hi<;>simp at aX
      simp at h;subst h
      intro r bp
      simp only [Ask.run] at bp
      simp only [S.get hx,S.get hl,Option.map_none,Option.map_some]
      show(do pure (.value (←Instr.sliceAt t s (some v) none none)):Sem Next).run P w=_
      rw [Sem.run_bind,bp];rfl
    · rename_i s v hx hl aX
      cases lo<;>simp at hl
      cases hi<;>simp at aX
      simp at h;subst h
      intro r bp
      simp only [Ask.run] at bp
      simp only [S.get hx,S.get aX,Option.map_none,Option.map_some]
      show(do pure (.value (←Instr.sliceAt t s none (some v) none)):Sem Next).run P w=_
      rw [Sem.run_bind,bp];rfl
    · rename_i s v1 v2 hx hl aX
      cases lo<;>simp at hl
      cases hi<;>simp at aX
      simp at h;subst h
      intro r bp
      simp only [Ask.run] at bp
      simp only [S.get hx,S.get hl,S.get aX,Option.map_none,Option.map_some]
      show(do pure (.value (←Instr.sliceAt t s (some v1) (some v2) none)):Sem Next).run P w=_
      rw [Sem.run_bind,bp];rfl
    · cases h
  · --len
    rename_i args k2 bN
    simp only [bN]
    split at h
    · rename_i x t ay bx
      split at h
      · rename_i e q m c hu hx
        simp at h;subst h
        refine⟨?_,fun _ _ aX=>by cases aX⟩
        have cu:args=#[x]:=by rw [←Array.toList_inj];exact ay
        have cB:k2=#[t]:=by rw [←Array.toList_inj];exact bx
        subst cu cB
        simp only [resolve,List.map_toArray,List.map_cons,List.map_nil,S.get hx]
        show(do let v ←Builtin.len_ #[t] o.type #[_];pure (Next.value v):Sem Next).run P w=_
        simp [Builtin.len_,run_underlying hu,goInt,eQ.val]
      · cases h
    · cases h
  · --min
    rename_i args k2 bN
    simp only [bN]
    split at h
    · rename_i x y ay
      split at h
      · rename_i i j hx hy
        simp at h;subst h
        refine⟨?_,fun _ _ aX=>by cases aX⟩
        have cu:args=#[x,y]:=by rw [←Array.toList_inj];exact ay
        subst cu
        simp only [resolve,List.map_toArray,List.map_cons,List.map_nil,S.get hx,S.get hy]
        show(do let v ←Builtin.min_ k2 o.type #[.int .i64 i,.int .i64 j];pure (Next.value v):Sem Next).run P w=_
        simp [Builtin.min_,Builtin.min2,eQ.val]
      · cases h
    · cases h
  · --max
    rename_i args k2 bN
    simp only [bN]
    split at h
    · rename_i x y ay
      split at h
      · rename_i i j hx hy
        simp at h;subst h
        refine⟨?_,fun _ _ aX=>by cases aX⟩
        have cu:args=#[x,y]:=by rw [←Array.toList_inj];exact ay
        subst cu
        simp only [resolve,List.map_toArray,List.map_cons,List.map_nil,S.get hx,S.get hy]
        show(do let v ←Builtin.max_ k2 o.type #[.int .i64 i,.int .i64 j];pure (Next.value v):Sem Next).run P w=_
        simp [Builtin.max_,Builtin.max2,eQ.val]
      · cases h
    · cases h
  · --call
    rename_i f args k2 bN
    simp only [bN]
    cases hc:callee P f with
    |false=>rw [hc] at h;cases h
    |true=>
      rw [hc] at h
      simp only [cond_true] at h
      cases b2:mQ σ args.toList with
      |none=>simp [b2] at h
      |some l=>
        simp [b2] at h;subst h
        exact ajB hc (by rw [←Array.toList_inj];simpa using w4 S _ _ b2) _ w
  · --call of a function value
    rename_i t args k2 bN
    simp only [bN]
    split at h
    · rename_i f first captured hx
      have e:=S.get hx
      cases hc:callee P f with
      |false=>rw [hc] at h;cases h
      |true=>
        rw [hc] at h
        simp only [cond_true] at h
        cases b2:mQ σ args.toList with
        |none=>simp [b2] at h
        |some l=>
          rw [b2] at h
          simp only [Option.map_some,Option.some.injEq] at h
          subst h
          exact VX (l:=l) (x:= .tmp t) e hc (by rw [←Array.toList_inj];simpa using w4 S _ _ b2) _ w
    · cases h
  · --build
    rename_i t parts bN
    simp only [bN]
    cases hl:tz σ parts.toList with
    |none=>simp [hl] at h
    |some l=>
      simp [hl] at h;subst h
      intro r bp
      simp only [Ask.run] at bp
      have e:(parts.map fun(i,x)=>(i,a.eval x))=l.toArray:=by
        rw [←Array.toList_inj]
        simpa using I3 S _ _ hl
      show(do pure (.value (←Instr.build t (parts.map fun(i,x)=>(i,a.eval x)))):Sem Next).run P w=_
      rw [e,Sem.run_bind,bp];rfl
  · --makeFunc
    rename_i f first td bN
    simp only [bN]
    split at h
    · rename_i l l' h1 an
      simp only [Option.some.injEq] at h;subst h
      refine⟨?_,fun _ _ aX=>by cases aX⟩
      have cu:first.map a.eval=l.toArray:=by rw [←Array.toList_inj];simpa using w4 S _ _ h1
      have cB:td.map a.eval=l'.toArray:=by rw [←Array.toList_inj];simpa using w4 S _ _ an
      show(do pure (.value (←Instr.makeFunc (.func f) (first.map a.eval) (td.map a.eval))):Sem Next).run P w=_
      rw [cu,cB];rfl
    · cases h
  · --nilCheck
    rename_i x bN
    simp only [bN]
    split at h
    · rename_i k o hx
      simp only [Option.some.injEq] at h;subst h
      exact⟨by rw [S.get hx];rfl,fun k f e=>by cases e;exact S.yj hx⟩
    · rename_i rR hx
      simp only [Option.some.injEq] at h;subst h
      exact⟨by rw [S.get hx];rfl,fun _ _ aX=>by cases aX⟩
    · cases h
  · cases h
end
end Go.Proofs.YtjlocpdfcanlhaaGreat
namespace Go.Proofs.YtjlocpdfcanlhaaGreat
open Go
def jX (P:Program) (ops:Array Oper) (Q:Exit->Act->World->Prop) (i:Nat) (a:Act) (w:World):Prop:=
  wpOps P ops Q (List.range' i (ops.size-i)) a w
section
variable {P:Program} {n:Nat} {w0:World} {M:au} {u:World} {N:au} {β:Nat->Nat} {σ σ':b3} {a:Act} {w:World} {ops:Array Oper} {Q:Exit->Act->World->Prop}
theorem jX.start {id:Nat} (h:jX P ops Q 0 a w):(Code.region id ops false).wp P Q a w:=by
  refine wp_region ?_
  rw [List.range_eq_range']
  exact h
theorem jX.done {i:Nat} (hi:Nat.ble ops.size i=true) (h:Q .normal a w):jX P ops Q i a w:=by
  have:ops.size<=i:=Nat.le_of_ble_eq_true hi
  unfold jX
  rw [show ops.size-i=0 by omega]
  exact h
theorem mw (S:aj P n w0 M u N β σ a w) {o:Oper} {b:Bool} (h:oy ops σ o=some b):Region.wanted o (yielded ops a.tmps)=b:=by
  unfold oy at h
  unfold Region.wanted
  split at h
  · rename_i aJ;rw [aJ];simpa using h
  · rename_i j want aJ
    rw [aJ]
    split at h
    · cases h
    · rename_i d hd
      have hd':(ops[j]?).bind (·.dst)=some d:=by simpa using hd
      split at h
      · rename_i c hl
        have:=S.env d _ hl
        simp only [eQ.val] at this
        simp only [yielded,hd',Option.bind_some,this]
        simp at h
        subst h
        cases want<;>cases c<;>rfl
      · rename_i er hl
        have:=S.env d _ hl
        simp only [eQ.val] at this
        simp only [yielded,hd',Option.bind_some,this]
        simp at h
        subst h
        cases want<;>rfl
      · cases h
theorem IF (σ':b3) (rest:List Nat):∀(l:List Oper) (j:Nat) (σ:b3) (a:Act) (w:World) (β:Nat->Nat) (claims:List (Ask×Value)),
    (∀t o,l[t]? =some o->ops[j+t]? =some o)->gF P n ops l σ (claims.map (·.2))=some (σ',claims)->fA P u N claims->aj P n w0 M u N β σ a w->
    (∀a1 w' cL,aj P n w0 M u N cL σ' a1 w'->wpOps P ops Q rest a1 w')->wpOps P ops Q (List.range' j l.length++rest) a w
  |
    [],j,σ,a,w,β,claims,_,bW,_,S,K=>by
    simp only [gF,Option.some.injEq,Prod.mk.injEq] at bW
    obtain⟨rfl,_⟩:=bW
    exact K a w β S
  |o::l,j,σ,a,w,β,claims,hl,bW,a9,S,K=>by
    have bN:ops[j]? =some o:=by simpa using hl 0 o rfl
    have Be:∀t jw,l[t]? =some jw->ops[j+1+t]? =some jw:=fun t jw bx=>by
      have:=hl (t+1) jw (by simpa using bx)
      rwa [show j+1+t=j+(t+1) by omega]
    have oe:=IF σ' rest l (j+1)
    simp only [List.length_cons,List.range'_succ,List.cons_append]
    rw [wpOps_cons]
    unfold wpOp
    simp only [bN]
    simp only [gF] at bW
    split at bW
    · cases bW
    · rename_i aJ
      rw [mw S aJ]
      simp only [Bool.false_eq_true,if_false]
      cases bC:σ.put n o.dst (.v undef) with
      |none=>rw [bC] at bW;cases bW
      |some bH=>
        rw [bC] at bW
        exact oe bH _ w β claims Be bW a9 (S.put bC (fun _ _ e=>by cases e)) K
    · rename_i aJ
      rw [mw S aJ]
      simp only [if_true]
      left
      unfold Oper.wp
      split at bW
      · cases bW
      · rename_i x hx
        obtain⟨h1,an⟩:=l_ S hx
        rw [h1]
        simp only [Oper.upon]
        cases bC:σ.put n o.dst x with
        |none=>rw [bC] at bW;cases bW
        |some bH=>
          rw [bC] at bW
          exact oe bH _ w β claims Be bW a9 (S.put bC an) K
      · rename_i q hx
        have h1:=l_ S hx
        split at bW
        · cases bW
        · rename_i v c7 he
          cases bC:σ.put n o.dst (.v v) with
          |none=>rw [bC] at bW;cases bW
          |some bH=>
            rw [bC] at bW
            simp only [Option.bind_some] at bW
            cases bp:gF P n ops l bH c7 with
            |none=>rw [bp] at bW;cases bW
            |some r=>
              rw [bp] at bW
              simp only [Option.map_some,Option.some.injEq,Prod.mk.injEq] at bW
              obtain⟨cu,cB⟩:=bW
              subst cB
              simp only [List.map_cons,List.cons.injEq,true_and] at he
              have ij:=S.put bC (fun _ _ e=>by cases e)
              have fin:∀w',bB ab w w'->wpOps P ops Q (List.range' (j+1) l.length++rest) (a.put o.dst v) w':=fun w' fp=>
                oe bH _ w' β r.2 Be (by rw [he,bp,←cu]) a9.2 (ij.ext fp) K
              cases q with
              |call f args=>
                simp only [zK] at h1
                rw [h1,Oper.upon_enter]
                refine(a9.1 w (fun b hb=>⟨(S.sep b hb).1,(S.sep b hb).2.1⟩)).mono fun e w' ⟨aF,b1⟩=>?_
                subst aF
                exact fin w' b1
              |_=>
                have an:=h1 v (a9.1 w (fun b hb=>(S.sep b hb).2.1))
                rw [an]
                exact fin w (bB.refl _ _)
      · rename_i T cs hx
        have h1:=l_ S hx
        rw [h1]
        simp only [Oper.upon]
        have iv:=S.push cs T
        cases bC:b3.put n ⟨σ.env,σ.aM++[cs]⟩ o.dst (.p σ.aM.length 0) with
        |none=>rw [bC] at bW;cases bW
        |some bH=>
          rw [bC] at bW
          have zI:=iv.put bC (fun k o e=>by cases e;simp)
          have e:(eQ.p σ.aM.length 0).val (fun k=>if k=σ.aM.length then w.heap.size else β k)=bh w.heap.size 0:=by simp [eQ.val]
          rw [e] at zI
          exact oe bH _ _ _ claims Be bW a9 zI K
      · rename_i k cs hx
        obtain⟨h1,k8,an⟩:=l_ S hx
        rw [h1]
        simp only [Oper.upon]
        split at bW
        · rename_i hd
          rw [hd]
          exact oe _ _ _ β claims Be bW a9 (S.Vu an) K
        · cases bW
theorem sy (m:Nat):∀(l:List Nat) (t:Nat) (s:eQ),look (σ.keep m l) t=some s->look σ.env t=some s/\∀k o,s= .p k o->k<m
  |
    [],t,s,h=>by simp [b3.keep,look] at h
  |x::r,t,s,h=>by
    unfold b3.keep at h
    split at h
    · rename_i v b2
      rw [pE] at h
      split at h
      · rename_i e;subst e
        simp at h;subst h
        exact⟨b2,fun _ _ e=>by cases e⟩
      · exact sy m r t s h
    · rename_i k o b2
      cases hb:Nat.blt k m with
      |false=>rw [hb] at h;exact sy m r t s h
      |true=>
        rw [hb] at h
        simp only [cond_true,pE] at h
        split at h
        · rename_i e;subst e
          simp at h;subst h
          exact⟨b2,fun _ _ e=>by cases e;exact Nat.le_of_ble_eq_true hb⟩
        · exact sy m r t s h
    · exact sy m r t s h
theorem aj.weaken (S:aj P n w0 M u N β σ a w) (m:Nat) (l:List Nat) (hm:∀t k o,look (σ.keep m l) t=some (.p k o)->k<(σ.aM.take m).length):aj P n w0 M u N β ⟨σ.keep m l,σ.aM.take m⟩ a w:=by
  have hle:(σ.aM.take m).length<=σ.aM.length:=by simp;omega
  refine⟨S.ml,S.aW,fun t s h=>S.env t s (sy m l t s h).1,hm,fun k cs h=>S.box k cs ?_,fun j k bZ hk=>S.inj j k (Nat.lt_of_lt_of_le bZ hle) (Nat.lt_of_lt_of_le hk hle),fun k hk=>S.new k (Nat.lt_of_lt_of_le hk hle),fun b hb=>?_,S.fu,S.k8⟩
  · rw [List.getElem?_take] at h
    split at h
    · exact h
    · cases h
  · obtain⟨h1,an,aF⟩:=S.sep b hb
    exact⟨h1,an,fun k hk=>aF k (Nat.lt_of_lt_of_le hk hle)⟩
theorem aj.quiet (S:aj P n w0 M u N β σ a w) {i k:Nat} {claims:List (Ask×Value)} {keep:List Nat} {m:Nat} (a9:fA P u N claims)
    (bW:nN P n ops i k σ (claims.map (·.2)) keep m=some (σ',claims)) (K:∀a1 w' cL,aj P n w0 M u N cL σ' a1 w'->jX P ops Q (i+k) a1 w'):jX P ops Q i a w:=by
  unfold nN at bW
  cases hb:Nat.ble (i+k) ops.size with
  |false=>rw [hb] at bW;cases bW
  |true=>
    rw [hb] at bW
    simp only [cond_true] at bW
    have hle:i+k<=ops.size:=Nat.le_of_ble_eq_true hb
    cases bp:gF P n ops ((ops.toList.drop i).take k) σ (claims.map (·.2)) with
    |none=>rw [bp] at bW;cases bW
    |some r=>
      rw [bp] at bW
      simp only [Option.map_some,Option.some.injEq,Prod.mk.injEq] at bW
      obtain⟨cu,cB⟩:=bW
      have hlen:((ops.toList.drop i).take k).length=k:=by simp;omega
      have key:=IF (P:=P) (n:=n) (w0:=w0) (M:=M) (u:=u) (N:=N) (ops:=ops) (Q:=Q) r.1 (List.range' (i+k) (ops.size-(i+k))) ((ops.toList.drop i).take k) i σ a w β claims
        (fun t o bx=>by
          rw [List.getElem?_take] at bx
          split at bx
          · rw [List.getElem?_drop] at bx;simpa using bx
          · cases bx) (by rw [bp,←cB]) a9 S (fun a1 w' cL dV=>?_)
      · rw [hlen] at key
        unfold jX
        rwa [show ops.size-i=k+(ops.size-(i+k)) by omega,←List.range'_append_1]
      · subst cu
        refine K a1 w' cL (dV.weaken m keep fun t fz jw h=>?_)
        have h1:=sy m keep t _ h
        have an:=dV.ok t fz jw h1.1
        have aF:=h1.2 fz jw rfl
        simp;omega
end
end Go.Proofs.YtjlocpdfcanlhaaGreat
namespace Go.Proofs.YtjlocpdfcanlhaaGreat
open Go
def b6:Nat:=4194304
def jW:Nat:=9223372036854775807
section jumps
variable {next:Act->World->Prop} {Q:Exit->Act->World->Prop} {a:Act} {w:World}
end jumps
section
variable {P:Program} {n:Nat} {w0:World} {M:au} {u:World} {N:au} {β:Nat->Nat} {σ σ':b3} {a:Act} {w:World} {ops:Array Oper} {Q:Exit->Act->World->Prop} {dh:Act->World->Prop}
def xu:Nat->List Value->Env
  |_,[]=>[]
  |k,v::r=>(k,.v v)::xu (k+1) r
theorem Li:∀(l:List Value) (k t:Nat) (s:eQ),look (xu k l) t=some s->∃v,s= .v v/\k<=t/\l[t-k]? =some v
  |
    [],k,t,s,h=>by simp [xu,look] at h
  |v::r,k,t,s,h=>by
    simp only [xu,pE] at h
    split at h
    · rename_i e;subst e
      simp at h
      exact⟨v,h.symm,Nat.le_refl _,by simp⟩
    · obtain⟨x,h1,an,aF⟩:=Li r (k+1) t s h
      refine⟨x,h1,by omega,?_⟩
      rw [show t-k=(t-(k+1))+1 by omega]
      simpa using aF
theorem Calls.walk {f:FuncId} {fn:Func} {c:Code} {args:List Value} {cf:Ending->World->Prop} (M:au) (bc:P.funcs[f]? =some fn) (hb:fn.body=some c) (cY:Nat.ble args.length fn.ntmps=true)
    (h:∀a β,aj P fn.ntmps w M w (fc w.heap.size) β ⟨xu 0 args,[]⟩ a w->c.wp P (bodyPost P fn cf) a w):Calls P f args.toArray w cf:=by
  have hle:args.length<=fn.ntmps:=Nat.le_of_ble_eq_true cY
  refine calls_of_wp bc hb (h _ (fun _=>0) ⟨rfl,by simp;omega,fun t s bx=>?_,fun t k o bx=>?_,fun k cs hk=>by simp at hk,fun _ _ bZ=>by simp at bZ,fun _ hk=>by simp at hk,fun b hb=>⟨hb,rfl,fun _ hk=>by simp at hk⟩,bB.refl _ _,fun b hb _=>⟨hb,rfl⟩⟩)
  · obtain⟨v,rfl,_,aF⟩:=Li args 0 t s bx
    have eW:t<args.length:=by
      have:=(List.getElem?_eq_some_iff.1 aF).1;omega
    simp only [Nat.sub_zero] at aF
    simp only [eQ.val]
    rw [Array.getElem?_append_left (by simpa using eW)]
    simpa using aF
  · obtain⟨v,e,_⟩:=Li args 0 t _ bx
    cases e
def Ga (P:Program) (σ:b3):ResultVar->Option Value
  | .tmp t=>match look σ.env t with
    |some (.v v)=>some v
    |_=>none
  | .cell t ty=>match look σ.env t with
    |some (.p k o)=>(σ.aM[k]?).bind fun cs=>zU P ty cs o
    |_=>none
def pN (P:Program) (σ:b3):List ResultVar->Option (List Value)
  |
    []=>some []
  |r::l=>match Ga P σ r with
    |some v=>(pN P σ l).map fun x=>v::x
    |none=>none
def packed:List Value->Value
  |[v]=>v
  |er=> .tuple er.toArray
def Cq (a:Act):ResultVar->Sem Value
  | .tmp t=>pure (a.tmps.getD t undef)
  | .cell a1 t=>do loadVar t (←asAddr (a.tmps.getD a1 undef))
theorem aju (S:aj P n w0 M u N β σ a w) {r:ResultVar} {v:Value} (h:Ga P σ r=some v):
    (Cq a r).run P w= .ok v w:=by
  cases r with
  |tmp t=>
    simp only [Ga] at h
    split at h
    · rename_i x hx
      simp at h;subst h
      have:=S.env t _ hx
      simp [Cq,this,eQ.val]
    · cases h
  |cell t ty=>
    simp only [Ga] at h
    split at h
    · rename_i k o hx
      cases hc:σ.aM[k]? with
      |none=>simp [hc] at h
      |some cs=>
        simp only [hc,Option.bind_some] at h
        obtain⟨T,hb⟩:=S.box k cs hc
        have:=S.env t _ hx
        have hl:=VW (P:=P) hb h
        simp only [Instr.loadAt,Instr.sureAddr,Sem.run_bind,Sem.run_pure,Result.andThen_ok] at hl
        have e:a.tmps.getD t undef=bh (β k) o:=by simp [this,eQ.val]
        simp only [Cq,e,asAddr,Sem.run_bind,Sem.run_pure,Result.andThen_ok,hl]
    · cases h
theorem VS (S:aj P n w0 M u N β σ a w):∀(l:List ResultVar) (er:List Value),pN P σ l=some er->
    (l.mapM (Cq a)).run P w= .ok er w
  |
    [],er,h=>by simp [pN] at h;subst h;rfl
  |r::l,er,h=>by
    simp only [pN] at h
    split at h
    · rename_i v b2
      cases hl:pN P σ l with
      |none=>simp [hl] at h
      |some Gz=>
        simp [hl] at h;subst h
        rw [List.mapM_cons]
        rw [Sem.run_bind,aju S b2]
        simp only [Result.andThen_ok]
        rw [Sem.run_bind,VS S l Gz hl]
        rfl
    · cases h
theorem aj.results (S:aj P n w0 M u N β σ a w) {fn:Func} {er:List Value} (h:pN P σ fn.results.toList=some er):(results fn a.tmps).run P w= .ok (packed er) w:=by
  have e:Go.results fn a.tmps=(do let er ←fn.results.mapM (Cq a);pure (if h:er.size=1 then er[0] else .tuple er)):=by
    unfold Go.results
    congr 1
  rw [e,Array.mapM_eq_mapM_toList,Sem.run_bind,Sem.run_map,VS S _ _ h]
  simp only [Result.andThen_ok,Sem.run_pure]
  congr 1
  match er with
  |[]=>rfl
  |[v]=>rfl
  |_::_::_=>rfl
theorem aj.ret (S:aj P n w0 M u N β σ a w) {fn:Func} {cf:Ending->World->Prop} {er:List Value} (b2:pN P σ fn.results.toList=some er) (h:cf (.returned (packed er)) w):bodyPost P fn cf .ret a w:=
  ⟨S.ml,_,S.results b2,h⟩
theorem aj.Rd (S:aj P n w0 M u N β σ a w) {fn:Func} {cf:Ending->World->Prop} {er:List Value} (b2:pN P σ fn.results.toList=some er) (h:cf (.returned (packed er)) w):bodyPost P fn cf .normal a w:=
  ⟨S.ml,_,S.results b2,h⟩
theorem aj.cond (S:aj P n w0 M u N β σ a w) {c:Operand} {e:Bool} {x y:Code} (he:σ.get c=some (.v (.bool e))) (bx:e=true->x.wp P Q a w) (bc:e=false->y.wp P Q a w):(Code.cond c x y).wp P Q a w:=
  wp_cond_split (S.get he) bx bc
theorem aj.cast (S:aj P n w0 M u N β σ a w) (h:σ=σ'):aj P n w0 M u N β σ' a w:=h▸S
def ru (σ:b3) (keep:List Nat) (m:Nat):Option b3:=bif Nat.ble m σ.aM.length then some ⟨σ.keep m keep,σ.aM.take m⟩ else none
theorem aj.prune (S:aj P n w0 M u N β σ a w) {keep:List Nat} {m:Nat} (h:ru σ keep m=some σ'):aj P n w0 M u N β σ' a w:=by
  unfold ru at h
  cases hb:Nat.ble m σ.aM.length with
  |false=>rw [hb] at h;cases h
  |true=>
    rw [hb] at h
    simp only [cond_true,Option.some.injEq] at h
    subst h
    have hle:m<=σ.aM.length:=Nat.le_of_ble_eq_true hb
    refine S.weaken m keep fun t k o hl=>?_
    have:=(sy m keep t _ hl).2 k o rfl
    simp;omega
theorem ak1 {c:Code} (Inv:Nat->Act->World->Prop) (m:Nat) (h0:Inv m a w)
    (round:∀m a w,Inv m a w->c.wp P (Exit.then (fun a1 w'=>∃rb,rb<m/\Inv rb a1 w') Q) a w):(Code.loop c).wp P Q a w:=by
  intro b k cs
  have key:∀n a w,Inv n a w->
      ∃e a1 w',Q e a1 w'/\Arrives P (lone (b.at a (.code c:: .inLoop c::k)) cs w) b k cs e a1 w':=by
    intro n
    induction n using Nat.strongRecOn with
    |_ n gj=>
      intro a w vo
      obtain⟨e,xv,zp,a9,tD⟩:=round n a w vo b (.inLoop c::k) cs
      cases e with
      |normal=>
        obtain⟨rb,eW,adJ⟩:=a9
        obtain⟨abu,Xx,ak4,afq,aes⟩:=gj rb eW xv zp adJ
        exact⟨abu,Xx,ak4,afq,.of_steps (Steps.trans tD (.one step_inLoop)) aes⟩
      |exit id=>exact⟨_,xv,zp,a9,.pass (x:= .inLoop c) rfl (fun _ _=> .inl (by simp)) tD⟩
      |goto l=>exact⟨_,xv,zp,a9,.pass (x:= .inLoop c) rfl (fun _ _=> .inl (by simp)) tD⟩
      |ret=>exact⟨_,xv,zp,a9,.pass (x:= .inLoop c) rfl (fun _ _=> .inl (by simp)) tD⟩
      |panic am8=>exact⟨_,xv,zp,a9,.pass (x:= .inLoop c) rfl (fun _ _=> .inl (by simp)) tD⟩
      |outgrown=>exact⟨_,xv,zp,a9,.pass (x:= .inLoop c) rfl (fun _ _=> .inl (by simp)) tD⟩
  obtain⟨e,a1,w',a9,tD⟩:=key _ a w h0
  exact⟨e,a1,w',a9,.of_steps (.one step_loop) tD⟩
abbrev s8 {α:Type} [GT α] (u:World) (N:au) (x:α) (p:GT.Ptr α):Prop:=GT.rd b6 N u x p
abbrev amm {α:Type} [GT α] (w:World) (x:α) (p:GT.Ptr α):Prop:=GT.rd b6 (fc w.heap.size) w x p
structure ad {α:Type} [GT α] (w0:World) (M:au) (u:World) (N F:au) (x:α) (p:GT.Ptr α):Prop where
  own:GT.own b6 F u x p
  sub:∀b,F b->N b
  dM:∀b,F b->w0.heap.size<=b\/M b
theorem aj.mI (_:aj P n w0 M u N β σ a w) {α:Type} [GT α]:ad w0 M u N ab ([]:List α) (GT.cZ (α:=List α)):=
  ⟨GT.gw _ _ _,fun _ h=>False.elim h,fun _ h=>False.elim h⟩
theorem ad.ak {α:Type} [GT α] {F:au} {x:α} {p:GT.Ptr α} (h:ad w0 M u N F x p):s8 u N x p:=GT.eH (GT.gl h.own) (Nat.le_refl _) h.sub
theorem aj.arg {α:Type} [GT α] {K:Nat} {x:α} {p:GT.Ptr α} (S:aj P n w0 ab u N β σ a w) (h:GT.rd K (fc w0.heap.size) w0 x p):GT.rd K N u x p:=
  GT.eH (GT.gn h (fun b hb _=>(S.k8 b hb (fun f=>f)).2)) (Nat.le_refl _) (fun b hb=>(S.k8 b hb (fun f=>f)).1)
theorem aj.rd {α:Type} [GT α] {K:Nat} {x:α} {p:GT.Ptr α} (S:aj P n w0 M u N β σ a w) (h:GT.rd K N u x p):GT.rd K (fc w.heap.size) w x p:=
  GT.eH (GT.gC (GT.gn h (fun b hb _=>(S.sep b hb).2.1))) (Nat.le_refl _) (fun _ hb=>hb.2)
def Or (A C:au):au:=fun b=>A b\/C b
theorem ad.up {α:Type} [GT α] {F:au} {x:α} {p:GT.Ptr α} {w':World} {aB:au} (h:ad w0 M u N F x p) (g:∀b,N b->aB b/\w'.heap[b]? =u.heap[b]?):ad w0 M w' aB F x p:=
  ⟨GT.b8 h.own (fun b hb _=>(g b (h.sub b hb)).2),fun b hb=>(g b (h.sub b hb)).1,h.dM⟩
def dw {α:Type} [GT α] (kv:au) (w:World) (r:α) (e:Ending) (w':World):Prop:=
  ∃q,e= .returned (GT.val r q)/\bB kv w w'/\GT.own b6 (k0 w.heap.size w'.heap.size) w' r q
def o4 {α gD:Type} [GT α] [GT gD] (kv:au) (w:World) (r:α) (r':gD) (e:Ending) (w':World):Prop:=
  ∃q ji F bU,e= .returned (.tuple #[GT.val r q,GT.val r' ji])/\bB kv w w'/\GT.own b6 F w' r q/\GT.own b6 bU w' r' ji/\J F bU/\∀b,F b\/bU b->w.heap.size<=b/\b<w'.heap.size
def zG {α gD zt:Type} [GT α] [GT gD] [GT zt] (kv:au) (w:World) (r:α) (r':gD) (r'':zt) (e:Ending) (w':World):Prop:=
  ∃q ji MI F,e= .returned (.tuple #[GT.val r q,GT.val r' ji,GT.val r'' MI])/\bB kv w w'/\GT.own b6 F w' r q/\GT.own b6 ab w' r' ji/\GT.own b6 ab w' r'' MI/\∀b,F b->w.heap.size<=b/\b<w'.heap.size
def kz (P:Program) (n:Nat) (ops:Array Oper) (i:Nat) (σ:b3):Option (FuncId×List Value×Tmp):=
  match ops.toList[i]? with
  |some o=>
    match oy ops σ o,o.op,o.dst with
    |some true,.call ⟨.value (.func f),args,_⟩,some d=>
      match P.funcs[f]? with
      |some fn=>bif fn.name== "runtime.NumGoroutine" ||fn.body.isNone|| !Nat.blt d n then none else(mQ σ args.toList).map fun l=>(f,l,d)
      |none=>none
    |some true,.call ⟨.value (.tmp t),args,_⟩,some d=>
      match σ.get (.tmp t) with
      |some (.v (.func (.func f) first td))=>bif callee P f&&Nat.blt d n then(mQ σ args.toList).map fun l=>(f,first.toList++l++td.toList,d) else none
      |_=>none
    |_,_,_=>none
  |none=>none
theorem xo.step {i:Nat} {o:Oper} (bN:ops[i]? =some o) (hw:Region.wanted o (yielded ops a.tmps)=true) (h:o.wp P a w dh Q):wpOp P ops Q i dh a w:=by
  unfold wpOp
  simp only [bN,hw,if_true]
  exact .inl h
theorem jX.op {i:Nat} (hi:Nat.blt i ops.size=true) (h:wpOp P ops Q i (fun a1 w'=>jX P ops Q (i+1) a1 w') a w):jX P ops Q i a w:=by
  have eW:i<ops.size:=Nat.le_of_ble_eq_true hi
  unfold jX
  rw [show ops.size-i=(ops.size-(i+1))+1 by omega,List.range'_succ,wpOps_cons]
  exact h
theorem aj.after (S:aj P n w0 M u N β σ a w) {w':World} {d:Tmp} {v:Value} (hd:Nat.blt d n=true) (hc:bB ab w w'):
    aj P n w0 M w' (Or N (k0 w.heap.size w'.heap.size)) β ⟨(d,.v v)::σ.env,σ.aM⟩ (a.put (some d) v) w':=by
  have bC:σ.put n (some d) (.v v)=some ⟨(d,.v v)::σ.env,σ.aM⟩:=by simp [b3.put,hd]
  have iv:=S.put bC (fun _ _ e=>by cases e)
  have hb:∀k,k<σ.aM.length->β k<w.heap.size:=fun k hk=>by
    obtain⟨oh,h⟩:=S.box k _ (List.getElem?_eq_getElem hk)
    rcases Nat.lt_or_ge (β k) w.heap.size with hl|hl
    · exact hl
    · rw [Array.getElem?_eq_none hl] at h;cases h
  refine⟨iv.ml,iv.aW,iv.env,iv.ok,fun k cs hk=>?_,iv.inj,iv.new,fun b eU=>?_,S.fu.step hc (fun _ _ f=>f.elim),fun b hb hm=>?_⟩
  · obtain⟨T,h⟩:=iv.box k cs hk
    have EA:k<σ.aM.length:=(List.getElem?_eq_some_iff.1 hk).1
    exact⟨T,(hc.block _ (hb k EA) (fun f=>f)).trans h⟩
  · rcases eU with h|h
    · obtain⟨h1,an,aF⟩:=iv.sep b h
      exact⟨Nat.lt_of_lt_of_le h1 hc.size,rfl,aF⟩
    · refine⟨h.2,rfl,fun k hk e=>?_⟩
      have:=hb k hk
      have:=h.1
      omega
  · obtain⟨h1,an⟩:=S.k8 b hb hm
    exact⟨.inl h1,((hc.block b (S.sep b h1).1 (fun f=>f)).trans (S.sep b h1).2.1).trans an⟩
theorem aj.up (S:aj P n w0 M u N β σ a w) {w':World} (hc:bB ab w w'):∀b,N b->Or N (k0 w.heap.size w'.heap.size) b/\w'.heap[b]? =u.heap[b]? :=fun b hb=>
  ⟨.inl hb,(hc.block b (S.sep b hb).1 (fun f=>f)).trans (S.sep b hb).2.1⟩
theorem aj.call (S:aj P n w0 M u N β σ a w) {i:Nat} {f:FuncId} {eN:List Value} {d:Tmp} {cf:Ending->World->Prop} (hcall:kz P n ops i σ=some (f,eN,d)) (hc:Calls P f eN.toArray w cf)
    (K:∀e w',cf e w'->∃v,e= .returned v/\dh (a.put (some d) v) w'):wpOp P ops Q i dh a w:=by
  unfold kz at hcall
  split at hcall
  · rename_i o bN
    have kI:ops[i]? =some o:=by simpa using bN
    split at hcall
    · rename_i An args k2 pf aJ hop hd
      split at hcall
      · rename_i fn Ba
        cases hb:(fn.name== "runtime.NumGoroutine" ||fn.body.isNone|| !Nat.blt pf n) with
        |true=>rw [hb] at hcall;cases hcall
        |false=>
          rw [hb] at hcall
          simp only [cond_false] at hcall
          cases b2:mQ σ args.toList with
          |none=>simp [b2] at hcall
          |some l=>
            simp [b2] at hcall
            obtain⟨rfl,rfl,rfl⟩:=hcall
            simp only [Bool.or_eq_false_iff] at hb
            refine xo.step kI (mw S aJ) ?_
            have qh:args.map a.eval=l.toArray:=by
              rw [←Array.toList_inj];simpa using w4 S _ _ b2
            have oI:(execOp a.eval o).run P w= .ok (.enter An l.toArray) w:=by
              unfold execOp
              simp only [hop]
              simp only [resolve,qh,Act.eval,Deferred.ofValue]
              have sz:fn.name≠ "runtime.NumGoroutine" :=fun e=>by rw [e] at hb;simp at hb
              have sA:¬fn.body=none:=fun e=>by rw [e] at hb;simp at hb
              simp [invoke,callFunc,Ba,sz,sA]
            unfold Oper.wp
            rw [oI,Oper.upon_enter]
            refine hc.mono fun e w' vu=>?_
            obtain⟨v,rfl,h⟩:=K e w' vu
            rw [hd]
            exact h
      · cases hcall
    · rename_i t args k2 pf aJ hop hd
      split at hcall
      · rename_i An first td hx
        have e:=S.get hx
        cases hb:(callee P An&&Nat.blt pf n) with
        |false=>rw [hb] at hcall;cases hcall
        |true=>
          rw [hb] at hcall
          simp only [cond_true] at hcall
          simp only [Bool.and_eq_true] at hb
          cases b2:mQ σ args.toList with
          |none=>simp [b2] at hcall
          |some l=>
            simp only [b2,Option.map_some,Option.some.injEq,Prod.mk.injEq] at hcall
            obtain⟨rfl,rfl,rfl⟩:=hcall
            refine xo.step kI (mw S aJ) ?_
            have qh:args.map a.eval=l.toArray:=by
              rw [←Array.toList_inj];simpa using w4 S _ _ b2
            have oI:(execOp a.eval o).run P w= .ok (.enter An (first.toList++l++td.toList).toArray) w:=by
              unfold execOp
              simp only [hop]
              exact VX (l:=l) (x:= .tmp t) e hb.1 qh _ w
            unfold Oper.wp
            rw [oI,Oper.upon_enter]
            refine hc.mono fun e w' vu=>?_
            obtain⟨v,rfl,h⟩:=K e w' vu
            rw [hd]
            exact h
      · cases hcall
    · cases hcall
  · cases hcall
theorem J.fresh {F:au} (S:aj P n w0 M u N β σ a w) (w':World) (h:∀b,F b->w.heap.size<=b/\b<w'.heap.size):J N F:=fun b h1 an=>by
  have:=(S.sep b h1).1
  have:=(h b an).1
  omega
theorem aj.Qk {α:Type} [GT α] (S:aj P n w0 M u N β σ a w) {i:Nat} {f:FuncId} {eN:List Value} {d:Tmp} {r:α} (hc:Calls P f eN.toArray w (dw ab w r)) (hcall:kz P n ops i σ=some (f,eN,d)) (hd:Nat.blt d n=true)
    (K:∀a1 w' aB q F,aj P n w0 M w' aB β ⟨(d,.v (GT.val r q))::σ.env,σ.aM⟩ a1 w'->(∀b,N b->aB b/\w'.heap[b]? =u.heap[b]?)->ad w0 M w' aB F r q->J N F->dh a1 w'):wpOp P ops Q i dh a w:=
  S.call hcall hc fun _ w' ⟨q,he,fp,bN⟩=>⟨_,he,K _ w' _ q _ (S.after hd fp) (S.up fp) ⟨bN,fun _ h=> .inr h,fun _ h=> .inl (Nat.le_trans S.fu.size h.1)⟩ (J.fresh S w' fun _ h=>h)⟩
theorem aj.call2 {α gD:Type} [GT α] [GT gD] (S:aj P n w0 M u N β σ a w) {i:Nat} {f:FuncId} {eN:List Value} {d:Tmp} {r:α} {r':gD} (hc:Calls P f eN.toArray w (o4 ab w r r')) (hcall:kz P n ops i σ=some (f,eN,d)) (hd:Nat.blt d n=true)
    (K:∀a1 w' aB q ji F bU,aj P n w0 M w' aB β ⟨(d,.v (.tuple #[GT.val r q,GT.val r' ji]))::σ.env,σ.aM⟩ a1 w'->(∀b,N b->aB b/\w'.heap[b]? =u.heap[b]?)->ad w0 M w' aB F r q->ad w0 M w' aB bU r' ji->J N F->J N bU->J F bU->dh a1 w'):wpOp P ops Q i dh a w:=
  S.call hcall hc fun _ w' ⟨q,ji,F,bU,he,fp,bN,kI,hd',bc⟩=>⟨_,he,K _ w' _ q ji F bU (S.after hd fp) (S.up fp)
    ⟨bN,fun b h=> .inr (bc b (.inl h)),fun b h=> .inl (Nat.le_trans S.fu.size (bc b (.inl h)).1)⟩ ⟨kI,fun b h=> .inr (bc b (.inr h)),fun b h=> .inl (Nat.le_trans S.fu.size (bc b (.inr h)).1)⟩
    (J.fresh S w' fun b h=>bc b (.inl h)) (J.fresh S w' fun b h=>bc b (.inr h)) hd'⟩
theorem aj.own {α:Type} [GT α] {F:au} {x:α} {p:GT.Ptr α} (S:aj P n w0 ab u N β σ a w) (h:ad w0 ab u N F x p):GT.own b6 (k0 w0.heap.size w.heap.size) w x p:=
  GT.fO (GT.b8 h.own (fun b hb _=>(S.sep b (h.sub b hb)).2.1)) (Nat.le_refl _) (fun b hb=>⟨(h.dM b hb).resolve_right (fun f=>f),(S.sep b (h.sub b hb)).1⟩)
theorem aj.FP {α:Type} [GT α] {F:au} {x:α} {p:GT.Ptr α} (S:aj P n w0 ab u N β σ a w) (h:ad w0 ab u N F x p):GT.own b6 F w x p/\∀b,F b->w0.heap.size<=b/\b<w.heap.size:=
  ⟨GT.b8 h.own (fun b hb _=>(S.sep b (h.sub b hb)).2.1),fun b hb=>⟨(h.dM b hb).resolve_right (fun f=>f),(S.sep b (h.sub b hb)).1⟩⟩
end
end Go.Proofs.YtjlocpdfcanlhaaGreat
namespace Go.Proofs.YtjlocpdfcanlhaaGreat
open Go
def k3 (P:Program) (n:Nat) (ops:Array Oper):List Oper->b3->List Value->Option (b3×List (Ask×Value))
  |
    [],σ,_=>some (σ,[])
  |o::r,σ,c7=>
    match oy ops σ o with
    |none=>none
    |some false=>(σ.put n o.dst (.v undef)).bind fun σ'=>k3 P n ops r σ' c7
    |some true=>
      match tZ P σ o with
      |some (.val x)=>(σ.put n o.dst x).bind fun σ'=>k3 P n ops r σ' c7
      |some (.ask q)=>
        match c7 with
        |[]=>none
        |v::t_=>(σ.put n o.dst (.v v)).bind fun σ'=>(k3 P n ops r σ' t_).map fun x=>(x.1,(q,v)::x.2)
      |_=>none
def IC (P:Program) (n:Nat) (ops:Array Oper) (σ:b3) (c7:List Value) (keep:List Nat) (m:Nat):Option (b3×List (Ask×Value)):=
  (k3 P n ops ops.toList σ c7).map fun x=>(⟨x.1.keep m keep,x.1.aM.take m⟩,x.2)
section
variable {P:Program} {n:Nat} {w0:World} {M:au} {u:World} {N:au} {β:Nat->Nat} {σ σ':b3} {a:Act} {w:World} {ops:Array Oper} {Q:Exit->Act->World->Prop}
theorem ID (wd:World) (σ':b3) (Q':Act->Prop):∀(l:List Oper) (σ:b3) (a:Act) (claims:List (Ask×Value)),
    k3 P n ops l σ (claims.map (·.2))=some (σ',claims)->fA P u N claims->aj P n w0 M u N β σ a wd->
    (∀a1,aj P n w0 M u N β σ' a1 wd->Q' a1)->wpQuiet P ops (fun w'=>bB ab wd w') Q' l a
  |
    [],σ,a,claims,bW,_,S,K=>by
    simp only [k3,Option.some.injEq,Prod.mk.injEq] at bW
    obtain⟨rfl,_⟩:=bW
    exact K a S
  |o::l,σ,a,claims,bW,a9,S,K=>by
    have oe:=ID wd σ' Q' l
    simp only [wpQuiet]
    simp only [k3] at bW
    split at bW
    · cases bW
    · rename_i aJ
      rw [mw S aJ]
      simp only [Bool.false_eq_true,if_false]
      cases bC:σ.put n o.dst (.v undef) with
      |none=>rw [bC] at bW;cases bW
      |some bH=>
        rw [bC] at bW
        exact oe bH _ claims bW a9 (S.put bC (fun _ _ e=>by cases e)) K
    · rename_i aJ
      rw [mw S aJ]
      simp only [if_true]
      split at bW
      · rename_i x hx
        cases bC:σ.put n o.dst x with
        |none=>rw [bC] at bW;cases bW
        |some bH=>
          rw [bC] at bW
          refine⟨x.val β,fun w hw=>?_,oe bH _ claims bW a9 (S.put bC (l_ S hx).2) K⟩
          unfold Oper.quietAt
          rw [(l_ (S.ext hw) hx).1]
          exact⟨rfl,rfl⟩
      · rename_i q hx
        split at bW
        · cases bW
        · rename_i v c7 he
          cases bC:σ.put n o.dst (.v v) with
          |none=>rw [bC] at bW;cases bW
          |some bH=>
            rw [bC] at bW
            simp only [Option.bind_some] at bW
            cases bp:k3 P n ops l bH c7 with
            |none=>rw [bp] at bW;cases bW
            |some r=>
              rw [bp] at bW
              simp only [Option.map_some,Option.some.injEq,Prod.mk.injEq] at bW
              obtain⟨cu,cB⟩:=bW
              subst cB
              simp only [List.map_cons,List.cons.injEq,true_and] at he
              refine⟨v,fun w hw=>?_,oe bH _ r.2 (by rw [he,bp,←cu]) a9.2 (S.put bC (fun _ _ e=>by cases e)) K⟩
              have dV:=S.ext hw
              have h1:=l_ dV hx
              unfold Oper.quietAt
              cases q with
              |call f args=>
                simp only [zK] at h1
                rw [h1]
                exact⟨rfl,(a9.1 w (fun b hb=>⟨(dV.sep b hb).1,(dV.sep b hb).2.1⟩)).mono fun e w' ⟨aF,b1⟩=>⟨aF,hw.trans b1⟩⟩
              |_=>
                rw [h1 v (a9.1 w (fun b hb=>(dV.sep b hb).2.1))]
                exact⟨rfl,rfl⟩
      · cases bW
theorem aj.drawn (S:aj P n w0 M u N β σ a w) {id:Nat} {claims:List (Ask×Value)} {keep:List Nat} {m:Nat} (a9:fA P u N claims)
    (hm:P.follows .mixedOrders=true) (cb:Region.lexB .any ops=true)
    (bW:IC P n ops σ (claims.map (·.2)) keep m=some (σ',claims)) (K:∀a1 w',aj P n w0 M u N β σ' a1 w'->Q .normal a1 w'):(Code.region id ops true).wp P Q a w:=by
  unfold IC at bW
  cases bp:k3 P n ops ops.toList σ (claims.map (·.2)) with
  |none=>rw [bp] at bW;cases bW
  |some r=>
    rw [bp] at bW
    simp only [Option.map_some,Option.some.injEq,Prod.mk.injEq] at bW
    obtain⟨cu,cB⟩:=bW
    have iv:aj P n w0 M u N β σ a {w with drawn:=w.drawn+1}:=S.ext (bB.draw ab w _)
    refine wp_region_quiet (C:=fun w'=>bB ab {w with drawn:=w.drawn+1} w') hm cb (bB.refl _ _) ?_
    refine ID _ r.1 _ ops.toList σ a claims (by rw [bp,←cB]) a9 iv fun a1 dV w' qn=>?_
    subst cu
    refine K a1 w' ((dV.ext qn).weaken m keep fun t k o h=>?_)
    have h1:=sy m keep t _ h
    have an:=dV.ok t k o h1.1
    have aF:=h1.2 k o rfl
    simp;omega
end
section
variable {P:Program} {u:World} {N:au}
theorem a_.lo {x:Int} (h:a_ x):-9223372036854775808<=x:=h.1
theorem a_.hi {x:Int} (h:a_ x):x<=9223372036854775807:=h.2
theorem w6 {x:Int} (h:a_ x):IntKind.i64.wrap x=x:=Go.IntWalk.i64_in x ⟨h.1,by have:=h.2;omega⟩
theorem Xi {x y:Int} (h:a_ (x+y)):g5 P u N (.int .add .i64 x y) (aa (x+y)):=fun w _=>by
  show Result.ok (Value.int .i64 (IntKind.i64.wrap (x+y))) w=_
  rw [w6 h]
theorem jq {x y:Int}:g5 P u N (.int .add .i64 x y) (aa (IntKind.i64.wrap (x+y))):=fun _ _=>rfl
theorem Xn {x y:Int}:g5 P u N (.int .sub .i64 x y) (aa (IntKind.i64.wrap (x-y))):=fun _ _=>rfl
theorem Xl {x y:Int} (h:a_ (x-y)):g5 P u N (.int .sub .i64 x y) (aa (x-y)):=fun w _=>by
  show Result.ok (Value.int .i64 (IntKind.i64.wrap (x-y))) w=_
  rw [w6 h]
theorem OF {x y:Int} (h:a_ (x*y)):g5 P u N (.int .mul .i64 x y) (aa (x*y)):=fun w _=>by
  show Result.ok (Value.int .i64 (IntKind.i64.wrap (x*y))) w=_
  rw [w6 h]
theorem o3 {x y:Int} (h:y≠0):g5 P u N (.int .rem .i64 x y) (aa (x.tmod y)):=fun w _=>by
  show(Op.intDiv .rem .i64 x y).run P w=_
  unfold Op.intDiv
  rw [if_neg h];rfl
theorem OG {x y:Int} (h:y≠0) (cl:a_ (x.tdiv y)):g5 P u N (.int .quo .i64 x y) (aa (x.tdiv y)):=fun w _=>by
  show(Op.intDiv .quo .i64 x y).run P w=_
  unfold Op.intDiv
  rw [if_neg h]
  show Result.ok (Value.int .i64 (IntKind.i64.wrap (x.tdiv y))) w=_
  rw [w6 cl]
def jK (x y:Int):Int:=IntKind.i64.wrap ((BitVec.ofInt 64 x&&& BitVec.ofInt 64 y).toNat)
def agJ (x y:Int):Int:=IntKind.i64.wrap ((BitVec.ofInt 64 x|||BitVec.ofInt 64 y).toNat)
def aqf (x y:Int):Int:=IntKind.i64.wrap ((BitVec.ofInt 64 x ^^^ BitVec.ofInt 64 y).toNat)
def wm (x y:Int):Int:=IntKind.i64.wrap ((BitVec.ofInt 64 x&&& ~~~ BitVec.ofInt 64 y).toNat)
theorem ak3 (x:Int):a_ (IntKind.i64.wrap x):=by
  rw [IntKind.wrap_i64];exact⟨by omega,by omega⟩
theorem agA (x y:Int):a_ (wm x y):=ak3 _
theorem qO {x y:Int}:g5 P u N (.int .and .i64 x y) (aa (jK x y)):=fun _ _=>rfl
theorem Xj {x y:Int}:g5 P u N (.int .andNot .i64 x y) (aa (wm x y)):=fun _ _=>rfl
def oX (x y:Int):Int:=IntKind.i64.wrap (x*2 ^ (min y.toNat 64))
def sV (x y:Int):Int:=x.fdiv (2 ^ (min y.toNat 64))
theorem OH {yk:IntKind} {x y:Int} (h:0<=y):g5 P u N (.ja (Op.shift .shl .i64 x yk y)) (aa (oX x y)):=fun w _=>by
  show(Op.shift .shl .i64 x yk y).run P w=_
  unfold Op.shift
  rw [if_neg (by omega)];rfl
theorem Xk {yk:IntKind} {x y:Int} (h:0<=y):g5 P u N (.ja (Op.shift .shr .i64 x yk y)) (aa (sV x y)):=fun w _=>by
  show(Op.shift .shr .i64 x yk y).run P w=_
  unfold Op.shift
  rw [if_neg (by omega)];rfl
theorem Hp {s d:TypeId} {CW:TypeDesc} {x:Int} (hs:P.underlying s=some CW) (hd:P.underlying d=some (.int .u64)) (h0:0<=x) (h1:x<=9223372036854775807):g5 P u N (.ja (Go.convert s d (aa x))) (.int .u64 x):=fun w _=>by
  show(Go.convert s d (.int .i64 x)).run P w=_
  unfold Go.convert
  simp only [Sem.run_bind,run_underlying hs,run_underlying hd,Result.andThen_ok]
  have e:IntKind.u64.wrap x=x:=Go.IntWalk.u64_in x ⟨h0,by omega⟩
  unfold Conv.intToInt
  rw [e]
  cases CW<;>rfl
section lists
variable {α:Type} [GT α] {xs:List α} {p:GT.Ptr (List α)}
theorem eP {K:Nat} (h:GT.rd K N u xs p) {t e:TypeId} {i:Int} {k l:Nat} (hl:l=xs.length) (hk:i=k) (hi:k<xs.length) (bx:P.underlying t=some (.slice e)) (he:jn P e=some (GT.width α)):
    g5 P u N (.idx t (R l p.1) (aa i)) (bh p.1.b (p.1.off+k*GT.width α)):=fun w _=>by
  subst hl
  have qj:=(ae.at_ h (by omega)).1
  subst hk
  have Al:p.1.addr=some ⟨p.1.b,p.1.off,none⟩:=by unfold mh.addr;rw [qj];rfl
  show(Instr.indexAt t (.slice p.1.addr xs.length p.1.cap) (.int .i64 k)).run P w=_
  unfold Instr.indexAt
  simp only [asIntOf,Sem.run_bind,Sem.run_pure,Result.andThen_ok,run_underlying bx,Al]
  have eW:0<=(k:Int)/\(k:Int)<xs.length:=⟨by omega,by omega⟩
  simp only [eW,and_self,if_true,Sem.run_bind,zb he,Result.andThen_ok,Sem.run_pure,Int.toNat_natCast,Addr.add_mid]
theorem Qq {K:Nat} (h:GT.rd K N u xs p) {k:Nat} (hi:k<xs.length) {w:World} (hw:∀b,N b->w.heap[b]? =u.heap[b]?):kW w p.1.b (p.1.off+k*GT.width α) (GT.cells (el xs k) (p.2 k)):=by
  have h1:=ae.cell h k hi
  intro j v bZ
  rw [←h1 j v bZ]
  exact Qp (hw _ (ae.at_ h (by omega)).2)
theorem iS {K:Nat} (h:GT.rd K N u xs p) {t:TypeId} {k j:Nat} {v:Value} (hi:k<xs.length) (bZ:(GT.cells (el xs k) (p.2 k))[j]? =some v) (bx:lC P t=some false):
    g5 P u N (.load t (bh p.1.b (p.1.off+k*GT.width α+j))) v:=fun w hw=>by
  have:=Qq h hi hw j v bZ
  show(Instr.loadAt t (.pointer (some ⟨p.1.b,_,none⟩))).run P w=_
  simp only [Instr.loadAt,Instr.sureAddr,Sem.run_bind,Sem.run_pure,Result.andThen_ok,loadVar,Gg bx,Bool.false_eq_true,if_false,run_load,this]
theorem Dh {K:Nat} (h:GT.rd K N u xs p) {t:TypeId} {k:Nat} (hi:k<xs.length) (ay:GT.agg α=false) (bx:lC P t=some false):
    g5 P u N (.load t (bh p.1.b (p.1.off+k*GT.width α))) (GT.val (el xs k) (p.2 k)):=by
  have hl:=GT.len (el xs k) (p.2 k)
  rw [GT.one ay] at hl
  match hc:GT.cells (el xs k) (p.2 k),hl with
  |[v],_=>
    have e:GT.val (el xs k) (p.2 k)=v:=by unfold GT.val;rw [ay,hc];rfl
    rw [e]
    have:=iS (P:=P) (j:=0) h hi (v:=v) (by rw [hc];rfl) bx
    simpa using this
theorem Xm {K:Nat} (h:GT.rd K N u xs p) {t:TypeId} {k j s:Nat} (hi:k<xs.length) (ay:lC P t=some true) (hs:jn P t=some s) (aoS:j+s<=GT.width α):
    g5 P u N (.load t (bh p.1.b (p.1.off+k*GT.width α+j))) (.agg (((GT.cells (el xs k) (p.2 k)).drop j).take s).toArray):=fun w hw=>by
  obtain⟨d,hd,bp⟩:=N0 ay
  have hc:=Qq h hi hw
  refine run_loadAt_mid w _ _ t _ d (fun i v b2=>?_) hd bp ?_
  · rw [List.getElem?_take] at b2
    split at b2
    · rw [List.getElem?_drop] at b2
      have:=hc _ _ b2
      rwa [←Nat.add_assoc] at this
    · cases b2
  · rw [Wp hs,List.length_take,List.length_drop,GT.len]
    congr 1
    omega
theorem rP {K:Nat} (h:GT.rd K N u xs p) {t:TypeId} {k:Nat} (hi:k<xs.length) (aJ:GT.agg α=true) (ay:lC P t=some true) (hs:jn P t=some (GT.width α)):
    g5 P u N (.load t (bh p.1.b (p.1.off+k*GT.width α))) (GT.val (el xs k) (p.2 k)):=by
  have:=Xm (P:=P) (j:=0) h hi ay hs (by omega)
  have e:GT.val (el xs k) (p.2 k)= .agg (((GT.cells (el xs k) (p.2 k)).drop 0).take (GT.width α)).toArray:=by
    unfold GT.val
    rw [aJ,List.drop_zero,List.take_of_length_le (by rw [GT.len];exact Nat.le_refl _)]
    rfl
  rw [e]
  simpa using this
end lists
theorem fY {s:Sem Value} {v:Value} (h:∀w,s.run P w= .ok v w):g5 P u N (.ja s) v:=fun w _=>h w
theorem Wl {x y:Int} (hy:0<y/\y<=9223372036854775807):a_ (Int.tmod x y):=by
  have h1:=Int.tmod_lt_of_pos x hy.1
  rcases Int.le_total 0 x with h0|h0
  · have:=Int.tmod_nonneg y h0
    exact⟨by omega,by omega⟩
  · have e:Int.tmod x y=-Int.tmod (-x) y:=by rw [Int.neg_tmod];omega
    have aF:=Int.tmod_lt_of_pos (-x) hy.1
    exact⟨by omega,by omega⟩
theorem aE {f:FuncId} {args:List Value} {v:Value} (h:∀w,(∀b,N b->b<w.heap.size/\w.heap[b]? =u.heap[b]?)->Calls P f args.toArray w fun e w'=>e= .returned v/\bB ab w w'):g5 P u N (.call f args) v:=h
theorem bJ {α:Type} [GT α] {K:Nat} {x:α} {p:GT.Ptr α} (h:GT.rd K N u x p) {w:World} (hw:∀b,N b->b<w.heap.size/\w.heap[b]? =u.heap[b]?):GT.rd K (fc w.heap.size) w x p:=
  GT.eH (GT.gn h (fun b hb _=>(hw b hb).2)) (Nat.le_refl _) (fun b hb=>(hw b hb).1)
end
end Go.Proofs.YtjlocpdfcanlhaaGreat
namespace Go.Proofs.YtjlocpdfcanlhaaGreat
open Go
structure nG (F:au) (l:List au):Prop where
  sub:∀G,G∈l->∀b,G b->F b
  cr:l.Pairwise J
theorem nG.mono {F bU:au} {l:List au} (h:nG F l) (bc:∀b,F b->bU b):nG bU l:=⟨fun G cO b hb=>bc b (h.sub G cO b hb),h.cr⟩
theorem nG.lt {F:au} {l:List au} (h:nG F l) (n:Nat):nG (fun b=>F b/\b<n) (l.map fun G b=>G b/\b<n):=
  ⟨fun G cO b hb=>by
      obtain⟨gO,h1,rfl⟩:=List.mem_map.1 cO
      exact⟨h.sub gO h1 b hb.1,hb.2⟩,
    List.pairwise_map.2 (h.cr.imp fun hd b x y=>hd b x.1 y.1)⟩
structure aR where
  page:Int
  bg:Int
  deriving DecidableEq
theorem aR.ext_iff {a b:aR}:a=b↔a.page=b.page/\a.bg=b.bg:=by
  cases a;cases b;simp
structure ed (d:aR):Prop where
  page:a_ d.page
  bg:a_ d.bg
instance:GT aR where
  Ptr:=Unit
  eR:=⟨0,0⟩
  cZ:=()
  width:=2
  agg:=true
  cells x _:=[aa x.page,aa x.bg]
  rd _ _ _ x _:=ed x
  own _ _ _ x _:=ed x
  jS:=by decide
  len _ _:=rfl
  one h:=by cases h
  plain _ _ v h:=by simp only [List.mem_cons,List.not_mem_nil,or_false] at h;rcases h with rfl|rfl<;>rfl
  eH h _ _:=h
  gn h _:=h
  gC h:=h
  fO h _ _:=h
  b8 h _:=h
  gN h:=h
  gl h:=h
  gw _ _ _:=⟨⟨by decide,by decide⟩,⟨by decide,by decide⟩⟩
structure bS where
  known:List Bool
  aZ:List aR
  deriving DecidableEq
theorem bS.ext_iff {a b:bS}:a=b↔a.known=b.known/\a.aZ=b.aZ:=by
  cases a;cases b;simp
structure fx where
  known:aD Bool
  aZ:aD aR
structure ey (K:Nat) (F:au) (w:World) (d:bS) (p:fx):Prop where
  known:GT.rd K F w d.known p.known
  aZ:GT.rd K F w d.aZ p.aZ
def Xf (K:Nat) (F:au) (w:World) (x:bS) (p:fx):Prop:=
  ∃cH cF:au,GT.own K cH w x.known p.known/\GT.own K cF w x.aZ p.aZ/\nG F [cH,cF]
instance:GT bS where
  Ptr:=fx
  eR:=⟨[],[]⟩
  cZ:=⟨GT.cZ (α:=List Bool),GT.cZ (α:=List aR)⟩
  width:=2
  agg:=true
  cells x p:=[R x.known.length p.known.1,R x.aZ.length p.aZ.1]
  rd:=ey
  own:=Xf
  jS:=by decide
  len _ _:=rfl
  one h:=by cases h
  plain _ _ v h:=by simp only [List.mem_cons,List.not_mem_nil,or_false] at h;rcases h with rfl|rfl<;>rfl
  eH h hk bc:=⟨GT.eH h.known hk bc,GT.eH h.aZ hk bc⟩
  gn h hw:=⟨GT.gn h.known hw,GT.gn h.aZ hw⟩
  gC h:=⟨GT.gC h.known,GT.gC h.aZ⟩
  fO:=by
    rintro K dh F G w x p ⟨cH,cF,h0,h1,s⟩ hk bc
    exact⟨cH,cF,GT.fO h0 hk (fun _ y=>y),GT.fO h1 hk (fun _ y=>y),s.mono bc⟩
  b8:=by
    rintro K F w w' x p ⟨cH,cF,h0,h1,s⟩ hw
    exact⟨cH,cF,GT.b8 h0 (fun b hb=>hw b (s.sub _ (by simp) b hb)),GT.b8 h1 (fun b hb=>hw b (s.sub _ (by simp) b hb)),s⟩
  gN:=by
    rintro K F w x p ⟨cH,cF,h0,h1,s⟩
    exact⟨_,_,GT.gN h0,GT.gN h1,s.lt _⟩
  gl:=by
    rintro K F w x p ⟨cH,cF,h0,h1,s⟩
    exact⟨GT.eH (GT.gl h0) (Nat.le_refl _) (s.sub _ (by simp)),GT.eH (GT.gl h1) (Nat.le_refl _) (s.sub _ (by simp))⟩
  gw K F w:=⟨ab,ab,GT.gw _ _ _,GT.gw _ _ _,⟨fun G cO b hb=>by simp at cO;rcases cO with rfl<;>exact hb.elim,by simp [J,ab]⟩⟩
structure aH where
  tag:Int
  page:Int
  host:Int
  bg:Int
  deriving DecidableEq
theorem aH.ext_iff {a b:aH}:a=b↔a.tag=b.tag/\a.page=b.page/\a.host=b.host/\a.bg=b.bg:=by
  cases a;cases b;simp
structure fi (d:aH):Prop where
  tag:a_ d.tag
  page:a_ d.page
  host:a_ d.host
  bg:a_ d.bg
instance:GT aH where
  Ptr:=Unit
  eR:=⟨0,0,0,0⟩
  cZ:=()
  width:=4
  agg:=true
  cells x _:=[aa x.tag,aa x.page,aa x.host,aa x.bg]
  rd _ _ _ x _:=fi x
  own _ _ _ x _:=fi x
  jS:=by decide
  len _ _:=rfl
  one h:=by cases h
  plain _ _ v h:=by simp only [List.mem_cons,List.not_mem_nil,or_false] at h;rcases h with rfl|rfl|rfl|rfl<;>rfl
  eH h _ _:=h
  gn h _:=h
  gC h:=h
  fO h _ _:=h
  b8 h _:=h
  gN h:=h
  gl h:=h
  gw _ _ _:=⟨⟨by decide,by decide⟩,⟨by decide,by decide⟩,⟨by decide,by decide⟩,⟨by decide,by decide⟩⟩
structure da where
  eL:Int
  x:Int
  deriving DecidableEq
theorem da.ext_iff {a b:da}:a=b↔a.eL=b.eL/\a.x=b.x:=by
  cases a;cases b;simp
structure je (d:da):Prop where
  eL:a_ d.eL
  x:a_ d.x
instance:GT da where
  Ptr:=Unit
  eR:=⟨0,0⟩
  cZ:=()
  width:=2
  agg:=true
  cells x _:=[aa x.eL,aa x.x]
  rd _ _ _ x _:=je x
  own _ _ _ x _:=je x
  jS:=by decide
  len _ _:=rfl
  one h:=by cases h
  plain _ _ v h:=by simp only [List.mem_cons,List.not_mem_nil,or_false] at h;rcases h with rfl|rfl<;>rfl
  eH h _ _:=h
  gn h _:=h
  gC h:=h
  fO h _ _:=h
  b8 h _:=h
  gN h:=h
  gl h:=h
  gw _ _ _:=⟨⟨by decide,by decide⟩,⟨by decide,by decide⟩⟩
structure fy where
  aY:Int
  post:Int
  e4:Bool
  deriving DecidableEq
theorem fy.ext_iff {a b:fy}:a=b↔a.aY=b.aY/\a.post=b.post/\a.e4=b.e4:=by
  cases a;cases b;simp
structure hz (d:fy):Prop where
  aY:a_ d.aY
  post:a_ d.post
instance:GT fy where
  Ptr:=Unit
  eR:=⟨0,0,false⟩
  cZ:=()
  width:=3
  agg:=true
  cells x _:=[aa x.aY,aa x.post,B x.e4]
  rd _ _ _ x _:=hz x
  own _ _ _ x _:=hz x
  jS:=by decide
  len _ _:=rfl
  one h:=by cases h
  plain _ _ v h:=by simp only [List.mem_cons,List.not_mem_nil,or_false] at h;rcases h with rfl|rfl|rfl<;>rfl
  eH h _ _:=h
  gn h _:=h
  gC h:=h
  fO h _ _:=h
  b8 h _:=h
  gN h:=h
  gl h:=h
  gw _ _ _:=⟨⟨by decide,by decide⟩,⟨by decide,by decide⟩⟩
structure dg where
  kind:Int
  page:Int
  wr:Bool
  n:Int
  deriving DecidableEq
theorem dg.ext_iff {a b:dg}:a=b↔a.kind=b.kind/\a.page=b.page/\a.wr=b.wr/\a.n=b.n:=by
  cases a;cases b;simp
structure fL (d:dg):Prop where
  kind:a_ d.kind
  page:a_ d.page
  n:a_ d.n
instance:GT dg where
  Ptr:=Unit
  eR:=⟨0,0,false,0⟩
  cZ:=()
  width:=4
  agg:=true
  cells x _:=[aa x.kind,aa x.page,B x.wr,aa x.n]
  rd _ _ _ x _:=fL x
  own _ _ _ x _:=fL x
  jS:=by decide
  len _ _:=rfl
  one h:=by cases h
  plain _ _ v h:=by simp only [List.mem_cons,List.not_mem_nil,or_false] at h;rcases h with rfl|rfl|rfl|rfl<;>rfl
  eH h _ _:=h
  gn h _:=h
  gC h:=h
  fO h _ _:=h
  b8 h _:=h
  gN h:=h
  gl h:=h
  gw _ _ _:=⟨⟨by decide,by decide⟩,⟨by decide,by decide⟩,⟨by decide,by decide⟩⟩
structure ax where
  prog:List da
  acc:Int
  aw:Int
  written:List aR
  live:List aR
  aN:fy
  aC:Int
  exit:dg
  halted:Bool
  seen:List Int
  deriving DecidableEq
theorem ax.ext_iff {a b:ax}:a=b↔a.prog=b.prog/\a.acc=b.acc/\a.aw=b.aw/\a.written=b.written/\a.live=b.live/\a.aN=b.aN/\a.aC=b.aC/\a.exit=b.exit/\a.halted=b.halted/\a.seen=b.seen:=by
  cases a;cases b;simp
structure c5 where
  prog:aD da
  written:aD aR
  live:aD aR
  seen:aD Int
structure az (K:Nat) (F:au) (w:World) (d:ax) (p:c5):Prop where
  prog:GT.rd K F w d.prog p.prog
  acc:a_ d.acc
  aw:a_ d.aw
  written:GT.rd K F w d.written p.written
  live:GT.rd K F w d.live p.live
  aN:hz d.aN
  aC:a_ d.aC
  exit:fL d.exit
  seen:GT.rd K F w d.seen p.seen
def Xd (K:Nat) (F:au) (w:World) (x:ax) (p:c5):Prop:=
  ∃cH cF cU c1:au,GT.own K cH w x.prog p.prog/\GT.own K cF w x.written p.written/\GT.own K cU w x.live p.live/\GT.own K c1 w x.seen p.seen/\nG F [cH,cF,cU,c1]/\a_ x.acc/\a_ x.aw/\hz x.aN/\a_ x.aC/\fL x.exit
instance:GT ax where
  Ptr:=c5
  eR:=⟨[],0,0,[],[],⟨0,0,false⟩,0,⟨0,0,false,0⟩,false,[]⟩
  cZ:=⟨GT.cZ (α:=List da),GT.cZ (α:=List aR),GT.cZ (α:=List aR),GT.cZ (α:=List Int)⟩
  width:=15
  agg:=true
  cells x p:=[R x.prog.length p.prog.1,aa x.acc,aa x.aw,R x.written.length p.written.1,R x.live.length p.live.1,aa x.aN.aY,aa x.aN.post,B x.aN.e4,aa x.aC,aa x.exit.kind,aa x.exit.page,B x.exit.wr,aa x.exit.n,B x.halted,R x.seen.length p.seen.1]
  rd:=az
  own:=Xd
  jS:=by decide
  len _ _:=rfl
  one h:=by cases h
  plain _ _ v h:=by simp only [List.mem_cons,List.not_mem_nil,or_false] at h;rcases h with rfl|rfl|rfl|rfl|rfl|rfl|rfl|rfl|rfl|rfl|rfl|rfl|rfl|rfl|rfl<;>rfl
  eH h hk bc:=⟨GT.eH h.prog hk bc,h.acc,h.aw,GT.eH h.written hk bc,GT.eH h.live hk bc,h.aN,h.aC,h.exit,GT.eH h.seen hk bc⟩
  gn h hw:=⟨GT.gn h.prog hw,h.acc,h.aw,GT.gn h.written hw,GT.gn h.live hw,h.aN,h.aC,h.exit,GT.gn h.seen hw⟩
  gC h:=⟨GT.gC h.prog,h.acc,h.aw,GT.gC h.written,GT.gC h.live,h.aN,h.aC,h.exit,GT.gC h.seen⟩
  fO:=by
    rintro K dh F G w x p ⟨cH,cF,cU,c1,h0,h1,an,aF,s,f0,f1,f2,f3,f4⟩ hk bc
    exact⟨cH,cF,cU,c1,GT.fO h0 hk (fun _ y=>y),GT.fO h1 hk (fun _ y=>y),GT.fO an hk (fun _ y=>y),GT.fO aF hk (fun _ y=>y),s.mono bc,f0,f1,f2,f3,f4⟩
  b8:=by
    rintro K F w w' x p ⟨cH,cF,cU,c1,h0,h1,an,aF,s,f0,f1,f2,f3,f4⟩ hw
    exact⟨cH,cF,cU,c1,GT.b8 h0 (fun b hb=>hw b (s.sub _ (by simp) b hb)),GT.b8 h1 (fun b hb=>hw b (s.sub _ (by simp) b hb)),GT.b8 an (fun b hb=>hw b (s.sub _ (by simp) b hb)),GT.b8 aF (fun b hb=>hw b (s.sub _ (by simp) b hb)),s,f0,f1,f2,f3,f4⟩
  gN:=by
    rintro K F w x p ⟨cH,cF,cU,c1,h0,h1,an,aF,s,f0,f1,f2,f3,f4⟩
    exact⟨_,_,_,_,GT.gN h0,GT.gN h1,GT.gN an,GT.gN aF,s.lt _,f0,f1,f2,f3,f4⟩
  gl:=by
    rintro K F w x p ⟨cH,cF,cU,c1,h0,h1,an,aF,s,f0,f1,f2,f3,f4⟩
    exact⟨GT.eH (GT.gl h0) (Nat.le_refl _) (s.sub _ (by simp)),f0,f1,GT.eH (GT.gl h1) (Nat.le_refl _) (s.sub _ (by simp)),GT.eH (GT.gl an) (Nat.le_refl _) (s.sub _ (by simp)),f2,f3,f4,GT.eH (GT.gl aF) (Nat.le_refl _) (s.sub _ (by simp))⟩
  gw K F w:=⟨ab,ab,ab,ab,GT.gw _ _ _,GT.gw _ _ _,GT.gw _ _ _,GT.gw _ _ _,⟨fun G cO b hb=>by simp at cO;rcases cO with rfl<;>exact hb.elim,by simp [J,ab]⟩,⟨by decide,by decide⟩,⟨by decide,by decide⟩,⟨⟨by decide,by decide⟩,⟨by decide,by decide⟩⟩,⟨by decide,by decide⟩,⟨⟨by decide,by decide⟩,⟨by decide,by decide⟩,⟨by decide,by decide⟩⟩⟩
structure cP where
  mem:List (List Int)
  U:List ax
  outs:List Int
  aC:Int
  deriving DecidableEq
theorem cP.ext_iff {a b:cP}:a=b↔a.mem=b.mem/\a.U=b.U/\a.outs=b.outs/\a.aC=b.aC:=by
  cases a;cases b;simp
structure jd where
  mem:aD (List Int)
  U:aD ax
  outs:aD Int
structure fK (K:Nat) (F:au) (w:World) (d:cP) (p:jd):Prop where
  mem:GT.rd K F w d.mem p.mem
  U:GT.rd K F w d.U p.U
  outs:GT.rd K F w d.outs p.outs
  aC:a_ d.aC
def Xc (K:Nat) (F:au) (w:World) (x:cP) (p:jd):Prop:=
  ∃cH cF cU:au,GT.own K cH w x.mem p.mem/\GT.own K cF w x.U p.U/\GT.own K cU w x.outs p.outs/\nG F [cH,cF,cU]/\a_ x.aC
instance:GT cP where
  Ptr:=jd
  eR:=⟨[],[],[],0⟩
  cZ:=⟨GT.cZ (α:=List (List Int)),GT.cZ (α:=List ax),GT.cZ (α:=List Int)⟩
  width:=4
  agg:=true
  cells x p:=[R x.mem.length p.mem.1,R x.U.length p.U.1,R x.outs.length p.outs.1,aa x.aC]
  rd:=fK
  own:=Xc
  jS:=by decide
  len _ _:=rfl
  one h:=by cases h
  plain _ _ v h:=by simp only [List.mem_cons,List.not_mem_nil,or_false] at h;rcases h with rfl|rfl|rfl|rfl<;>rfl
  eH h hk bc:=⟨GT.eH h.mem hk bc,GT.eH h.U hk bc,GT.eH h.outs hk bc,h.aC⟩
  gn h hw:=⟨GT.gn h.mem hw,GT.gn h.U hw,GT.gn h.outs hw,h.aC⟩
  gC h:=⟨GT.gC h.mem,GT.gC h.U,GT.gC h.outs,h.aC⟩
  fO:=by
    rintro K dh F G w x p ⟨cH,cF,cU,h0,h1,an,s,f0⟩ hk bc
    exact⟨cH,cF,cU,GT.fO h0 hk (fun _ y=>y),GT.fO h1 hk (fun _ y=>y),GT.fO an hk (fun _ y=>y),s.mono bc,f0⟩
  b8:=by
    rintro K F w w' x p ⟨cH,cF,cU,h0,h1,an,s,f0⟩ hw
    exact⟨cH,cF,cU,GT.b8 h0 (fun b hb=>hw b (s.sub _ (by simp) b hb)),GT.b8 h1 (fun b hb=>hw b (s.sub _ (by simp) b hb)),GT.b8 an (fun b hb=>hw b (s.sub _ (by simp) b hb)),s,f0⟩
  gN:=by
    rintro K F w x p ⟨cH,cF,cU,h0,h1,an,s,f0⟩
    exact⟨_,_,_,GT.gN h0,GT.gN h1,GT.gN an,s.lt _,f0⟩
  gl:=by
    rintro K F w x p ⟨cH,cF,cU,h0,h1,an,s,f0⟩
    exact⟨GT.eH (GT.gl h0) (Nat.le_refl _) (s.sub _ (by simp)),GT.eH (GT.gl h1) (Nat.le_refl _) (s.sub _ (by simp)),GT.eH (GT.gl an) (Nat.le_refl _) (s.sub _ (by simp)),f0⟩
  gw K F w:=⟨ab,ab,ab,GT.gw _ _ _,GT.gw _ _ _,GT.gw _ _ _,⟨fun G cO b hb=>by simp at cO;rcases cO with rfl<;>exact hb.elim,by simp [J,ab]⟩,⟨by decide,by decide⟩⟩
structure aO where
  outer:List aR
  out:List (List Int)
  aT:List Bool
  U:List ax
  outs:List Int
  aC:Int
  aY:Int
  tables:List bS
  owned:Int
  deriving DecidableEq
theorem aO.ext_iff {a b:aO}:a=b↔a.outer=b.outer/\a.out=b.out/\a.aT=b.aT/\a.U=b.U/\a.outs=b.outs/\a.aC=b.aC/\a.aY=b.aY/\a.tables=b.tables/\a.owned=b.owned:=by
  cases a;cases b;simp
structure ft where
  outer:aD aR
  out:aD (List Int)
  aT:aD Bool
  U:aD ax
  outs:aD Int
  tables:aD bS
structure aU (K:Nat) (F:au) (w:World) (d:aO) (p:ft):Prop where
  outer:GT.rd K F w d.outer p.outer
  out:GT.rd K F w d.out p.out
  aT:GT.rd K F w d.aT p.aT
  U:GT.rd K F w d.U p.U
  outs:GT.rd K F w d.outs p.outs
  aC:a_ d.aC
  aY:a_ d.aY
  tables:GT.rd K F w d.tables p.tables
  owned:a_ d.owned
def Xg (K:Nat) (F:au) (w:World) (x:aO) (p:ft):Prop:=
  ∃cH cF cU c1 eI eX:au,GT.own K cH w x.outer p.outer/\GT.own K cF w x.out p.out/\GT.own K cU w x.aT p.aT/\GT.own K c1 w x.U p.U/\GT.own K eI w x.outs p.outs/\GT.own K eX w x.tables p.tables/\nG F [cH,cF,cU,c1,eI,eX]/\a_ x.aC/\a_ x.aY/\a_ x.owned
instance:GT aO where
  Ptr:=ft
  eR:=⟨[],[],[],[],[],0,0,[],0⟩
  cZ:=⟨GT.cZ (α:=List aR),GT.cZ (α:=List (List Int)),GT.cZ (α:=List Bool),GT.cZ (α:=List ax),GT.cZ (α:=List Int),GT.cZ (α:=List bS)⟩
  width:=9
  agg:=true
  cells x p:=[R x.outer.length p.outer.1,R x.out.length p.out.1,R x.aT.length p.aT.1,R x.U.length p.U.1,R x.outs.length p.outs.1,aa x.aC,aa x.aY,R x.tables.length p.tables.1,aa x.owned]
  rd:=aU
  own:=Xg
  jS:=by decide
  len _ _:=rfl
  one h:=by cases h
  plain _ _ v h:=by simp only [List.mem_cons,List.not_mem_nil,or_false] at h;rcases h with rfl|rfl|rfl|rfl|rfl|rfl|rfl|rfl|rfl<;>rfl
  eH h hk bc:=⟨GT.eH h.outer hk bc,GT.eH h.out hk bc,GT.eH h.aT hk bc,GT.eH h.U hk bc,GT.eH h.outs hk bc,h.aC,h.aY,GT.eH h.tables hk bc,h.owned⟩
  gn h hw:=⟨GT.gn h.outer hw,GT.gn h.out hw,GT.gn h.aT hw,GT.gn h.U hw,GT.gn h.outs hw,h.aC,h.aY,GT.gn h.tables hw,h.owned⟩
  gC h:=⟨GT.gC h.outer,GT.gC h.out,GT.gC h.aT,GT.gC h.U,GT.gC h.outs,h.aC,h.aY,GT.gC h.tables,h.owned⟩
  fO:=by
    rintro K dh F G w x p ⟨cH,cF,cU,c1,eI,eX,h0,h1,an,aF,b1,bm,s,f0,f1,f2⟩ hk bc
    exact⟨cH,cF,cU,c1,eI,eX,GT.fO h0 hk (fun _ y=>y),GT.fO h1 hk (fun _ y=>y),GT.fO an hk (fun _ y=>y),GT.fO aF hk (fun _ y=>y),GT.fO b1 hk (fun _ y=>y),GT.fO bm hk (fun _ y=>y),s.mono bc,f0,f1,f2⟩
  b8:=by
    rintro K F w w' x p ⟨cH,cF,cU,c1,eI,eX,h0,h1,an,aF,b1,bm,s,f0,f1,f2⟩ hw
    exact⟨cH,cF,cU,c1,eI,eX,GT.b8 h0 (fun b hb=>hw b (s.sub _ (by simp) b hb)),GT.b8 h1 (fun b hb=>hw b (s.sub _ (by simp) b hb)),GT.b8 an (fun b hb=>hw b (s.sub _ (by simp) b hb)),GT.b8 aF (fun b hb=>hw b (s.sub _ (by simp) b hb)),GT.b8 b1 (fun b hb=>hw b (s.sub _ (by simp) b hb)),GT.b8 bm (fun b hb=>hw b (s.sub _ (by simp) b hb)),s,f0,f1,f2⟩
  gN:=by
    rintro K F w x p ⟨cH,cF,cU,c1,eI,eX,h0,h1,an,aF,b1,bm,s,f0,f1,f2⟩
    exact⟨_,_,_,_,_,_,GT.gN h0,GT.gN h1,GT.gN an,GT.gN aF,GT.gN b1,GT.gN bm,s.lt _,f0,f1,f2⟩
  gl:=by
    rintro K F w x p ⟨cH,cF,cU,c1,eI,eX,h0,h1,an,aF,b1,bm,s,f0,f1,f2⟩
    exact⟨GT.eH (GT.gl h0) (Nat.le_refl _) (s.sub _ (by simp)),GT.eH (GT.gl h1) (Nat.le_refl _) (s.sub _ (by simp)),GT.eH (GT.gl an) (Nat.le_refl _) (s.sub _ (by simp)),GT.eH (GT.gl aF) (Nat.le_refl _) (s.sub _ (by simp)),GT.eH (GT.gl b1) (Nat.le_refl _) (s.sub _ (by simp)),f0,f1,GT.eH (GT.gl bm) (Nat.le_refl _) (s.sub _ (by simp)),f2⟩
  gw K F w:=⟨ab,ab,ab,ab,ab,ab,GT.gw _ _ _,GT.gw _ _ _,GT.gw _ _ _,GT.gw _ _ _,GT.gw _ _ _,GT.gw _ _ _,⟨fun G cO b hb=>by simp at cO;rcases cO with rfl<;>exact hb.elim,by simp [J,ab]⟩,⟨by decide,by decide⟩,⟨by decide,by decide⟩,⟨by decide,by decide⟩⟩
structure ah where
  mem:List (List Int)
  I:List aO
  buf:List aH
  ag:List aH
  deriving DecidableEq
theorem ah.ext_iff {a b:ah}:a=b↔a.mem=b.mem/\a.I=b.I/\a.buf=b.buf/\a.ag=b.ag:=by
  cases a;cases b;simp
structure b_ where
  mem:aD (List Int)
  I:aD aO
  buf:aD aH
  ag:aD aH
structure bu (K:Nat) (F:au) (w:World) (d:ah) (p:b_):Prop where
  mem:GT.rd K F w d.mem p.mem
  I:GT.rd K F w d.I p.I
  buf:GT.rd K F w d.buf p.buf
  ag:GT.rd K F w d.ag p.ag
def Xe (K:Nat) (F:au) (w:World) (x:ah) (p:b_):Prop:=
  ∃cH cF cU c1:au,GT.own K cH w x.mem p.mem/\GT.own K cF w x.I p.I/\GT.own K cU w x.buf p.buf/\GT.own K c1 w x.ag p.ag/\nG F [cH,cF,cU,c1]
instance:GT ah where
  Ptr:=b_
  eR:=⟨[],[],[],[]⟩
  cZ:=⟨GT.cZ (α:=List (List Int)),GT.cZ (α:=List aO),GT.cZ (α:=List aH),GT.cZ (α:=List aH)⟩
  width:=4
  agg:=true
  cells x p:=[R x.mem.length p.mem.1,R x.I.length p.I.1,R x.buf.length p.buf.1,R x.ag.length p.ag.1]
  rd:=bu
  own:=Xe
  jS:=by decide
  len _ _:=rfl
  one h:=by cases h
  plain _ _ v h:=by simp only [List.mem_cons,List.not_mem_nil,or_false] at h;rcases h with rfl|rfl|rfl|rfl<;>rfl
  eH h hk bc:=⟨GT.eH h.mem hk bc,GT.eH h.I hk bc,GT.eH h.buf hk bc,GT.eH h.ag hk bc⟩
  gn h hw:=⟨GT.gn h.mem hw,GT.gn h.I hw,GT.gn h.buf hw,GT.gn h.ag hw⟩
  gC h:=⟨GT.gC h.mem,GT.gC h.I,GT.gC h.buf,GT.gC h.ag⟩
  fO:=by
    rintro K dh F G w x p ⟨cH,cF,cU,c1,h0,h1,an,aF,s⟩ hk bc
    exact⟨cH,cF,cU,c1,GT.fO h0 hk (fun _ y=>y),GT.fO h1 hk (fun _ y=>y),GT.fO an hk (fun _ y=>y),GT.fO aF hk (fun _ y=>y),s.mono bc⟩
  b8:=by
    rintro K F w w' x p ⟨cH,cF,cU,c1,h0,h1,an,aF,s⟩ hw
    exact⟨cH,cF,cU,c1,GT.b8 h0 (fun b hb=>hw b (s.sub _ (by simp) b hb)),GT.b8 h1 (fun b hb=>hw b (s.sub _ (by simp) b hb)),GT.b8 an (fun b hb=>hw b (s.sub _ (by simp) b hb)),GT.b8 aF (fun b hb=>hw b (s.sub _ (by simp) b hb)),s⟩
  gN:=by
    rintro K F w x p ⟨cH,cF,cU,c1,h0,h1,an,aF,s⟩
    exact⟨_,_,_,_,GT.gN h0,GT.gN h1,GT.gN an,GT.gN aF,s.lt _⟩
  gl:=by
    rintro K F w x p ⟨cH,cF,cU,c1,h0,h1,an,aF,s⟩
    exact⟨GT.eH (GT.gl h0) (Nat.le_refl _) (s.sub _ (by simp)),GT.eH (GT.gl h1) (Nat.le_refl _) (s.sub _ (by simp)),GT.eH (GT.gl an) (Nat.le_refl _) (s.sub _ (by simp)),GT.eH (GT.gl aF) (Nat.le_refl _) (s.sub _ (by simp))⟩
  gw K F w:=⟨ab,ab,ab,ab,GT.gw _ _ _,GT.gw _ _ _,GT.gw _ _ _,GT.gw _ _ _,⟨fun G cO b hb=>by simp at cO;rcases cO with rfl<;>exact hb.elim,by simp [J,ab]⟩⟩
structure nH where
  kind:Int
  m:Int
  g:Int
  x:Int
  y:Int
  z:Int
  deriving DecidableEq
theorem nH.ext_iff {a b:nH}:a=b↔a.kind=b.kind/\a.m=b.m/\a.g=b.g/\a.x=b.x/\a.y=b.y/\a.z=b.z:=by
  cases a;cases b;simp
structure OI (d:nH):Prop where
  kind:a_ d.kind
  m:a_ d.m
  g:a_ d.g
  x:a_ d.x
  y:a_ d.y
  z:a_ d.z
instance:GT nH where
  Ptr:=Unit
  eR:=⟨0,0,0,0,0,0⟩
  cZ:=()
  width:=6
  agg:=true
  cells x _:=[aa x.kind,aa x.m,aa x.g,aa x.x,aa x.y,aa x.z]
  rd _ _ _ x _:=OI x
  own _ _ _ x _:=OI x
  jS:=by decide
  len _ _:=rfl
  one h:=by cases h
  plain _ _ v h:=by simp only [List.mem_cons,List.not_mem_nil,or_false] at h;rcases h with rfl|rfl|rfl|rfl|rfl|rfl<;>rfl
  eH h _ _:=h
  gn h _:=h
  gC h:=h
  fO h _ _:=h
  b8 h _:=h
  gN h:=h
  gl h:=h
  gw _ _ _:=⟨⟨by decide,by decide⟩,⟨by decide,by decide⟩,⟨by decide,by decide⟩,⟨by decide,by decide⟩,⟨by decide,by decide⟩,⟨by decide,by decide⟩⟩
structure pW where
  ok:Bool
  n:Int
  deriving DecidableEq
theorem pW.ext_iff {a b:pW}:a=b↔a.ok=b.ok/\a.n=b.n:=by
  cases a;cases b;simp
structure OJ (d:pW):Prop where
  n:a_ d.n
instance:GT pW where
  Ptr:=Unit
  eR:=⟨false,0⟩
  cZ:=()
  width:=2
  agg:=true
  cells x _:=[B x.ok,aa x.n]
  rd _ _ _ x _:=OJ x
  own _ _ _ x _:=OJ x
  jS:=by decide
  len _ _:=rfl
  one h:=by cases h
  plain _ _ v h:=by simp only [List.mem_cons,List.not_mem_nil,or_false] at h;rcases h with rfl|rfl<;>rfl
  eH h _ _:=h
  gn h _:=h
  gC h:=h
  fO h _ _:=h
  b8 h _:=h
  gN h:=h
  gl h:=h
  gw _ _ _:=⟨⟨by decide,by decide⟩⟩
end Go.Proofs.YtjlocpdfcanlhaaGreat
namespace Go.Proofs.YtjlocpdfcanlhaaGreat
open Go
section
variable {P:Program} {n:Nat} {w0:World} {M:au} {u:World} {N:au} {β:Nat->Nat} {σ σ':b3} {a:Act} {w:World} {ops:Array Oper} {Q:Exit->Act->World->Prop} {dh:Act->World->Prop}
theorem aj.qQ (S:aj P n w0 M u N β σ a w) {w':World} {kv:au} (hc:bB kv w w') (h1:∀b,kv b->N b) (an:∀b,kv b->w0.heap.size<=b\/M b):
    aj P n w0 M w' (Or N (k0 w.heap.size w'.heap.size)) β σ a w':=by
  have hb:∀k,k<σ.aM.length->β k<w.heap.size:=fun k hk=>by
    obtain⟨oh,h⟩:=S.box k _ (List.getElem?_eq_getElem hk)
    rcases Nat.lt_or_ge (β k) w.heap.size with hl|hl
    · exact hl
    · rw [Array.getElem?_eq_none hl] at h;cases h
  refine⟨S.ml,S.aW,S.env,S.ok,fun k cs hk=>?_,S.inj,S.new,fun b eU=>?_,S.fu.step hc (fun b eU hm=>(an b hm).resolve_left (by omega)),fun b eU hm=>?_⟩
  · obtain⟨T,h⟩:=S.box k cs hk
    have EA:k<σ.aM.length:=(List.getElem?_eq_some_iff.1 hk).1
    exact⟨T,(hc.block _ (hb k EA) (fun f=>(S.sep _ (h1 _ f)).2.2 k EA rfl)).trans h⟩
  · rcases eU with h|h
    · obtain⟨cu,cB,fo⟩:=S.sep b h
      exact⟨Nat.lt_of_lt_of_le cu hc.size,rfl,fo⟩
    · refine⟨h.2,rfl,fun k hk e=>?_⟩
      have:=hb k hk
      have:=h.1
      omega
  · obtain⟨cu,cB⟩:=S.k8 b eU hm
    have cY:¬kv b:=fun f=>by
      rcases an b f with h|h
      · omega
      · exact hm h
    exact⟨.inl cu,((hc.block b (S.sep b cu).1 cY).trans (S.sep b cu).2.1).trans cB⟩
theorem aj.bk (S:aj P n w0 M u N β σ a w) {w':World} {kv:au} (hc:bB kv w w'):∀b,N b->¬kv b->Or N (k0 w.heap.size w'.heap.size) b/\w'.heap[b]? =u.heap[b]? :=fun b hb hm=>
  ⟨.inl hb,(hc.block b (S.sep b hb).1 hm).trans (S.sep b hb).2.1⟩
theorem ad.bk {α:Type} [GT α] {F kv:au} {x:α} {p:GT.Ptr α} {w':World} {aB:au} (h:ad w0 M u N F x p) (hd:J F kv) (g:∀b,N b->¬kv b->aB b/\w'.heap[b]? =u.heap[b]?):ad w0 M w' aB F x p:=
  ⟨GT.b8 h.own (fun b hb _=>(g b (h.sub b hb) (fun m=>hd b hb m)).2),fun b hb=>(g b (h.sub b hb) (fun m=>hd b hb m)).1,h.dM⟩
theorem wq {d:Tmp} {v:Value} (hd:Nat.blt d n=true):σ.put n (some d) (.v v)=some ⟨(d,.v v)::σ.env,σ.aM⟩:=by simp [b3.put,hd]
def Gj:Operand->Operand->Bool
  | .tmp s,.tmp r=>Nat.beq s r
  | .const (.int .i64 x),.const (.int .i64 y)=>decide (x=y)
  |_,_=>false
theorem akn {l c:Operand} (h:Gj l c=true):σ.get l=σ.get c:=by
  unfold Gj at h
  split at h
  · rw [Nat.eq_of_beq_eq_true h]
  · rw [of_decide_eq_true h]
  · cases h
def Lm (P:Program) (n:Nat) (ops:Array Oper) (i:Nat) (σ:b3):Option (Value×List Value×Nat×Nat×Tmp):=
  match ops.toList[i]? with
  |some o=>
    match oy ops σ o,o.op,o.dst with
    |some true,.makeSlice t l c,some d=>
      match P.underlying t,σ.get l with
      |some (.slice e),some (.v (.int .i64 m))=>
        match P.info? e with
        |some i=>
          match i.zero with
          |some z=>bif Nat.blt d n&&Gj l c then some (.int .i64 m,z.cells.toList,i.bytes,i.size,d) else none
          |_=>none
        |none=>none
      |_,_=>none
    |_,_,_=>none
  |none=>none
theorem alC {α:Type} [GT α] (kp:List Value) (ej:kp.length=GT.width α) (m:Nat) (b:Nat) (T:TypeId) (w:World) (hw:w.heap[b]? =some (.cells ((Array.range (m*GT.width α)).map (kp.toArray[· % kp.toArray.size]!)) T (0,0))) (i:Nat) (hi:i<m):
    kW w b (0+i*GT.width α) kp:=by
  intro j v bZ
  have sn:j<GT.width α:=by rw [←ej];exact(List.getElem?_eq_some_iff.1 bZ).1
  have eW:i*GT.width α+j<m*GT.width α:=by
    have:=Nat.mul_le_mul_right (GT.width α) (show i+1<=m from hi)
    rw [Nat.add_mul] at this;omega
  simp only [World.cell?,hw,Nat.zero_add,Option.isSome_none,Bool.false_eq_true,if_false]
  rw [Array.getElem?_map,Array.getElem?_range]
  simp only [eW,if_true,Option.map_some,Option.some.injEq]
  have afb:(i*GT.width α+j) % GT.width α=j:=by rw [Nat.mul_comm,Nat.mul_add_mod];exact Nat.mod_eq_of_lt sn
  simp only [List.size_toArray,ej,afb]
  simp [bZ]
theorem run_make {t e:TypeId} {info:TypeInfo} {z:Value} {m:Nat} (bx:P.underlying t=some (.slice e)) (hi:P.info? e=some info) (ej:info.zero=some z) (hb:info.bytes*m<=281474976710656) (hm:m<=9223372036854775807) (w:World)
    (hs:0<info.size) (yM:z.cells.size=info.size):
    (Instr.makeSlice t (aa m) (aa m)).run P w= .ok (.slice (some ⟨w.heap.size,0,none⟩) m m) {w with heap:=w.heap.push (.cells ((Array.range (m*info.size)).map (z.cells[· % z.cells.size]!)) e)}:=by
  unfold Instr.makeSlice
  have hw:IntKind.i64.wrap (m:Int)=m:=w6 ⟨by omega,by omega⟩
  have h1:¬((m:Int)<0):=by omega
  have an:¬((info.bytes:Int)*m>2 ^ 48):=by
    have:((info.bytes*m:Nat):Int)<=(281474976710656:Nat):=Int.ofNat_le.2 hb
    simp only [Int.natCast_mul] at this
    omega
  have hzero:(zeroValue e).run P w= .ok z w:=by simp [zeroValue,typeInfo,hi,ej]
  simp only [Sem.run_bind,run_underlying bx,Result.andThen_ok,asInt,asIntOf,Sem.run_pure,typeInfo,run_program,hi,hw,h1,an,decide_false,Bool.or_self,Bool.false_eq_true,Int.lt_irrefl,gt_iff_lt,if_false,Int.toNat_natCast]
  have Kg:∀k:Nat,(askRoom k).run P w= .ok () w:=fun k=>by
    unfold askRoom;split<;>rfl
  simp only [Kg,Result.andThen_ok,sizeOf,typeInfo,Sem.run_bind,run_program,hi,Sem.run_pure]
  by_cases h0:m*info.size=0
  · have:m=0:=by
      rcases Nat.mul_eq_zero.1 h0 with h|h
      · exact h
      · omega
    subst this
    have bp:Array.range 0=#[]:=rfl
    simp [newRow,bp]
  · simp only [h0,if_false,Sem.run_bind,hzero,Result.andThen_ok,Sem.run_pure,newRow,run_newObj]
theorem aj.make {α:Type} [GT α] (S:aj P n w0 M u N β σ a w) {i:Nat} {m by':Nat} {d:Tmp} (hop:Lm P n ops i σ=some (aa m,GT.cells (GT.eR:α) GT.cZ,by',GT.width α,d)) (hb:by'*m<=281474976710656) (hm:m<=b6)
    (K:∀a1 w' aB q F,aj P n w0 M w' aB β ⟨(d,.v (R m q.1))::σ.env,σ.aM⟩ a1 w'->(∀b,N b->aB b/\w'.heap[b]? =u.heap[b]?)->
      ad w0 M w' aB F (List.replicate m (GT.eR:α)) q->J N F->dh a1 w'):wpOp P ops Q i dh a w:=by
  unfold Lm at hop
  split at hop
  · rename_i o bN
    have kI:ops[i]? =some o:=by simpa using bN
    split at hop
    · rename_i t l c pf aJ v_ hd
      split at hop
      · rename_i e rb hu hx
        split at hop
        · rename_i info yx
          split at hop
          · rename_i z ej
            cases nY:(Nat.blt pf n&&Gj l c) with
            |false=>rw [nY] at hop;cases hop
            |true=>
                  rw [nY] at hop
                  simp only [Bool.and_eq_true] at nY
                  obtain⟨aeD,aft⟩:=nY
                  have hy:=hx
                  rw [akn (σ:=σ) aft] at hy
                  simp only [cond_true,Option.some.injEq,Prod.mk.injEq,Value.int.injEq,true_and] at hop
                  obtain⟨rfl,To,rfl,hH,rfl⟩:=hop
                  have yM:z.cells.size=info.size:=by
                    have:=GT.len (GT.eR:α) GT.cZ
                    rw [←To] at this
                    rw [hH];simpa using this
                  have oI:=run_make (P:=P) hu yx ej hb (by unfold b6 at hm;omega) w (by rw [hH];exact GT.jS) yM
                  refine xo.step kI (mw S aJ) ?_
                  have hex:(execOp a.eval o).run P w= .ok (.value (.slice (some ⟨w.heap.size,0,none⟩) m m)) {w with heap:=w.heap.push (.cells ((Array.range (m*info.size)).map (z.cells[· % z.cells.size]!)) e)}:=by
                    unfold execOp
                    simp only [v_,S.get hx,S.get hy]
                    show(do pure (.value (←Instr.makeSlice t (aa m) (aa m))):Sem Next).run P w=_
                    rw [Sem.run_bind,oI]
                    rfl
                  unfold Oper.wp
                  rw [hex]
                  simp only [Oper.upon,hd]
                  have fp:bB ab w {w with heap:=w.heap.push (.cells ((Array.range (m*info.size)).map (z.cells[· % z.cells.size]!)) e)}:=bB.push ab w _
                  have mA:({w with heap:=w.heap.push (.cells ((Array.range (m*info.size)).map (z.cells[· % z.cells.size]!)) e)}:World).heap[w.heap.size]? =some (.cells ((Array.range (m*info.size)).map (z.cells[· % z.cells.size]!)) e):=by simp
                  refine K _ _ _ (⟨false,w.heap.size,0,m,none⟩,fun _=>GT.cZ) (k0 w.heap.size _) (S.after aeD fp) (S.up fp) ⟨?_,fun _ h=> .inr h,fun _ h=> .inl (Nat.le_trans S.fu.size h.1)⟩ (J.fresh S _ fun _ h=>h)
                  have ih:∀k,k<m->el (List.replicate m (GT.eR:α)) k=GT.eR:=fun k hk=>by simp [el,hk]
                  refine⟨by simpa using hm,by simp,by unfold b6 at hm;simp;omega,fun h=>(by cases h),fun _=>⟨⟨Nat.le_refl _,by simp⟩,_,e,mA,by simp [hH]⟩,fun k hk=>?_,fun _=>ab,fun k hk=>?_,fun _ _ b eU=>eU.elim,fun _ _ _ _ _ b eU=>eU.elim⟩
                  · simp only [List.length_replicate] at hk
                    rw [ih k hk]
                    have cu:z.cells=(GT.cells (GT.eR:α) GT.cZ).toArray:=by rw [←To]
                    refine alC (α:=α) _ (GT.len _ _) m w.heap.size e _ ?_ k hk
                    rw [mA,cu,hH]
                  · simp only [List.length_replicate] at hk
                    rw [ih k hk]
                    exact GT.gw _ _ _
          · cases hop
        · cases hop
      · cases hop
    · cases hop
  · cases hop
end
end Go.Proofs.YtjlocpdfcanlhaaGreat
namespace Go.Proofs.YtjlocpdfcanlhaaGreat
open Go
section
variable {P:Program} {n:Nat} {w0:World} {M:au} {u:World} {N:au} {β:Nat->Nat} {σ σ':b3} {a:Act} {w:World} {ops:Array Oper} {Q:Exit->Act->World->Prop} {dh:Act->World->Prop}
def pR (ops:Array Oper) (i:Nat) (σ:b3):Option (TypeId×Value×Value):=
  match ops.toList[i]? with
  |some o=>
    match oy ops σ o,o.op,o.dst with
    |some true,.store t x y,none=>
      match σ.get x,σ.get y with
      |some (.v a),some (.v v)=>some (t,a,v)
      |_,_=>none
    |_,_,_=>none
  |none=>none
theorem aky (S:aj P n w0 M u N β σ a w) {i:Nat} {t:TypeId} {b o:Nat} {v:Value} {cs:Array Value} {T:TypeId} (hop:pR ops i σ=some (t,bh b o,v)) (hs:jn P t=some v.cells.toList.length) (hpl:v.cells.toList.all (·.oneCell')=true)
    (hb:w.heap[b]? =some (.cells cs T (0,0))) (hle:o+v.cells.toList.length<=cs.size)
    (h:dh a (w.setRow b (cs.toList.take o++v.cells.toList++cs.toList.drop (o+v.cells.toList.length)).toArray)):wpOp P ops Q i dh a w:=by
  unfold pR at hop
  split at hop
  · rename_i tY bN
    have kI:ops[i]? =some tY:=by simpa using bN
    split at hop
    · rename_i CT x y aJ v_ hd
      split at hop
      · rename_i h2 GC hx hy
        simp only [Option.some.injEq,Prod.mk.injEq] at hop
        obtain⟨rfl,rfl,rfl⟩:=hop
        refine xo.step kI (mw S aJ) ?_
        have oI:=run_storeCells_at (P:=P) b o T GC.cells.toList 0 cs w hb (by simp at hle ⊢;exact hle) (fun z ej=>List.all_eq_true.1 hpl z ej)
        simp only [Nat.add_zero] at oI
        have hex:(execOp a.eval tY).run P w= .ok .skip (w.setRow b (cs.toList.take o++GC.cells.toList++cs.toList.drop (o+GC.cells.toList.length)).toArray):=by
          unfold execOp
          simp only [v_,S.get hx,S.get hy]
          show(do Instr.storeAt CT (bh b o) GC;pure .skip:Sem Next).run P w=_
          rw [Sem.run_bind]
          simp only [Instr.storeAt,Instr.sureAddr,Sem.run_bind,Sem.run_pure,Result.andThen_ok,storeVar,zb hs]
          rw [if_neg (by simp),oI]
          rfl
        unfold Oper.wp
        rw [hex]
        simp only [Oper.upon,hd]
        exact h
      · cases hop
    · cases hop
  · cases hop
theorem NS (l er:List Value) (o i:Nat) (h:o+er.length<=l.length):(l.take o++er++l.drop (o+er.length))[i]? =if i<o then l[i]? else if i<o+er.length then er[i-o]? else l[i]? :=by
  have hl:(l.take o).length=o:=by simp;omega
  by_cases h1:i<o
  · rw [if_pos h1,List.append_assoc,List.getElem?_append_left (by omega),List.getElem?_take,if_pos h1]
  · rw [if_neg h1]
    by_cases an:i<o+er.length
    · rw [if_pos an,List.append_assoc,List.getElem?_append_right (by omega),hl,List.getElem?_append_left (by omega)]
    · rw [if_neg an,List.append_assoc,List.getElem?_append_right (by omega),hl,List.getElem?_append_right (by omega),List.getElem?_drop]
      congr 1
      omega
theorem Iy {α:Type} [GT α] (xs:List α) (k i:Nat) (y:α) (hk:k<xs.length):el (xs.set k y) i=if i=k then y else el xs i:=by
  unfold el
  simp only [List.getD_eq_getElem?_getD,List.getElem?_set]
  by_cases h:i=k
  · subst h;simp [hk]
  · rw [if_neg (fun e=>h e.symm),if_neg h]
theorem g4.BK {α:Type} [GT α] {K:Nat} {F:au} {w:World} {xs:List α} {p:aD α} (h:g4 K F w xs p) (hl:0<p.1.cap):p.1.nil=false:=by
  cases cY:p.1.nil with
  |false=>rfl
  |true=>have:=h.null cY;omega
theorem aj.qD {α:Type} [GT α] {xs:List α} {p:aD α} {F Fy:au} (S:aj P n w0 M u N β σ a w) (hx:ad w0 M u N F xs p) {i k j off:Nat} {t:TypeId} {v:Value} {y:α} {q:GT.Ptr α} (hop:pR ops i σ=some (t,bh p.1.b off,v))
    (hoff:off=p.1.off+k*GT.width α+j) (hk:k<xs.length) (hs:jn P t=some v.cells.toList.length) (hpl:v.cells.toList.all (·.oneCell')=true) (hjw:j+v.cells.toList.length<=GT.width α)
    (hc:GT.cells y q=(GT.cells (el xs k) (p.2 k)).take j++v.cells.toList++(GT.cells (el xs k) (p.2 k)).drop (j+v.cells.toList.length))
    (hy:∀G,GT.own b6 G u (el xs k) (p.2 k)->(∀b,G b->F b)->∃gO,GT.own b6 gO u y q/\∀b,gO b->G b\/Fy b) (hd:J F Fy) (hyN:∀b,Fy b->N b) (hyY:∀b,Fy b->w0.heap.size<=b\/M b)
    (K:∀w' aB bU,aj P n w0 M w' aB β σ a w'->(∀b,N b->¬F b->aB b/\w'.heap[b]? =u.heap[b]?)->
      ad w0 M w' aB bU (xs.set k y) ((p.1,fun i=>if i=k then q else p.2 i):aD α)->(∀G:au,J G F->J G Fy->(∀b,G b->N b)->J G bU)->(∀b,bU b->F b\/Fy b)->(∀b,N b->aB b)->dh a w'):wpOp P ops Q i dh a w:=by
  have bN:g4 b6 F u xs p:=hx.own
  have vZ:=bN.cap
  have qj:p.1.nil=false:=bN.BK (by omega)
  obtain⟨eT,cs,T,mA,hH⟩:=bN.row qj
  obtain⟨eW,Bp,_⟩:=S.sep _ (hx.sub _ eT)
  have Tk:w.heap[p.1.b]? =some (.cells cs T (0,0)):=Bp.trans mA
  have hmul:(k+1)*GT.width α<=p.1.cap*GT.width α:=Nat.mul_le_mul_right _ (by omega)
  rw [Nat.add_mul,Nat.one_mul] at hmul
  have hle:off+v.cells.toList.length<=cs.size:=by omega
  refine aky S hop hs hpl Tk hle ?_
  have tF:=setRow_heap w p.1.b cs (cs.toList.take off++v.cells.toList++cs.toList.drop (off+v.cells.toList.length)).toArray T (0,0) Tk
  have yG:∀b,b≠p.1.b->(w.setRow p.1.b (cs.toList.take off++v.cells.toList++cs.toList.drop (off+v.cells.toList.length)).toArray).heap[b]? =w.heap[b]? :=fun b hb=>by
    simp only [World.setRow,Array.getElem?_modify]
    rw [if_neg (fun e=>hb e.symm)]
  have ER:(w.setRow p.1.b (cs.toList.take off++v.cells.toList++cs.toList.drop (off+v.cells.toList.length)).toArray).heap.size=w.heap.size:=by simp [World.setRow]
  generalize qn:w.setRow p.1.b (cs.toList.take off++v.cells.toList++cs.toList.drop (off+v.cells.toList.length)).toArray=w' at*
  have fp:bB F w w':=by
    subst qn
    exact⟨rfl,rfl,rfl,by rw [ER];exact Nat.le_refl _,fun b _ cY=>yG b (fun e=>cY (e▸eT))⟩
  have oD:∀pos,w'.cell? ⟨p.1.b,pos,none⟩=if pos<off then cs[pos]? else if pos<off+v.cells.toList.length then v.cells.toList[pos-off]? else cs[pos]? :=fun pos=>by
    simp only [World.cell?,tF,Option.isSome_none,Bool.false_eq_true,if_false]
    have:=NS cs.toList v.cells.toList off pos (by simpa using hle)
    simpa using this
  have hold:∀pos x,u.cell? ⟨p.1.b,pos,none⟩=some x->cs[pos]? =some x:=fun pos x h=>by
    simpa [World.cell?,mA] using h
  refine K w' _ (Or F Fy) (S.qQ fp hx.sub hx.dM) (S.bk fp) ⟨?_,fun b hb=> .inl (hb.elim (hx.sub b) (hyN b)),fun b hb=>hb.elim (hx.dM b) (hyY b)⟩ (fun G cn a8 _ b hb h=>h.elim (cn b hb) (a8 b hb)) (fun _ h=>h) (fun _ h=> .inl h)
  obtain⟨G,cn,a8,b7⟩:=bN.el
  obtain⟨gO,ac4,gs⟩:=hy (G k) (cn k hk) (fun b hb=>(a8 k hk b hb).1)
  have tC:∀b,F b->b≠p.1.b->w'.heap[b]? =u.heap[b]? :=fun b hb kH=>(yG b kH).trans (S.sep b (hx.sub b hb)).2.1
  have aer:∀b,Fy b->w'.heap[b]? =u.heap[b]? :=fun b hb=>(yG b (fun e=>hd _ (e▸eT) hb)).trans (S.sep b (hyN b hb)).2.1
  refine⟨by rw [List.length_set];exact bN.le,by rw [List.length_set];exact bN.cap,bN.pe,bN.null,fun _=>⟨.inl eT,_,T,tF,?_⟩,fun i hi=>?_,fun i=>if i=k then gO else G i,fun i hi=>?_,fun i hi b hb=>?_,fun i Bs hi hF kH=>?_⟩
  · have:(cs.toList.take off++v.cells.toList++cs.toList.drop (off+v.cells.toList.length)).toArray.size=cs.size:=by simp at hle ⊢;omega
    rw [this];exact hH
  · rw [List.length_set] at hi
    rw [Iy _ _ _ _ hk]
    by_cases e:i=k
    · subst e
      simp only [if_true]
      intro z x ej
      have yM:z<GT.width α:=by
        have:=(List.getElem?_eq_some_iff.1 ej).1
        rwa [GT.len] at this
      rw [hc,NS _ _ _ _ (by rw [GT.len];exact hjw)] at ej
      rw [oD]
      by_cases GD:z<j
      · rw [if_pos GD] at ej
        rw [if_pos (by omega)]
        exact hold _ _ (bN.cell i hk z x ej)
      · rw [if_neg GD] at ej
        rw [if_neg (by omega)]
        by_cases WC:z<j+v.cells.toList.length
        · rw [if_pos WC] at ej
          rw [if_pos (by omega),←ej]
          congr 1
          omega
        · rw [if_neg WC] at ej
          rw [if_neg (by omega)]
          exact hold _ _ (bN.cell i hk z x ej)
    · simp only [e,if_false]
      intro z x ej
      have yM:z<GT.width α:=by
        have:=(List.getElem?_eq_some_iff.1 ej).1
        rwa [GT.len] at this
      have h1:=hold _ _ (bN.cell i hi z x ej)
      rw [oD]
      rcases Nat.lt_or_gt_of_ne e with h|h
      · have:=Nat.mul_le_mul_right (GT.width α) (show i+1<=k from h)
        rw [Nat.add_mul,Nat.one_mul] at this
        rw [if_pos (by omega)]
        exact h1
      · have:=Nat.mul_le_mul_right (GT.width α) (show k+1<=i from h)
        rw [Nat.add_mul,Nat.one_mul] at this
        rw [if_neg (by omega),if_neg (by omega)]
        exact h1
  · rw [List.length_set] at hi
    rw [Iy _ _ _ _ hk]
    by_cases e:i=k
    · subst e
      simp only [if_true]
      exact GT.b8 ac4 fun b hb _=>by
        rcases gs b hb with h|h
        · obtain⟨h1,an⟩:=a8 i hk b h
          exact tC b h1 an
        · exact aer b h
    · simp only [e,if_false]
      exact GT.b8 (cn i hi) fun b hb _=>tC b (a8 i hi b hb).1 (a8 i hi b hb).2
  · rw [List.length_set] at hi
    by_cases e:i=k
    · subst e
      simp only [if_true] at hb
      rcases gs b hb with h|h
      · exact⟨.inl (a8 i hk b h).1,(a8 i hk b h).2⟩
      · exact⟨.inr h,fun e=>hd _ (e▸eT) h⟩
    · simp only [e,if_false] at hb
      exact⟨.inl (a8 i hi b hb).1,(a8 i hi b hb).2⟩
  · rw [List.length_set] at hi hF
    intro b hb eU
    by_cases e:i=k
    · by_cases h9:Bs=k
      · exact kH (e.trans h9.symm)
      · simp only [e,if_true] at hb
        simp only [h9,if_false] at eU
        rcases gs b hb with h|h
        · exact b7 k Bs hk hF (fun q=>h9 q.symm) b h eU
        · exact hd b (a8 Bs hF b eU).1 h
    · by_cases h9:Bs=k
      · simp only [e,if_false] at hb
        simp only [h9,if_true] at eU
        rcases gs b eU with h|h
        · exact b7 i k hi hk e b hb h
        · exact hd b (a8 i hi b hb).1 h
      · simp only [e,h9,if_false] at hb eU
        exact b7 i Bs hi hF kH b hb eU
theorem aj.Gl {α:Type} [GT α] {xs:List α} {p:aD α} {F Fy:au} (S:aj P n w0 M u N β σ a w) (hx:ad w0 M u N F xs p) {i k j off:Nat} {t:TypeId} {v:Value} {y:α} {q:GT.Ptr α} (hop:pR ops i σ=some (t,bh p.1.b off,v))
    (hoff:off=p.1.off+k*GT.width α+j) (hk:k<xs.length) (hs:jn P t=some v.cells.toList.length) (hpl:v.cells.toList.all (·.oneCell')=true) (hjw:j+v.cells.toList.length<=GT.width α)
    (hc:GT.cells y q=(GT.cells (el xs k) (p.2 k)).take j++v.cells.toList++(GT.cells (el xs k) (p.2 k)).drop (j+v.cells.toList.length))
    (hy:∀G,GT.own b6 G u (el xs k) (p.2 k)->(∀b,G b->F b)->∃gO,GT.own b6 gO u y q/\∀b,gO b->G b\/Fy b) (hd:J F Fy) (hyN:∀b,Fy b->N b) (hyY:∀b,Fy b->w0.heap.size<=b\/M b)
    (K:∀w' aB bU cx,aj P n w0 M w' aB β σ a w'->(∀b,N b->¬F b->aB b/\w'.heap[b]? =u.heap[b]?)->
      ad w0 M w' aB bU (xs.set k y) (p.1,cx)->(∀G:au,J G F->J G Fy->(∀b,G b->N b)->J G bU)->(∀b,bU b->F b\/Fy b)->(∀b,N b->aB b)->dh a w'):wpOp P ops Q i dh a w:=
  S.qD hx hop hoff hk hs hpl hjw hc hy hd hyN hyY fun w' aB bU=>K w' aB bU _
theorem aj.akm {α:Type} [GT α] {xs:List α} {p:aD α} {F Fy:au} (S:aj P n w0 M u N β σ a w) (hx:ad w0 M u N F xs p) {i k j off:Nat} {t:TypeId} {v:Value} {y:α} {q:GT.Ptr α}
    (hy:∀G,GT.own b6 G u (el xs k) (p.2 k)->(∀b,G b->F b)->∃gO,GT.own b6 gO u y q/\∀b,gO b->G b\/Fy b) (hd:J F Fy) (hyN:∀b,Fy b->N b) (hyY:∀b,Fy b->w0.heap.size<=b\/M b)
    (K:∀w' aB bU cx,aj P n w0 M w' aB β σ a w'->(∀b,N b->¬F b->aB b/\w'.heap[b]? =u.heap[b]?)->
      ad w0 M w' aB bU (xs.set k y) (p.1,cx)->(∀G:au,J G F->J G Fy->(∀b,G b->N b)->J G bU)->(∀b,bU b->F b\/Fy b)->(∀b,N b->aB b)->dh a w')
    (hop:pR ops i σ=some (t,bh p.1.b off,v):=by kernel_rfl) (hoff:off=p.1.off+k*GT.width α+j:=by kernel_rfl) (hk:k<xs.length:=by omega) (hs:jn P t=some v.cells.toList.length:=by kernel_rfl) (hpl:v.cells.toList.all (·.oneCell')=true:=by kernel_rfl) (hjw:Nat.ble (j+v.cells.toList.length) (GT.width α)=true:=by kernel_rfl)
    (hc:GT.cells y q=(GT.cells (el xs k) (p.2 k)).take j++v.cells.toList++(GT.cells (el xs k) (p.2 k)).drop (j+v.cells.toList.length):=by kernel_rfl):wpOp P ops Q i dh a w:=
  S.Gl hx hop hoff hk hs hpl (Nat.le_of_ble_eq_true hjw) hc hy hd hyN hyY K
theorem aj.zi {α:Type} [GT α] {xs:List α} {p:aD α} {F:au} (S:aj P n w0 M u N β σ a w) (hx:ad w0 M u N F xs p) {i k j off:Nat} {t:TypeId} {v:Value} {y:α} {q:GT.Ptr α}
    (hy:∀G,GT.own b6 G u (el xs k) (p.2 k)->(∀b,G b->F b)->∃gO,GT.own b6 gO u y q/\∀b,gO b->G b\/ab b)
    (K:∀w' aB bU cx,aj P n w0 M w' aB β σ a w'->(∀b,N b->¬F b->aB b/\w'.heap[b]? =u.heap[b]?)->
      ad w0 M w' aB bU (xs.set k y) (p.1,cx)->(∀G:au,J G F->J G ab->(∀b,G b->N b)->J G bU)->(∀b,bU b->F b\/ab b)->(∀b,N b->aB b)->dh a w')
    (hop:pR ops i σ=some (t,bh p.1.b off,v):=by kernel_rfl) (hoff:off=p.1.off+k*GT.width α+j:=by kernel_rfl) (hk:k<xs.length:=by omega) (hs:jn P t=some v.cells.toList.length:=by kernel_rfl) (hpl:v.cells.toList.all (·.oneCell')=true:=by kernel_rfl) (hjw:Nat.ble (j+v.cells.toList.length) (GT.width α)=true:=by kernel_rfl)
    (hc:GT.cells y q=(GT.cells (el xs k) (p.2 k)).take j++v.cells.toList++(GT.cells (el xs k) (p.2 k)).drop (j+v.cells.toList.length):=by kernel_rfl):wpOp P ops Q i dh a w:=
  S.Gl hx hop hoff hk hs hpl (Nat.le_of_ble_eq_true hjw) hc hy (fun _ _ h=>False.elim h) (fun _ h=>False.elim h) (fun _ h=>False.elim h) K
theorem aj.kU {α:Type} [GT α] {xs:List α} {p:aD α} {F Fy:au} (S:aj P n w0 M u N β σ a w) (hx:ad w0 M u N F xs p) {i k off:Nat} {t:TypeId} {y:α} {q:GT.Ptr α} (hy:ad w0 M u N Fy y q) (hd:J F Fy)
    (K:∀w' aB bU cx,aj P n w0 M w' aB β σ a w'->(∀b,N b->¬F b->aB b/\w'.heap[b]? =u.heap[b]?)->
      ad w0 M w' aB bU (xs.set k y) (p.1,cx)->(∀G:au,J G F->J G Fy->(∀b,G b->N b)->J G bU)->(∀b,bU b->F b\/Fy b)->(∀b,N b->aB b)->dh a w')
    (hop:pR ops i σ=some (t,bh p.1.b off,GT.val y q):=by kernel_rfl) (hoff:off=p.1.off+k*GT.width α+0:=by kernel_rfl) (hk:k<xs.length:=by omega) (hs:jn P t=some (GT.val y q).cells.toList.length:=by kernel_rfl) (hpl:(GT.val y q).cells.toList.all (·.oneCell')=true:=by kernel_rfl) (hjw:Nat.ble (0+(GT.val y q).cells.toList.length) (GT.width α)=true:=by kernel_rfl)
    (hc:GT.cells y q=(GT.cells (el xs k) (p.2 k)).take 0++(GT.val y q).cells.toList++(GT.cells (el xs k) (p.2 k)).drop (0+(GT.val y q).cells.toList.length):=by kernel_rfl):wpOp P ops Q i dh a w:=
  S.Gl hx hop hoff hk hs hpl (Nat.le_of_ble_eq_true hjw) hc (fun _ _ _=>⟨Fy,hy.own,fun _ h=> .inr h⟩) hd hy.sub hy.dM K
end
end Go.Proofs.YtjlocpdfcanlhaaGreat
namespace Go.Proofs.YtjlocpdfcanlhaaGreat
open Go
section
variable {P:Program} {n:Nat} {w0:World} {M:au} {u:World} {N:au} {β:Nat->Nat} {σ σ':b3} {a:Act} {w:World} {ops:Array Oper} {Q:Exit->Act->World->Prop} {dh:Act->World->Prop}
def rowOf (s:Nat):Nat->List (Nat×Value)->Option (List Value)
  |_,[]=>some []
  |k,(i,v)::r=>bif Nat.beq i k&&Nat.beq v.cells.toList.length s then(rowOf s (k+1) r).map fun l=>v.cells.toList++l else none
theorem Rr (off:Nat):∀(l:List Value) (j:Nat) (pre x w1:List Value),pre.length=off+j->x.length=l.length->
    (l.zipIdx j).foldl (fun(cs:Array Value) (c:Value×Nat)=>cs.setIfInBounds (off+c.2) c.1) (pre++x++w1).toArray=(pre++l++w1).toArray
  |
    [],j,pre,x,w1,h1,an=>by
    have:x=[]:=List.length_eq_zero_iff.1 (by simpa using an)
    subst this;simp
  |v::l,j,pre,x,w1,h1,an=>by
    match x,an with
    |y::h2,an=>
      simp only [List.zipIdx_cons,List.foldl_cons]
      have e:((pre++y::h2++w1).toArray.setIfInBounds (off+j) v)=((pre++[v])++h2++w1).toArray:=by
        simp only [List.setIfInBounds_toArray]
        congr 1
        rw [List.append_assoc,List.set_append_right _ _ (by omega),h1]
        simp
      rw [e,Rr off l (j+1) (pre++[v]) h2 w1 (by simp;omega) (by simpa using an)]
      simp
theorem Re (s:Nat):∀(l:List (Nat×Value)) (k:Nat) (row pre rest:List Value),rowOf s k l=some row->pre.length=k*s->rest.length=l.length*s->
    Instr.fill (fun i=>some (i*s,s)) (pre++rest).toArray l=some (pre++row).toArray
  |
    [],k,row,pre,rest,h,h1,an=>by
    simp only [rowOf,Option.some.injEq] at h
    subst h
    have:rest=[]:=List.length_eq_zero_iff.1 (by simpa using an)
    subst this
    simp [Instr.fill]
  |(i,v)::r,k,row,pre,rest,h,h1,an=>by
    simp only [rowOf] at h
    cases hb:(Nat.beq i k&&Nat.beq v.cells.toList.length s) with
    |false=>rw [hb] at h;cases h
    |true=>
      rw [hb] at h
      simp only [Bool.and_eq_true] at hb
      have cu:i=k:=Nat.eq_of_beq_eq_true hb.1
      have cB:v.cells.toList.length=s:=Nat.eq_of_beq_eq_true hb.2
      subst cu
      simp only [cond_true] at h
      cases bp:rowOf s (i+1) r with
      |none=>rw [bp] at h;cases h
      |some za=>
        rw [bp] at h
        simp only [Option.map_some,Option.some.injEq] at h
        subst h
        have hlen:rest.length=s+r.length*s:=by rw [an,List.length_cons,Nat.add_mul,Nat.one_mul,Nat.add_comm]
        have hs:v.cells.size=s:=by simpa using cB
        unfold Instr.fill
        have c:(v.cells.size≠s||decide (i*s+v.cells.size>(pre++rest).toArray.size))=false:=by
          simp [hs,h1,hlen]
        simp only [c,Bool.false_eq_true,if_false]
        have bc:v.cells.zipIdx.foldl (fun(cs:Array Value) (x:Value×Nat)=>cs.setIfInBounds (i*s+x.2) x.1) (pre++rest).toArray=(pre++v.cells.toList++rest.drop s).toArray:=by
          rw [←Array.foldl_toList,Array.toList_zipIdx]
          have:=Rr (i*s) v.cells.toList 0 pre (rest.take s) (rest.drop s) (by omega) (by simp;omega)
          simpa using this
        have:=Re s r (i+1) za (pre++v.cells.toList) (rest.drop s) bp (by simp [Nat.add_mul,h1] at cB ⊢;omega) (by simp;omega)
        have fo:(fun(cs:Array Value) (x:Value×Nat)=>match x with|(c,j)=>cs.setIfInBounds (i*s+j) c)=fun cs x=>cs.setIfInBounds (i*s+x.2) x.1:=by
          funext cs x;rfl
        rw [fo,bc,this]
        simp
def xy (P:Program) (n:Nat) (ops:Array Oper) (i:Nat) (σ:b3):Option (List Value×Nat×Tmp):=
  match ops.toList[i]? with
  |some o=>
    match oy ops σ o,o.op,o.dst with
    |some true,.buildSlice t len parts,some d=>
      match P.underlying t with
      |some (.slice e)=>
        match P.info? e with
        |some info=>
          match info.zero,tz σ parts.toList with
          |some z,some l=>bif Nat.blt d n&&Nat.beq z.cells.toList.length info.size&&Nat.beq l.length len&&Nat.ble (len*info.size) 16777216&&Nat.blt 0 info.size then(rowOf info.size 0 l).map fun r=>(r,len,d) else none
          |_,_=>none
        |none=>none
      |_=>none
    |_,_,_=>none
  |none=>none
theorem aj.pc (S:aj P n w0 M u N β σ a w) {i:Nat} {row:List Value} {m:Nat} {d:Tmp} (hop:xy P n ops i σ=some (row,m,d))
    (K:∀a1 w' T,aj P n w0 M w' (Or N (k0 w.heap.size w'.heap.size)) β ⟨(d,.v (R m ⟨false,w.heap.size,0,m,none⟩))::σ.env,σ.aM⟩ a1 w'->(∀b,N b->Or N (k0 w.heap.size w'.heap.size) b/\w'.heap[b]? =u.heap[b]?)->
      w'.heap[w.heap.size]? =some (.cells row.toArray T (0,0))->w'.heap.size=w.heap.size+1->dh a1 w'):wpOp P ops Q i dh a w:=by
  unfold xy at hop
  split at hop
  · rename_i o bN
    have kI:ops[i]? =some o:=by simpa using bN
    split at hop
    · rename_i t len parts pf aJ v_ hd
      split at hop
      · rename_i e hu
        split at hop
        · rename_i info yx
          split at hop
          · rename_i z l ej hl
            cases nY:(Nat.blt pf n&&Nat.beq z.cells.toList.length info.size&&Nat.beq l.length len&&Nat.ble (len*info.size) 16777216&&Nat.blt 0 info.size) with
            |false=>rw [nY] at hop;cases hop
            |true=>
              rw [nY] at hop
              simp only [cond_true] at hop
              simp only [Bool.and_eq_true] at nY
              obtain⟨⟨⟨⟨hP,m2⟩,p0⟩,pb⟩,dQ⟩:=nY
              have cB:z.cells.toList.length=info.size:=Nat.eq_of_beq_eq_true m2
              have fo:l.length=len:=Nat.eq_of_beq_eq_true p0
              have p8:len*info.size<=16777216:=Nat.le_of_ble_eq_true pb
              have xT:0<info.size:=Nat.le_of_ble_eq_true dQ
              cases bp:rowOf info.size 0 l with
              |none=>rw [bp] at hop;cases hop
              |some za=>
                rw [bp] at hop
                simp only [Option.map_some,Option.some.injEq,Prod.mk.injEq] at hop
                obtain⟨rfl,rfl,rfl⟩:=hop
                refine xo.step kI (mw S aJ) ?_
                have afi:(parts.map fun(i,x)=>(i,a.eval x))=l.toArray:=by
                  rw [←Array.toList_inj]
                  simpa using I3 S _ _ hl
                have hzero:(zeroValue e).run P w= .ok z w:=by simp [zeroValue,typeInfo,yx,ej]
                have SJ:∀Dv:Array Value,Dv.size=len*info.size->Instr.fill (fun i=>some (i*info.size,info.size)) Dv l=some za.toArray:=fun Dv hc=>by
                  have:=Re info.size l 0 za [] Dv.toList bp (by simp) (by rw [fo];simpa using hc)
                  simpa using this
                have hex:(execOp a.eval o).run P w= .ok (.value (.slice (some ⟨w.heap.size,0,none⟩) len len)) {w with heap:=w.heap.push (.cells za.toArray e)}:=by
                  unfold execOp
                  simp only [v_]
                  show(do pure (.value (←Instr.buildSlice t len (parts.map fun(i,x)=>(i,a.eval x)))):Sem Next).run P w=_
                  rw [afi]
                  unfold Instr.buildSlice
                  have cY:¬(len*info.size>2 ^ 24):=by omega
                  simp only [Sem.run_bind,run_underlying hu,Result.andThen_ok,sizeOf,typeInfo,run_program,yx,Sem.run_pure]
                  simp only [cY,if_false]
                  by_cases h0:len*info.size=0
                  · simp only [h0,if_true,Sem.run_bind,Sem.run_pure,Result.andThen_ok]
                    rw [SJ _ (by simp [h0])]
                    simp [newRow]
                  · simp only [h0,if_false,Sem.run_bind,hzero,Sem.run_pure,Result.andThen_ok]
                    rw [SJ _ (by simp)]
                    simp [newRow]
                unfold Oper.wp
                rw [hex]
                simp only [Oper.upon,hd]
                have fp:bB ab w {w with heap:=w.heap.push (.cells za.toArray e)}:=bB.push ab w _
                exact K _ _ e (S.after hP fp) (S.up fp) (by simp) (by simp)
          · cases hop
        · cases hop
      · cases hop
    · cases hop
  · cases hop
theorem aj.fH {α:Type} [GT α] (S:aj P n w0 M u N β σ a w) {i:Nat} {d:Tmp} (hop:xy P n ops i σ=some ([],0,d))
    (K:∀a1 w' aB q F,aj P n w0 M w' aB β ⟨(d,.v (R 0 q.1))::σ.env,σ.aM⟩ a1 w'->(∀b,N b->aB b/\w'.heap[b]? =u.heap[b]?)->
      ad w0 M w' aB F ([]:List α) q->J N F->dh a1 w'):wpOp P ops Q i dh a w:=by
  refine S.pc hop fun a1 w' T dV up mA hH=>K a1 w' _ (⟨false,w.heap.size,0,0,none⟩,fun _=>GT.cZ) (k0 w.heap.size w'.heap.size) dV up ⟨?_,fun _ h=> .inr h,fun _ h=> .inl (Nat.le_trans S.fu.size h.1)⟩ (J.fresh S w' fun _ h=>h)
  exact⟨Nat.zero_le _,Nat.zero_le _,Nat.zero_le _,fun h=>(by cases h),fun _=>⟨⟨Nat.le_refl _,(by show w.heap.size<w'.heap.size;omega)⟩,_,T,mA,by simp⟩,fun i hi=>absurd hi (Nat.not_lt_zero _),fun _=>ab,fun i hi=>absurd hi (Nat.not_lt_zero _),fun i hi=>absurd hi (Nat.not_lt_zero _),fun i _ hi=>absurd hi (Nat.not_lt_zero _)⟩
theorem aj.p2 {α:Type} [GT α] {x:α} {p:GT.Ptr α} {F:au} (S:aj P n w0 M u N β σ a w) (hx:GT.own b6 F u x p) (hN:∀b,F b->N b) (hY:∀b,F b->w0.heap.size<=b\/M b) {i:Nat} {d:Tmp} (hop:xy P n ops i σ=some (GT.cells x p,1,d))
    (K:∀a1 w' aB q bU,aj P n w0 M w' aB β ⟨(d,.v (R 1 q.1))::σ.env,σ.aM⟩ a1 w'->(∀b,N b->aB b/\w'.heap[b]? =u.heap[b]?)->
      ad w0 M w' aB bU [x] q->(∀G:au,J G F->(∀b,G b->N b)->J G bU)->dh a1 w'):wpOp P ops Q i dh a w:=by
  refine S.pc hop fun a1 w' T dV up mA hH=>K a1 w' _ (⟨false,w.heap.size,0,1,none⟩,fun _=>p) (Or F (k0 w.heap.size w'.heap.size)) dV up ⟨?_,fun b h=>h.elim (fun h=> .inl (hN b h)) .inr,fun b h=>h.elim (hY b) (fun h=> .inl (Nat.le_trans S.fu.size h.1))⟩
    (fun G cn a8 b hb h=>h.elim (cn b hb) (J.fresh S w' (fun _ h=>h) b (a8 b hb)))
  have eW:∀b,F b->b<w.heap.size:=fun b hb=>(S.sep b (hN b hb)).1
  refine⟨(show 1<=b6 by decide),Nat.le_refl _,(show 1<=9223372036854775807 by decide),fun h=>(by cases h),fun _=>⟨.inr ⟨Nat.le_refl _,(by show w.heap.size<w'.heap.size;omega)⟩,_,T,mA,by simp [GT.len]⟩,fun i hi=>?_,fun _=>F,fun i hi=>?_,fun i hi b hb=>⟨.inl hb,fun e=>by have:=eW b hb;simp only [] at e;omega⟩,fun i j hi bZ kH=>?_⟩
  · simp at hi;subst hi
    intro j v bZ
    have Bc:(GT.cells x p)[j]? =some v:=bZ
    simp only [World.cell?,mA,Option.isSome_none,Bool.false_eq_true,if_false]
    simpa using Bc
  · simp at hi;subst hi
    exact GT.b8 hx fun b hb _=>(up b (hN b hb)).2
  · simp at hi bZ;omega
theorem RE (m:Nat):∀(r c:Nat),Builtin.growBy m r c<=2*m+400\/Builtin.growBy m r c<=c
  |
    0,c=> .inr (by simp [Builtin.growBy])
  |r+1,c=>by
    unfold Builtin.growBy
    split
    · exact .inr (Nat.le_refl _)
    · rename_i h
      rcases RE m r (c+(c+768) / 4) with cl|cl
      · exact .inl cl
      · exact .inl (by omega)
theorem ahz (need cap:Nat) (h:cap<need):Builtin.nextslicecap need cap<=2*need+400:=by
  unfold Builtin.nextslicecap
  split
  · omega
  · split
    · omega
    · rcases RE need 4 cap with cl|cl<;>omega
def rT (P:Program) (n:Nat) (ops:Array Oper) (i:Nat) (σ:b3):Option (Value×Value×Nat×Nat×Tmp):=
  match ops.toList[i]? with
  |some o=>
    match oy ops σ o,o.op,o.dst with
    |some true,.call ⟨.builtin .append,args,k2⟩,some d=>
      match args.toList,k2.toList with
      |[x,y],[t1,t2]=>
        match P.underlying t1,P.underlying t2,σ.get x,σ.get y with
        |some (.slice e),some (.slice _),some (.v s),some (.v r)=>
          match P.info? e with
          |some info=>
            match info.zero with
            |some z=>bif Nat.blt d n&&Nat.beq z.cells.toList.length info.size&&Nat.ble info.bytes 4096&&Nat.blt 0 info.bytes then some (s,r,info.size,info.bytes,d) else none
            |none=>none
          |none=>none
        |_,_,_,_=>none
      |_,_=>none
    |_,_,_=>none
  |none=>none
def gi {α:Type} [GT α] (xs:List α) (p:Nat->GT.Ptr α) (m:Nat):List Value:=(List.range m).flatMap fun i=>GT.cells (el xs i) (p i)
theorem tr {α:Type} [GT α] (xs:List α) (p:Nat->GT.Ptr α) (m:Nat):(gi xs p m).length=m*GT.width α:=by
  unfold gi
  induction m with
  |zero=>simp
  |succ m gj=>rw [List.range_succ,List.flatMap_append,List.length_append,gj];simp [GT.len,Nat.add_mul]
theorem D_ {α:Type} [GT α] (xs:List α) (p:Nat->GT.Ptr α) (m:Nat):∀(i j:Nat),i<m->j<GT.width α->(gi xs p m)[i*GT.width α+j]? =(GT.cells (el xs i) (p i))[j]? :=by
  induction m with
  |zero=>intro i j h;omega
  |succ m gj=>
    intro i j hi bZ
    have hs:gi xs p (m+1)=gi xs p m++GT.cells (el xs m) (p m):=by
      unfold gi;rw [List.range_succ,List.flatMap_append];simp
    rw [hs]
    have hl:=tr xs p m
    by_cases h:i<m
    · have:=Nat.mul_le_mul_right (GT.width α) (show i+1<=m from h)
      rw [Nat.add_mul,Nat.one_mul] at this
      rw [List.getElem?_append_left (by omega)]
      exact gj i j h bZ
    · have:i=m:=by omega
      subst this
      rw [List.getElem?_append_right (by omega),hl]
      congr 1
      omega
theorem abY {α:Type} [GT α] (xs:List α) (p:Nat->GT.Ptr α) (m:Nat):∀v∈gi xs p m,v.oneCell'=true:=by
  intro v b2
  unfold gi at b2
  rw [List.mem_flatMap] at b2
  obtain⟨i,_,h⟩:=b2
  exact GT.plain _ _ v h
theorem Gh {α:Type} [GT α] {xs:List α} {p:aD α} {w:World} (hc:∀i,i<xs.length->kW w p.1.b (p.1.off+i*GT.width α) (GT.cells (el xs i) (p.2 i))) (cY:p.1.nil=true->xs.length=0) (s:Nat) (hs:s=GT.width α):
    (Builtin.firstCells s xs.length (R xs.length p.1)).run P w= .ok (gi xs p.2 xs.length).toArray w:=by
  subst hs
  unfold R mh.addr
  cases h:p.1.nil with
  |true=>
    have:=cY h
    simp only [cond_true,Builtin.firstCells,this]
    cases p.1.rR<;>simp [gi,loadCells,loadCellsFrom]
  |false=>
    simp only [cond_false,Builtin.firstCells]
    have:=run_loadCells_list (P:=P) w ⟨p.1.b,p.1.off,none⟩ (gi xs p.2 xs.length) (fun k v hk=>by
      have pz:k<xs.length*GT.width α:=by
        have:=(List.getElem?_eq_some_iff.1 hk).1
        rwa [tr] at this
      have aeC:=Nat.div_add_mod k (GT.width α)
      have S1:=Nat.mod_lt k (GT.jS (α:=α))
      have aQ:k / GT.width α<xs.length:=by
        rw [Nat.div_lt_iff_lt_mul GT.jS];exact pz
      have e:k=k / GT.width α*GT.width α+k % GT.width α:=by rw [Nat.mul_comm];exact aeC.symm
      rw [e,D_ xs p.2 xs.length _ _ aQ S1] at hk
      have:=hc _ aQ _ _ hk
      rw [Addr.add_mid]
      rwa [Nat.add_assoc,←e] at this)
    rw [tr] at this
    exact this
theorem ajz {α:Type} [GT α] {xs bl:List α} {p q:aD α} {t1 t2 e cB ty:TypeId} {info:TypeInfo} {z:Value} {w:World} {cs:Array Value} {T:TypeId}
    (h1
        :P.underlying t1=some (.slice e)) (an:P.underlying t2=some (.slice cB)) (hi:P.info? e=some info) (ej:info.zero=some z) (yM:z.cells.toList.length=info.size) (hH:info.size=GT.width α) (aez:info.bytes<=4096) (aoJ:0<info.bytes)
    (hx:∀i,i<xs.length->kW w p.1.b (p.1.off+i*GT.width α) (GT.cells (el xs i) (p.2 i))) (Tl:p.1.nil=true->p.1.cap=0) (Km:xs.length<=p.1.cap)
    (mA:p.1.nil=false->w.heap[p.1.b]? =some (.cells cs T (0,0))/\p.1.off+p.1.cap*GT.width α<=cs.size)
    (hy:∀i,i<bl.length->kW w q.1.b (q.1.off+i*GT.width α) (GT.cells (el bl i) (q.2 i))) (ES:q.1.nil=true->bl.length=0) (hl:xs.length+bl.length<=b6):
    (p.1.nil=false/\xs.length+bl.length<=p.1.cap/\(Builtin.append_ #[t1,t2] ty #[R xs.length p.1,R bl.length q.1]).run P w= .ok (R (xs.length+bl.length) p.1)
        (w.setRow p.1.b (cs.toList.take (p.1.off+xs.length*GT.width α)++gi bl q.2 bl.length++cs.toList.drop (p.1.off+xs.length*GT.width α+bl.length*GT.width α)).toArray))\/
    (xs.length+bl.length=0/\p.1.nil=true/\(Builtin.append_ #[t1,t2] ty #[R xs.length p.1,R bl.length q.1]).run P w= .ok (R (xs.length+bl.length) p.1) w)\/
    ∃(cap:Nat) (dL:Nat) (kp:List Value),xs.length+bl.length<=cap/\cap<=9223372036854775807/\kp.length=(cap-(xs.length+bl.length))*GT.width α/\(Builtin.append_ #[t1,t2] ty #[R xs.length p.1,R bl.length q.1]).run P w=
      .ok (R (xs.length+bl.length) ⟨false,w.heap.size,0,cap,none⟩) {w with heap:=w.heap.push (.cells (gi xs p.2 xs.length++gi bl q.2 bl.length++kp).toArray e),drawn:=dL}:=by
  have Tm:p.1.nil=true->xs.length=0:=fun h=>by have:=Tl h;omega
  have ach:=Gh (P:=P) hx Tm info.size hH
  have vd:=Gh (P:=P) hy ES info.size hH
  rw [hH] at ach vd
  have apa:∀k,TypeDesc.slice cB≠ .int k:=fun k h=>by cases h
  have ao8:(match (TypeDesc.slice cB:TypeDesc) with| .int _=>true|_=>false)=false:=rfl
  unfold b6 at hl
  by_cases v3:xs.length+bl.length<=p.1.cap
  · cases so:p.1.nil with
    |
      true=>
      have aoK:=Tl so
      right;left
      refine⟨by omega,rfl,?_⟩
      have Al:p.1.addr=p.1.rR:=by unfold mh.addr;rw [so];rfl
      have iy:bl.length=0:=by omega
      rw [iy] at vd
      simp only [gi,List.range_zero,List.flatMap_nil] at vd
      rw [iy]
      have cu:xs.length+0<=p.1.cap:=by omega
      simp only [R,Al] at vd ⊢
      cases aoH:p.1.rR<;>simp only [Builtin.append_,List.getElem?_toArray,List.getElem?_cons_zero,List.getElem?_cons_succ,Sem.run_bind,run_underlying h1,run_underlying an,Result.andThen_ok,sizeOf,typeInfo,run_program,hi,Sem.run_pure,Bool.false_eq_true,if_false,Builtin.lenOf,cu,if_true,Bool.not_false,hH,vd]
      rfl
    |false=>
      left
      obtain⟨bp,apg⟩:=mA so
      refine⟨rfl,v3,?_⟩
      have Al:p.1.addr=some ⟨p.1.b,p.1.off,none⟩:=by unfold mh.addr;rw [so];rfl
      have hmul:(xs.length+bl.length)*GT.width α<=p.1.cap*GT.width α:=Nat.mul_le_mul_right _ v3
      rw [Nat.add_mul] at hmul
      have nd:=run_storeCells_at (P:=P) p.1.b (p.1.off+xs.length*GT.width α) T (gi bl q.2 bl.length) 0 cs w bp (by rw [tr];simp only [Nat.add_zero];omega) (abY _ _ _)
      simp only [Nat.add_zero] at nd
      simp only [R,Al] at vd ⊢
      simp only [Builtin.append_,List.getElem?_toArray,List.getElem?_cons_zero,List.getElem?_cons_succ,Sem.run_bind,run_underlying h1,run_underlying an,Result.andThen_ok,sizeOf,typeInfo,run_program,hi,Sem.run_pure,Bool.false_eq_true,if_false,Builtin.lenOf,v3,if_true,Bool.not_false,vd,Addr.add_mid,hH]
      rw [nd,tr]
      rfl
  · right;right
    have ao9:=ahz (xs.length+bl.length) p.1.cap (by omega)
    have hb:Builtin.nextslicecap (xs.length+bl.length) p.1.cap*info.bytes<=(2*4194304+400)*4096:=Nat.mul_le_mul (by omega) aez
    have cn:¬(((xs.length+bl.length:Nat):Int)>IntKind.i64.max/\(False\/info.bytes=0)):=fun h=>by
      rcases h.2 with h|h
      · exact h
      · omega
    have a8:¬(Builtin.nextslicecap (xs.length+bl.length) p.1.cap*info.bytes>2 ^ 48):=by omega
    have a9:(Question.appendCap (xs.length+bl.length) p.1.cap e).forced=false:=rfl
    let cap:=(Question.appendCap (xs.length+bl.length) p.1.cap e).cut (w.tape w.drawn (.appendCap (xs.length+bl.length) p.1.cap e))
    have vZ:cap=(xs.length+bl.length)+w.tape w.drawn (.appendCap (xs.length+bl.length) p.1.cap e) % (2 ^ 63-(xs.length+bl.length)):=rfl
    have S1:w.tape w.drawn (.appendCap (xs.length+bl.length) p.1.cap e) % (2 ^ 63-(xs.length+bl.length))<2 ^ 63-(xs.length+bl.length):=Nat.mod_lt _ (by omega)
    have hzero:(zeroValue e).run P {w with drawn:=w.drawn+1}= .ok z {w with drawn:=w.drawn+1}:=by simp [zeroValue,typeInfo,hi,ej]
    have IN:=Gh (P:=P) (w:={w with drawn:=w.drawn+1}) (xs:=xs) (p:=p) hx Tm info.size hH
    have IP:=Gh (P:=P) (w:={w with drawn:=w.drawn+1}) (xs:=bl) (p:=q) hy ES info.size hH
    rw [hH] at IN IP
    have Kg:∀(k:Nat) (w:World),(askRoom k).run P w= .ok () w:=fun k w=>by unfold askRoom;split<;>rfl
    refine⟨cap,w.drawn+1,(Builtin.zeroCells z.cells (cap-(xs.length+bl.length))).toList,by omega,by omega,?_,?_⟩
    · unfold Builtin.zeroCells
      have:z.cells.size=GT.width α:=by rw [←hH,←yM];simp
      simp [this]
    · have fp:(choose (.appendCap (xs.length+bl.length) p.1.cap e)).run P w= .ok cap {w with drawn:=w.drawn+1}:=rfl
      simp only [R] at IN IP ⊢
      simp only [Builtin.append_,List.getElem?_toArray,List.getElem?_cons_zero,List.getElem?_cons_succ,Sem.run_bind,run_underlying h1,run_underlying an,Result.andThen_ok,sizeOf,typeInfo,run_program,hi,Sem.run_pure,Bool.false_eq_true,if_false,Builtin.lenOf,v3,Bool.not_false,if_true,cn,a8,fp,Kg,hH,IN,IP,hzero,newRow,run_newObj]
      have abj:(gi xs p.2 xs.length).toArray++(gi bl q.2 bl.length).toArray++Builtin.zeroCells z.cells (cap-(xs.length+bl.length))=(gi xs p.2 xs.length++gi bl q.2 bl.length++(Builtin.zeroCells z.cells (cap-(xs.length+bl.length))).toList).toArray:=by
        apply Array.ext'
        simp
      rw [abj]
      rfl
theorem aj.append {α:Type} [GT α] {xs bl:List α} {p q:aD α} {F Fy:au} (S:aj P n w0 M u N β σ a w) (hx:ad w0 M u N F xs p) (hyr:s8 u N bl q)
    (Br:∃G:Nat->au,(∀i,i<bl.length->GT.own b6 (G i) u (el bl i) (q.2 i))/\(∀i,i<bl.length->∀b,G i b->Fy b)/\(∀i j,i<bl.length->j<bl.length->i≠j->J (G i) (G j)))
    (hd:J F Fy) (hyN:∀b,Fy b->N b) (hyY:∀b,Fy b->w0.heap.size<=b\/M b) {i:Nat} {by':Nat} {d:Tmp} (hop:rT P n ops i σ=some (R xs.length p.1,R bl.length q.1,GT.width α,by',d)) (hl:xs.length+bl.length<=b6)
    (K:∀a1 w' aB r bU,aj P n w0 M w' aB β ⟨(d,.v (R (xs.length+bl.length) r.1))::σ.env,σ.aM⟩ a1 w'->(∀b,N b->¬F b->aB b/\w'.heap[b]? =u.heap[b]?)->
      ad w0 M w' aB bU (xs++bl) r->(∀G:au,J G F->J G Fy->(∀b,G b->N b)->J G bU)->((∀b,N b->aB b)/\(∀i,i<xs.length->r.2 i=p.2 i)/\(r.1=p.1\/∀b,N b->w'.heap[b]? =u.heap[b]?))->dh a1 w'):wpOp P ops Q i dh a w:=by
  unfold rT at hop
  split at hop
  · rename_i o bN
    have kI:ops[i]? =some o:=by simpa using bN
    split at hop
    · rename_i args k2 pf aJ v_ aeE
      split at hop
      · rename_i x y t1 t2 ay bx
        split at hop
        · rename_i e cB s r afw oJ afu afv
          split at hop
          · rename_i info yx
            split at hop
            · rename_i z ej
              cases nY:(Nat.blt pf n&&Nat.beq z.cells.toList.length info.size&&Nat.ble info.bytes 4096&&Nat.blt 0 info.bytes) with
              |false=>rw [nY] at hop;cases hop
              |true=>
                rw [nY] at hop
                simp only [cond_true,Option.some.injEq,Prod.mk.injEq] at hop
                obtain⟨rfl,rfl,hH,_,rfl⟩:=hop
                simp only [Bool.and_eq_true] at nY
                obtain⟨⟨⟨hP,m2⟩,p0⟩,pb⟩:=nY
                have cu:args=#[x,y]:=by rw [←Array.toList_inj];exact ay
                have abd:k2=#[t1,t2]:=by rw [←Array.toList_inj];exact bx
                subst cu abd
                have oH:g4 b6 F u xs p:=hx.own
                have Kq:ae b6 N u bl q:=hyr
                obtain⟨G,cn,a8,b7⟩:=oH.el
                obtain⟨OD,ac5,vh,ac6⟩:=Br
                have Bn:∀b,N b->w.heap[b]? =u.heap[b]? :=fun b hb=>(S.sep b hb).2.1
                have Km:∀i,i<xs.length->kW w p.1.b (p.1.off+i*GT.width α) (GT.cells (el xs i) (p.2 i)):=fun i hi=>by
                  have qj:=oH.BK (by have:=oH.cap;omega)
                  exact(oH.cell i hi).uQ (Bn _ (hx.sub _ (oH.row qj).1))
                have afC:∀i,i<bl.length->kW w q.1.b (q.1.off+i*GT.width α) (GT.cells (el bl i) (q.2 i)):=fun i hi=>
                  (Kq.cell i hi).uQ (Bn _ (Kq.at_ (by omega)).2)
                have ES:q.1.nil=true->bl.length=0:=fun h=>by
                  rcases Nat.eq_zero_or_pos bl.length with h0|h0
                  · exact h0
                  · have:=(Kq.at_ h0).1;rw [h] at this;cases this
                obtain⟨cs,T,Sy⟩:∃(cs:Array Value) (T:TypeId),p.1.nil=false->w.heap[p.1.b]? =some (.cells cs T (0,0))/\p.1.off+p.1.cap*GT.width α<=cs.size:=by
                  cases cY:p.1.nil with
                  |true=>exact⟨#[],0,fun h=>by cases h⟩
                  |false=>
                    obtain⟨eT,cs,T,h1,an⟩:=oH.row cY
                    exact⟨cs,T,fun _=>⟨(Bn _ (hx.sub _ eT)).trans h1,an⟩⟩
                have oI:=ajz (P:=P) (ty:=o.type) afw oJ yx ej (Nat.eq_of_beq_eq_true m2) hH (Nat.le_of_ble_eq_true p0) (Nat.le_of_ble_eq_true pb) Km oH.null oH.cap Sy afC ES hl
                have step:∀(v:Value) (w':World),(Builtin.append_ #[t1,t2] o.type #[R xs.length p.1,R bl.length q.1]).run P w= .ok v w'->dh (a.put (some pf) v) w'->wpOp P ops Q i dh a w:=fun v w' bp hk=>by
                  refine xo.step kI (mw S aJ) ?_
                  have hex:(execOp a.eval o).run P w= .ok (.value v) w':=by
                    unfold execOp
                    simp only [v_]
                    simp only [resolve,List.map_toArray,List.map_cons,List.map_nil,S.get afu,S.get afv]
                    show(do let v ←Builtin.append_ #[t1,t2] o.type #[R xs.length p.1,R bl.length q.1];pure (Next.value v):Sem Next).run P w=_
                    rw [Sem.run_bind,bp]
                    rfl
                  unfold Oper.wp
                  rw [hex]
                  simp only [Oper.upon,aeE]
                  exact hk
                have Iz:∀i,el (xs++bl) i=if i<xs.length then el xs i else el bl (i-xs.length):=fun i=>by
                  unfold el
                  simp only [List.getD_eq_getElem?_getD,List.getElem?_append]
                  split<;>rfl
                let qB:Nat->GT.Ptr α:=fun i=>if i<xs.length then p.2 i else q.2 (i-xs.length)
                have Kh:∀i,i<xs.length->qB i=p.2 i:=fun i hi=>if_pos hi
                let nF:Nat->au:=fun i=>if i<xs.length then G i else OD (i-xs.length)
                --the anv own blocks,in any world aqR leaves aqS as aqT aqX
                have SE:∀(w':World) (nI:Nat),(∀b,N b->b≠p.1.b\/¬F b->w'.heap[b]? =u.heap[b]?)->(∀i,i<xs.length->∀b,G i b->b≠nI)->(∀i,i<bl.length->∀b,OD i b->b≠nI)->
                    ∃nF:Nat->au,(∀i,i<(xs++bl).length->GT.own b6 (nF i) w' (el (xs++bl) i) (qB i))/\(∀i,i<(xs++bl).length->∀b,nF i b->Or F (Or Fy (k0 w.heap.size w'.heap.size)) b/\b≠nI)/\(∀i j,i<(xs++bl).length->j<(xs++bl).length->i≠j->J (nF i) (nF j)):=fun w' nI qn kH afc=>by
                  refine⟨nF,fun i hi=>?_,fun i hi b hb=>?_,fun i j hi bZ sl=>?_⟩
                  · rw [List.length_append] at hi
                    rw [Iz]
                    by_cases h:i<xs.length
                    · simp only [nF,qB,h,if_true]
                      exact GT.b8 (cn i h) fun b hb _=>qn b (hx.sub b (a8 i h b hb).1) (.inl (a8 i h b hb).2)
                    · simp only [nF,qB,h,if_false]
                      have hF:i-xs.length<bl.length:=by omega
                      exact GT.b8 (ac5 _ hF) fun b hb _=>qn b (hyN b (vh _ hF b hb)) (.inr fun eT=>hd b eT (vh _ hF b hb))
                  · rw [List.length_append] at hi
                    by_cases h:i<xs.length
                    · simp only [nF,h,if_true] at hb
                      exact⟨.inl (a8 i h b hb).1,kH i h b hb⟩
                    · simp only [nF,h,if_false] at hb
                      have hF:i-xs.length<bl.length:=by omega
                      exact⟨.inr (.inl (vh _ hF b hb)),afc _ hF b hb⟩
                  · rw [List.length_append] at hi bZ
                    intro b hb eU
                    by_cases h:i<xs.length<;>by_cases cl:j<xs.length
                    · simp only [nF,h,cl,if_true] at hb eU
                      exact b7 i j h cl sl b hb eU
                    · simp only [nF,h,cl,if_true,if_false] at hb eU
                      exact hd b (a8 i h b hb).1 (vh _ (by omega) b eU)
                    · simp only [nF,h,cl,if_true,if_false] at hb eU
                      exact hd b (a8 j cl b eU).1 (vh _ (by omega) b hb)
                    · simp only [nF,h,cl,if_false] at hb eU
                      exact ac6 _ _ (by omega) (by omega) (by omega) b hb eU
                have JM:∀w':World,∀b,Or F (Or Fy (k0 w.heap.size w'.heap.size)) b->Or N (k0 w.heap.size w'.heap.size) b:=fun w' b h=>by
                  rcases h with h|h|h
                  · exact .inl (hx.sub b h)
                  · exact .inl (hyN b h)
                  · exact .inr h
                have Kp:∀w':World,∀b,Or F (Or Fy (k0 w.heap.size w'.heap.size)) b->w0.heap.size<=b\/M b:=fun w' b h=>by
                  rcases h with h|h|h
                  · exact hx.dM b h
                  · exact hyY b h
                  · exact .inl (Nat.le_trans S.fu.size h.1)
                have JH:∀(w':World) (G:au),J G F->J G Fy->(∀b,G b->N b)->J G (Or F (Or Fy (k0 w.heap.size w'.heap.size))):=fun w' G d1 d2 hs b hb h=>by
                  rcases h with h|h|h
                  · exact d1 b hb h
                  · exact d2 b hb h
                  · have:=(S.sep b (hs b hb)).1
                    have:=h.1
                    omega
                have ij:∀(w':World) (aB:au) (v:Value),aj P n w0 M w' aB β σ a w'->aj P n w0 M w' aB β ⟨(pf,.v v)::σ.env,σ.aM⟩ (a.put (some pf) v) w':=fun w' aB v dV=>
                  dV.put (wq hP) (fun _ _ e=>by cases e)
                rcases oI with⟨so,v3,bp⟩|⟨h0,so,bp⟩|⟨cap,dL,kp,aeA,A8,afD,bp⟩
                · --in place
                  obtain⟨mA,afr⟩:=Sy so
                  have yr:=(oH.row so).1
                  refine step _ _ bp ?_
                  have yG:∀b,b≠p.1.b->(w.setRow p.1.b (cs.toList.take (p.1.off+xs.length*GT.width α)++gi bl q.2 bl.length++cs.toList.drop (p.1.off+xs.length*GT.width α+bl.length*GT.width α)).toArray).heap[b]? =w.heap[b]? :=fun b hb=>by
                    simp only [World.setRow,Array.getElem?_modify]
                    rw [if_neg (fun e=>hb e.symm)]
                  have ER:(w.setRow p.1.b (cs.toList.take (p.1.off+xs.length*GT.width α)++gi bl q.2 bl.length++cs.toList.drop (p.1.off+xs.length*GT.width α+bl.length*GT.width α)).toArray).heap.size=w.heap.size:=by simp [World.setRow]
                  have tF:=setRow_heap w p.1.b cs (cs.toList.take (p.1.off+xs.length*GT.width α)++gi bl q.2 bl.length++cs.toList.drop (p.1.off+xs.length*GT.width α+bl.length*GT.width α)).toArray T (0,0) mA
                  have hmul:(xs.length+bl.length)*GT.width α<=p.1.cap*GT.width α:=Nat.mul_le_mul_right _ v3
                  rw [Nat.add_mul] at hmul
                  have hlen:=tr bl q.2 bl.length
                  have oD:∀pos,(w.setRow p.1.b (cs.toList.take (p.1.off+xs.length*GT.width α)++gi bl q.2 bl.length++cs.toList.drop (p.1.off+xs.length*GT.width α+bl.length*GT.width α)).toArray).cell? ⟨p.1.b,pos,none⟩=
                      if pos<p.1.off+xs.length*GT.width α then cs[pos]? else if pos<p.1.off+xs.length*GT.width α+bl.length*GT.width α then(gi bl q.2 bl.length)[pos-(p.1.off+xs.length*GT.width α)]? else cs[pos]? :=fun pos=>by
                    simp only [World.cell?,tF,Option.isSome_none,Bool.false_eq_true,if_false]
                    have:=NS cs.toList (gi bl q.2 bl.length) (p.1.off+xs.length*GT.width α) pos (by rw [hlen];simp;omega)
                    rw [hlen] at this
                    simpa using this
                  generalize qn:w.setRow p.1.b (cs.toList.take (p.1.off+xs.length*GT.width α)++gi bl q.2 bl.length++cs.toList.drop (p.1.off+xs.length*GT.width α+bl.length*GT.width α)).toArray=w' at*
                  have fp:bB F w w':=by
                    subst qn
                    exact⟨rfl,rfl,rfl,by rw [ER];exact Nat.le_refl _,fun b _ cY=>yG b (fun e=>cY (e▸yr))⟩
                  have Bp:∀b,N b->b≠p.1.b\/¬F b->w'.heap[b]? =u.heap[b]? :=fun b hb kH=>(yG b (kH.elim id (fun h e=>h (e▸yr)))).trans (Bn b hb)
                  obtain⟨Ho,cu,cB,fo⟩:=SE w' p.1.b Bp (fun i hi b hb=>(a8 i hi b hb).2) (fun i hi b hb e=>hd _ (e▸yr) (vh i hi b hb))
                  refine K _ w' _ (p.1,qB) (Or F (Or Fy (k0 w.heap.size w'.heap.size))) (ij w' _ _ (S.qQ fp hx.sub hx.dM)) (S.bk fp) ⟨?_,JM w',Kp w'⟩ (JH w') ⟨fun _=> .inl,Kh,.inl rfl⟩
                  refine⟨by rw [List.length_append];exact hl,by rw [List.length_append];exact v3,oH.pe,oH.null,fun _=>⟨.inl yr,_,T,tF,?_⟩,fun i hi=>?_,Ho,cu,cB,fo⟩
                  · have:(cs.toList.take (p.1.off+xs.length*GT.width α)++gi bl q.2 bl.length++cs.toList.drop (p.1.off+xs.length*GT.width α+bl.length*GT.width α)).toArray.size=cs.size:=by simp [hlen];omega
                    rw [this];exact afr
                  · rw [List.length_append] at hi
                    rw [Iz]
                    intro j v b2
                    have sn:j<GT.width α:=by
                      have:=(List.getElem?_eq_some_iff.1 b2).1
                      rwa [GT.len] at this
                    rw [oD]
                    by_cases h:i<xs.length
                    · simp only [h,if_true,qB] at b2
                      have:=Nat.mul_le_mul_right (GT.width α) (show i+1<=xs.length from h)
                      rw [Nat.add_mul,Nat.one_mul] at this
                      simp only []
                      rw [if_pos (by omega)]
                      have:=Km i h j v b2
                      simpa [World.cell?,mA] using this
                    · simp only [h,if_false,qB] at b2
                      have hF:i-xs.length<bl.length:=by omega
                      have h1:=Nat.mul_le_mul_right (GT.width α) (show i-xs.length+1<=bl.length from hF)
                      rw [Nat.add_mul,Nat.one_mul] at h1
                      have an:i*GT.width α=xs.length*GT.width α+(i-xs.length)*GT.width α:=by
                        rw [←Nat.add_mul];congr 1;omega
                      simp only []
                      rw [if_neg (by omega),if_pos (by omega)]
                      have:=D_ bl q.2 bl.length (i-xs.length) j hF sn
                      rw [←b2,←this]
                      congr 1
                      omega
                · --nothing at all
                  refine step _ _ bp ?_
                  have fp:bB F w w:=bB.refl _ _
                  have ex:xs.length=0:=by omega
                  have anw:bl.length=0:=by omega
                  refine K _ w _ (p.1,qB) (Or F (Or Fy (k0 w.heap.size w.heap.size))) (ij w _ _ (S.qQ fp hx.sub hx.dM)) (S.bk fp) ⟨?_,JM w,Kp w⟩ (JH w) ⟨fun _=> .inl,Kh,.inl rfl⟩
                  have hlen:(xs++bl).length=0:=by rw [List.length_append];exact h0
                  exact⟨by rw [hlen];exact Nat.zero_le _,by rw [hlen];exact Nat.zero_le _,oH.pe,oH.null,fun h=>(by rw [so] at h;cases h),fun i hi=>(by omega),fun _=>ab,fun i hi=>(by omega),fun i hi=>(by omega),fun i j hi=>(by omega)⟩
                · --a new block
                  refine step _ _ bp ?_
                  have Sx:bB ab w {w with heap:=w.heap.push (.cells (gi xs p.2 xs.length++gi bl q.2 bl.length++kp).toArray e),drawn:=dL}:=
                    ⟨rfl,rfl,rfl,by simp,fun k hk _=>by simp [Array.getElem?_push,Nat.ne_of_lt hk]⟩
                  have tF:({w with heap:=w.heap.push (.cells (gi xs p.2 xs.length++gi bl q.2 bl.length++kp).toArray e),drawn:=dL}:World).heap[w.heap.size]? =some (.cells (gi xs p.2 xs.length++gi bl q.2 bl.length++kp).toArray e):=by simp
                  have ER:({w with heap:=w.heap.push (.cells (gi xs p.2 xs.length++gi bl q.2 bl.length++kp).toArray e),drawn:=dL}:World).heap.size=w.heap.size+1:=by simp
                  generalize qn:({w with heap:=w.heap.push (.cells (gi xs p.2 xs.length++gi bl q.2 bl.length++kp).toArray e),drawn:=dL}:World)=w' at*
                  have fp:bB F w w':=Sx.mono fun _ f=>f.elim
                  have pw:∀b,N b->w'.heap[b]? =u.heap[b]? :=fun b hb=>(Sx.block b (S.sep b hb).1 (fun f=>f)).trans (Bn b hb)
                  have Bp:∀b,N b->b≠p.1.b\/¬F b->w'.heap[b]? =u.heap[b]? :=fun b hb _=>pw b hb
                  have SY:∀b,N b->b≠w.heap.size:=fun b hb=>Nat.ne_of_lt (S.sep b hb).1
                  obtain⟨Ho,cu,cB,fo⟩:=SE w' w.heap.size Bp (fun i hi b hb=>SY b (hx.sub b (a8 i hi b hb).1)) (fun i hi b hb=>SY b (hyN b (vh i hi b hb)))
                  refine K _ w' _ (⟨false,w.heap.size,0,cap,none⟩,qB) (Or F (Or Fy (k0 w.heap.size w'.heap.size))) (ij w' _ _ (S.qQ fp hx.sub hx.dM)) (S.bk fp) ⟨?_,JM w',Kp w'⟩ (JH w') ⟨fun _=> .inl,Kh,.inr pw⟩
                  have hlx:=tr xs p.2 xs.length
                  have hly:=tr bl q.2 bl.length
                  refine⟨by rw [List.length_append];exact hl,by rw [List.length_append];exact aeA,A8,fun h=>(by cases h),fun _=>⟨.inr (.inr ⟨Nat.le_refl _,by show w.heap.size<w'.heap.size;omega⟩),_,e,tF,?_⟩,fun i hi=>?_,Ho,cu,cB,fo⟩
                  · simp only [List.size_toArray,List.length_append,hlx,hly,afD,Nat.zero_add]
                    rw [←Nat.add_mul,←Nat.add_mul]
                    exact Nat.mul_le_mul_right _ (by omega)
                  · rw [List.length_append] at hi
                    rw [Iz]
                    intro j v b2
                    have sn:j<GT.width α:=by
                      have:=(List.getElem?_eq_some_iff.1 b2).1
                      rwa [GT.len] at this
                    simp only [World.cell?,tF,Option.isSome_none,Bool.false_eq_true,if_false,Nat.zero_add,List.getElem?_toArray]
                    by_cases h:i<xs.length
                    · simp only [h,if_true,qB] at b2
                      have:=Nat.mul_le_mul_right (GT.width α) (show i+1<=xs.length from h)
                      rw [Nat.add_mul,Nat.one_mul] at this
                      rw [List.append_assoc,List.getElem?_append_left (by omega),D_ xs p.2 xs.length i j h sn]
                      exact b2
                    · simp only [h,if_false,qB] at b2
                      have hF:i-xs.length<bl.length:=by omega
                      have h1:=Nat.mul_le_mul_right (GT.width α) (show i-xs.length+1<=bl.length from hF)
                      rw [Nat.add_mul,Nat.one_mul] at h1
                      have an:i*GT.width α=xs.length*GT.width α+(i-xs.length)*GT.width α:=by
                        rw [←Nat.add_mul];congr 1;omega
                      rw [List.append_assoc,List.getElem?_append_right (by omega),hlx,List.getElem?_append_left (by omega)]
                      have:=D_ bl q.2 bl.length (i-xs.length) j hF sn
                      rw [←b2,←this]
                      congr 1
                      omega
            · cases hop
          · cases hop
        · cases hop
      · cases hop
    · cases hop
  · cases hop
theorem aj.Dj {α:Type} [GT α] {xs bl:List α} {p q:aD α} {F:au} (S:aj P n w0 M u N β σ a w) (hx:ad w0 M u N F xs p) (hyr:s8 u N bl q) (hfl:∀(x:α) (r:GT.Ptr α),GT.rd b6 N u x r->GT.own b6 ab u x r)
    {i:Nat} {by' lx ly:Nat} {d:Tmp} (hlx:lx=xs.length) (hly:ly=bl.length) (hop:rT P n ops i σ=some (R lx p.1,R ly q.1,GT.width α,by',d)) (hl:xs.length+bl.length<=b6)
    (K:∀a1 w' aB r bU,aj P n w0 M w' aB β ⟨(d,.v (R (xs++bl).length r.1))::σ.env,σ.aM⟩ a1 w'->(∀b,N b->¬F b->aB b/\w'.heap[b]? =u.heap[b]?)->
      ad w0 M w' aB bU (xs++bl) r->(∀G:au,J G F->(∀b,G b->N b)->J G bU)->dh a1 w'):wpOp P ops Q i dh a w:=by
  subst hlx hly
  exact S.append hx hyr (Fy:=ab) ⟨fun _=>ab,fun i hi=>hfl _ _ (ae.el hyr i hi),fun _ _ b h=>False.elim h,fun _ _ _ _ _ b h=>False.elim h⟩ (fun b _ h=>False.elim h) (fun b h=>False.elim h) (fun b h=>False.elim h) hop hl
    fun a1 w' aB r bU h1 an aF b1 _=>K a1 w' aB r bU (by rw [List.length_append];exact h1) an aF fun G cn a8=>b1 G cn (fun b _ h=>False.elim h) a8
theorem aj.lK {α:Type} [GT α] {bl:List α} {p q:aD α} {F:au} (S:aj P n w0 M u N β σ a w) (hx:ad w0 M u N F ([]:List α) p) (hyr:s8 u N bl q) (hfl:∀(x:α) (r:GT.Ptr α),GT.rd b6 N u x r->GT.own b6 ab u x r)
    {i:Nat} {by' lx ly:Nat} {d:Tmp} (hly:ly=bl.length)
    (K:∀a1 w' aB r bU,aj P n w0 M w' aB β ⟨(d,.v (R bl.length r.1))::σ.env,σ.aM⟩ a1 w'->(∀b,N b->¬F b->aB b/\w'.heap[b]? =u.heap[b]?)->
      ad w0 M w' aB bU bl r->(∀G:au,J G F->(∀b,G b->N b)->J G bU)->dh a1 w') (hlx:lx=0:=by rfl) (hop:rT P n ops i σ=some (R lx p.1,R ly q.1,GT.width α,by',d):=by kernel_rfl):wpOp P ops Q i dh a w:=
  S.Dj hx hyr hfl (lx:=lx) (ly:=ly) hlx hly hop (by rw [List.length_nil,Nat.zero_add];exact ae.le hyr) K
theorem aj.Dk {α:Type} [GT α] {xs bl:List α} {p q:aD α} {F Fy:au} (S:aj P n w0 M u N β σ a w) (hx:ad w0 M u N F xs p) (hy:ad w0 M u N Fy bl q) (hd:J F Fy)
    {i:Nat} {by' lx ly:Nat} {d:Tmp} (hlx:lx=xs.length) (hly:ly=bl.length) (hop:rT P n ops i σ=some (R lx p.1,R ly q.1,GT.width α,by',d)) (hl:xs.length+bl.length<=b6)
    (K:∀a1 w' aB r bU,aj P n w0 M w' aB β ⟨(d,.v (R (xs++bl).length r.1))::σ.env,σ.aM⟩ a1 w'->(∀b,N b->¬F b->aB b/\w'.heap[b]? =u.heap[b]?)->
      ad w0 M w' aB bU (xs++bl) r->(∀G:au,J G F->J G Fy->(∀b,G b->N b)->J G bU)->dh a1 w'):wpOp P ops Q i dh a w:=by
  subst hlx hly
  obtain⟨G,cn,a8,b7⟩:=g4.el hy.own
  exact S.append hx hy.ak ⟨G,cn,fun i hi b hb=>(a8 i hi b hb).1,b7⟩ hd hy.sub hy.dM hop hl
    fun a1 w' aB r bU h1 an aF b1 _=>K a1 w' aB r bU (by rw [List.length_append];exact h1) an aF b1
abbrev cg (α:Type) [GT α]:List Value:=GT.cells (GT.eR:α) GT.cZ
theorem b4 {x y:Int} (h:x=y):Ending.returned (packed [aa x])= .returned (aa y):=by rw [h];rfl
theorem a6 {x y:Bool} (h:x=y):Ending.returned (packed [B x])= .returned (B y):=by rw [h];rfl
theorem hX {α:Type} [GT α] {x y:α} {p:GT.Ptr α} (h:x=y):Ending.returned (packed [GT.val x p])= .returned (GT.val y p):=by rw [h];rfl
theorem jm {a b c d:Value} (h:a=c) (cl:b=d):Ending.returned (packed [a,b])= .returned (.tuple #[c,d]):=by rw [h,cl];rfl
theorem Gb {a b c a1 lL zV:Value} (h:a=a1) (cl:b=lL) (I5:c=zV):Ending.returned (packed [a,b,c])= .returned (.tuple #[a1,lL,zV]):=by rw [h,cl,I5];rfl
theorem h_ {x y:Int} (h:x=y):aa x=aa y:=by rw [h]
theorem jB {x y:Bool} (h:x=y):B x=B y:=by rw [h]
theorem cy {α:Type} [GT α] {r x:α} {p:GT.Ptr α} {F:au} {v:Value} (S:aj P n w0 ab u N β σ a w) (h:r=x) (b2:v=GT.val x p) (o:ad w0 ab u N F x p):dw ab w0 r (.returned (packed [v])) w:=by
  subst h b2
  exact⟨p,rfl,S.fu,S.own o⟩
theorem gb {α gD:Type} [GT α] [GT gD] {r x:α} {r' h2:gD} {p:GT.Ptr α} {p':GT.Ptr gD} {F:au} {v ux:Value} (S:aj P n w0 ab u N β σ a w) (h:r=x) (cl:r'=h2) (b2:v=GT.val x p) (wh:ux=GT.val h2 p') (o:ad w0 ab u N F x p) (jw:GT.own b6 ab w h2 p'):o4 ab w0 r r' (.returned (packed [v,ux])) w:=by
  subst h cl b2 wh
  obtain⟨h1,an⟩:=S.FP o
  exact⟨p,p',F,ab,rfl,S.fu,h1,jw,fun _ _ f=>f,fun b hb=>hb.elim (an b) (fun f=>False.elim f)⟩
theorem VT {α gD:Type} [GT α] [GT gD] {r x:α} {r' h2:gD} {p:GT.Ptr α} {p':GT.Ptr gD} {F bU:au} {v ux:Value} (S:aj P n w0 ab u N β σ a w) (h:r=x) (cl:r'=h2) (b2:v=GT.val x p) (wh:ux=GT.val h2 p') (o:ad w0 ab u N F x p) (jw:ad w0 ab u N bU h2 p') (hd:J F bU):o4 ab w0 r r' (.returned (packed [v,ux])) w:=by
  subst h cl b2 wh
  obtain⟨h1,an⟩:=S.FP o
  obtain⟨aF,b1⟩:=S.FP jw
  exact⟨p,p',F,bU,rfl,S.fu,h1,aF,hd,fun b hb=>hb.elim (an b) (b1 b)⟩
theorem y_ {α gD zt:Type} [GT α] [GT gD] [GT zt] {r x:α} {r' h2:gD} {r'' N4:zt} {p:GT.Ptr α} {p':GT.Ptr gD} {p'':GT.Ptr zt} {F:au} {v ux Wr:Value} (S:aj P n w0 ab u N β σ a w) (h:r=x) (cl:r'=h2) (I5:r''=N4) (b2:v=GT.val x p) (wh:ux=GT.val h2 p') (afA:Wr=GT.val N4 p'')
    (o:ad w0 ab u N F x p) (jw:GT.own b6 ab w h2 p') (ahB:GT.own b6 ab w N4 p''):zG ab w0 r r' r'' (.returned (packed [v,ux,Wr])) w:=by
  subst h cl I5 b2 wh afA
  obtain⟨h1,an⟩:=S.FP o
  exact⟨p,p',p'',F,rfl,S.fu,h1,jw,ahB,an⟩
def amo {α:Type} [GT α] (F:au) (w:World) (p:GT.Ptr α) (x h2:α) (k:Int) (e:Ending) (w':World):Prop:=
  e= .returned (aa k)/\bB F w w'/\∃p',GT.cells h2 p'=GT.cells x p/\GT.own b6 F w' h2 p'
theorem aj.fP {α:Type} [GT α] {F:au} {x:α} {p:GT.Ptr α} (S:aj P n w0 M u N β σ a w) (h:ad w0 M u N F x p):GT.own b6 F w x p:=
  GT.b8 h.own (fun b hb _=>(S.sep b (h.sub b hb)).2.1)
end
end Go.Proofs.YtjlocpdfcanlhaaGreat
namespace Go.Proofs.YtjlocpdfcanlhaaGreat
open Go
def ts (P:Program):Nat->List Field->Option (List Bool)
  |
    _,[]=>some []
  |i,f::eE=>
    bif (f.name== "_")|| !Nat.beq f.offset i then none else
    match P.underlying f.type with
    |some (.int .i64)=>(ts P (i+1) eE).map fun l=>true::l
    |some .bool=>(ts P (i+1) eE).map fun l=>false::l
    |_=>none
def Ap (P:Program) (t:TypeId):Option (List Bool):=
  match P.underlying t with
  |some (.struct eE)=>bif P.stoodInHeld t then none else ts P 0 eE.toList
  |_=>none
def pJ:List Bool->List Value->Prop
  |[],_=>True
  |true::dj,.int .i64 _::xs=>pJ dj xs
  |false::dj,.bool _::xs=>pJ dj xs
  |_,_=>False
def pg:List Bool->List Value->List Value->Bool
  |[],_,_=>true
  |true::dj,.int .i64 a::xs,.int .i64 b::bl=>(a==b)&&pg dj xs bl
  |false::dj,.bool a::xs,.bool b::bl=>(a==b)&&pg dj xs bl
  |_,_,_=>false
theorem F1 {P:Program} {t:TypeId} {cs:Array Value} {i:Nat} {v:Value} (bx:lC P t=some false) (h:cs[i]? =some v) (w:World):(part t cs i).run P w= .ok v w:=by
  simp [part,Gg bx,h]
theorem IA {P:Program} (xs bl:Array Value) (w:World):∀(eE:List Field) (i:Nat) (dj:List Bool),ts P i eE=some dj->pJ dj (xs.toList.drop i)->pJ dj (bl.toList.drop i)->
    (Op.eqFields 9999 xs bl eE).run P w= .ok (pg dj (xs.toList.drop i) (bl.toList.drop i)) w
  |
    [],i,dj,h,_,_=>by
    simp only [ts,Option.some.injEq] at h
    subst h;rfl
  |f::eE,i,dj,h,hx,hy=>by
    simp only [ts] at h
    cases hb:((f.name== "_")|| !Nat.beq f.offset i) with
    |true=>rw [hb] at h;cases h
    |false=>
      rw [hb] at h
      simp only [Bool.or_eq_false_iff,Bool.not_eq_false'] at hb
      have cY:f.name≠ "_" :=fun e=>by rw [e] at hb;simp at hb
      have bN:f.offset=i:=Nat.eq_of_beq_eq_true hb.2
      simp only [cond_false] at h
      have tail:∀(kp:Array Value) (v:Value) (r:List Value),kp.toList.drop i=v::r->kp[i]? =some v/\kp.toList.drop (i+1)=r:=fun kp v r e=>by
        have h1:(kp.toList.drop i)[0]? =some v:=by rw [e];rfl
        have an:kp.toList.drop (i+1)=(kp.toList.drop i).drop 1:=by rw [List.drop_drop]
        exact⟨by simpa using h1,by rw [an,e];rfl⟩
      split at h
      · rename_i hu
        cases bp:ts P (i+1) eE with
        |none=>rw [bp] at h;cases h
        |some Lb=>
          rw [bp] at h
          simp only [Option.map_some,Option.some.injEq] at h
          subst h
          have tC:lC P f.type=some false:=by unfold lC;rw [hu]
          match Kn:xs.toList.drop i,hx with
          | .int .i64 a::ali,hx=>
            match Br:bl.toList.drop i,hy with
            | .int .i64 b::alu,hy=>
              obtain⟨Kl,wi⟩:=tail xs _ _ Kn
              obtain⟨Ko,Bq⟩:=tail bl _ _ Br
              have gj:=IA xs bl w eE (i+1) Lb bp (by rw [wi];exact hx) (by rw [Bq];exact hy)
              unfold Op.eqFields
              rw [if_pos cY,bN]
              simp only [Sem.run_bind,F1 tC Kl,F1 tC Ko,Result.andThen_ok,run_equalIn_int w 9998 f.type .i64 .i64 a b hu]
              rw [wi,Bq] at gj
              cases ki:(a==b) with
              |false=>simp [pg,ki]
              |true=>simp only [pg,ki,Bool.true_and,Bool.not_true,Bool.false_eq_true,if_false];exact gj
      · rename_i hu
        cases bp:ts P (i+1) eE with
        |none=>rw [bp] at h;cases h
        |some Lb=>
          rw [bp] at h
          simp only [Option.map_some,Option.some.injEq] at h
          subst h
          have tC:lC P f.type=some false:=by unfold lC;rw [hu]
          match Kn:xs.toList.drop i,hx with
          | .bool a::ali,hx=>
            match Br:bl.toList.drop i,hy with
            | .bool b::alu,hy=>
              obtain⟨Kl,wi⟩:=tail xs _ _ Kn
              obtain⟨Ko,Bq⟩:=tail bl _ _ Br
              have gj:=IA xs bl w eE (i+1) Lb bp (by rw [wi];exact hx) (by rw [Bq];exact hy)
              unfold Op.eqFields
              rw [if_pos cY,bN]
              simp only [Sem.run_bind,F1 tC Kl,F1 tC Ko,Result.andThen_ok,run_equalIn_bool' w 9998 f.type a b hu]
              rw [wi,Bq] at gj
              cases ki:(a==b) with
              |false=>simp [pg,ki]
              |true=>simp only [pg,ki,Bool.true_and,Bool.not_true,Bool.false_eq_true,if_false];exact gj
      · cases h
theorem IB {P:Program} {t:TypeId} {dj:List Bool} (h:Ap P t=some dj) {xs bl:List Value} (hx:pJ dj xs) (hy:pJ dj bl) (w:World):(Op.equal t (.agg xs.toArray) (.agg bl.toArray)).run P w= .ok (pg dj xs bl) w:=by
  unfold Ap at h
  split at h
  · rename_i eE hu
    cases hs:P.stoodInHeld t with
    |true=>rw [hs] at h;cases h
    |false=>
      rw [hs] at h
      have bc:P.fieldsOf t=eE:=by unfold Program.fieldsOf;rw [hu]
      have:=run_equalIn_struct (P:=P) w 9999 t xs.toArray bl.toArray (by rw [bc];exact hu) hs
      rw [bc] at this
      show(Op.equalIn 10000 t _ _).run P w=_
      refine this.trans ?_
      have:=IA (P:=P) xs.toArray bl.toArray w eE.toList 0 dj h (by simpa using hx) (by simpa using hy)
      simpa using this
  · cases h
section
variable {P:Program} {u:World} {N:au}
theorem QZ (x y:aR):pg [true,true] (GT.cells x ()) (GT.cells y ())=decide (x=y):=by
  rw [Bool.eq_iff_iff,decide_eq_true_iff,aR.ext_iff]
  simp [pg,GT.cells,Bool.and_eq_true]
theorem qG {t:TypeId} (x y:aR) (h:Ap P t=some [true,true]):g5 P u N (.ja (do pure (.bool (←Op.equal t (GT.val x ()) (GT.val y ()))))) (B (decide (x=y))):=fun w _=>by
  show(do pure (.bool (←Op.equal t (GT.val x ()) (GT.val y ()))):Sem Value).run P w=_
  have e:=IB h (show pJ [true,true] (GT.cells x ()) from trivial) (show pJ [true,true] (GT.cells y ()) from trivial) w
  rw [QZ] at e
  rw [Sem.run_bind]
  show((Op.equal t (.agg (GT.cells x ()).toArray) (.agg (GT.cells y ()).toArray)).run P w).andThen _=_
  rw [e];rfl
theorem WD {t:TypeId} (x y:aR) (h:Ap P t=some [true,true]):g5 P u N (.ja (do pure (.bool (!(←Op.equal t (GT.val x ()) (GT.val y ())))))) (B (!decide (x=y))):=fun w _=>by
  show(do pure (.bool (!(←Op.equal t (GT.val x ()) (GT.val y ())))):Sem Value).run P w=_
  have e:=IB h (show pJ [true,true] (GT.cells x ()) from trivial) (show pJ [true,true] (GT.cells y ()) from trivial) w
  rw [QZ] at e
  rw [Sem.run_bind]
  show((Op.equal t (.agg (GT.cells x ()).toArray) (.agg (GT.cells y ()).toArray)).run P w).andThen _=_
  rw [e];rfl
theorem abn (x y:dg):pg [true,true,false,true] (GT.cells x ()) (GT.cells y ())=decide (x=y):=by
  rw [Bool.eq_iff_iff,decide_eq_true_iff,dg.ext_iff]
  simp [pg,GT.cells,Bool.and_eq_true]
theorem C2 {t:TypeId} (x y:dg) (h:Ap P t=some [true,true,false,true]):g5 P u N (.ja (do pure (.bool (←Op.equal t (GT.val x ()) (GT.val y ()))))) (B (decide (x=y))):=fun w _=>by
  show(do pure (.bool (←Op.equal t (GT.val x ()) (GT.val y ()))):Sem Value).run P w=_
  have e:=IB h (show pJ [true,true,false,true] (GT.cells x ()) from trivial) (show pJ [true,true,false,true] (GT.cells y ()) from trivial) w
  rw [abn] at e
  rw [Sem.run_bind]
  show((Op.equal t (.agg (GT.cells x ()).toArray) (.agg (GT.cells y ()).toArray)).run P w).andThen _=_
  rw [e];rfl
end
end Go.Proofs.YtjlocpdfcanlhaaGreat
namespace Go.Proofs.YtjlocpdfcanlhaaGreat
open Go
def a3 (x a b:Int):Bool:=decide (a<=x)&&decide (x<=b)
theorem cV {x a b:Int} (h:a3 x a b=true):a<=x/\x<=b:=by simpa [a3] using h
theorem dn {x a b:Int} (h:a3 x a b=false):¬(a<=x/\x<=b):=by
  intro g;simp [a3,g.1,g.2] at h
def Q_ (k:Int):Bool:=a3 k 13 17
def anx (a:nH):Bool:=a3 a.kind 1 17
def anD (a:nH):fy:=⟨a.x,a.y,a.z==1⟩
def ch (n:Nat) (left:Int):Int:=if left-n<0 then-1 else left-n
def an5 (l:List nH):List nH:=l.filter fun a=>!Q_ a.kind
def anQ (a:List nH) (t:List pW):List pW:=((a.zip t).filter fun p=>!Q_ p.1.kind).map (·.2)
theorem p_ {α:Type} [GT α] {xs:List α} {k:Nat} (h:k<xs.length):el xs k=xs[k]:=by simp [el,h]
theorem jb {α:Type} [GT α] {xs:List α} {k:Nat} (h:k<xs.length):xs.take (k+1)=xs.take k++[el xs k]:=by
  rw [p_ h,List.take_succ_eq_append_getElem h]
theorem sU {α:Type} [GT α] {xs:List α} {k:Nat} {z:α} (h:k<xs.length):(xs.take k++List.replicate (xs.length-k) z).set k (el xs k)=xs.take (k+1)++List.replicate (xs.length-(k+1)) z:=by
  have e:List.replicate (xs.length-k) z=z::List.replicate (xs.length-(k+1)) z:=by
    rw [show xs.length-k=(xs.length-(k+1))+1 by omega,List.replicate_succ]
  have hl:(xs.take k).length=k:=by simp;omega
  rw [jb h,e,List.set_append_right _ _ (by omega),hl]
  simp
theorem sX {α:Type} [GT α] {xs bl:List α} {k:Nat} (h:k<xs.length) (cl:k<bl.length) (e:xs.take k=bl.take k) (h9:el xs k=el bl k):xs.take (k+1)=bl.take (k+1):=by
  rw [jb h,jb cl,e,h9]
theorem sY {α:Type} [GT α] {xs bl:List α} {k:Nat} (h9:¬el xs k=el bl k):¬xs=bl:=fun e=>h9 (by rw [e])
theorem ff {α:Type} {xs:List α} {k:Nat} (h:xs.length<=k):xs.take k=xs:=List.take_of_length_le h
theorem ahy {α:Type} [BEq α] [LawfulBEq α] {x y:α} (h:(x != y)=false):x=y:=by
  cases e:x==y
  · rw [bne,e] at h;cases h
  · exact eq_of_beq e
theorem n4 {a b:Bool} (h:(a||b)=false):a=false/\b=false:=by cases a<;>cases b<;>simp_all
theorem OT {a b:Bool} (h:(a&&b)=true):a=true/\b=true:=by cases a<;>cases b<;>simp_all
theorem UD {a b c d:Int} (h:((a != b)&&(c != d))=false):a=b\/c=d:=by
  by_cases h1:a=b
  · exact .inl h1
  · by_cases an:c=d
    · exact .inr an
    · simp [bne,h1,an] at h
theorem cm {b:Bool} (h:(!b)=true):b=false:=by cases b<;>simp_all
theorem b9 {b:Bool} (h:(!b)=false):b=true:=by cases b<;>simp_all
end Go.Proofs.YtjlocpdfcanlhaaGreat
namespace Go.Proofs.YtjlocpdfcanlhaaGreat
open Go
theorem dW {α:Type} [GT α] {xs:List α} {k:Nat} {y:α} (h:k<xs.length):el (xs.set k y) k=y:=by simp [el,h]
theorem BC {α:Type} {a l:List α} {i:Nat} {y:α} (h:i<a.length) (hl:l.length=i):(l++a.drop i).set i y=(l++[y])++a.drop (i+1):=by
  rw [List.drop_eq_getElem_cons h,List.set_append_right _ _ (by omega),hl,Nat.sub_self,List.set_cons_zero,List.append_assoc]
  rfl
def yh (j:Int):Int:=j
def ov (n:Nat) (k:Int):List Int:=(List.range n).map fun(i:Nat)=>yh (k+1*(i:Int))
theorem abQ (n:Nat) (k:Int):(ov n k).length=n:=by simp [ov]
theorem agN {a:List Int} {i:Nat} {k j:Int} (h:i<a.length) (bZ:j=k+1*(i:Int)):(ov i k++a.drop i).set i (yh j)=ov (i+1) k++a.drop (i+1):=by
  rw [BC h (abQ i k),bZ]
  unfold ov
  rw [List.range_succ,List.map_append]
  rfl
def ye (j:Int):Bool:=(Int.tmod j 3==0)
def ou (n:Nat) (k:Int):List Bool:=(List.range n).map fun(i:Nat)=>ye (k+1*(i:Int))
theorem abN (n:Nat) (k:Int):(ou n k).length=n:=by simp [ou]
theorem agK {a:List Bool} {i:Nat} {k j:Int} (h:i<a.length) (bZ:j=k+1*(i:Int)):(ou i k++a.drop i).set i (ye j)=ou (i+1) k++a.drop (i+1):=by
  rw [BC h (abN i k),bZ]
  unfold ou
  rw [List.range_succ,List.map_append]
  rfl
def yi (j:Int):aR:=⟨j,(j+1)⟩
def nQ (n:Nat) (k:Int):List aR:=(List.range n).map fun(i:Nat)=>yi (k+2*(i:Int))
theorem abR (n:Nat) (k:Int):(nQ n k).length=n:=by simp [nQ]
theorem agO {a:List aR} {i:Nat} {k j:Int} (h:i<a.length) (bZ:j=k+2*(i:Int)):(nQ i k++a.drop i).set i (yi j)=nQ (i+1) k++a.drop (i+1):=by
  rw [BC h (abR i k),bZ]
  unfold nQ
  rw [List.range_succ,List.map_append]
  rfl
def yf (j:Int):aH:=⟨j,(j+1),(j+2),(j+3)⟩
def mo (n:Nat) (k:Int):List aH:=(List.range n).map fun(i:Nat)=>yf (k+4*(i:Int))
theorem abO (n:Nat) (k:Int):(mo n k).length=n:=by simp [mo]
theorem agL {a:List aH} {i:Nat} {k j:Int} (h:i<a.length) (bZ:j=k+4*(i:Int)):(mo i k++a.drop i).set i (yf j)=mo (i+1) k++a.drop (i+1):=by
  rw [BC h (abO i k),bZ]
  unfold mo
  rw [List.range_succ,List.map_append]
  rfl
def yg (j:Int):da:=⟨j,(j+1)⟩
def nP (n:Nat) (k:Int):List da:=(List.range n).map fun(i:Nat)=>yg (k+2*(i:Int))
theorem abP (n:Nat) (k:Int):(nP n k).length=n:=by simp [nP]
theorem agM {a:List da} {i:Nat} {k j:Int} (h:i<a.length) (bZ:j=k+2*(i:Int)):(nP i k++a.drop i).set i (yg j)=nP (i+1) k++a.drop (i+1):=by
  rw [BC h (abP i k),bZ]
  unfold nP
  rw [List.range_succ,List.map_append]
  rfl
def acX (j:Int):fy:=⟨j,(j+1),(Int.tmod (j+2) 3==0)⟩
def anT (n:Nat) (k:Int):List fy:=(List.range n).map fun(i:Nat)=>acX (k+3*(i:Int))
def acY (j:Int):dg:=⟨j,(j+1),(Int.tmod (j+2) 3==0),(j+3)⟩
def anU (n:Nat) (k:Int):List dg:=(List.range n).map fun(i:Nat)=>acY (k+4*(i:Int))
def acW (j:Int):nH:=⟨j,(j+1),(j+2),(j+3),(j+4),(j+5)⟩
def anS (n:Nat) (k:Int):List nH:=(List.range n).map fun(i:Nat)=>acW (k+6*(i:Int))
def acZ (j:Int):pW:=⟨(Int.tmod j 3==0),(j+1)⟩
def anV (n:Nat) (k:Int):List pW:=(List.range n).map fun(i:Nat)=>acZ (k+2*(i:Int))
end Go.Proofs.YtjlocpdfcanlhaaGreat
namespace Go.Proofs.YtjlocpdfcanlhaaGreat
open Go
def dH (P:Program) (t:TypeId) (α:Type) [GT α]:Prop:=
  P.cellsOf t=GT.width α/\∀(H:Type) (enc:TypeId×Value->H) (w:World) (fuel:Nat) (cs:List Value) (x:DataW H×List MemPlace),
    DataW.trod enc P w 0 (fun _=>true) true fuel t cs=some x->∃(d:α) (p:GT.Ptr α),cs=GT.cells d p/\GT.rd jW (fc w.heap.size) w d p
theorem aiI {P:Program} {t:TypeId} (bx:P.underlying t=some (.int .i64)) (hc:P.cellsOf t=1):dH P t Int:=by
  refine⟨hc,fun H enc w fuel cs x h=>?_⟩
  cases fuel with
  |zero=>simp [DataW.trod] at h
  |succ n=>
    unfold DataW.trod at h
    rw [bx] at h
    split at h<;>simp_all
    rename_i k fz Lv hk
    subst hk
    obtain⟨⟨rfl,hw⟩,_⟩:=h
    refine⟨Lv,(),by rfl,?_⟩
    have:=bounds_i64 hw
    exact⟨this.1,this.2⟩
theorem aiH {P:Program} {t:TypeId} (bx:P.underlying t=some .bool) (hc:P.cellsOf t=1):dH P t Bool:=by
  refine⟨hc,fun H enc w fuel cs x h=>?_⟩
  cases fuel with
  |zero=>simp [DataW.trod] at h
  |succ n=>
    unfold DataW.trod at h
    rw [bx] at h
    split at h<;>simp_all
    rename_i b
    cases b
    · exact .inl ⟨(),rfl,trivial⟩
    · exact .inr ⟨(),rfl,trivial⟩
theorem sK {P:Program} {t e:TypeId} {α:Type} [GT α] (bx:P.underlying t=some (.slice e)) (hc:P.cellsOf t=1) (bN:dH P e α):dH P t (List α):=by
  refine⟨hc,fun H enc w fuel cs x h=>?_⟩
  rcases Go.Deep.open_slice bx h with⟨rfl,_⟩|⟨a,len,cap,m,n,D,aml,rfl,_,hl,hm,S2,_,hx⟩
  · exact⟨[],GT.cZ,rfl,GT.gl (GT.gw _ _ _)⟩
  simp only [if_true] at S2
  subst S2
  have:Inhabited α:=⟨GT.eR⟩
  have:Inhabited (GT.Ptr α):=⟨GT.cZ⟩
  obtain⟨f,bc⟩:=Go.Deep.choose_lt (α:=α×GT.Ptr α) (n:=m) (p:=fun i y=>w.cells? 0 (a.add (i*P.cellsOf e)) (P.cellsOf e)=some (GT.cells y.1 y.2)/\GT.rd jW (fc w.heap.size) w y.1 y.2) (fun i hi=>by
    obtain⟨lM,h1,an⟩:=hx i hi
    obtain⟨d,p,rfl,aF⟩:=bN.2 H enc w n lM _ an
    exact⟨(d,p),h1,aF⟩)
  have hlen:((List.range len).map fun i=>(f i).1).length=len:=by simp
  have ih:∀i,i<len->el ((List.range len).map fun i=>(f i).1) i=(f i).1:=fun i hi=>by simp [el,hi]
  by_cases h0:m=0
  · obtain rfl:len=0:=by omega
    subst h0
    exact⟨[],(⟨true,0,0,0,some a⟩,fun _=>GT.cZ),rfl,Nat.zero_le _,Nat.zero_le _,fun h=>absurd h (Nat.lt_irrefl _),fun i hi=>absurd hi (Nat.not_lt_zero _),fun i hi=>absurd hi (Nat.not_lt_zero _)⟩
  have wg:∃b o,a=⟨b,o,none⟩:=by
    obtain⟨_,Bf,A8⟩:=World.cells?_some (bc 0 (by omega)).1
    have aF:=A8 0 (by rw [bN.1];exact GT.jS)
    have aJ:∃v,(GT.cells (f 0).1 (f 0).2)[0]? =some v:=⟨_,List.getElem?_eq_getElem (by rw [GT.len];exact GT.jS)⟩
    obtain⟨v,b2⟩:=aJ
    rw [b2,Nat.zero_mul] at aF
    simp only [Addr.add,if_true] at aF
    obtain⟨b,o,s⟩:=a
    cases s with
    |none=>exact⟨b,o,rfl⟩
    |some s=>unfold World.cell? at aF;split at aF<;>simp at aF
  obtain⟨b,o,rfl⟩:=wg
  have oD:∀i,i<m->kW w b (o+i*GT.width α) (GT.cells (f i).1 (f i).2):=fun i hi=>by
    obtain⟨_,Bf,A8⟩:=World.cells?_some (bc i hi).1
    intro j v bZ
    have sn:=(List.getElem?_eq_some_iff.1 bZ).1
    have aF:=A8 j (by omega)
    rw [bZ,bN.1,Go.Deep.add_add] at aF
    have e:(Addr.mk b o none).add (i*GT.width α+j)=⟨b,o+i*GT.width α+j,none⟩:=by
      unfold Addr.add
      split
      · rename_i h;simp
      · simp [Nat.add_assoc]
    rwa [e] at aF
  refine⟨(List.range len).map fun i=>(f i).1,(⟨false,b,o,m,none⟩,fun i=>(f i).2),?_,?_,?_,?_,?_,?_⟩
  · show [Value.slice (some _) len m]=[R (List.length _) _]
    rw [hlen]
    rfl
  · rw [hlen];unfold maxLen at hm;unfold jW;omega
  · rw [hlen];exact hl
  · intro h
    refine⟨rfl,?_⟩
    exact(oD 0 (by omega)).lt (by rw [GT.len];exact GT.jS)
  · intro i hi
    rw [hlen] at hi
    rw [ih i hi]
    exact oD i (by omega)
  · intro i hi
    rw [hlen] at hi
    rw [ih i hi]
    exact(bc i (by omega)).2
theorem fS {H:Type} {enc:TypeId×Value->H} {P:Program} {w:World} {eE:Array Field} {L:List (TypeId×Nat)} (bc:eE.toList.map (fun f=>(f.type,f.offset))=L) {n:Nat} {cs:List Value} {xs:List (DataW H×List MemPlace)}
    (hl:xs.length=eE.size) (hx:∀(i:Nat) (f:Field),eE[i]? =some f->DataW.trod enc P w 0 (fun _=>true) true n f.type ((cs.drop f.offset).take (P.cellsOf f.type))=xs[i]?)
    (i:Nat) {t:TypeId} {o:Nat} (hi:L[i]? =some (t,o)) {α:Type} [GT α] (bN:dH P t α):∃(d:α) (p:GT.Ptr α),(cs.drop o).take (GT.width α)=GT.cells d p/\GT.rd jW (fc w.heap.size) w d p:=by
  subst bc
  rw [List.getElem?_map,Option.map_eq_some_iff] at hi
  obtain⟨f,h1,an⟩:=hi
  simp only [Prod.mk.injEq] at an
  obtain⟨rfl,rfl⟩:=an
  have aF:eE[i]? =some f:=by simpa using h1
  have b1:=hx i f aF
  have eW:i<xs.length:=by
    rw [hl]
    exact(Array.getElem?_eq_some_iff.1 aF).1
  rw [List.getElem?_eq_getElem eW,bN.1] at b1
  exact bN.2 H enc w n _ _ b1
theorem dL {cs c:List Value} {o w:Nat} (h:(cs.drop o).take w=c) (jw:Nat) (e:jw=o+w):cs.drop o=c++cs.drop jw:=by
  subst h e
  rw [←List.drop_drop,List.take_append_drop]
theorem r4 {cs:List Value} {o:Nat} (h:cs.length=o):cs.drop o=[]:=by
  subst h
  exact List.drop_length
theorem Xt {H:Type} {enc:TypeId×Value->H} {P:Program} {w:World} {t:TypeId} {α:Type} [GT α] (bN:dH P t α) {eE:Array Field} (bx:P.underlying t=some (.struct eE)) (ay:GT.agg α=true)
    {r:Reach} {nI:Nat} {v:Value} (b2:Value.okWide P w r nI t v) {d:DataW H} {ue:List MemPlace} (h:DataW.Trod enc P w 0 (fun _=>true) true t v d ue):
    ∃(d:α) (p:GT.Ptr α),v=GT.val d p/\GT.rd jW (fc w.heap.size) w d p:=by
  obtain⟨cs,rfl,_⟩:=Go.WideShapes.okWide_struct bx b2
  obtain⟨fuel,bc⟩:=h
  obtain⟨x,p,h1,an⟩:=bN.2 H enc w fuel _ _ bc
  refine⟨x,p,?_,an⟩
  unfold GT.val
  rw [ay,cond_true,←h1]
  rfl
theorem Xv {H:Type} {enc:TypeId×Value->H} {P:Program} {w:World} {t e:TypeId} {α:Type} [GT α] (bN:dH P t (List α)) (bx:P.underlying t=some (.slice e))
    {r:Reach} {nI:Nat} {v:Value} (b2:Value.okWide P w r nI t v) {d:DataW H} {ue:List MemPlace} (h:DataW.Trod enc P w 0 (fun _=>true) true t v d ue):
    ∃(d:List α) (p:aD α),v=R d.length p.1/\ae jW (fc w.heap.size) w d p:=by
  obtain⟨a,len,cap,rfl⟩:=Go.WideShapes.okWide_slice bx b2
  obtain⟨fuel,bc⟩:=h
  obtain⟨x,p,h1,an⟩:=bN.2 H enc w fuel _ _ bc
  refine⟨x,p,?_,an⟩
  have aF:[Value.slice a len cap]=[R x.length p.1]:=h1
  exact(List.cons.inj aF).1
theorem Xu {H:Type} {enc:TypeId×Value->H} {P:Program} {w:World} {t:TypeId} (bx:P.underlying t=some (.int .i64))
    {r:Reach} {nI:Nat} {v:Value} (b2:Value.okWide P w r nI t v) {d:DataW H} {ue:List MemPlace} (h:DataW.Trod enc P w 0 (fun _=>true) true t v d ue):∃x:Int,v=aa x/\a_ x:=by
  obtain⟨x,rfl,_,_,hw⟩:=Go.ChangeShapes.open_int bx b2 h
  exact⟨x,rfl,(bounds_i64 hw).1,(bounds_i64 hw).2⟩
theorem Wn {H:Type} {enc:TypeId×Value->H} {P:Program} {w:World} {base:Nat} {spare:Nat->Bool} {held:Bool} {Wo:List TypeId} {Gz:List Value} {Qy:List (DataW H)} {p':List MemPlace} (cl:DataW.TrodAll enc P w base spare held Wo Gz Qy p'):
    ∀{CW:List TypeId} {er:List Value} {qS:List (DataW H)} {p:List MemPlace},DataW.TrodAll enc P w base spare held CW er qS p->DataW.TrodAll enc P w base spare held (CW++Wo) (er++Gz) (qS++Qy) (p++p')
  |
    [],_,_,_,h=>by
    obtain⟨rfl,rfl,rfl⟩:=Go.ChangeShapes.trodAll_nil h
    exact cl
  |_::_,_,_,_,h=>by
    obtain⟨v,akX,d,aba,a,b,rfl,rfl,rfl,h1,an⟩:=Go.ChangeShapes.trodAll_cons h
    exact⟨a,b++p',h1,Wn cl an,by simp⟩
theorem ai7 {H:Type} {enc:TypeId×Value->H} {P:Program} {f:Func} {s:ChangeSpec} {apart fresh handsOn again:Bool} {W uO:World} {args:Array Value} {v:Value} {qS gs:List (DataW H)} {before pa pv:List MemPlace}
    (aG:DataW.Whole enc P f.params.toList s.vars apart W args.toList qS gs before)
    (Tf:∀(b:Nat) (sp:Nat->Bool) (hd:Bool),DataW.TrodAll enc P uO b sp hd f.resultTypes.toList (v.resultList f.resultTypes.size) (s.fn H (qS++gs)).results [])
    (qh:∀sp:Nat->Bool,(∀p∈before,sp p.block=true)->DataW.TrodAll enc P uO 0 sp true f.params.toList args.toList (s.fn H (qS++gs)).args pa)
    (Tj:∀sp:Nat->Bool,(∀p∈before,sp p.block=true)->DataW.TrodVars enc P uO sp s.vars (s.fn H (qS++gs)).vars pv)
    (tG:before=pa++pv) (hb:RowKit.Below W.heap.size W uO)
    (yF:∀(j:Nat) (t:TypeId) (r:Value),f.resultTypes[j]? =some t->(v.resultList f.resultTypes.size)[j]? =some r->Value.okWide P uO .any 0 t r):
    s.post enc P f apart fresh handsOn again W args v uO:=by
  have hold:∀p∈before,(fun b=>decide (b<W.heap.size)) p.block=true:=fun p bC=>by simpa using aG.lt p bC
  have eW:=aG.lt
  refine⟨qS,gs,before,[],pa,pv,aG,Tf _ _ _,qh _ hold,Tj _ hold,World.keptBut_mono (fun p bC=>⟨bC,?_⟩) (hb.frame (· ∈before)),fun _=>?_⟩
  · rw [tG,List.mem_append] at bC
    exact Or.inr bC
  · obtain⟨_,_,_,_,_,ej,cY⟩:=aG
    refine⟨yF,_,_,([]++pa)++pv,⟨[]++pa,pv,Wn (qh _ (fun _ _=>rfl)) (Tf _ _ _),Tj _ (fun _ _=>rfl),rfl,?_,?_⟩,?_⟩
    · intro b off bC
      have S4:MemPlace.cell b off∈before:=by rw [tG];simpa using bC
      rw [hb.frozen (p:=⟨b,off,none⟩) (eW _ S4)]
      exact ej b off S4
    · intro ay
      have:=cY ay
      rw [tG] at this
      simpa using this
    · intro p bC _
      rw [tG]
      simpa using bC
theorem aiG {P:Program} {t:TypeId} {eE:Array Field} {t0 t1:TypeId} (bx:P.underlying t=some (.struct eE)) (hc:P.cellsOf t=2) (bc:eE.toList.map (fun f=>(f.type,f.offset))=[(t0,0),(t1,1)]) (h0:dH P t0 (Int)) (h1:dH P t1 (Int)):dH P t aR:=by
  refine⟨hc,fun H enc w fuel cs x h=>?_⟩
  obtain⟨xs,n,_,_,hl,fq,hx⟩:=DataW.trod_struct bx h
  obtain⟨d0,n5,iy,la⟩:=fS bc fq hx 0 rfl h0
  obtain⟨d1,lz,cu,km⟩:=fS bc fq hx 1 rfl h1
  refine⟨⟨d0,d1⟩,(),?_,⟨la,km⟩⟩
  have e:cs.drop 0=_:=dL iy 1 rfl
  rw [dL cu 2 rfl,r4 (hl.trans hc)] at e
  exact e
theorem aiE {P:Program} {t:TypeId} {eE:Array Field} {t0 t1:TypeId} (bx:P.underlying t=some (.struct eE)) (hc:P.cellsOf t=2) (bc:eE.toList.map (fun f=>(f.type,f.offset))=[(t0,0),(t1,1)]) (h0:dH P t0 (List Bool)) (h1:dH P t1 (List aR)):dH P t bS:=by
  refine⟨hc,fun H enc w fuel cs x h=>?_⟩
  obtain⟨xs,n,_,_,hl,fq,hx⟩:=DataW.trod_struct bx h
  obtain⟨d0,n5,iy,la⟩:=fS bc fq hx 0 rfl h0
  obtain⟨d1,lz,cu,km⟩:=fS bc fq hx 1 rfl h1
  refine⟨⟨d0,d1⟩,⟨n5,lz⟩,?_,⟨la,km⟩⟩
  have e:cs.drop 0=_:=dL iy 1 rfl
  rw [dL cu 2 rfl,r4 (hl.trans hc)] at e
  exact e
theorem aiz {P:Program} {t:TypeId} {eE:Array Field} {t0 t1 t2 t3:TypeId} (bx:P.underlying t=some (.struct eE)) (hc:P.cellsOf t=4) (bc:eE.toList.map (fun f=>(f.type,f.offset))=[(t0,0),(t1,1),(t2,2),(t3,3)]) (h0:dH P t0 (Int)) (h1:dH P t1 (Int)) (an:dH P t2 (Int)) (aF:dH P t3 (Int)):dH P t aH:=by
  refine⟨hc,fun H enc w fuel cs x h=>?_⟩
  obtain⟨xs,n,_,_,hl,fq,hx⟩:=DataW.trod_struct bx h
  obtain⟨d0,n5,iy,la⟩:=fS bc fq hx 0 rfl h0
  obtain⟨d1,lz,cu,km⟩:=fS bc fq hx 1 rfl h1
  obtain⟨d2,cx,cB,oW⟩:=fS bc fq hx 2 rfl an
  obtain⟨d3,nt,fo,rH⟩:=fS bc fq hx 3 rfl aF
  refine⟨⟨d0,d1,d2,d3⟩,(),?_,⟨la,km,oW,rH⟩⟩
  have e:cs.drop 0=_:=dL iy 1 rfl
  rw [dL cu 2 rfl,dL cB 3 rfl,dL fo 4 rfl,r4 (hl.trans hc)] at e
  exact e
theorem aiD {P:Program} {t:TypeId} {eE:Array Field} {t0 t1:TypeId} (bx:P.underlying t=some (.struct eE)) (hc:P.cellsOf t=2) (bc:eE.toList.map (fun f=>(f.type,f.offset))=[(t0,0),(t1,1)]) (h0:dH P t0 (Int)) (h1:dH P t1 (Int)):dH P t da:=by
  refine⟨hc,fun H enc w fuel cs x h=>?_⟩
  obtain⟨xs,n,_,_,hl,fq,hx⟩:=DataW.trod_struct bx h
  obtain⟨d0,n5,iy,la⟩:=fS bc fq hx 0 rfl h0
  obtain⟨d1,lz,cu,km⟩:=fS bc fq hx 1 rfl h1
  refine⟨⟨d0,d1⟩,(),?_,⟨la,km⟩⟩
  have e:cs.drop 0=_:=dL iy 1 rfl
  rw [dL cu 2 rfl,r4 (hl.trans hc)] at e
  exact e
theorem aiy {P:Program} {t:TypeId} {eE:Array Field} {t0 t1 t2:TypeId} (bx:P.underlying t=some (.struct eE)) (hc:P.cellsOf t=3) (bc:eE.toList.map (fun f=>(f.type,f.offset))=[(t0,0),(t1,1),(t2,2)]) (h0:dH P t0 (Int)) (h1:dH P t1 (Int)) (an:dH P t2 (Bool)):dH P t fy:=by
  refine⟨hc,fun H enc w fuel cs x h=>?_⟩
  obtain⟨xs,n,_,_,hl,fq,hx⟩:=DataW.trod_struct bx h
  obtain⟨d0,n5,iy,la⟩:=fS bc fq hx 0 rfl h0
  obtain⟨d1,lz,cu,km⟩:=fS bc fq hx 1 rfl h1
  obtain⟨d2,cx,cB,oW⟩:=fS bc fq hx 2 rfl an
  refine⟨⟨d0,d1,d2⟩,(),?_,⟨la,km⟩⟩
  have e:cs.drop 0=_:=dL iy 1 rfl
  rw [dL cu 2 rfl,dL cB 3 rfl,r4 (hl.trans hc)] at e
  exact e
theorem aiA {P:Program} {t:TypeId} {eE:Array Field} {t0 t1 t2 t3:TypeId} (bx:P.underlying t=some (.struct eE)) (hc:P.cellsOf t=4) (bc:eE.toList.map (fun f=>(f.type,f.offset))=[(t0,0),(t1,1),(t2,2),(t3,3)]) (h0:dH P t0 (Int)) (h1:dH P t1 (Int)) (an:dH P t2 (Bool)) (aF:dH P t3 (Int)):dH P t dg:=by
  refine⟨hc,fun H enc w fuel cs x h=>?_⟩
  obtain⟨xs,n,_,_,hl,fq,hx⟩:=DataW.trod_struct bx h
  obtain⟨d0,n5,iy,la⟩:=fS bc fq hx 0 rfl h0
  obtain⟨d1,lz,cu,km⟩:=fS bc fq hx 1 rfl h1
  obtain⟨d2,cx,cB,oW⟩:=fS bc fq hx 2 rfl an
  obtain⟨d3,nt,fo,rH⟩:=fS bc fq hx 3 rfl aF
  refine⟨⟨d0,d1,d2,d3⟩,(),?_,⟨la,km,rH⟩⟩
  have e:cs.drop 0=_:=dL iy 1 rfl
  rw [dL cu 2 rfl,dL cB 3 rfl,dL fo 4 rfl,r4 (hl.trans hc)] at e
  exact e
theorem aiB {P:Program} {t:TypeId} {eE:Array Field} {t0 t1 t2 t3 t4 t5 t6 t7 t8 t9:TypeId} (bx:P.underlying t=some (.struct eE)) (hc:P.cellsOf t=15) (bc:eE.toList.map (fun f=>(f.type,f.offset))=[(t0,0),(t1,1),(t2,2),(t3,3),(t4,4),(t5,5),(t6,8),(t7,9),(t8,13),(t9,14)]) (h0:dH P t0 (List da)) (h1:dH P t1 (Int)) (an:dH P t2 (Int)) (aF:dH P t3 (List aR)) (b1:dH P t4 (List aR)) (bm:dH P t5 (fy)) (cS:dH P t6 (Int)) (cE:dH P t7 (dg)) (dc:dH P t8 (Bool)) (ez:dH P t9 (List Int)):dH P t ax:=by
  refine⟨hc,fun H enc w fuel cs x h=>?_⟩
  obtain⟨xs,n,_,_,hl,fq,hx⟩:=DataW.trod_struct bx h
  obtain⟨d0,n5,iy,la⟩:=fS bc fq hx 0 rfl h0
  obtain⟨d1,lz,cu,km⟩:=fS bc fq hx 1 rfl h1
  obtain⟨d2,cx,cB,oW⟩:=fS bc fq hx 2 rfl an
  obtain⟨d3,nt,fo,rH⟩:=fS bc fq hx 3 rfl aF
  obtain⟨d4,Ca,p8,Np⟩:=fS bc fq hx 4 rfl b1
  obtain⟨d5,ai1,xT,Nq⟩:=fS bc fq hx 5 rfl bm
  obtain⟨d6,ai2,Iu,Nr⟩:=fS bc fq hx 6 rfl cS
  obtain⟨d7,Vm,Iv,Ns⟩:=fS bc fq hx 7 rfl cE
  obtain⟨d8,Cb,kB,VQ⟩:=fS bc fq hx 8 rfl dc
  obtain⟨d9,ai3,abi,ajt⟩:=fS bc fq hx 9 rfl ez
  refine⟨⟨d0,d1,d2,d3,d4,d5,d6,d7,d8,d9⟩,⟨n5,nt,Ca,ai3⟩,?_,⟨la,km,oW,rH,Np,Nq,Nr,Ns,ajt⟩⟩
  have e:cs.drop 0=_:=dL iy 1 rfl
  rw [dL cu 2 rfl,dL cB 3 rfl,dL fo 4 rfl,dL p8 5 rfl,dL xT 8 rfl,dL Iu 9 rfl,dL Iv 13 rfl,dL kB 14 rfl,dL abi 15 rfl,r4 (hl.trans hc)] at e
  exact e
theorem aiF {P:Program} {t:TypeId} {eE:Array Field} {t0 t1 t2 t3 t4 t5 t6 t7 t8:TypeId} (bx:P.underlying t=some (.struct eE)) (hc:P.cellsOf t=9) (bc:eE.toList.map (fun f=>(f.type,f.offset))=[(t0,0),(t1,1),(t2,2),(t3,3),(t4,4),(t5,5),(t6,6),(t7,7),(t8,8)]) (h0:dH P t0 (List aR)) (h1:dH P t1 (List (List Int))) (an:dH P t2 (List Bool)) (aF:dH P t3 (List ax)) (b1:dH P t4 (List Int)) (bm:dH P t5 (Int)) (cS:dH P t6 (Int)) (cE:dH P t7 (List bS)) (dc:dH P t8 (Int)):dH P t aO:=by
  refine⟨hc,fun H enc w fuel cs x h=>?_⟩
  obtain⟨xs,n,_,_,hl,fq,hx⟩:=DataW.trod_struct bx h
  obtain⟨d0,n5,iy,la⟩:=fS bc fq hx 0 rfl h0
  obtain⟨d1,lz,cu,km⟩:=fS bc fq hx 1 rfl h1
  obtain⟨d2,cx,cB,oW⟩:=fS bc fq hx 2 rfl an
  obtain⟨d3,nt,fo,rH⟩:=fS bc fq hx 3 rfl aF
  obtain⟨d4,Ca,p8,Np⟩:=fS bc fq hx 4 rfl b1
  obtain⟨d5,ai1,xT,Nq⟩:=fS bc fq hx 5 rfl bm
  obtain⟨d6,ai2,Iu,Nr⟩:=fS bc fq hx 6 rfl cS
  obtain⟨d7,Vm,Iv,Ns⟩:=fS bc fq hx 7 rfl cE
  obtain⟨d8,Cb,kB,VQ⟩:=fS bc fq hx 8 rfl dc
  refine⟨⟨d0,d1,d2,d3,d4,d5,d6,d7,d8⟩,⟨n5,lz,cx,nt,Ca,Vm⟩,?_,⟨la,km,oW,rH,Np,Nq,Nr,Ns,VQ⟩⟩
  have e:cs.drop 0=_:=dL iy 1 rfl
  rw [dL cu 2 rfl,dL cB 3 rfl,dL fo 4 rfl,dL p8 5 rfl,dL xT 6 rfl,dL Iu 7 rfl,dL Iv 8 rfl,dL kB 9 rfl,r4 (hl.trans hc)] at e
  exact e
theorem aiC {P:Program} {t:TypeId} {eE:Array Field} {t0 t1 t2 t3:TypeId} (bx:P.underlying t=some (.struct eE)) (hc:P.cellsOf t=4) (bc:eE.toList.map (fun f=>(f.type,f.offset))=[(t0,0),(t1,1),(t2,2),(t3,3)]) (h0:dH P t0 (List (List Int))) (h1:dH P t1 (List aO)) (an:dH P t2 (List aH)) (aF:dH P t3 (List aH)):dH P t ah:=by
  refine⟨hc,fun H enc w fuel cs x h=>?_⟩
  obtain⟨xs,n,_,_,hl,fq,hx⟩:=DataW.trod_struct bx h
  obtain⟨d0,n5,iy,la⟩:=fS bc fq hx 0 rfl h0
  obtain⟨d1,lz,cu,km⟩:=fS bc fq hx 1 rfl h1
  obtain⟨d2,cx,cB,oW⟩:=fS bc fq hx 2 rfl an
  obtain⟨d3,nt,fo,rH⟩:=fS bc fq hx 3 rfl aF
  refine⟨⟨d0,d1,d2,d3⟩,⟨n5,lz,cx,nt⟩,?_,⟨la,km,oW,rH⟩⟩
  have e:cs.drop 0=_:=dL iy 1 rfl
  rw [dL cu 2 rfl,dL cB 3 rfl,dL fo 4 rfl,r4 (hl.trans hc)] at e
  exact e
end Go.Proofs.YtjlocpdfcanlhaaGreat
namespace Go.Proofs.YtjlocpdfcanlhaaGreat
open Go
class aS (α:Type) [GT α] where
  aW:α->Nat
  cut:∀{K dh:Nat} {F:au} {w:World} {x:α} {p:GT.Ptr α},GT.rd K F w x p->aW x<=dh->GT.rd dh F w x p
def hg {α:Type} [GT α] [aS α] (xs:List α):Nat:=(xs.map aS.aW).sum
instance:aS Int where
  aW _:=0
  cut h _:=h
instance:aS Bool where
  aW _:=0
  cut h _:=h
theorem gQ (n:Nat) (left:Int):(left-n<0/\ch n left=-1)\/(0<=left-n/\ch n left=left-n):=by
  unfold ch;split<;>omega
section
variable {α:Type} [GT α] [aS α]
theorem uw:hg ([]:List α)=0:=rfl
theorem akE (x:α) (xs:List α):hg (x::xs)=aS.aW x+hg xs:=by simp [hg]
theorem Wg (xs bl:List α):hg (xs++bl)=hg xs+hg bl:=by simp [hg]
theorem akF (xs:List α) (k:Nat):hg xs=hg (xs.take k)+hg (xs.drop k):=by rw [←Wg,List.take_append_drop]
theorem j7 {xs:List α} {k:Nat} (h:k<xs.length):hg (xs.take (k+1))=hg (xs.take k)+aS.aW (el xs k):=by
  rw [List.take_succ_eq_append_getElem h,Wg]
  simp [hg,el,h]
theorem hM (xs:List α) (k:Nat):hg (xs.take k)<=hg xs:=by rw [akF xs k];omega
theorem Gv {xs:List α} {k:Nat} (h:xs.length<=k):hg (xs.take k)=hg xs:=by rw [List.take_of_length_le h]
theorem akB {xs:List α} {k:Nat} (h:k<xs.length):aS.aW (el xs k)<=hg xs:=by
  have h1:=j7 h
  have an:=hM xs (k+1)
  omega
instance:aS (List α) where
  aW xs:=xs.length+hg xs
  cut h hk:=⟨by omega,h.cap,h.at_,h.cell,fun i hi=>aS.cut (h.el i hi) (by have:=akB hi;omega)⟩
theorem nD (xs:List α):aS.aW xs=xs.length+hg xs:=rfl
theorem CS (ej:∀x:α,aS.aW x=0) (xs:List α):hg xs=0:=by
  induction xs with
  |nil=>rfl
  |cons x xs gj=>rw [akE,ej,gj]
end
instance:aS aR where
  aW _:=0
  cut h _:=h
instance:aS bS where
  aW x:=aS.aW x.known+aS.aW x.aZ
  cut h hk:=⟨aS.cut h.known (by omega),aS.cut h.aZ (by omega)⟩
theorem Gu (x:bS):aS.aW x=aS.aW x.known+aS.aW x.aZ:=rfl
instance:aS aH where
  aW _:=0
  cut h _:=h
instance:aS da where
  aW _:=0
  cut h _:=h
instance:aS fy where
  aW _:=0
  cut h _:=h
instance:aS dg where
  aW _:=0
  cut h _:=h
instance:aS ax where
  aW x:=aS.aW x.prog+aS.aW x.written+aS.aW x.live+aS.aW x.seen
  cut h hk:=⟨aS.cut h.prog (by omega),h.acc,h.aw,aS.cut h.written (by omega),aS.cut h.live (by omega),h.aN,h.aC,h.exit,aS.cut h.seen (by omega)⟩
theorem zo (x:ax):aS.aW x=aS.aW x.prog+aS.aW x.written+aS.aW x.live+aS.aW x.seen:=rfl
instance:aS cP where
  aW x:=aS.aW x.mem+aS.aW x.U+aS.aW x.outs
  cut h hk:=⟨aS.cut h.mem (by omega),aS.cut h.U (by omega),aS.cut h.outs (by omega),h.aC⟩
theorem akA (x:cP):aS.aW x=aS.aW x.mem+aS.aW x.U+aS.aW x.outs:=rfl
instance:aS aO where
  aW x:=aS.aW x.outer+aS.aW x.out+aS.aW x.aT+aS.aW x.U+aS.aW x.outs+aS.aW x.tables
  cut h hk:=⟨aS.cut h.outer (by omega),aS.cut h.out (by omega),aS.cut h.aT (by omega),aS.cut h.U (by omega),aS.cut h.outs (by omega),h.aC,h.aY,aS.cut h.tables (by omega),h.owned⟩
theorem uv (x:aO):aS.aW x=aS.aW x.outer+aS.aW x.out+aS.aW x.aT+aS.aW x.U+aS.aW x.outs+aS.aW x.tables:=rfl
instance:aS ah where
  aW x:=aS.aW x.mem+aS.aW x.I+aS.aW x.buf+aS.aW x.ag
  cut h hk:=⟨aS.cut h.mem (by omega),aS.cut h.I (by omega),aS.cut h.buf (by omega),aS.cut h.ag (by omega)⟩
theorem CR (x:ah):aS.aW x=aS.aW x.mem+aS.aW x.I+aS.aW x.buf+aS.aW x.ag:=rfl
instance:aS nH where
  aW _:=0
  cut h _:=h
instance:aS pW where
  aW _:=0
  cut h _:=h
theorem Wc (xs:List Int):aS.aW xs=xs.length:=by rw [nD,CS (fun _=>rfl)];rfl
theorem Wb (xs:List Bool):aS.aW xs=xs.length:=by rw [nD,CS (fun _=>rfl)];rfl
theorem Wf (xs:List aR):aS.aW xs=xs.length:=by rw [nD,CS (fun _=>rfl)];rfl
theorem Wd (xs:List aH):aS.aW xs=xs.length:=by rw [nD,CS (fun _=>rfl)];rfl
theorem We (xs:List da):aS.aW xs=xs.length:=by rw [nD,CS (fun _=>rfl)];rfl
end Go.Proofs.YtjlocpdfcanlhaaGreat
namespace Go.Proofs.YtjlocpdfcanlhaaGreat
open Go
def j8:List au->au
  |[]=>ab
  |G::l=>Or G (j8 l)
theorem J.ahA {X:au}:J ab X:=fun _ h _=>False.elim h
theorem J.or {A C X:au} (h:J A X) (k:J C X):J (Or A C) X:=fun b h1 an=>h1.elim (fun y=>h b y an) (fun y=>k b y an)
theorem J.part {A F X:au} (h:J F X) (s:∀b,A b->F b):J A X:=fun b h1 an=>h b (s b h1) an
theorem akR {l:List au} {G:au} (h:G∈l) (b:Nat) (hb:G b):j8 l b:=by
  induction l with
  |nil=>cases h
  |cons A l gj=>
    rcases List.mem_cons.1 h with rfl|h
    · exact Or.inl hb
    · exact Or.inr (gj h)
theorem qE {l:List au} {X:Nat->Prop} (h:∀G,G∈l->∀b,G b->X b) (b:Nat) (hb:j8 l b):X b:=by
  induction l with
  |nil=>exact False.elim hb
  |cons A l gj=>
    rcases hb with hb|hb
    · exact h A List.mem_cons_self b hb
    · exact gj (fun G cO=>h G (List.mem_cons_of_mem _ cO)) hb
theorem CL {l:List au} (h:l.Pairwise J):nG (j8 l) l:=⟨fun _ cO=>akR cO,h⟩
theorem cz {l:List au} (h:l.Pairwise J) {i j:Nat} {A C:au} (sl:i<j) (hi:l[i]? =some A) (bZ:l[j]? =some C):J A C:=by
  obtain⟨h1,rfl⟩:=List.getElem?_eq_some_iff.1 hi
  obtain⟨an,rfl⟩:=List.getElem?_eq_some_iff.1 bZ
  exact List.pairwise_iff_getElem.1 h i j h1 an sl
section
variable {w0:World} {M:au} {u:World} {N:au}
theorem ma {dE cd:au} {x:bS} {p:fx} (cw:ad w0 M u N dE x.known p.known) (gu:ad w0 M u N cd x.aZ p.aZ) (rV:J dE cd):ad w0 M u N (j8 [dE,cd]) x p:=by
  refine⟨⟨dE,cd,cw.own,gu.own,CL (List.Pairwise.cons (by intro G cO;simp only [List.mem_cons,List.not_mem_nil,or_false] at cO;rcases cO with rfl;exact rV) (List.Pairwise.cons (fun G cO=>by cases cO) List.Pairwise.nil))⟩,?_,?_⟩
  · refine qE fun G cO=>?_
    simp only [List.mem_cons,List.not_mem_nil,or_false] at cO
    rcases cO with rfl|rfl
    · exact cw.sub
    · exact gu.sub
  · refine qE fun G cO=>?_
    simp only [List.mem_cons,List.not_mem_nil,or_false] at cO
    rcases cO with rfl|rfl
    · exact cw.dM
    · exact gu.dM
theorem uu {F:au} {x:bS} {p:fx} (o:ad w0 M u N F x p):∃dE cd:au,ad w0 M u N dE x.known p.known/\ad w0 M u N cd x.aZ p.aZ/\(∀b,dE b->F b)/\(∀b,cd b->F b)/\J dE cd:=by
  obtain⟨⟨dE,cd,dx,cn,s⟩,h1,an⟩:=o
  have gd:∀b,dE b->F b:=s.sub _ (by simp)
  have s1:∀b,cd b->F b:=s.sub _ (by simp)
  exact⟨dE,cd,⟨dx,fun b hb=>h1 b (gd b hb),fun b hb=>an b (gd b hb)⟩,⟨cn,fun b hb=>h1 b (s1 b hb),fun b hb=>an b (s1 b hb)⟩,gd,s1,cz s.cr (i:=0) (j:=1) (by decide) rfl rfl⟩
theorem hK {dE cd br ei:au} {x:ax} {p:c5} (cw:ad w0 M u N dE x.prog p.prog) (gu:ad w0 M u N cd x.written p.written) (bK:ad w0 M u N br x.live p.live) (aA:ad w0 M u N ei x.seen p.seen) (rV:J dE cd) (uW:J dE br) (z5:J dE ei) (uX:J cd br) (z6:J cd ei) (z8:J br ei) (f0:a_ x.acc) (f1:a_ x.aw) (f2:hz x.aN) (f3:a_ x.aC) (f4:fL x.exit):ad w0 M u N (j8 [dE,cd,br,ei]) x p:=by
  refine⟨⟨dE,cd,br,ei,cw.own,gu.own,bK.own,aA.own,CL (List.Pairwise.cons (by intro G cO;simp only [List.mem_cons,List.not_mem_nil,or_false] at cO;rcases cO with rfl|rfl|rfl;exact rV;exact uW;exact z5) (List.Pairwise.cons (by intro G cO;simp only [List.mem_cons,List.not_mem_nil,or_false] at cO;rcases cO with rfl|rfl;exact uX;exact z6) (List.Pairwise.cons (by intro G cO;simp only [List.mem_cons,List.not_mem_nil,or_false] at cO;rcases cO with rfl;exact z8) (List.Pairwise.cons (fun G cO=>by cases cO) List.Pairwise.nil)))),f0,f1,f2,f3,f4⟩,?_,?_⟩
  · refine qE fun G cO=>?_
    simp only [List.mem_cons,List.not_mem_nil,or_false] at cO
    rcases cO with rfl|rfl|rfl|rfl
    · exact cw.sub
    · exact gu.sub
    · exact bK.sub
    · exact aA.sub
  · refine qE fun G cO=>?_
    simp only [List.mem_cons,List.not_mem_nil,or_false] at cO
    rcases cO with rfl|rfl|rfl|rfl
    · exact cw.dM
    · exact gu.dM
    · exact bK.dM
    · exact aA.dM
theorem mP {F:au} {x:ax} {p:c5} (o:ad w0 M u N F x p):∃dE cd br ei:au,ad w0 M u N dE x.prog p.prog/\ad w0 M u N cd x.written p.written/\ad w0 M u N br x.live p.live/\ad w0 M u N ei x.seen p.seen/\(∀b,dE b->F b)/\(∀b,cd b->F b)/\(∀b,br b->F b)/\(∀b,ei b->F b)/\J dE cd/\J dE br/\J dE ei/\J cd br/\J cd ei/\J br ei:=by
  obtain⟨⟨dE,cd,br,ei,dx,cn,a8,b7,s,_,_,_,_,_⟩,h1,an⟩:=o
  have gd:∀b,dE b->F b:=s.sub _ (by simp)
  have s1:∀b,cd b->F b:=s.sub _ (by simp)
  have s2:∀b,br b->F b:=s.sub _ (by simp)
  have nC:∀b,ei b->F b:=s.sub _ (by simp)
  exact⟨dE,cd,br,ei,⟨dx,fun b hb=>h1 b (gd b hb),fun b hb=>an b (gd b hb)⟩,⟨cn,fun b hb=>h1 b (s1 b hb),fun b hb=>an b (s1 b hb)⟩,⟨a8,fun b hb=>h1 b (s2 b hb),fun b hb=>an b (s2 b hb)⟩,⟨b7,fun b hb=>h1 b (nC b hb),fun b hb=>an b (nC b hb)⟩,gd,s1,s2,nC,cz s.cr (i:=0) (j:=1) (by decide) rfl rfl,cz s.cr (i:=0) (j:=2) (by decide) rfl rfl,cz s.cr (i:=0) (j:=3) (by decide) rfl rfl,cz s.cr (i:=1) (j:=2) (by decide) rfl rfl,cz s.cr (i:=1) (j:=3) (by decide) rfl rfl,cz s.cr (i:=2) (j:=3) (by decide) rfl rfl⟩
theorem wI {dE cd br:au} {x:cP} {p:jd} (cw:ad w0 M u N dE x.mem p.mem) (gu:ad w0 M u N cd x.U p.U) (bK:ad w0 M u N br x.outs p.outs) (rV:J dE cd) (uW:J dE br) (uX:J cd br) (f0:a_ x.aC):ad w0 M u N (j8 [dE,cd,br]) x p:=by
  refine⟨⟨dE,cd,br,cw.own,gu.own,bK.own,CL (List.Pairwise.cons (by intro G cO;simp only [List.mem_cons,List.not_mem_nil,or_false] at cO;rcases cO with rfl|rfl;exact rV;exact uW) (List.Pairwise.cons (by intro G cO;simp only [List.mem_cons,List.not_mem_nil,or_false] at cO;rcases cO with rfl;exact uX) (List.Pairwise.cons (fun G cO=>by cases cO) List.Pairwise.nil))),f0⟩,?_,?_⟩
  · refine qE fun G cO=>?_
    simp only [List.mem_cons,List.not_mem_nil,or_false] at cO
    rcases cO with rfl|rfl|rfl
    · exact cw.sub
    · exact gu.sub
    · exact bK.sub
  · refine qE fun G cO=>?_
    simp only [List.mem_cons,List.not_mem_nil,or_false] at cO
    rcases cO with rfl|rfl|rfl
    · exact cw.dM
    · exact gu.dM
    · exact bK.dM
theorem Gr {F:au} {x:cP} {p:jd} (o:ad w0 M u N F x p):∃dE cd br:au,ad w0 M u N dE x.mem p.mem/\ad w0 M u N cd x.U p.U/\ad w0 M u N br x.outs p.outs/\(∀b,dE b->F b)/\(∀b,cd b->F b)/\(∀b,br b->F b)/\J dE cd/\J dE br/\J cd br:=by
  obtain⟨⟨dE,cd,br,dx,cn,a8,s,_⟩,h1,an⟩:=o
  have gd:∀b,dE b->F b:=s.sub _ (by simp)
  have s1:∀b,cd b->F b:=s.sub _ (by simp)
  have s2:∀b,br b->F b:=s.sub _ (by simp)
  exact⟨dE,cd,br,⟨dx,fun b hb=>h1 b (gd b hb),fun b hb=>an b (gd b hb)⟩,⟨cn,fun b hb=>h1 b (s1 b hb),fun b hb=>an b (s1 b hb)⟩,⟨a8,fun b hb=>h1 b (s2 b hb),fun b hb=>an b (s2 b hb)⟩,gd,s1,s2,cz s.cr (i:=0) (j:=1) (by decide) rfl rfl,cz s.cr (i:=0) (j:=2) (by decide) rfl rfl,cz s.cr (i:=1) (j:=2) (by decide) rfl rfl⟩
theorem FO {dE cd br ei fg dU:au} {x:aO} {p:ft} (cw:ad w0 M u N dE x.outer p.outer) (gu:ad w0 M u N cd x.out p.out) (bK:ad w0 M u N br x.aT p.aT) (aA:ad w0 M u N ei x.U p.U) (f_:ad w0 M u N fg x.outs p.outs) (bX:ad w0 M u N dU x.tables p.tables) (rV:J dE cd) (uW:J dE br) (z5:J dE ei) (aaI:J dE fg) (aaJ:J dE dU) (uX:J cd br) (z6:J cd ei) (aaK:J cd fg) (aaL:J cd dU) (z8:J br ei) (aaM:J br fg) (aaN:J br dU) (aaS:J ei fg) (aaT:J ei dU) (aa3:J fg dU) (f0:a_ x.aC) (f1:a_ x.aY) (f2:a_ x.owned):ad w0 M u N (j8 [dE,cd,br,ei,fg,dU]) x p:=by
  refine⟨⟨dE,cd,br,ei,fg,dU,cw.own,gu.own,bK.own,aA.own,f_.own,bX.own,CL (List.Pairwise.cons (by intro G cO;simp only [List.mem_cons,List.not_mem_nil,or_false] at cO;rcases cO with rfl|rfl|rfl|rfl|rfl;exact rV;exact uW;exact z5;exact aaI;exact aaJ) (List.Pairwise.cons (by intro G cO;simp only [List.mem_cons,List.not_mem_nil,or_false] at cO;rcases cO with rfl|rfl|rfl|rfl;exact uX;exact z6;exact aaK;exact aaL) (List.Pairwise.cons (by intro G cO;simp only [List.mem_cons,List.not_mem_nil,or_false] at cO;rcases cO with rfl|rfl|rfl;exact z8;exact aaM;exact aaN) (List.Pairwise.cons (by intro G cO;simp only [List.mem_cons,List.not_mem_nil,or_false] at cO;rcases cO with rfl|rfl;exact aaS;exact aaT) (List.Pairwise.cons (by intro G cO;simp only [List.mem_cons,List.not_mem_nil,or_false] at cO;rcases cO with rfl;exact aa3) (List.Pairwise.cons (fun G cO=>by cases cO) List.Pairwise.nil)))))),f0,f1,f2⟩,?_,?_⟩
  · refine qE fun G cO=>?_
    simp only [List.mem_cons,List.not_mem_nil,or_false] at cO
    rcases cO with rfl|rfl|rfl|rfl|rfl|rfl
    · exact cw.sub
    · exact gu.sub
    · exact bK.sub
    · exact aA.sub
    · exact f_.sub
    · exact bX.sub
  · refine qE fun G cO=>?_
    simp only [List.mem_cons,List.not_mem_nil,or_false] at cO
    rcases cO with rfl|rfl|rfl|rfl|rfl|rfl
    · exact cw.dM
    · exact gu.dM
    · exact bK.dM
    · exact aA.dM
    · exact f_.dM
    · exact bX.dM
theorem akv {F:au} {x:aO} {p:ft} (o:ad w0 M u N F x p):∃dE cd br ei fg dU:au,ad w0 M u N dE x.outer p.outer/\ad w0 M u N cd x.out p.out/\ad w0 M u N br x.aT p.aT/\ad w0 M u N ei x.U p.U/\ad w0 M u N fg x.outs p.outs/\ad w0 M u N dU x.tables p.tables/\(∀b,dE b->F b)/\(∀b,cd b->F b)/\(∀b,br b->F b)/\(∀b,ei b->F b)/\(∀b,fg b->F b)/\(∀b,dU b->F b)/\J dE cd/\J dE br/\J dE ei/\J dE fg/\J dE dU/\J cd br/\J cd ei/\J cd fg/\J cd dU/\J br ei/\J br fg/\J br dU/\J ei fg/\J ei dU/\J fg dU:=by
  obtain⟨⟨dE,cd,br,ei,fg,dU,dx,cn,a8,b7,cC,dJ,s,_,_,_⟩,h1,an⟩:=o
  have gd:∀b,dE b->F b:=s.sub _ (by simp)
  have s1:∀b,cd b->F b:=s.sub _ (by simp)
  have s2:∀b,br b->F b:=s.sub _ (by simp)
  have nC:∀b,ei b->F b:=s.sub _ (by simp)
  have CH:∀b,fg b->F b:=s.sub _ (by simp)
  have ze:∀b,dU b->F b:=s.sub _ (by simp)
  exact⟨dE,cd,br,ei,fg,dU,⟨dx,fun b hb=>h1 b (gd b hb),fun b hb=>an b (gd b hb)⟩,⟨cn,fun b hb=>h1 b (s1 b hb),fun b hb=>an b (s1 b hb)⟩,⟨a8,fun b hb=>h1 b (s2 b hb),fun b hb=>an b (s2 b hb)⟩,⟨b7,fun b hb=>h1 b (nC b hb),fun b hb=>an b (nC b hb)⟩,⟨cC,fun b hb=>h1 b (CH b hb),fun b hb=>an b (CH b hb)⟩,⟨dJ,fun b hb=>h1 b (ze b hb),fun b hb=>an b (ze b hb)⟩,gd,s1,s2,nC,CH,ze,cz s.cr (i:=0) (j:=1) (by decide) rfl rfl,cz s.cr (i:=0) (j:=2) (by decide) rfl rfl,cz s.cr (i:=0) (j:=3) (by decide) rfl rfl,cz s.cr (i:=0) (j:=4) (by decide) rfl rfl,cz s.cr (i:=0) (j:=5) (by decide) rfl rfl,cz s.cr (i:=1) (j:=2) (by decide) rfl rfl,cz s.cr (i:=1) (j:=3) (by decide) rfl rfl,cz s.cr (i:=1) (j:=4) (by decide) rfl rfl,cz s.cr (i:=1) (j:=5) (by decide) rfl rfl,cz s.cr (i:=2) (j:=3) (by decide) rfl rfl,cz s.cr (i:=2) (j:=4) (by decide) rfl rfl,cz s.cr (i:=2) (j:=5) (by decide) rfl rfl,cz s.cr (i:=3) (j:=4) (by decide) rfl rfl,cz s.cr (i:=3) (j:=5) (by decide) rfl rfl,cz s.cr (i:=4) (j:=5) (by decide) rfl rfl⟩
theorem fs {dE cd br ei:au} {x:ah} {p:b_} (cw:ad w0 M u N dE x.mem p.mem) (gu:ad w0 M u N cd x.I p.I) (bK:ad w0 M u N br x.buf p.buf) (aA:ad w0 M u N ei x.ag p.ag) (rV:J dE cd) (uW:J dE br) (z5:J dE ei) (uX:J cd br) (z6:J cd ei) (z8:J br ei):ad w0 M u N (j8 [dE,cd,br,ei]) x p:=by
  refine⟨⟨dE,cd,br,ei,cw.own,gu.own,bK.own,aA.own,CL (List.Pairwise.cons (by intro G cO;simp only [List.mem_cons,List.not_mem_nil,or_false] at cO;rcases cO with rfl|rfl|rfl;exact rV;exact uW;exact z5) (List.Pairwise.cons (by intro G cO;simp only [List.mem_cons,List.not_mem_nil,or_false] at cO;rcases cO with rfl|rfl;exact uX;exact z6) (List.Pairwise.cons (by intro G cO;simp only [List.mem_cons,List.not_mem_nil,or_false] at cO;rcases cO with rfl;exact z8) (List.Pairwise.cons (fun G cO=>by cases cO) List.Pairwise.nil))))⟩,?_,?_⟩
  · refine qE fun G cO=>?_
    simp only [List.mem_cons,List.not_mem_nil,or_false] at cO
    rcases cO with rfl|rfl|rfl|rfl
    · exact cw.sub
    · exact gu.sub
    · exact bK.sub
    · exact aA.sub
  · refine qE fun G cO=>?_
    simp only [List.mem_cons,List.not_mem_nil,or_false] at cO
    rcases cO with rfl|rfl|rfl|rfl
    · exact cw.dM
    · exact gu.dM
    · exact bK.dM
    · exact aA.dM
theorem jR {F:au} {x:ah} {p:b_} (o:ad w0 M u N F x p):∃dE cd br ei:au,ad w0 M u N dE x.mem p.mem/\ad w0 M u N cd x.I p.I/\ad w0 M u N br x.buf p.buf/\ad w0 M u N ei x.ag p.ag/\(∀b,dE b->F b)/\(∀b,cd b->F b)/\(∀b,br b->F b)/\(∀b,ei b->F b)/\J dE cd/\J dE br/\J dE ei/\J cd br/\J cd ei/\J br ei:=by
  obtain⟨⟨dE,cd,br,ei,dx,cn,a8,b7,s⟩,h1,an⟩:=o
  have gd:∀b,dE b->F b:=s.sub _ (by simp)
  have s1:∀b,cd b->F b:=s.sub _ (by simp)
  have s2:∀b,br b->F b:=s.sub _ (by simp)
  have nC:∀b,ei b->F b:=s.sub _ (by simp)
  exact⟨dE,cd,br,ei,⟨dx,fun b hb=>h1 b (gd b hb),fun b hb=>an b (gd b hb)⟩,⟨cn,fun b hb=>h1 b (s1 b hb),fun b hb=>an b (s1 b hb)⟩,⟨a8,fun b hb=>h1 b (s2 b hb),fun b hb=>an b (s2 b hb)⟩,⟨b7,fun b hb=>h1 b (nC b hb),fun b hb=>an b (nC b hb)⟩,gd,s1,s2,nC,cz s.cr (i:=0) (j:=1) (by decide) rfl rfl,cz s.cr (i:=0) (j:=2) (by decide) rfl rfl,cz s.cr (i:=0) (j:=3) (by decide) rfl rfl,cz s.cr (i:=1) (j:=2) (by decide) rfl rfl,cz s.cr (i:=1) (j:=3) (by decide) rfl rfl,cz s.cr (i:=2) (j:=3) (by decide) rfl rfl⟩
end
end Go.Proofs.YtjlocpdfcanlhaaGreat
namespace Go.Proofs.YtjlocpdfcanlhaaGreat
open Go
def j2 (l:List aR) (page:Int) (k:Nat):Int:=
  if k<l.length then(if(el l k).page=page then k else j2 l page (k+1)) else-1
termination_by l.length-k
theorem Mu {l:List aR} {page:Int} {k:Nat} (h:k<l.length) (e:(el l k).page=page):j2 l page k=k:=by
  rw [j2,if_pos h,if_pos e]
theorem Mv {l:List aR} {page:Int} {k:Nat} (h:k<l.length) (e:¬(el l k).page=page):j2 l page k=j2 l page (k+1):=by
  rw [j2,if_pos h,if_neg e]
theorem Mt {l:List aR} {page:Int} {k:Nat} (h:l.length<=k):j2 l page k=-1:=by
  rw [j2,if_neg (by omega)]
def iz (ms:List aO) (page:Int) (i:Nat):Int×Int:=
  if i<ms.length then(if j2 (el ms i).outer page 0<0 then iz ms page (i+1) else((i:Int),j2 (el ms i).outer page 0)) else(-1,-1)
termination_by ms.length-i
theorem U3 {ms:List aO} {page:Int} {i k:Nat} (h:i<ms.length) (e:j2 (el ms i).outer page 0=k):iz ms page i=((i:Int),(k:Int)):=by
  rw [iz,if_pos h,if_neg (by omega),e]
theorem U4 {ms:List aO} {page:Int} {i:Nat} (h:i<ms.length) (e:j2 (el ms i).outer page 0=-1):iz ms page i=iz ms page (i+1):=by
  rw [iz,if_pos h,if_pos (by omega)]
theorem Ms {ms:List aO} {page:Int} {i:Nat} (h:ms.length<=i):iz ms page i=(-1,-1):=by
  rw [iz,if_neg (by omega)]
def ea (h:ah) (page:Int):Int×Int:=if page<0 then(-1,-1) else iz h.I page 0
theorem My {h:ah} {page:Int} (e:page<0):ea h page=(-1,-1):=if_pos e
theorem Mz {h:ah} {page:Int} (e:¬page<0):ea h page=iz h.I page 0:=if_neg e
theorem U8 {h:ah} {page:Int} (e:iz h.I page 0=(-1,-1)):ea h page=(-1,-1):=by
  unfold ea;split
  · rfl
  · exact e
def abM (k:bS):Int:=((k.known.filter fun b=>b).length:Int)
end Go.Proofs.YtjlocpdfcanlhaaGreat
namespace Go.Proofs.YtjlocpdfcanlhaaGreat
open Go
theorem pY {α:Type} [GT α] {xs:List α} {p:α->Bool} {k:Nat} (h:k<xs.length) (e:(xs.take k).all p=true) (h9:p (el xs k)=true):(xs.take (k+1)).all p=true:=by
  rw [jb h,List.all_append];simp [e,h9]
theorem mi {α:Type} [GT α] {xs:List α} {p:α->Bool} {k:Nat} (h:k<xs.length) (h9:p (el xs k)=false):xs.all p=false:=by
  rw [←Bool.not_eq_true]
  intro hc
  rw [List.all_eq_true] at hc
  have hx:=hc (el xs k) (by rw [p_ h];exact List.getElem_mem h)
  rw [hx] at h9
  cases h9
theorem eY {α:Type} {xs:List α} {p:α->Bool} {k:Nat} (h:xs.length<=k) (e:(xs.take k).all p=true):xs.all p=true:=by rwa [ff h] at e
theorem s9 {α:Type} [GT α] {xs:List α} {p:α->Bool} (e:xs.all p=true) {k:Nat} (h:k<xs.length):p (el xs k)=true:=by
  rw [List.all_eq_true] at e
  exact e _ (by rw [p_ h];exact List.getElem_mem h)
theorem tt {α β:Type} [GT α] {f:β->α->β} {z:β} {xs:List α} {k:Nat} (h:k<xs.length):(xs.take (k+1)).foldl f z=f ((xs.take k).foldl f z) (el xs k):=by
  rw [jb h,List.foldl_append];rfl
theorem Rq {α β:Type} {f:β->α->β} {z:β} {xs:List α} {k:Nat} (h:xs.length<=k):(xs.take k).foldl f z=xs.foldl f z:=by rw [ff h]
theorem rK {p:Nat->Bool} {k:Nat} (e:(List.range k).all p=true) (h9:p k=true):(List.range (k+1)).all p=true:=by
  rw [List.range_succ,List.all_append];simp [e,h9]
theorem Gc {p:Nat->Bool} {k n:Nat} (h:k<n) (h9:p k=false):(List.range n).all p=false:=by
  rw [←Bool.not_eq_true]
  intro hc
  rw [List.all_eq_true] at hc
  have hx:=hc k (List.mem_range.2 h)
  rw [hx] at h9
  cases h9
theorem Gd {p:Nat->Bool} {n k:Nat} (e:(List.range n).all p=true) (h:k<n):p k=true:=by
  rw [List.all_eq_true] at e
  exact e _ (List.mem_range.2 h)
def abL (t:List bS) (n:Int):Int:=t.foldl (fun n k=>IntKind.i64.wrap (n+abM k)) n
def anR (h:ah):Int:=h.I.foldl (fun n m=>abL m.tables n) 0
def m6 (i:da):Bool:=
  if i.eL=1\/i.eL=2\/i.eL=5\/i.eL=6 then a3 i.x 0 99
  else if i.eL=3\/i.eL=4 then a3 i.x 0 15
  else if i.eL=7 then i.x==0
  else if i.eL=8 then a3 i.x 0 11 else false
def kf (p:List da):Bool:=p.all m6&&a3 p.length 1 12
def g8 (s:aR) (ep:Int):Bool:=decide (s=⟨-1,0⟩)||(decide (0<ep)&&a3 s.page 0 (ep-1)&&a3 s.bg 1 3)
def gZ (t:List aR) (size ep:Int):Bool:=t.all (fun s=>g8 s ep)&&((t.length:Int)==size)
theorem w3 {t:List aR} {size ep:Int} (h:gZ t size ep=true):(t.length:Int)=size:=by
  simp [gZ] at h;exact h.2
theorem CU {t:List aR} {size ep:Int} (h:gZ t size ep=true) {k:Nat} (hk:k<t.length):g8 (el t k) ep=true:=by
  simp only [gZ,Bool.and_eq_true] at h
  exact s9 h.1 hk
def ho (c:List Int):Bool:=c.all (fun v=>a3 v 0 99)&&((c.length:Int)==4)
def ib (m:List (List Int)) (ep:Int):Bool:=m.all ho&&((m.length:Int)==ep)
def fj (r n:Int):Bool:=a3 r 0 3&&a3 n 0 3&&(jK r n==n)
def m4 (c:fy):List Int:=
  (if a3 c.aY 0 3 then [] else [1])++(if a3 c.post 0 255 then [] else [2])++(if c.post≠0/\c.e4=false then [3] else [])++(if c.aY=2/\c.post≠0 then [4] else [])
def m5 (c:fy):Bool:=((m4 c).length:Int)==0
def va (e:dg):Bool:=
  if e.kind=0\/e.kind=4 then decide (e.page=0)&& !e.wr&&decide (e.n=0)
  else if e.kind=1 then a3 e.page 0 3&&decide (e.n=0)
  else if e.kind=2\/e.kind=3 then a3 e.n 0 99&&decide (e.page=0)&& !e.wr else false
def kC (g:ax):Bool:=
  kf g.prog&&a3 g.acc 0 99&&a3 g.aw 0 12&&gZ g.written 4 8&&gZ g.live 4 8&&m5 g.aN&&a3 g.aC 0 255&&va g.exit&&decide ((g.seen.length:Int)<=40)
def nS (m:aO) (i:Nat):Bool:=
  if el m.outer i=⟨-1,0⟩ then ho (el m.out i) else fj (el m.outer i).bg 1&&decide ((el m.out i).length=0)
def ow (m:aO):Bool:=
  a3 m.U.length 1 2&&decide (m.tables.length=m.U.length)&&gZ m.outer 8 12&&decide (m.out.length=8)&&decide (m.aT.length=8)
def qY (m:aO):Bool:=decide (m.outs.length<=40)&&a3 m.aC 0 255&&a3 m.aY 0 3&&a3 m.owned 0 1000000000
def hS (m:aO):Bool:=ow m&&qY m&&m.U.all kC&&(List.range 8).all (nS m)
theorem re {m:aO} (h:hS m=true):m.outer.length=8/\gZ m.outer 8 12=true:=by
  simp only [hS,ow,Bool.and_eq_true] at h
  have h1:=h.1.1.1.1.1.2
  exact⟨by have:=w3 h1;omega,h1⟩
def aK (h:ah) (m:Int):aO×Bool:=if 0<=m/\m<h.I.length then(el h.I m.toNat,true) else(⟨[],[],[],[],[],0,0,[],0⟩,false)
def anX (h:ah) (m:Int):Int:=(aK h m).1.owned
end Go.Proofs.YtjlocpdfcanlhaaGreat
namespace Go.Proofs.YtjlocpdfcanlhaaGreat
open Go
def lO (n:Nat) (p:Nat->Bool):List Int:=((List.range n).filter p).map fun(i:Nat)=>(i:Int)
theorem mD {k:Nat} {p:Nat->Bool} (h:p k=true):lO (k+1) p=lO k p++[(k:Int)]:=by
  unfold lO;rw [List.range_succ,List.filter_append,List.map_append];simp [h]
theorem mC {k:Nat} {p:Nat->Bool} (h:p k=false):lO (k+1) p=lO k p:=by
  unfold lO;rw [List.range_succ,List.filter_append,List.map_append];simp [h]
theorem yN (n:Nat) (p:Nat->Bool):(lO n p).length<=n:=by
  unfold lO;rw [List.length_map];exact Nat.le_trans (List.length_filter_le _ _) (by simp)
def en (h:ah):List Int:=lO h.mem.length fun p=>decide ((ea h p).1<0)
def lN (g:ax):Bool:=decide (g.exit=⟨0,0,false,0⟩)&& !g.halted
def abV (l:List ax):List Int:=lO l.length fun i=>lN (el l i)
def an1 (h:ah):List (List Int):=h.I.map fun m=>abV m.U
def gy (t:List aR) (page:Int):List Int:=lO t.length fun i=>decide ((el t i).page=page)
def eV (t:List aR) (page:Int):aR:=if 0<=page/\page<t.length then el t page.toNat else⟨-1,0⟩
theorem akt {K:Nat} {F:au} {w:World} {t:List aR} {p:aD aR} (h:GT.rd K F w t p) (page:Int):ed (eV t page):=by
  unfold eV
  split
  · exact ae.el h _ (by omega)
  · exact⟨⟨by decide,by decide⟩,⟨by decide,by decide⟩⟩
def hn (m:List (List Int)) (page:Int):List Int:=if 0<=page/\page<m.length then el m page.toNat else [0,0,0,0]
def ox (h:ah) (m page:Int):List Int:=
  if(0<=m/\m<h.I.length)/\0<=page/\page<8 then
    (if(eV (el h.I m.toNat).outer page).page≠ -1 then hn h.mem (eV (el h.I m.toNat).outer page).page else hn (el h.I m.toNat).out page)
  else [0,0,0,0]
theorem QU {α:Type} [GT α] {xs:List α} {i k:Nat} (h:k<i):el (xs.take i) k=el xs k:=by
  unfold el
  rw [List.getD_eq_getElem?_getD,List.getD_eq_getElem?_getD,List.getElem?_take_of_lt h]
def ot (b:List aH):Bool:=
  (List.range b.length).all (fun i=>(List.range i).all fun k=>!(decide ((el b i).tag=(el b k).tag)&&decide ((el b i).page=(el b k).page)))&&decide ((b.length:Int)<=6)
def oa (u:Option (List Bool)) (s:aR):Option (List Bool):=u.bind fun u=>if s.page<0 then some u else if el u s.page.toNat then none else some (u.set s.page.toNat true)
def pQ (u:Option (List Bool)) (m:aO):Option (List Bool):=u.bind fun u=>if hS m then m.outer.foldl oa (some u) else none
def qb (h:ah):Bool:=ib h.mem 12&&a3 h.I.length 1 3&&ot h.buf&&ot h.ag
def tl (h:ah):Option (List Bool):=h.I.foldl pQ (some (List.replicate 12 false))
def eJ (h:ah):Bool:=qb h&&(tl h).isSome
theorem x8 {α β:Type} [GT α] {f:Option β->α->Option β} {z u:Option β} {xs:List α} {k:Nat} (hk:k<xs.length) (cY:∀x,f none x=none) (h:(xs.take k).foldl f z=u) (h1:f u (el xs k)=none):xs.foldl f z=none:=by
  have key:∀bl:List α,bl.foldl f none=none:=fun bl=>by
    induction bl with
    |nil=>rfl
    |cons y r gj=>simp only [List.foldl_cons,cY,gj]
  have e:xs=xs.take k++el xs k::xs.drop (k+1):=by
    rw [p_ hk,←List.drop_eq_getElem_cons hk,List.take_append_drop]
  rw [e,List.foldl_append,h,List.foldl_cons,h1,key]
theorem V9 (s:aR):oa none s=none:=rfl
theorem CO (m:aO):pQ none m=none:=rfl
theorem CQ {u:List Bool} {s:aR} (h:s.page<0):oa (some u) s=some u:=by simp [oa,h]
theorem NV {u:List Bool} {s:aR} (h:¬s.page<0) (cl:el u s.page.toNat=true):oa (some u) s=none:=by simp [oa,h,cl]
theorem sW {u:List Bool} {s:aR} (h:¬s.page<0) (cl:el u s.page.toNat=false):oa (some u) s=some (u.set s.page.toNat true):=by simp [oa,h,cl]
theorem NT {u:List Bool} {m:aO} (h:hS m=false):pQ (some u) m=none:=by simp [pQ,h]
theorem CP {u:List Bool} {m:aO} (h:hS m=true):pQ (some u) m=m.outer.foldl oa (some u):=by simp [pQ,h]
theorem Vs {m:aO} (h:hS m=true) (k:Nat):(el m.outer k).page<12:=by
  by_cases hk:k<m.outer.length
  · have h1:=CU (re h).2 hk
    simp only [g8,Bool.or_eq_true,Bool.and_eq_true,decide_eq_true_eq] at h1
    rcases h1 with h1|h1
    · rw [h1];decide
    · have:=cV h1.1.2;omega
  · unfold el
    rw [List.getD_eq_getElem?_getD,List.getElem?_eq_none (by omega)]
    decide
theorem EG {h:ah} (e:tl h=none):eJ h=false:=by simp [eJ,e]
theorem sq {h:ah} (e:eJ h=true):1<=h.I.length/\h.I.length<=3/\h.mem.length=12:=by
  simp only [eJ,qb,ib,Bool.and_eq_true,beq_iff_eq] at e
  have h1:=cV e.1.1.1.2
  have an:=e.1.1.1.1.2
  omega
def fk (h:ah) (m:Int):cP:=
  if 0<=m/\m<h.I.length then⟨(List.range 8).map (fun(i:Nat)=>ox h m (i:Int)),(el h.I m.toNat).U,(el h.I m.toNat).outs,(el h.I m.toNat).aC⟩ else⟨[],[],[],0⟩
def Q7 (h:ah):List cP:=(List.range h.I.length).map fun(i:Nat)=>fk h (i:Int)
theorem ajw {α:Type} {f:Nat->α} {k:Nat}:(List.range (k+1)).map f=(List.range k).map f++[f k]:=by
  rw [List.range_succ,List.map_append];rfl
theorem tQ {h:ah} {m:Int} (e:(aK h m).2=true):0<=m/\m<h.I.length:=by
  unfold aK at e
  split at e
  · assumption
  · cases e
theorem Uj {h:ah} {m:Int} (e:(aK h m).2=false):¬(0<=m/\m<h.I.length):=by
  unfold aK at e
  split at e
  · cases e
  · assumption
theorem wu {h:ah} {m:Int} (e:0<=m/\m<h.I.length):(aK h m).1=el h.I m.toNat:=by
  unfold aK;rw [if_pos e]
def abK (h:ah) (l:List cP):Bool:=decide (Q7 h=l)
def an2 (a b:ah):Bool:=abK a (Q7 b)
def an6 (h:ah) (m:Int) (x:aO):ah:=if 0<=m/\m<h.I.length then⟨h.mem,h.I.set m.toNat x,h.buf,h.ag⟩ else h
def an3 (h:ah) (m aY:Int):ah×Bool:=
  if eJ h=true/\(0<=m/\m<h.I.length)/\0<=aY/\aY<=3 then(⟨h.mem,h.I.set m.toNat {el h.I m.toNat with aY:=aY},h.buf,h.ag⟩,true) else(h,false)
end Go.Proofs.YtjlocpdfcanlhaaGreat
