/- Worlds that agree on some blocks; typed data read off memory: a class of types whose values are cells given by data and pointers. No program is named here. -/
import Derived.Below
import Derived.Deep.MidRow
import Derived.Laws.CopyRow
import Derived.Orders
import Derived.Deep.Quiet
import Derived.IntWalk
import Derived.Laws.StructEq
import Derived.OpenShut
import Derived.Deep.Slices
namespace Go.Proofs.YtjlocpdfcanlhaaGreat
open Go
abbrev au:=Nat->Prop
def J (A B:au):Prop:=∀b,A b->B b->False
theorem J.w {A B C:au} (d:∀b,B b->C b->False) (h:∀b,A b->B b):J A C:=fun b x y=>d b (h b x) y
def fc (n:Nat):au:=fun b=>b<n
def kT (lo hi:Nat):au:=fun b=>lo<=b/\b<hi
def ab:au:=fun _=>False
theorem J.symm {A B:au} (h:J A B):J B A:=fun b x y=>h b y x
structure bu (M:au) (w w':World):Prop where
  os:w'.os=w.os
  tape:w'.tape=w.tape
  output:w'.output=w.output
  size:w.heap.size<=w'.heap.size
  block:∀k,k<w.heap.size->¬M k->w'.heap[k]? =w.heap[k]?
theorem bu.refl (M:au) (w:World):bu M w w:=⟨rfl,rfl,rfl,Nat.le_refl _,fun _ _ _=>rfl⟩
theorem bu.step {M zn:au} {a b c:World} (h:bu M a b) (k:bu zn b c) (hm:∀x,x<a.heap.size->zn x->M x):bu M a c:=
  ⟨k.os.trans h.os,k.tape.trans h.tape,k.output.trans h.output,Nat.le_trans h.size k.size,fun x hx cX=>
    (k.block x (Nat.lt_of_lt_of_le hx h.size) (fun a9=>cX (hm x hx a9))).trans (h.block x hx cX)⟩
theorem bu.mono {M zn:au} {a b:World} (h:bu M a b) (hm:∀x,M x->zn x):bu zn a b:=
  ⟨h.os,h.tape,h.output,h.size,fun x hx cX=>h.block x hx (fun q=>cX (hm x q))⟩
theorem bu.trans {M:au} {a b c:World} (h:bu M a b) (k:bu M b c):bu M a c:=h.step k fun _ _ x=>x
theorem bu.below {w w':World} (h:bu ab w w'):RowKit.Below w.heap.size w w':=
  ⟨h.os,h.tape,h.output,h.size,fun k hk=>h.block k hk (fun x=>x)⟩
theorem bu.draw (M:au) (w:World) (n:Nat):bu M w {w with drawn:=n}:=⟨rfl,rfl,rfl,Nat.le_refl _,fun _ _ _=>rfl⟩
theorem bu.push (M:au) (w:World) (o:Obj):bu M w {w with heap:=w.heap.push o}:=
  ⟨rfl,rfl,rfl,by simp,fun k hk _=>by simp [Array.getElem?_push,Nat.ne_of_lt hk]⟩
theorem heap_setCell (w:World) (a:Addr) (v:Value) (k:Nat) (h:k≠a.block):(w.setCell a v).heap[k]? =w.heap[k]? :=by
  simp only [World.setCell,Array.getElem?_modify]
  rw [if_neg (fun e=>h e.symm)]
theorem size_setCell (w:World) (a:Addr) (v:Value):(w.setCell a v).heap.size=w.heap.size:=by simp [World.setCell]
theorem bu.setCell {M:au} (w:World) (a:Addr) (v:Value) (h:M a.block):bu M w (w.setCell a v):=
  ⟨rfl,rfl,rfl,by rw [size_setCell];exact Nat.le_refl _,fun k _ cX=>heap_setCell w a v k (fun e=>cX (e▸h))⟩
abbrev Plain (v:Value):Prop:=v.oneCell'=true
abbrev kQ (w:World) (b o:Nat) (cs:List Value):Prop:=w.rangeAt b o cs
theorem P7 {w w':World} {a:Addr} (h:w'.heap[a.block]? =w.heap[a.block]?):w'.cell? a=w.cell? a:=by
  unfold World.cell?;rw [h]
theorem kQ.uw {w w':World} {b o:Nat} {cs:List Value} (h:kQ w b o cs) (e:w'.heap[b]? =w.heap[b]?):kQ w' b o cs:=
  fun j v b0=>(P7 (a:=⟨b,o+j,none⟩) e).trans (h j v b0)
theorem aaa {w:World} {a:Addr} {v:Value} (h:w.cell? a=some v):a.block<w.heap.size:=by
  unfold World.cell? at h
  rcases Nat.lt_or_ge a.block w.heap.size with hl|hl
  · exact hl
  · rw [Array.getElem?_eq_none hl] at h;cases h
theorem kQ.lt {w:World} {b o:Nat} {cs:List Value} (h:kQ w b o cs) (hc:0<cs.length):b<w.heap.size:=by
  have:=h 0 _ (List.getElem?_eq_getElem hc)
  exact aaa this
def a_ (x:Int):Prop:=-9223372036854775808<=x/\x<=9223372036854775807
structure l8 where
  nil:Bool
  b:Nat
  off:Nat
  cap:Nat
  rE:Option Addr
def l8.addr (p:l8):Option Addr:=bif p.nil then p.rE else some ⟨p.b,p.off,none⟩
abbrev aa (x:Int):Value:= .int .i64 x
abbrev B (b:Bool):Value:= .bool b
abbrev R (n:Nat) (p:l8):Value:= .slice p.addr n p.cap
abbrev bg (b o:Nat):Value:= .pointer (some ⟨b,o,none⟩)
class GT (α:Type) where
  Ptr:Type
  eK:α
  cY:Ptr
  width:Nat
  agg:Bool
  cells:α->Ptr->List Value
  rd:Nat->au->World->α->Ptr->Prop
  own:Nat->au->World->α->Ptr->Prop
  jM:0<width
  len:∀x p,(cells x p).length=width
  one:agg=false->width=1
  plain:∀x p v,v∈cells x p->Plain v
  eB:∀{K di:Nat} {F G:au} {w:World} {x:α} {p:Ptr},rd K F w x p->K<=di->(∀b,F b->G b)->rd di G w x p
  gl:∀{K:Nat} {F:au} {w w':World} {x:α} {p:Ptr},rd K F w x p->(∀b,F b->b<w.heap.size->w'.heap[b]? =w.heap[b]?)->rd K F w' x p
  gz:∀{K:Nat} {F:au} {w:World} {x:α} {p:Ptr},rd K F w x p->rd K (fun b=>F b/\b<w.heap.size) w x p
  fK:∀{K di:Nat} {F G:au} {w:World} {x:α} {p:Ptr},own K F w x p->K<=di->(∀b,F b->G b)->own di G w x p
  b8:∀{K:Nat} {F:au} {w w':World} {x:α} {p:Ptr},own K F w x p->(∀b,F b->b<w.heap.size->w'.heap[b]? =w.heap[b]?)->own K F w' x p
  gI:∀{K:Nat} {F:au} {w:World} {x:α} {p:Ptr},own K F w x p->own K (fun b=>F b/\b<w.heap.size) w x p
  gj:∀{K:Nat} {F:au} {w:World} {x:α} {p:Ptr},own K F w x p->rd K F w x p
  gr:∀(K:Nat) (F:au) (w:World),own K F w eK cY
def GT.val {α:Type} [GT α] (x:α) (p:GT.Ptr α):Value:=bif GT.agg α then .agg (GT.cells x p).toArray else(GT.cells x p).headD undef
instance:GT Int where
  Ptr:=Unit
  eK:=0
  cY:=()
  width:=1
  agg:=false
  cells x _:=[aa x]
  rd _ _ _ x _:=a_ x
  own _ _ _ x _:=a_ x
  jM:=Nat.one_pos
  len _ _:=rfl
  one _:=rfl
  plain _ _ v h:=by simp at h;subst h;rfl
  eB h _ _:=h
  gl h _:=h
  gz h:=h
  fK h _ _:=h
  b8 h _:=h
  gI h:=h
  gj h:=h
  gr _ _ _:=⟨by decide,by decide⟩
instance:GT Bool where
  Ptr:=Unit
  eK:=false
  cY:=()
  width:=1
  agg:=false
  cells x _:=[B x]
  rd _ _ _ _ _:=True
  own _ _ _ _ _:=True
  jM:=Nat.one_pos
  len _ _:=rfl
  one _:=rfl
  plain _ _ v h:=by simp at h;subst h;rfl
  eB h _ _:=h
  gl h _:=h
  gz h:=h
  fK h _ _:=h
  b8 h _:=h
  gI h:=h
  gj h:=h
  gr _ _ _:=trivial
section lists
variable {α:Type} [GT α]
def el (xs:List α) (i:Nat):α:=xs.getD i (GT.eK)
abbrev aC (α:Type) [GT α]:=l8×(Nat->GT.Ptr α)
structure af (K:Nat) (F:au) (w:World) (xs:List α) (p:aC α):Prop where
  le:xs.length<=K
  cap:xs.length<=p.1.cap
  at_:0<xs.length->p.1.nil=false/\F p.1.b
  cell:∀i,i<xs.length->kQ w p.1.b (p.1.off+i*GT.width α) (GT.cells (el xs i) (p.2 i))
  el:∀i,i<xs.length->GT.rd K F w (el xs i) (p.2 i)
structure g1 (K:Nat) (F:au) (w:World) (xs:List α) (p:aC α):Prop where
  le:xs.length<=K
  cap:xs.length<=p.1.cap
  o5:p.1.cap<=9223372036854775807
  null:p.1.nil=true->p.1.cap=0
  row:p.1.nil=false->F p.1.b/\∃(cs:Array Value) (T:TypeId),w.heap[p.1.b]? =some (.cells cs T (0,0))/\p.1.off+p.1.cap*GT.width α<=cs.size
  cell:∀i,i<xs.length->kQ w p.1.b (p.1.off+i*GT.width α) (GT.cells (Go.Proofs.YtjlocpdfcanlhaaGreat.el xs i) (p.2 i))
  el:∃G:Nat->au,(∀i,i<xs.length->GT.own K (G i) w (Go.Proofs.YtjlocpdfcanlhaaGreat.el xs i) (p.2 i))/\(∀i,i<xs.length->∀b,G i b->F b/\b≠p.1.b)/\(∀i j,i<xs.length->j<xs.length->i≠j->J (G i) (G j))
instance:GT (List α) where
  Ptr
      :=aC α
  eK:=[]
  cY:=(⟨true,0,0,0,none⟩,fun _=>GT.cY)
  width:=1
  agg:=false
  cells xs p:=[R xs.length p.1]
  rd:=af
  own:=g1
  jM:=Nat.one_pos
  len _ _:=rfl
  one _:=rfl
  plain _ _ v h:=by simp at h;subst h;rfl
  eB h hk bf:=⟨Nat.le_trans h.le hk,h.cap,fun z=>⟨(h.at_ z).1,bf _ (h.at_ z).2⟩,h.cell,fun i hi=>GT.eB (h.el i hi) hk bf⟩
  gl h hw:=⟨h.le,h.cap,h.at_,fun i hi=>
      (h.cell i hi).uw (hw _ (h.at_ (Nat.lt_of_le_of_lt (Nat.zero_le _) hi)).2 ((h.cell i hi).lt (by rw [GT.len];exact GT.jM))),
    fun i hi=>GT.gl (h.el i hi) hw⟩
  gz h:=⟨h.le,h.cap,fun z=>⟨(h.at_ z).1,(h.at_ z).2,(h.cell 0 z).lt (by rw [GT.len];exact GT.jM)⟩,h.cell,fun i hi=>GT.gz (h.el i hi)⟩
  fK h hk bf:=by
    obtain⟨G,cm,a8,b4⟩:=h.el
    exact⟨Nat.le_trans h.le hk,h.cap,h.o5,h.null,fun z=>⟨bf _ (h.row z).1,(h.row z).2⟩,h.cell,G,fun i hi=>GT.fK (cm i hi) hk (fun _ x=>x),fun i hi b hb=>⟨bf _ (a8 i hi b hb).1,(a8 i hi b hb).2⟩,b4⟩
  b8:=by
    intro K F w w' xs p h hw
    have Bl:∀i,i<xs.length->p.1.nil=false:=fun i hi=>by
      cases cX:p.1.nil with
      |false=>rfl
      |true=>have:=h.null cX;have:=h.cap;omega
    have eP:p.1.nil=false->p.1.b<w.heap.size:=fun cX=>by
      obtain⟨_,cs,T,an,_⟩:=h.row cX
      rcases Nat.lt_or_ge p.1.b w.heap.size with hl|hl
      · exact hl
      · rw [Array.getElem?_eq_none hl] at an;cases an
    obtain⟨G,cm,a8,b4⟩:=h.el
    refine⟨h.le,h.cap,h.o5,h.null,fun z=>?_,fun i hi=>(h.cell i hi).uw (hw _ (h.row (Bl i hi)).1 (eP (Bl i hi))),G,fun i hi=>GT.b8 (cm i hi) (fun b hb hl=>hw b (a8 i hi b hb).1 hl),a8,b4⟩
    obtain⟨h1,cs,T,an,aF⟩:=h.row z
    exact⟨h1,cs,T,(hw _ h1 (eP z)).trans an,aF⟩
  gI:=by
    intro K F w xs p h
    have eP:p.1.nil=false->p.1.b<w.heap.size:=fun cX=>by
      obtain⟨_,cs,T,an,_⟩:=h.row cX
      rcases Nat.lt_or_ge p.1.b w.heap.size with hl|hl
      · exact hl
      · rw [Array.getElem?_eq_none hl] at an;cases an
    obtain⟨G,cm,a8,b4⟩:=h.el
    exact⟨h.le,h.cap,h.o5,h.null,fun z=>⟨⟨(h.row z).1,eP z⟩,(h.row z).2⟩,h.cell,fun i b=>G i b/\b<w.heap.size,fun i hi=>GT.gI (cm i hi),
      fun i hi b hb=>⟨⟨(a8 i hi b hb.1).1,hb.2⟩,(a8 i hi b hb.1).2⟩,fun i j hi b0 cX b x y=>b4 i j hi b0 cX b x.1 y.1⟩
  gj:=by
    intro K F w xs p h
    have Bl:0<xs.length->p.1.nil=false:=fun hi=>by
      cases cX:p.1.nil with
      |false=>rfl
      |true=>have:=h.null cX;have:=h.cap;omega
    obtain⟨G,cm,a8,b4⟩:=h.el
    exact⟨h.le,h.cap,fun z=>⟨Bl z,(h.row (Bl z)).1⟩,h.cell,fun i hi=>GT.gj (GT.fK (cm i hi) (Nat.le_refl _) (fun b hb=>(a8 i hi b hb).1))⟩
  gr K F w:=⟨Nat.zero_le _,Nat.zero_le _,Nat.zero_le _,fun _=>rfl,fun h=>(by cases h),fun i hi=>absurd hi (Nat.not_lt_zero _),fun _=>ab,fun i hi=>absurd hi (Nat.not_lt_zero _),fun i hi=>absurd hi (Nat.not_lt_zero _),fun i _ hi=>absurd hi (Nat.not_lt_zero _)⟩
end lists
end Go.Proofs.YtjlocpdfcanlhaaGreat
namespace Go.Proofs.YtjlocpdfcanlhaaGreat
open Go
inductive eJ where
  |v (x:Value)
  |p (k off:Nat)
def eJ.val (β:Nat->Nat):eJ->Value
  | .v x=>x
  | .p k o=>bg (β k) o
abbrev Env:=List (Nat×eJ)
def look:Env->Nat->Option eJ
  |[],_=>none
  |(s,x)::r,t=>bif Nat.beq s t then some x else look r t
structure b1 where
  env:Env
  aM:List (List Value)
def b1.get (σ:b1):Operand->Option eJ
  | .tmp t=>look σ.env t
  | .const v=>some (.v v)
  | .func f=>some (.v (.func (.func f) #[] #[]))
  | .global _=>none
def b1.put (n:Nat) (σ:b1) (dst:Option Nat) (x:eJ):Option b1:=
  match dst with
  |none=>some σ
  |some d=>bif Nat.blt d n then some ⟨(d,x)::σ.env,σ.aM⟩ else none
inductive Ask where
  |int (op:BinOp) (k:IntKind) (x y:Int)
  |load (t:TypeId) (a:Value)
  |idx (t:TypeId) (s i:Value)
  |iV (s:Sem Value)
  |call (f:FuncId) (args:List Value)
def Em (op:BinOp) (k:IntKind) (x y:Int):Sem Value:=
  match op with
  | .add| .sub| .mul=>Op.intArith op k x y
  | .quo| .rem=>Op.intDiv op k x y
  | .and| .or| .xor| .andNot=>Op.intBits op k x y
  |_=>Op.intCmp op x y
def Ask.run:Ask->Sem Value
  | .int op k x y=>Em op k x y
  | .load t a=>Instr.loadAt t a
  | .idx t s i=>Instr.indexAt t s i
  | .iV s=>s
  | .call _ _=> .halt .goexit
inductive wQ where
  |val (x:eJ)
  |ask (q:Ask)
  |new (T:TypeId) (cs:List Value)
  |put (k:Nat) (cs:List Value)
def ji (P:Program) (t:TypeId):Option Nat:=(P.info? t).map (·.size)
def lv (P:Program) (t:TypeId):Option Bool:=
  match P.underlying t with
  |some (.struct _)|some (.array _ _)=>some true
  |some _=>some false
  |none=>none
def zC (P:Program) (t:TypeId) (cs:List Value) (o:Nat):Option Value:=
  match lv P t,ji P t with
  |some true,some s=>bif Nat.ble (o+s) cs.length then some (.agg ((cs.drop o).take s).toArray) else none
  |some false,some _=>cs[o]?
  |_,_=>none
def C3 (P:Program) (t:TypeId) (cs:List Value) (o:Nat) (v:Value):Option (List Value):=
  match ji P t with
  |some s=>bif Nat.beq v.cells.toList.length s&&Nat.ble (o+s) cs.length&&v.cells.toList.all (·.oneCell') then some (cs.take o++v.cells.toList++cs.drop (o+s)) else none
  |none=>none
def partOf (P:Program) (t:TypeId) (cs:Array Value) (o:Nat):Option Value:=
  match lv P t,ji P t with
  |some true,some s=>some (.agg (cs.extract o (o+s)))
  |some false,some _=>cs.toList[o]?
  |_,_=>none
def J3 (op:BinOp) (k:IntKind) (a b:Int):Option wQ:=
  match op with
  | .lss=>some (.val (.v (.bool (decide (a<b)))))
  | .leq=>some (.val (.v (.bool (decide (a<=b)))))
  | .gtr=>some (.val (.v (.bool (decide (a>b)))))
  | .geq=>some (.val (.v (.bool (decide (a>=b)))))
  | .eql=>some (.val (.v (.bool (a==b))))
  | .neq=>some (.val (.v (.bool (a != b))))
  | .shl| .shr=>none
  |_=>some (.ask (.int op k a b))
def QF (P:Program) (op:BinOp) (t:TypeId) (x y:Value):Option (Sem Value):=
  match op,P.eqGuardType P.depth t with
  | .eql,false=>some (do pure (.bool (←Op.equal t x y)))
  | .neq,false=>some (do pure (.bool (!(←Op.equal t x y))))
  |_,_=>none
def OK (P:Program) (op:BinOp) (t:TypeId) (x y:Value):Option wQ:=
  match x,y with
  | .int k a,.int fq b=>
    match op with
    | .shl| .shr=>some (.ask (.iV (Op.shift op k a fq b)))
    |_=>if k=fq then J3 op k a b else none
  | .bool a,.bool b=>
    match op,P.underlying t with
    | .eql,some .bool=>some (.val (.v (.bool (a==b))))
    | .neq,some .bool=>some (.val (.v (.bool (!(a==b)))))
    |_,_=>none
  | .agg a,.agg b=>(QF P op t (.agg a) (.agg b)).map fun s=> .ask (.iV s)
  |_,_=>none
def tf (σ:b1):List (Nat×Operand)->Option (List (Nat×Value))
  |
    []=>some []
  |(i,x)::r=>
    match σ.get x with
    |some (.v v)=>(tf σ r).map fun l=>(i,v)::l
    |_=>none
def mC (σ:b1):List Operand->Option (List Value)
  |
    []=>some []
  |x::r=>match σ.get x with
    |some (.v v)=>(mC σ r).map fun l=>v::l
    |_=>none
def callee (P:Program) (f:FuncId):Bool:=
  match P.funcs[f]? with
  |some fn=>!(fn.name== "runtime.NumGoroutine" ||fn.body.isNone)
  |none=>false
def tH (P:Program) (σ:b1) (o:Oper):Option wQ:=
  match o.op with
  | .move x| .assign x=>(σ.get x).map .val
  | .pick c a b=>
    match σ.get c with
    |some (.v (.bool t))=>(bif t then σ.get a else σ.get b).map .val
    |_=>none
  | .extract x i=>
    match σ.get x with
    |some (.v (.tuple ei))=>ei.toList[i]?.map fun v=> .val (.v v)
    |_=>none
  | .box T x=>
    match σ.get x with
    |some (.v x)=>some (.new T x.cells.toList)
    |_=>none
  | .alloc T=>
    match (P.info? T).bind (·.zero) with
    |some z=>some (.new T z.cells.toList)
    |none=>none
  | .fieldAddr s x f=>
    match P.underlying s with
    |some (.struct ew)=>
      match ew.toList[f]? with
      |some fd=>
        match ji P fd.type with
        |some (_+1)=>
          match σ.get x with
          |some (.p k o)=>some (.val (.p k (o+fd.offset)))
          |some (.v (.pointer (some ⟨b,o,none⟩)))=>some (.val (.v (bg b (o+fd.offset))))
          |_=>none
        |_=>none
      |none=>none
    |_=>none
  | .load t x=>
    match σ.get x with
    |some (.p k o)=>(σ.aM[k]?).bind fun cs=>(zC P t cs o).map fun v=> .val (.v v)
    |some (.v a)=>some (.ask (.load t a))
    |none=>none
  | .store t x y=>
    match σ.get x,σ.get y with
    |some (.p k o),some (.v v)=>(σ.aM[k]?).bind fun cs=>(C3 P t cs o v).map fun lJ=> .put k lJ
    |_,_=>none
  | .field t x f=>
    match P.underlying t,σ.get x with
    |some (.struct ew),some (.v (.agg cs))=>(ew.toList[f]?).bind fun fd=>(partOf P fd.type cs fd.offset).map fun v=> .val (.v v)
    |_,_=>none
  | .indexAddr t x i=>
    match σ.get x,σ.get i with
    |some (.v s),some (.v j)=>some (.ask (.idx t s j))
    |_,_=>none
  | .binOp op t x y _=>
    match σ.get x,σ.get y with
    |some (.v a),some (.v b)=>OK P op t a b
    |_,_=>none
  | .unOp .not _ x=>
    match σ.get x with
    |some (.v (.bool b))=>some (.val (.v (.bool (!b))))
    |_=>none
  | .unOp .neg _ x=>
    match σ.get x with
    |some (.v (.int k n))=>some (.ask (.int .sub k 0 n))
    |_=>none
  | .convert s d x=>
    match σ.get x with
    |some (.v a)=>some (.ask (.iV (convert s d a)))
    |_=>none
  | .slice t x lo hi none=>
    match σ.get x,lo.map σ.get,hi.map σ.get with
    |some (.v s),none,none=>some (.ask (.iV (Instr.sliceAt t s none none none)))
    |some (.v s),some (some (.v a)),none=>some (.ask (.iV (Instr.sliceAt t s (some a) none none)))
    |some (.v s),none,some (some (.v b))=>some (.ask (.iV (Instr.sliceAt t s none (some b) none)))
    |some (.v s),some (some (.v a)),some (some (.v b))=>some (.ask (.iV (Instr.sliceAt t s (some a) (some b) none)))
    |_,_,_=>none
  | .call ⟨.builtin .len,args,kX⟩=>
    match args.toList,kX.toList with
    |[x],[t]=>
      match P.underlying t,σ.get x with
      |some (.slice _),some (.v (.slice _ n _))=>some (.val (.v (aa n)))
      |_,_=>none
    |_,_=>none
  | .call ⟨.builtin .min,args,_⟩=>
    match args.toList with
    |[x,y]=>
      match σ.get x,σ.get y with
      |some (.v (.int .i64 a)),some (.v (.int .i64 b))=>some (.val (.v (aa (if b<a then b else a))))
      |_,_=>none
    |_=>none
  | .call ⟨.builtin .max,args,_⟩=>
    match args.toList with
    |[x,y]=>
      match σ.get x,σ.get y with
      |some (.v (.int .i64 a)),some (.v (.int .i64 b))=>some (.val (.v (aa (if b>a then b else a))))
      |_,_=>none
    |_=>none
  | .call ⟨.value (.func f),args,_⟩=>bif callee P f then(mC σ args.toList).map fun l=> .ask (.call f l) else none
  | .call ⟨.value (.tmp t),args,_⟩=>
    match σ.get (.tmp t) with
    |some (.v (.func (.func f) first captured))=>bif callee P f then(mC σ args.toList).map fun l=> .ask (.call f (first.toList++l++captured.toList)) else none
    |_=>none
  | .build t parts=>(tf σ parts.toList).map fun l=> .ask (.iV (Instr.build t l.toArray))
  | .makeFunc (.func f) first sU=>
    match mC σ first.toList,mC σ sU.toList with
    |some l,some l'=>some (.val (.v (.func (.func f) l.toArray l'.toArray)))
    |_,_=>none
  | .nilCheck x=>
    match σ.get x with
    |some (.p k o)=>some (.val (.p k o))
    |some (.v (.pointer (some rE)))=>some (.val (.v (.pointer (some rE))))
    |_=>none
  |_=>none
def oi (ops:Array Oper) (σ:b1) (o:Oper):Option Bool:=
  match o.guard with
  |none=>some true
  |some (j,want)=>
    match (ops.toList[j]?).bind (·.dst) with
    |none=>none
    |some d=>
      match look σ.env d with
      |some (.v (.bool b))=>some (bif want then b else !b)
      |some (.v (.tuple _))=>some false
      |_=>none
def ap8 (l:List (List Value)) (k:Nat) (cs:List Value):List (List Value):=l.set k cs
def gA (P:Program) (n:Nat) (ops:Array Oper):List Oper->b1->List Value->Option (b1×List (Ask×Value))
  |
    [],σ,_=>some (σ,[])
  |o::r,σ,c8=>
    match oi ops σ o with
    |none=>none
    |some false=>(σ.put n o.dst (.v undef)).bind fun σ'=>gA P n ops r σ' c8
    |some true=>
      match tH P σ o with
      |none=>none
      |some (.val x)=>(σ.put n o.dst x).bind fun σ'=>gA P n ops r σ' c8
      |some (.ask q)=>
        match c8 with
        |[]=>none
        |v::tI=>(σ.put n o.dst (.v v)).bind fun σ'=>(gA P n ops r σ' tI).map fun x=>(x.1,(q,v)::x.2)
      |some (.new _ cs)=>(b1.put n ⟨σ.env,σ.aM++[cs]⟩ o.dst (.p σ.aM.length 0)).bind fun σ'=>gA P n ops r σ' c8
      |some (.put k cs)=>
        match o.dst with
        |none=>gA P n ops r ⟨σ.env,σ.aM.set k cs⟩ c8
        |some _=>none
def b1.keep (σ:b1) (m:Nat):List Nat->Env
  |
    []=>[]
  |t::r=>match look σ.env t with
    |some (.v x)=>(t,.v x)::σ.keep m r
    |some (.p k o)=>bif Nat.blt k m then(t,.p k o)::σ.keep m r else σ.keep m r
    |none=>σ.keep m r
def nC (P:Program) (n:Nat) (ops:Array Oper) (i k:Nat) (σ:b1) (c8:List Value) (keep:List Nat) (m:Nat):Option (b1×List (Ask×Value)):=
  bif Nat.ble (i+k) ops.size then(gA P n ops ((ops.toList.drop i).take k) σ c8).map fun x=>(⟨x.1.keep m keep,x.1.aM.take m⟩,x.2) else none
def Quiet (P:Program) (u:World) (N:au) (s:Sem Value) (v:Value):Prop:=
  ∀w:World,(∀b,N b->w.heap[b]? =u.heap[b]?)->s.run P w= .ok v w
def WT (P:Program) (u:World) (N:au) (f:FuncId) (args:List Value) (v:Value):Prop:=
  ∀w:World,(∀b,N b->b<w.heap.size/\w.heap[b]? =u.heap[b]?)->Calls P f args.toArray w fun e w'=>e= .returned v/\bu ab w w'
def g2 (P:Program) (u:World) (N:au):Ask->Value->Prop
  | .call f args,v=>WT P u N f args v
  |q,v=>Quiet P u N q.run v
def fr (P:Program) (u:World) (N:au):List (Ask×Value)->Prop
  |[]=>True
  |c::r=>g2 P u N c.1 c.2/\fr P u N r
theorem fr.nil {P:Program} {u:World} {N:au}:fr P u N []:=trivial
theorem fr.cons {P:Program} {u:World} {N:au} {q:Ask} {v:Value} {l:List (Ask×Value)} (h:g2 P u N q v) (t:fr P u N l):fr P u N ((q,v)::l):=⟨h,t⟩
structure aj (P:Program) (n:Nat) (w0:World) (M:au) (u:World) (N:au) (β:Nat->Nat) (σ:b1) (a:Act) (w:World):Prop where
  l_:a.defers=[]
  aW:a.tmps.size=n
  env:∀t s,look σ.env t=some s->a.tmps[t]? =some (s.val β)
  ok:∀t k o,look σ.env t=some (.p k o)->k<σ.aM.length
  box:∀k cs,σ.aM[k]? =some cs->∃T,w.heap[β k]? =some (.cells cs.toArray T (0,0))
  inj:∀j k,j<σ.aM.length->k<σ.aM.length->β j=β k->j=k
  new:∀k,k<σ.aM.length->w0.heap.size<=β k\/M (β k)
  sep:∀b,N b->b<w.heap.size/\w.heap[b]? =u.heap[b]? /\∀k,k<σ.aM.length->β k≠b
  fp:bu M w0 w
  k3:∀b,b<w0.heap.size->¬M b->N b/\u.heap[b]? =w0.heap[b]?
section sound
variable {P:Program} {n:Nat} {w0:World} {M:au} {u:World} {N:au} {β:Nat->Nat} {σ:b1} {a:Act} {w:World}
theorem aj.get (S:aj P n w0 M u N β σ a w) {x:Operand} {s:eJ} (h:σ.get x=some s):a.eval x=s.val β:=by
  cases x with
  |tmp t=>
    have:=S.env t s h
    simp [Act.eval,this]
  |const v=>simp [b1.get] at h;subst h;rfl
  |global g=>simp [b1.get] at h
  |func f=>simp [b1.get] at h;subst h;rfl
theorem pt {s t:Nat} {x:eJ} {r:Env}:look ((s,x)::r) t=if s=t then some x else look r t:=by
  show(bif Nat.beq s t then some x else look r t)=_
  by_cases h:s=t
  · subst h;simp
  · have:Nat.beq s t=false:=by
      cases e:Nat.beq s t with
      |false=>rfl
      |true=>exact absurd (Nat.eq_of_beq_eq_true e) h
    simp [this,h]
theorem aj.put (S:aj P n w0 M u N β σ a w) {dst:Option Nat} {x:eJ} {σ':b1} (h:σ.put n dst x=some σ') (hx:∀k o,x= .p k o->k<σ.aM.length):
    aj P n w0 M u N β σ' (a.put dst (x.val β)) w:=by
  cases dst with
  |none=>simp [b1.put] at h;subst h;exact S
  |some d=>
    simp only [b1.put] at h
    cases hd:Nat.blt d n with
    |false=>rw [hd] at h;simp at h
    |true=>
      rw [hd] at h
      simp at h
      subst h
      have eP:d<n:=Nat.le_of_ble_eq_true hd
      refine⟨S.l_,by simp [Act.put,S.aW],fun t s bs=>?_,fun t k o bs=>?_,S.box,S.inj,S.new,S.sep,S.fp,S.k3⟩
      · simp only [pt] at bs
        by_cases e:d=t
        · subst e
          simp at bs
          subst bs
          simp [Act.put,S.aW,eP]
        · simp only [e,if_false] at bs
          simp only [Act.put,Array.getElem?_setIfInBounds_ne e]
          exact S.env t s bs
      · simp only [pt] at bs
        by_cases e:d=t
        · simp [e] at bs
          exact hx k o bs
        · simp only [e,if_false] at bs
          exact S.ok t k o bs
theorem aj.push (S:aj P n w0 M u N β σ a w) (cs:List Value) (T:TypeId):
    aj P n w0 M u N (fun k=>if k=σ.aM.length then w.heap.size else β k) ⟨σ.env,σ.aM++[cs]⟩ a {w with heap:=w.heap.push (.cells cs.toArray T)}:=by
  have hs:∀k,k<σ.aM.length->β k<w.heap.size:=fun k hk=>by
    obtain⟨n7,h⟩:=S.box k _ (List.getElem?_eq_getElem hk)
    rcases Nat.lt_or_ge (β k) w.heap.size with hl|hl
    · exact hl
    · rw [Array.getElem?_eq_none hl] at h;cases h
  refine⟨S.l_,S.aW,fun t s bs=>?_,fun t k o bs=>?_,fun k lJ hk=>?_,fun j k b0 hk he=>?_,fun k hk=>?_,fun b hb=>?_,S.fp.trans (bu.push M w _),S.k3⟩
  · rw [S.env t s bs]
    cases s with
    |v x=>rfl
    |p k o=>
      have:=S.ok t k o bs
      have kE:k≠σ.aM.length:=Nat.ne_of_lt this
      simp [eJ.val,kE]
  · have:=S.ok t k o bs
    simp;omega
  · by_cases e:k=σ.aM.length
    · subst e
      simp at hk
      subst hk
      exact⟨T,by simp⟩
    · have eP:k<σ.aM.length:=by
        have:=(List.getElem?_eq_some_iff.1 hk).1
        simp at this;omega
      rw [List.getElem?_append_left eP] at hk
      obtain⟨n7,h⟩:=S.box k lJ hk
      refine⟨n7,?_⟩
      simp only [e,if_false,Array.getElem?_push]
      rw [if_neg (by have:=hs k eP;omega)]
      exact h
  · simp at b0 hk
    by_cases ct:j=σ.aM.length<;>by_cases cA:k=σ.aM.length
    · omega
    · simp only [ct,cA,if_true,if_false] at he
      have:=hs k (by omega);omega
    · simp only [ct,cA,if_true,if_false] at he
      have:=hs j (by omega);omega
    · simp only [ct,cA,if_false] at he
      exact S.inj j k (by omega) (by omega) he
  · simp at hk
    by_cases e:k=σ.aM.length
    · simp only [e,if_true];exact .inl S.fp.size
    · simp only [e,if_false];exact S.new k (by omega)
  · obtain⟨h1,an,aF⟩:=S.sep b hb
    refine⟨by simp;omega,?_,fun k hk=>?_⟩
    · simp only [Array.getElem?_push]
      rw [if_neg (by omega)]
      exact an
    · simp at hk
      by_cases e:k=σ.aM.length
      · simp only [e,if_true];omega
      · simp only [e,if_false];exact aF k (by omega)
theorem aj.U8 (S:aj P n w0 M u N β σ a w) {k:Nat} {cs lJ:List Value} (hk:σ.aM[k]? =some cs):
    aj P n w0 M u N β ⟨σ.env,σ.aM.set k lJ⟩ a (w.setRow (β k) lJ.toArray):=by
  have eP:k<σ.aM.length:=(List.getElem?_eq_some_iff.1 hk).1
  have LX:∀b,b≠β k->(w.setRow (β k) lJ.toArray).heap[b]? =w.heap[b]? :=fun b hb=>by
    simp only [World.setRow,Array.getElem?_modify]
    rw [if_neg (fun e=>hb e.symm)]
  have hF:(w.setRow (β k) lJ.toArray).heap.size=w.heap.size:=by simp [World.setRow]
  refine⟨S.l_,S.aW,S.env,fun t j o bs=>?_,fun j aad b0=>?_,fun i j hi b0=>?_,fun j b0=>?_,fun b hb=>?_,?_,S.k3⟩
  · have:=S.ok t j o bs;simpa using this
  · by_cases e:j=k
    · subst e
      obtain⟨T,h⟩:=S.box j cs hk
      have ct:(σ.aM.set j lJ)[j]? =some lJ:=by simp [eP]
      rw [ct] at b0
      simp at b0
      subst b0
      exact⟨T,setRow_heap w _ _ _ _ _ h⟩
    · have ct:(σ.aM.set k lJ)[j]? =σ.aM[j]? :=by simp [List.getElem?_set_ne (fun q=>e q.symm)]
      rw [ct] at b0
      obtain⟨T,h⟩:=S.box j aad b0
      have r8:j<σ.aM.length:=(List.getElem?_eq_some_iff.1 b0).1
      exact⟨T,(LX _ (fun q=>e (S.inj j k r8 eP q))).trans h⟩
  · exact S.inj i j (by simpa using hi) (by simpa using b0)
  · exact S.new j (by simpa using b0)
  · obtain⟨h1,an,aF⟩:=S.sep b hb
    exact⟨by rw [hF];exact h1,(LX b (fun e=>aF k eP e.symm)).trans an,fun j b0=>aF j (by simpa using b0)⟩
  · refine⟨S.fp.os,S.fp.tape,S.fp.output,by rw [hF];exact S.fp.size,fun b hb hm=>?_⟩
    rw [LX b (fun e=>(S.new k eP).elim (fun h=>by omega) (fun h=>hm (e▸h)))]
    exact S.fp.block b hb hm
theorem aj.ext (S:aj P n w0 M u N β σ a w) {w':World} (hc:bu ab w w'):aj P n w0 M u N β σ a w':=by
  have hb:∀k,k<σ.aM.length->β k<w.heap.size:=fun k hk=>by
    obtain⟨n7,h⟩:=S.box k _ (List.getElem?_eq_getElem hk)
    rcases Nat.lt_or_ge (β k) w.heap.size with hl|hl
    · exact hl
    · rw [Array.getElem?_eq_none hl] at h;cases h
  refine⟨S.l_,S.aW,S.env,S.ok,fun k cs hk=>?_,S.inj,S.new,fun b eN=>?_,S.fp.step hc (fun _ _ f=>f.elim),S.k3⟩
  · obtain⟨T,h⟩:=S.box k cs hk
    exact⟨T,(hc.block _ (hb k (List.getElem?_eq_some_iff.1 hk).1) (fun f=>f)).trans h⟩
  · obtain⟨h1,an,aF⟩:=S.sep b eN
    exact⟨Nat.lt_of_lt_of_le h1 hc.size,(hc.block _ h1 (fun f=>f)).trans an,aF⟩
end sound
end Go.Proofs.YtjlocpdfcanlhaaGreat
namespace Go.Proofs.YtjlocpdfcanlhaaGreat
open Go
section
variable {P:Program} {n:Nat} {w0:World} {M:au} {u:World} {N:au} {β:Nat->Nat} {σ:b1} {a:Act} {w:World}
theorem V1 {t:TypeId} {s:Nat} (h:ji P t=some s):(P.info? t).map (·.size)=some s:=h
theorem yU {t:TypeId} {s:Nat} (h:ji P t=some s) (w:World):(sizeOf t).run P w= .ok s w:=by
  unfold ji at h
  cases hi:P.info? t with
  |none=>simp [hi] at h
  |some i=>simp [hi] at h;subst h;simp [sizeOf,typeInfo,hi]
theorem Ny {t:TypeId} (h:lv P t=some true):∃d,P.underlying t=some d/\d.isRow=true:=by
  unfold lv at h
  split at h<;>first|exact⟨_,‹_›,rfl⟩|cases h
theorem FI {t:TypeId} (h:lv P t=some false) (w:World):(isAgg t).run P w= .ok false w:=by
  unfold lv at h
  split at h
  · cases h
  · cases h
  · rename_i d sh si hd
    unfold isAgg
    rw [Sem.run_bind,run_underlying hd w]
    cases d<;>first|rfl|exact absurd rfl (sh _)|exact absurd rfl (si _ _)
  · cases h
theorem Vy {t:TypeId} {cs:List Value} {o b:Nat} {v:Value} {T:TypeId} {w:World} (hb:w.heap[b]? =some (.cells cs.toArray T (0,0))) (h:zC P t cs o=some v):
    (Instr.loadAt t (bg b o)).run P w= .ok v w:=by
  have hc:∀j x,cs[j]? =some x->w.cell? ⟨b,j,none⟩=some x:=fun j x b0=>by simp [World.cell?,hb,b0]
  unfold zC at h
  split at h
  · rename_i s ay hs
    cases hl:Nat.ble (o+s) cs.length with
    |false=>rw [hl] at h;simp at h
    |true=>
      rw [hl] at h
      simp at h
      subst h
      obtain⟨d,hd,bn⟩:=Ny ay
      have hle:o+s<=cs.length:=Nat.le_of_ble_eq_true hl
      refine run_loadAt_mid w b o t ((cs.drop o).take s) d (fun j x b0=>?_) hd bn (by rw [V1 hs];simp;omega)
      rw [List.getElem?_take] at b0
      split at b0
      · rw [List.getElem?_drop] at b0
        exact hc _ _ b0
      · cases b0
  · rename_i s ay hs
    have hx:=hc o v h
    simp only [Instr.loadAt,Instr.sureAddr,Sem.run_bind,Sem.run_pure,Result.andThen_ok,loadVar,FI ay,Bool.false_eq_true,if_false,run_load,hx]
  · cases h
theorem ai1 {t:TypeId} {cs lJ:List Value} {o b:Nat} {v:Value} {T:TypeId} {w:World} (hb:w.heap[b]? =some (.cells cs.toArray T (0,0))) (h:C3 P t cs o v=some lJ):
    (Instr.storeAt t (bg b o) v).run P w= .ok () (w.setRow b lJ.toArray):=by
  unfold C3 at h
  split at h
  · rename_i s hs
    cases hl:(Nat.beq v.cells.toList.length s&&Nat.ble (o+s) cs.length&&v.cells.toList.all (·.oneCell')) with
    |false=>rw [hl] at h;simp at h
    |true=>
      rw [hl] at h
      simp only [cond_true,Option.some.injEq] at h
      simp only [Bool.and_eq_true] at hl
      obtain⟨⟨h1,an⟩,aF⟩:=hl
      have ct:v.cells.toList.length=s:=Nat.eq_of_beq_eq_true h1
      have cA:o+s<=cs.length:=Nat.le_of_ble_eq_true an
      have:=run_storeCells_at (P:=P) b o T v.cells.toList 0 cs.toArray w hb (by simp at ct ⊢;omega) (fun x hx=>List.all_eq_true.1 aF x hx)
      simp only [Nat.add_zero] at this
      simp only [Instr.storeAt,Instr.sureAddr,Sem.run_bind,Sem.run_pure,Result.andThen_ok,storeVar,yU hs]
      rw [if_neg (by simp at ct ⊢;exact ct)]
      rw [this]
      subst h
      rw [ct]
  · cases h
theorem ai3 {t:TypeId} {cs:Array Value} {o:Nat} {v:Value} (h:partOf P t cs o=some v) (w:World):(part t cs o).run P w= .ok v w:=by
  unfold partOf at h
  split at h
  · rename_i s ay hs
    simp at h;subst h
    obtain⟨d,hd,bn⟩:=Ny ay
    have adS:(isAgg t).run P w= .ok true w:=by
      unfold isAgg
      rw [Sem.run_bind,run_underlying hd w]
      cases d<;>simp_all
    simp [part,adS,yU hs]
  · rename_i s ay hs
    have cl:cs[o]? =some v:=by simpa using h
    simp [part,FI ay,cl]
  · cases h
def zs (P:Program) (β:Nat->Nat) (σ:b1) (s:Sem Next) (w:World):wQ->Prop
  | .val x=>s.run P w= .ok (.value (x.val β)) w/\∀k f,x= .p k f->k<σ.aM.length
  | .ask (.call f args)=>s.run P w= .ok (.enter f args.toArray) w
  | .ask q=>∀v,q.run.run P w= .ok v w->s.run P w= .ok (.value v) w
  | .new T cs=>s.run P w= .ok (.value (bg w.heap.size 0)) {w with heap:=w.heap.push (.cells cs.toArray T)}
  | .put k cs=>s.run P w= .ok .skip (w.setRow (β k) cs.toArray)/\∃k3,σ.aM[k]? =some k3
theorem aj.x0 (S:aj P n w0 M u N β σ a w) {x:Operand} {k f:Nat} (h:σ.get x=some (.p k f)):k<σ.aM.length:=by
  cases x with
  |tmp t=>exact S.ok t k f h
  |const v=>simp [b1.get] at h
  |global g=>simp [b1.get] at h
  |func g=>simp [b1.get] at h
theorem ae5 {op:BinOp} {k:IntKind} {x y:Int} {ac:wQ} (h:J3 op k x y=some ac) (s:Sem Next) (hs:s.run P w=((Em op k x y).run P w).andThen fun v w'=> .ok (.value v) w'):zs P β σ s w ac:=by
  cases op<;>simp only [J3,Option.some.injEq,reduceCtorEq] at h<;>subst h<;>
    first
      |(refine⟨?_,fun _ _ a1=>by cases a1⟩;rw [hs];rfl)
      |(intro v b5;rw [hs];simp only [Ask.run] at b5;rw [b5];rfl)
theorem aaT (op:BinOp) (t:TypeId) (x y:Operand) (k fq:IntKind) (i j:Int):(eqGuard op t x y (.int k i) (.int fq j)).run P w= .ok () w:=by
  cases op<;>simp [eqGuard]
theorem QE (op:BinOp) (t:TypeId) (x y:Operand) (i j:Bool):(eqGuard op t x y (.bool i) (.bool j)).run P w= .ok () w:=by
  cases op<;>simp [eqGuard]
theorem QD (op:BinOp) (t:TypeId) (x y:Operand) (i j:Array Value) (h:P.eqGuardType P.depth t=false):(eqGuard op t x y (.agg i) (.agg j)).run P w= .ok () w:=by
  cases op<;>simp [eqGuard,h]
theorem aaV {t:TypeId} (hu:P.underlying t=some .bool) (i j:Bool) (w:World) (d:Nat):(Op.equalIn (d+1) t (.bool i) (.bool j)).run P w= .ok (i==j) w:=by
  simp only [Op.equalIn,Sem.run_bind,run_underlying hu,Result.andThen_ok,Sem.run_pure]
theorem QH {t:TypeId} (hu:P.underlying t=some .bool) (i j:Bool) (w:World):(Op.equal t (.bool i) (.bool j)).run P w= .ok (i==j) w:=
  aaV hu i j w 9999
theorem Iy (S:aj P n w0 M u N β σ a w):∀(yJ:List (Nat×Operand)) (l:List (Nat×Value)),tf σ yJ=some l->yJ.map (fun(i,x)=>(i,a.eval x))=l
  |
    [],l,h=>by simp [tf] at h;subst h;rfl
  |(i,x)::r,l,h=>by
    unfold tf at h
    split at h
    · rename_i v hx
      cases bn:tf σ r with
      |none=>simp [bn] at h
      |some l'=>
        simp [bn] at h
        subst h
        simp only [List.map_cons,Iy S r l' bn,S.get hx]
        rfl
    · cases h
theorem wJ (S:aj P n w0 M u N β σ a w):∀(l:List Operand) (ei:List Value),mC σ l=some ei->l.map a.eval=ei
  |
    [],ei,h=>by simp [mC] at h;subst h;rfl
  |x::r,ei,h=>by
    simp only [mC] at h
    split at h
    · rename_i v hx
      cases hl:mC σ r with
      |none=>simp [hl] at h
      |some l=>
        simp [hl] at h;subst h
        simp [wJ S r l hl,S.get hx,eJ.val]
    · cases h
theorem ai2 {f:FuncId} {args:Array Operand} {kX:Array TypeId} {l:List Value} (bf:callee P f=true) (p9:args.map a.eval=l.toArray) (ty:TypeId) (w:World):
    (do let d ←resolve a.eval ⟨.value (.func f),args,kX⟩ ty;invoke d.target d.args:Sem Next).run P w= .ok (.enter f l.toArray) w:=by
  unfold callee at bf
  split at bf
  · rename_i fn AN
    simp only [Bool.not_eq_true',Bool.or_eq_false_iff] at bf
    have sh:fn.name≠ "runtime.NumGoroutine" :=fun e=>by rw [e] at bf;simp at bf
    have si:¬fn.body=none:=fun e=>by rw [e] at bf;simp at bf
    simp only [resolve,p9,Act.eval,Deferred.ofValue]
    simp [invoke,callFunc,AN,sh,si]
  · cases bf
theorem Vz {x:Operand} {f:FuncId} {first captured:Array Value} {args:Array Operand} {kX:Array TypeId} {l:List Value} (hx:a.eval x= .func (.func f) first captured) (bf:callee P f=true) (p9:args.map a.eval=l.toArray) (ty:TypeId) (w:World):
    (do let d ←resolve a.eval ⟨.value x,args,kX⟩ ty;invoke d.target d.args:Sem Next).run P w= .ok (.enter f (first.toList++l++captured.toList).toArray) w:=by
  unfold callee at bf
  split at bf
  · rename_i fn AN
    simp only [Bool.not_eq_true',Bool.or_eq_false_iff] at bf
    have sh:fn.name≠ "runtime.NumGoroutine" :=fun e=>by rw [e] at bf;simp at bf
    have si:¬fn.body=none:=fun e=>by rw [e] at bf;simp at bf
    simp only [resolve,p9,hx,Deferred.ofValue]
    simp [invoke,callFunc,AN,sh,si]
  · cases bf
set_option maxHeartbeats 2000000 in
theorem l3 (S:aj P n w0 M u N β σ a w) {o:Oper} {ac:wQ} (h:tH P σ o=some ac):zs P β σ (execOp a.eval o) w ac:=by
  unfold tH at h
  unfold execOp
  split at h
  · --move
    rename_i x bM
    simp only [bM]
    cases hx:σ.get x with
    |none=>simp [hx] at h
    |some s=>simp [hx] at h;subst h;exact⟨by rw [S.get hx];rfl,fun k f e=>S.x0 (e▸hx)⟩
  · rename_i x bM
    simp only [bM]
    cases hx:σ.get x with
    |none=>simp [hx] at h
    |some s=>simp [hx] at h;subst h;exact⟨by rw [S.get hx];rfl,fun k f e=>S.x0 (e▸hx)⟩
  · --pick
    rename_i c x y bM
    simp only [bM]
    split at h
    · rename_i t hc
      have e:=S.get hc
      cases t with
      |true=>
        cases hx:σ.get x with
        |none=>simp [hx] at h
        |some s=>
          simp [hx] at h;subst h
          refine⟨?_,fun k f e=>S.x0 (e▸hx)⟩
          rw [e,S.get hx];simp [asBool,eJ.val]
      |false=>
        cases hx:σ.get y with
        |none=>simp [hx] at h
        |some s=>
          simp [hx] at h;subst h
          refine⟨?_,fun k f e=>S.x0 (e▸hx)⟩
          rw [e,S.get hx];simp [asBool,eJ.val]
    · cases h
  · --extract
    rename_i x i bM
    simp only [bM]
    split at h
    · rename_i ei hx
      have e:=S.get hx
      cases b5:ei.toList[i]? with
      |none=>simp only [b5,Option.map_none,reduceCtorEq] at h
      |some v=>
        simp only [b5,Option.map_some,Option.some.injEq] at h
        subst h
        have A1:ei[i]? =some v:=by simpa using b5
        refine⟨?_,fun _ _ a1=>by cases a1⟩
        rw [e]
        simp [Instr.extract,eJ.val,A1]
    · cases h
  · --box
    rename_i T x bM
    simp only [bM]
    split at h
    · rename_i v hx
      simp at h;subst h
      rw [S.get hx]
      show(do pure (.value (←Instr.box T v)):Sem Next).run P w=_
      simp [Instr.box,newVar,newRow]
    · cases h
  · --alloc
    rename_i T bM
    simp only [bM]
    split at h
    · rename_i z ed
      simp at h;subst h
      cases hi:P.info? T with
      |none=>simp [hi] at ed
      |some i=>
        simp only [hi,Option.bind_some] at ed
        show(do pure (.value (←Instr.alloc T true (.tuple #[]))):Sem Next).run P w=_
        simp [Instr.alloc,zeroValue,typeInfo,hi,ed,newVar,newRow]
    · cases h
  · --fieldAddr
    rename_i s x f bM
    simp only [bM]
    split at h
    · rename_i ew hu
      split at h
      · rename_i fd bf
        split at h
        · rename_i q hs
          have Jj:ew[f]? =some fd:=by simpa using bf
          have key:∀(b o:Nat),a.eval x=bg b o->(do pure (Next.value (←Instr.fieldAt s (a.eval x) f)):Sem Next).run P w= .ok (.value (bg b (o+fd.offset))) w:=fun b o hx=>by
            rw [hx]
            simp [Instr.fieldAt,run_underlying hu,Jj,Instr.sureAddr,fieldPlace,yU hs,Addr.add_mid]
          split at h
          · rename_i k o hx
            simp at h;subst h
            exact⟨key _ _ (S.get hx),fun fq z5 e=>by cases e;exact S.x0 hx⟩
          · rename_i b o hx
            simp at h;subst h
            exact⟨key _ _ (S.get hx),fun _ _ a1=>by cases a1⟩
          · cases h
        · cases h
      · cases h
    · cases h
  · --load
    rename_i t x bM
    simp only [bM]
    split at h
    · rename_i k f hx
      cases hc:σ.aM[k]? with
      |none=>simp [hc] at h
      |some cs=>
        simp only [hc,Option.bind_some] at h
        cases b5:zC P t cs f with
        |none=>simp [b5] at h
        |some v=>
          simp [b5] at h;subst h
          obtain⟨T,hb⟩:=S.box k cs hc
          refine⟨?_,fun _ _ a1=>by cases a1⟩
          rw [S.get hx]
          show(do pure (.value (←Instr.loadAt t (bg (β k) f))):Sem Next).run P w=_
          rw [Sem.run_bind,Vy hb b5]
          rfl
    · rename_i v hx
      simp at h;subst h
      intro r bn
      rw [S.get hx]
      show(do pure (.value (←Instr.loadAt t v)):Sem Next).run P w=_
      rw [Sem.run_bind]
      simp only [Ask.run] at bn
      rw [bn];rfl
    · cases h
  · --store
    rename_i t x y bM
    simp only [bM]
    split at h
    · rename_i k f v hx hy
      cases hc:σ.aM[k]? with
      |none=>simp [hc] at h
      |some cs=>
        simp only [hc,Option.bind_some] at h
        cases b5:C3 P t cs f v with
        |none=>simp [b5] at h
        |some lJ=>
          simp [b5] at h;subst h
          obtain⟨T,hb⟩:=S.box k cs hc
          refine⟨?_,cs,hc⟩
          rw [S.get hx,S.get hy]
          show(do Instr.storeAt t (bg (β k) f) v;pure .skip:Sem Next).run P w=_
          rw [Sem.run_bind,ai1 hb b5]
          rfl
    · cases h
  · --field
    rename_i t x f bM
    simp only [bM]
    split at h
    · rename_i ew cs hu hx
      cases bf:ew.toList[f]? with
      |none=>simp only [bf,Option.bind_none,reduceCtorEq] at h
      |some fd=>
        simp only [bf,Option.bind_some] at h
        cases b5:partOf P fd.type cs fd.offset with
        |none=>simp [b5] at h
        |some v=>
          simp [b5] at h;subst h
          have Jj:ew[f]? =some fd:=by simpa using bf
          refine⟨?_,fun _ _ a1=>by cases a1⟩
          rw [S.get hx]
          show(do pure (.value (←Instr.field t (.agg cs) f)):Sem Next).run P w=_
          simp [Instr.field,run_underlying hu,Jj,asAgg,ai3 b5,eJ.val]
    · cases h
  · --indexAddr
    rename_i t x i bM
    simp only [bM]
    split at h
    · rename_i s j hx hi
      simp at h;subst h
      intro r bn
      rw [S.get hx,S.get hi]
      simp only [Ask.run] at bn
      show(do pure (.value (←Instr.indexAt t s j)):Sem Next).run P w=_
      rw [Sem.run_bind,bn];rfl
    · cases h
  · --binOp
    rename_i op t x y aqk bM
    simp only [bM]
    split at h
    · rename_i aqi aql hx hy
      rw [S.get hx,S.get hy]
      unfold OK at h
      split at h
      · rename_i k i fq j
        have key:∀s:Sem Value,Go.binOp op t (.int k i) (.int fq j)=s->(do pure (.value (←(do eqGuard op t x y (.int k i) (.int fq j);Go.binOp op t (.int k i) (.int fq j)))):Sem Next).run P w=(s.run P w).andThen fun v w'=> .ok (.value v) w':=fun s hs=>by
          simp [aaT,hs]
        split at h
        · simp at h;subst h
          intro v b5
          have:=key _ rfl
          simp only [Ask.run] at b5
          refine this.trans ?_
          unfold Go.binOp
          rw [b5];rfl
        · simp at h;subst h
          intro v b5
          have:=key _ rfl
          simp only [Ask.run] at b5
          refine this.trans ?_
          unfold Go.binOp
          rw [b5];rfl
        · rename_i sh si
          split at h
          · rename_i hk
            subst hk
            refine ae5 h _ ?_
            refine(key _ rfl).trans ?_
            congr 2
            cases op<;>first|exact absurd rfl sh|exact absurd rfl si|(simp [Go.binOp,Em])
          · cases h
      · rename_i i j
        split at h
        · rename_i hu
          simp at h;subst h
          refine⟨?_,fun _ _ a1=>by cases a1⟩
          show(do pure (.value (←(do eqGuard .eql t x y (.bool i) (.bool j);pure (.bool (←Op.equal t (.bool i) (.bool j)))))):Sem Next).run P w=_
          simp only [Sem.run_bind,QE,Result.andThen_ok,QH hu,Sem.run_pure,eJ.val]
        · rename_i hu
          simp at h;subst h
          refine⟨?_,fun _ _ a1=>by cases a1⟩
          show(do pure (.value (←(do eqGuard .neq t x y (.bool i) (.bool j);pure (.bool (!(←Op.equal t (.bool i) (.bool j))))))):Sem Next).run P w=_
          simp only [Sem.run_bind,QE,Result.andThen_ok,QH hu,Sem.run_pure,eJ.val]
        · cases h
      · rename_i i j
        unfold QF at h
        split at h
        · rename_i aJ
          simp only [Option.map_some,Option.some.injEq] at h;subst h
          intro v b5
          simp only [Ask.run] at b5
          show(do pure (.value (←(do eqGuard .eql t x y (.agg i) (.agg j);Go.binOp .eql t (.agg i) (.agg j)))):Sem Next).run P w=_
          rw [Sem.run_bind,Sem.run_bind,QD _ _ _ _ _ _ aJ]
          show((Go.binOp .eql t (.agg i) (.agg j)).run P w).andThen _=_
          unfold Go.binOp
          rw [b5];rfl
        · rename_i aJ
          simp only [Option.map_some,Option.some.injEq] at h;subst h
          intro v b5
          simp only [Ask.run] at b5
          show(do pure (.value (←(do eqGuard .neq t x y (.agg i) (.agg j);Go.binOp .neq t (.agg i) (.agg j)))):Sem Next).run P w=_
          rw [Sem.run_bind,Sem.run_bind,QD _ _ _ _ _ _ aJ]
          show((Go.binOp .neq t (.agg i) (.agg j)).run P w).andThen _=_
          unfold Go.binOp
          rw [b5];rfl
        · simp at h
      · cases h
    · cases h
  · --not
    rename_i t x bM
    simp only [bM]
    split at h
    · rename_i b hx
      simp at h;subst h
      refine⟨?_,fun _ _ a1=>by cases a1⟩
      rw [S.get hx]
      rfl
    · cases h
  · --neg
    rename_i t x bM
    simp only [bM]
    split at h
    · rename_i k m hx
      simp at h;subst h
      intro v b5
      simp only [Ask.run] at b5
      rw [S.get hx]
      show(do pure (.value (←Op.unary .neg (.int k m))):Sem Next).run P w=_
      rw [Sem.run_bind]
      show((Op.intArith .sub k 0 m).run P w).andThen _=_
      simp only [Em] at b5
      rw [b5];rfl
    · cases h
  · --convert
    rename_i s d x bM
    simp only [bM]
    split at h
    · rename_i v hx
      simp at h;subst h
      intro r bn
      simp only [Ask.run] at bn
      rw [S.get hx]
      show(do pure (.value (←convert s d v)):Sem Next).run P w=_
      rw [Sem.run_bind,bn];rfl
    · cases h
  · --slice
    rename_i t x lo hi bM
    simp only [bM]
    split at h
    · rename_i s hx hl a1
      cases lo<;>simp at hl
      cases hi<;>simp at a1
      simp at h;subst h
      intro r bn
      simp only [Ask.run] at bn
      simp only [S.get hx,Option.map_none]
      show(do pure (.value (←Instr.sliceAt t s none none none)):Sem Next).run P w=_
      rw [Sem.run_bind,bn];rfl
    · rename_i s v hx hl a1
      cases lo<;>simp at hl
      cases hi<;>simp at a1
      simp at h;subst h
      intro r bn
      simp only [Ask.run] at bn
      simp only [S.get hx,S.get hl,Option.map_none,Option.map_some]
      show(do pure (.value (←Instr.sliceAt t s (some v) none none)):Sem Next).run P w=_
      rw [Sem.run_bind,bn];rfl
    · rename_i s v hx hl a1
      cases lo<;>simp at hl
      cases hi<;>simp at a1
      simp at h;subst h
      intro r bn
      simp only [Ask.run] at bn
      simp only [S.get hx,S.get a1,Option.map_none,Option.map_some]
      show(do pure (.value (←Instr.sliceAt t s none (some v) none)):Sem Next).run P w=_
      rw [Sem.run_bind,bn];rfl
    · rename_i s v1 v2 hx hl a1
      cases lo<;>simp at hl
      cases hi<;>simp at a1
      simp at h;subst h
      intro r bn
      simp only [Ask.run] at bn
      simp only [S.get hx,S.get hl,S.get a1,Option.map_none,Option.map_some]
      show(do pure (.value (←Instr.sliceAt t s (some v1) (some v2) none)):Sem Next).run P w=_
      rw [Sem.run_bind,bn];rfl
    · cases h
  · --len
    rename_i args kX bM
    simp only [bM]
    split at h
    · rename_i x t ay bs
      split at h
      · rename_i e q m c hu hx
        simp at h;subst h
        refine⟨?_,fun _ _ a1=>by cases a1⟩
        have ct:args=#[x]:=by rw [←Array.toList_inj];exact ay
        have cA:kX=#[t]:=by rw [←Array.toList_inj];exact bs
        subst ct cA
        simp only [resolve,List.map_toArray,List.map_cons,List.map_nil,S.get hx]
        show(do let v ←Builtin.len_ #[t] o.type #[_];pure (Next.value v):Sem Next).run P w=_
        simp [Builtin.len_,run_underlying hu,goInt,eJ.val]
      · cases h
    · cases h
  · --min
    rename_i args kX bM
    simp only [bM]
    split at h
    · rename_i x y ay
      split at h
      · rename_i i j hx hy
        simp at h;subst h
        refine⟨?_,fun _ _ a1=>by cases a1⟩
        have ct:args=#[x,y]:=by rw [←Array.toList_inj];exact ay
        subst ct
        simp only [resolve,List.map_toArray,List.map_cons,List.map_nil,S.get hx,S.get hy]
        show(do let v ←Builtin.min_ kX o.type #[.int .i64 i,.int .i64 j];pure (Next.value v):Sem Next).run P w=_
        simp [Builtin.min_,Builtin.min2,eJ.val]
      · cases h
    · cases h
  · --max
    rename_i args kX bM
    simp only [bM]
    split at h
    · rename_i x y ay
      split at h
      · rename_i i j hx hy
        simp at h;subst h
        refine⟨?_,fun _ _ a1=>by cases a1⟩
        have ct:args=#[x,y]:=by rw [←Array.toList_inj];exact ay
        subst ct
        simp only [resolve,List.map_toArray,List.map_cons,List.map_nil,S.get hx,S.get hy]
        show(do let v ←Builtin.max_ kX o.type #[.int .i64 i,.int .i64 j];pure (Next.value v):Sem Next).run P w=_
        simp [Builtin.max_,Builtin.max2,eJ.val]
      · cases h
    · cases h
  · --call
    rename_i f args kX bM
    simp only [bM]
    cases hc:callee P f with
    |false=>rw [hc] at h;cases h
    |true=>
      rw [hc] at h
      simp only [cond_true] at h
      cases b5:mC σ args.toList with
      |none=>simp [b5] at h
      |some l=>
        simp [b5] at h;subst h
        exact ai2 hc (by rw [←Array.toList_inj];simpa using wJ S _ _ b5) _ w
  · --call of a function value
    rename_i t args kX bM
    simp only [bM]
    split at h
    · rename_i f first captured hx
      have e:=S.get hx
      cases hc:callee P f with
      |false=>rw [hc] at h;cases h
      |true=>
        rw [hc] at h
        simp only [cond_true] at h
        cases b5:mC σ args.toList with
        |none=>simp [b5] at h
        |some l=>
          rw [b5] at h
          simp only [Option.map_some,Option.some.injEq] at h
          subst h
          exact Vz (l:=l) (x:= .tmp t) e hc (by rw [←Array.toList_inj];simpa using wJ S _ _ b5) _ w
    · cases h
  · --build
    rename_i t parts bM
    simp only [bM]
    cases hl:tf σ parts.toList with
    |none=>simp [hl] at h
    |some l=>
      simp [hl] at h;subst h
      intro r bn
      simp only [Ask.run] at bn
      have e:(parts.map fun(i,x)=>(i,a.eval x))=l.toArray:=by
        rw [←Array.toList_inj]
        simpa using Iy S _ _ hl
      show(do pure (.value (←Instr.build t (parts.map fun(i,x)=>(i,a.eval x)))):Sem Next).run P w=_
      rw [e,Sem.run_bind,bn];rfl
  · --makeFunc
    rename_i f first sU bM
    simp only [bM]
    split at h
    · rename_i l l' h1 an
      simp only [Option.some.injEq] at h;subst h
      refine⟨?_,fun _ _ a1=>by cases a1⟩
      have ct:first.map a.eval=l.toArray:=by rw [←Array.toList_inj];simpa using wJ S _ _ h1
      have cA:sU.map a.eval=l'.toArray:=by rw [←Array.toList_inj];simpa using wJ S _ _ an
      show(do pure (.value (←Instr.makeFunc (.func f) (first.map a.eval) (sU.map a.eval))):Sem Next).run P w=_
      rw [ct,cA];rfl
    · cases h
  · --nilCheck
    rename_i x bM
    simp only [bM]
    split at h
    · rename_i k o hx
      simp only [Option.some.injEq] at h;subst h
      exact⟨by rw [S.get hx];rfl,fun k f e=>by cases e;exact S.x0 hx⟩
    · rename_i rE hx
      simp only [Option.some.injEq] at h;subst h
      exact⟨by rw [S.get hx];rfl,fun _ _ a1=>by cases a1⟩
    · cases h
  · cases h
end
end Go.Proofs.YtjlocpdfcanlhaaGreat
namespace Go.Proofs.YtjlocpdfcanlhaaGreat
open Go
def jQ (P:Program) (ops:Array Oper) (Q:Exit->Act->World->Prop) (i:Nat) (a:Act) (w:World):Prop:=
  wpOps P ops Q (List.range' i (ops.size-i)) a w
section
variable {P:Program} {n:Nat} {w0:World} {M:au} {u:World} {N:au} {β:Nat->Nat} {σ σ':b1} {a:Act} {w:World} {ops:Array Oper} {Q:Exit->Act->World->Prop}
theorem jQ.start {id:Nat} (h:jQ P ops Q 0 a w):(Code.region id ops false).wp P Q a w:=by
  refine wp_region ?_
  rw [List.range_eq_range']
  exact h
theorem jQ.done {i:Nat} (hi:Nat.ble ops.size i=true) (h:Q .normal a w):jQ P ops Q i a w:=by
  have:ops.size<=i:=Nat.le_of_ble_eq_true hi
  unfold jQ
  rw [show ops.size-i=0 by omega]
  exact h
theorem mi (S:aj P n w0 M u N β σ a w) {o:Oper} {b:Bool} (h:oi ops σ o=some b):Region.wanted o (yielded ops a.tmps)=b:=by
  unfold oi at h
  unfold Region.wanted
  split at h
  · rename_i aJ;rw [aJ];simpa using h
  · rename_i j want aJ
    rw [aJ]
    split at h
    · cases h
    · rename_i d hd
      have hd':(ops[j]?).bind (·.dst)=some d:=by simpa using hd
      split at h
      · rename_i c hl
        have:=S.env d _ hl
        simp only [eJ.val] at this
        simp only [yielded,hd',Option.bind_some,this]
        simp at h
        subst h
        cases want<;>cases c<;>rfl
      · rename_i ei hl
        have:=S.env d _ hl
        simp only [eJ.val] at this
        simp only [yielded,hd',Option.bind_some,this]
        simp at h
        subst h
        cases want<;>rfl
      · cases h
theorem H8 (σ':b1) (rest:List Nat):∀(l:List Oper) (j:Nat) (σ:b1) (a:Act) (w:World) (β:Nat->Nat) (claims:List (Ask×Value)),
    (∀t o,l[t]? =some o->ops[j+t]? =some o)->gA P n ops l σ (claims.map (·.2))=some (σ',claims)->fr P u N claims->aj P n w0 M u N β σ a w->
    (∀a0 w' cJ,aj P n w0 M u N cJ σ' a0 w'->wpOps P ops Q rest a0 w')->wpOps P ops Q (List.range' j l.length++rest) a w
  |
    [],j,σ,a,w,β,claims,_,bV,_,S,K=>by
    simp only [gA,Option.some.injEq,Prod.mk.injEq] at bV
    obtain⟨rfl,_⟩:=bV
    exact K a w β S
  |o::l,j,σ,a,w,β,claims,hl,bV,a9,S,K=>by
    have bM:ops[j]? =some o:=by simpa using hl 0 o rfl
    have AR:∀t jW,l[t]? =some jW->ops[j+1+t]? =some jW:=fun t jW bs=>by
      have:=hl (t+1) jW (by simpa using bs)
      rwa [show j+1+t=j+(t+1) by omega]
    have n5:=H8 σ' rest l (j+1)
    simp only [List.length_cons,List.range'_succ,List.cons_append]
    rw [wpOps_cons]
    unfold wpOp
    simp only [bM]
    simp only [gA] at bV
    split at bV
    · cases bV
    · rename_i aJ
      rw [mi S aJ]
      simp only [Bool.false_eq_true,if_false]
      cases bD:σ.put n o.dst (.v undef) with
      |none=>rw [bD] at bV;cases bV
      |some bH=>
        rw [bD] at bV
        exact n5 bH _ w β claims AR bV a9 (S.put bD (fun _ _ e=>by cases e)) K
    · rename_i aJ
      rw [mi S aJ]
      simp only [if_true]
      left
      unfold Oper.wp
      split at bV
      · cases bV
      · rename_i x hx
        obtain⟨h1,an⟩:=l3 S hx
        rw [h1]
        simp only [Oper.upon]
        cases bD:σ.put n o.dst x with
        |none=>rw [bD] at bV;cases bV
        |some bH=>
          rw [bD] at bV
          exact n5 bH _ w β claims AR bV a9 (S.put bD an) K
      · rename_i q hx
        have h1:=l3 S hx
        split at bV
        · cases bV
        · rename_i v c8 he
          cases bD:σ.put n o.dst (.v v) with
          |none=>rw [bD] at bV;cases bV
          |some bH=>
            rw [bD] at bV
            simp only [Option.bind_some] at bV
            cases bn:gA P n ops l bH c8 with
            |none=>rw [bn] at bV;cases bV
            |some r=>
              rw [bn] at bV
              simp only [Option.map_some,Option.some.injEq,Prod.mk.injEq] at bV
              obtain⟨ct,cA⟩:=bV
              subst cA
              simp only [List.map_cons,List.cons.injEq,true_and] at he
              have ia:=S.put bD (fun _ _ e=>by cases e)
              have fin:∀w',bu ab w w'->wpOps P ops Q (List.range' (j+1) l.length++rest) (a.put o.dst v) w':=fun w' ff=>
                n5 bH _ w' β r.2 AR (by rw [he,bn,←ct]) a9.2 (ia.ext ff) K
              cases q with
              |call f args=>
                simp only [zs] at h1
                rw [h1,Oper.upon_enter]
                refine(a9.1 w (fun b hb=>⟨(S.sep b hb).1,(S.sep b hb).2.1⟩)).mono fun e w' ⟨aF,b2⟩=>?_
                subst aF
                exact fin w' b2
              |_=>
                have an:=h1 v (a9.1 w (fun b hb=>(S.sep b hb).2.1))
                rw [an]
                exact fin w (bu.refl _ _)
      · rename_i T cs hx
        have h1:=l3 S hx
        rw [h1]
        simp only [Oper.upon]
        have ik:=S.push cs T
        cases bD:b1.put n ⟨σ.env,σ.aM++[cs]⟩ o.dst (.p σ.aM.length 0) with
        |none=>rw [bD] at bV;cases bV
        |some bH=>
          rw [bD] at bV
          have zq:=ik.put bD (fun k o e=>by cases e;simp)
          have e:(eJ.p σ.aM.length 0).val (fun k=>if k=σ.aM.length then w.heap.size else β k)=bg w.heap.size 0:=by simp [eJ.val]
          rw [e] at zq
          exact n5 bH _ _ _ claims AR bV a9 zq K
      · rename_i k cs hx
        obtain⟨h1,k3,an⟩:=l3 S hx
        rw [h1]
        simp only [Oper.upon]
        split at bV
        · rename_i hd
          rw [hd]
          exact n5 _ _ _ β claims AR bV a9 (S.U8 an) K
        · cases bV
theorem sg (m:Nat):∀(l:List Nat) (t:Nat) (s:eJ),look (σ.keep m l) t=some s->look σ.env t=some s/\∀k o,s= .p k o->k<m
  |
    [],t,s,h=>by simp [b1.keep,look] at h
  |x::r,t,s,h=>by
    unfold b1.keep at h
    split at h
    · rename_i v b5
      rw [pt] at h
      split at h
      · rename_i e;subst e
        simp at h;subst h
        exact⟨b5,fun _ _ e=>by cases e⟩
      · exact sg m r t s h
    · rename_i k o b5
      cases hb:Nat.blt k m with
      |false=>rw [hb] at h;exact sg m r t s h
      |true=>
        rw [hb] at h
        simp only [cond_true,pt] at h
        split at h
        · rename_i e;subst e
          simp at h;subst h
          exact⟨b5,fun _ _ e=>by cases e;exact Nat.le_of_ble_eq_true hb⟩
        · exact sg m r t s h
    · exact sg m r t s h
theorem aj.weaken (S:aj P n w0 M u N β σ a w) (m:Nat) (l:List Nat) (hm:∀t k o,look (σ.keep m l) t=some (.p k o)->k<(σ.aM.take m).length):aj P n w0 M u N β ⟨σ.keep m l,σ.aM.take m⟩ a w:=by
  have hle:(σ.aM.take m).length<=σ.aM.length:=by simp;omega
  refine⟨S.l_,S.aW,fun t s h=>S.env t s (sg m l t s h).1,hm,fun k cs h=>S.box k cs ?_,fun j k b0 hk=>S.inj j k (Nat.lt_of_lt_of_le b0 hle) (Nat.lt_of_lt_of_le hk hle),fun k hk=>S.new k (Nat.lt_of_lt_of_le hk hle),fun b hb=>?_,S.fp,S.k3⟩
  · rw [List.getElem?_take] at h
    split at h
    · exact h
    · cases h
  · obtain⟨h1,an,aF⟩:=S.sep b hb
    exact⟨h1,an,fun k hk=>aF k (Nat.lt_of_lt_of_le hk hle)⟩
theorem aj.quiet (S:aj P n w0 M u N β σ a w) {i k:Nat} {claims:List (Ask×Value)} {keep:List Nat} {m:Nat} (a9:fr P u N claims)
    (bV:nC P n ops i k σ (claims.map (·.2)) keep m=some (σ',claims)) (K:∀a0 w' cJ,aj P n w0 M u N cJ σ' a0 w'->jQ P ops Q (i+k) a0 w'):jQ P ops Q i a w:=by
  unfold nC at bV
  cases hb:Nat.ble (i+k) ops.size with
  |false=>rw [hb] at bV;cases bV
  |true=>
    rw [hb] at bV
    simp only [cond_true] at bV
    have hle:i+k<=ops.size:=Nat.le_of_ble_eq_true hb
    cases bn:gA P n ops ((ops.toList.drop i).take k) σ (claims.map (·.2)) with
    |none=>rw [bn] at bV;cases bV
    |some r=>
      rw [bn] at bV
      simp only [Option.map_some,Option.some.injEq,Prod.mk.injEq] at bV
      obtain⟨ct,cA⟩:=bV
      have hlen:((ops.toList.drop i).take k).length=k:=by simp;omega
      have key:=H8 (P:=P) (n:=n) (w0:=w0) (M:=M) (u:=u) (N:=N) (ops:=ops) (Q:=Q) r.1 (List.range' (i+k) (ops.size-(i+k))) ((ops.toList.drop i).take k) i σ a w β claims
        (fun t o bs=>by
          rw [List.getElem?_take] at bs
          split at bs
          · rw [List.getElem?_drop] at bs;simpa using bs
          · cases bs) (by rw [bn,←cA]) a9 S (fun a0 w' cJ dR=>?_)
      · rw [hlen] at key
        unfold jQ
        rwa [show ops.size-i=k+(ops.size-(i+k)) by omega,←List.range'_append_1]
      · subst ct
        refine K a0 w' cJ (dR.weaken m keep fun t fq jW h=>?_)
        have h1:=sg m keep t _ h
        have an:=dR.ok t fq jW h1.1
        have aF:=h1.2 fq jW rfl
        simp;omega
end
end Go.Proofs.YtjlocpdfcanlhaaGreat
namespace Go.Proofs.YtjlocpdfcanlhaaGreat
open Go
def b7:Nat:=4194304
def kU:Nat:=9223372036854775807
section jumps
variable {next:Act->World->Prop} {Q:Exit->Act->World->Prop} {a:Act} {w:World}
end jumps
section
variable {P:Program} {n:Nat} {w0:World} {M:au} {u:World} {N:au} {β:Nat->Nat} {σ σ':b1} {a:Act} {w:World} {ops:Array Oper} {Q:Exit->Act->World->Prop} {di:Act->World->Prop}
def w8:Nat->List Value->Env
  |_,[]=>[]
  |k,v::r=>(k,.v v)::w8 (k+1) r
theorem KT:∀(l:List Value) (k t:Nat) (s:eJ),look (w8 k l) t=some s->∃v,s= .v v/\k<=t/\l[t-k]? =some v
  |
    [],k,t,s,h=>by simp [w8,look] at h
  |v::r,k,t,s,h=>by
    simp only [w8,pt] at h
    split at h
    · rename_i e;subst e
      simp at h
      exact⟨v,h.symm,Nat.le_refl _,by simp⟩
    · obtain⟨x,h1,an,aF⟩:=KT r (k+1) t s h
      refine⟨x,h1,by omega,?_⟩
      rw [show t-k=(t-(k+1))+1 by omega]
      simpa using aF
theorem Calls.walk {f:FuncId} {fn:Func} {c:Code} {args:List Value} {cd:Ending->World->Prop} (M:au) (bf:P.funcs[f]? =some fn) (hb:fn.body=some c) (cX:Nat.ble args.length fn.ntmps=true)
    (h:∀a β,aj P fn.ntmps w M w (fc w.heap.size) β ⟨w8 0 args,[]⟩ a w->c.wp P (bodyPost P fn cd) a w):Calls P f args.toArray w cd:=by
  have hle:args.length<=fn.ntmps:=Nat.le_of_ble_eq_true cX
  refine calls_of_wp bf hb (h _ (fun _=>0) ⟨rfl,by simp;omega,fun t s bs=>?_,fun t k o bs=>?_,fun k cs hk=>by simp at hk,fun _ _ b0=>by simp at b0,fun _ hk=>by simp at hk,fun b hb=>⟨hb,rfl,fun _ hk=>by simp at hk⟩,bu.refl _ _,fun b hb _=>⟨hb,rfl⟩⟩)
  · obtain⟨v,rfl,_,aF⟩:=KT args 0 t s bs
    have eP:t<args.length:=by
      have:=(List.getElem?_eq_some_iff.1 aF).1;omega
    simp only [Nat.sub_zero] at aF
    simp only [eJ.val]
    rw [Array.getElem?_append_left (by simpa using eP)]
    simpa using aF
  · obtain⟨v,e,_⟩:=KT args 0 t _ bs
    cases e
def FC (P:Program) (σ:b1):ResultVar->Option Value
  | .tmp t=>match look σ.env t with
    |some (.v v)=>some v
    |_=>none
  | .cell t ty=>match look σ.env t with
    |some (.p k o)=>(σ.aM[k]?).bind fun cs=>zC P ty cs o
    |_=>none
def pE (P:Program) (σ:b1):List ResultVar->Option (List Value)
  |
    []=>some []
  |r::l=>match FC P σ r with
    |some v=>(pE P σ l).map fun x=>v::x
    |none=>none
def packed:List Value->Value
  |[v]=>v
  |ei=> .tuple ei.toArray
def B2 (a:Act):ResultVar->Sem Value
  | .tmp t=>pure (a.tmps.getD t undef)
  | .cell a0 t=>do loadVar t (←asAddr (a.tmps.getD a0 undef))
theorem aiV (S:aj P n w0 M u N β σ a w) {r:ResultVar} {v:Value} (h:FC P σ r=some v):
    (B2 a r).run P w= .ok v w:=by
  cases r with
  |tmp t=>
    simp only [FC] at h
    split at h
    · rename_i x hx
      simp at h;subst h
      have:=S.env t _ hx
      simp [B2,this,eJ.val]
    · cases h
  |cell t ty=>
    simp only [FC] at h
    split at h
    · rename_i k o hx
      cases hc:σ.aM[k]? with
      |none=>simp [hc] at h
      |some cs=>
        simp only [hc,Option.bind_some] at h
        obtain⟨T,hb⟩:=S.box k cs hc
        have:=S.env t _ hx
        have hl:=Vy (P:=P) hb h
        simp only [Instr.loadAt,Instr.sureAddr,Sem.run_bind,Sem.run_pure,Result.andThen_ok] at hl
        have e:a.tmps.getD t undef=bg (β k) o:=by simp [this,eJ.val]
        simp only [B2,e,asAddr,Sem.run_bind,Sem.run_pure,Result.andThen_ok,hl]
    · cases h
theorem Vv (S:aj P n w0 M u N β σ a w):∀(l:List ResultVar) (ei:List Value),pE P σ l=some ei->
    (l.mapM (B2 a)).run P w= .ok ei w
  |
    [],ei,h=>by simp [pE] at h;subst h;rfl
  |r::l,ei,h=>by
    simp only [pE] at h
    split at h
    · rename_i v b5
      cases hl:pE P σ l with
      |none=>simp [hl] at h
      |some F1=>
        simp [hl] at h;subst h
        rw [List.mapM_cons]
        rw [Sem.run_bind,aiV S b5]
        simp only [Result.andThen_ok]
        rw [Sem.run_bind,Vv S l F1 hl]
        rfl
    · cases h
theorem aj.results (S:aj P n w0 M u N β σ a w) {fn:Func} {ei:List Value} (h:pE P σ fn.results.toList=some ei):(results fn a.tmps).run P w= .ok (packed ei) w:=by
  have e:Go.results fn a.tmps=(do let ei ←fn.results.mapM (B2 a);pure (if h:ei.size=1 then ei[0] else .tuple ei)):=by
    unfold Go.results
    congr 1
  rw [e,Array.mapM_eq_mapM_toList,Sem.run_bind,Sem.run_map,Vv S _ _ h]
  simp only [Result.andThen_ok,Sem.run_pure]
  congr 1
  match ei with
  |[]=>rfl
  |[v]=>rfl
  |_::_::_=>rfl
theorem aj.ret (S:aj P n w0 M u N β σ a w) {fn:Func} {cd:Ending->World->Prop} {ei:List Value} (b5:pE P σ fn.results.toList=some ei) (h:cd (.returned (packed ei)) w):bodyPost P fn cd .ret a w:=
  ⟨S.l_,_,S.results b5,h⟩
theorem aj.QV (S:aj P n w0 M u N β σ a w) {fn:Func} {cd:Ending->World->Prop} {ei:List Value} (b5:pE P σ fn.results.toList=some ei) (h:cd (.returned (packed ei)) w):bodyPost P fn cd .normal a w:=
  ⟨S.l_,_,S.results b5,h⟩
theorem aj.cond (S:aj P n w0 M u N β σ a w) {c:Operand} {e:Bool} {x y:Code} (he:σ.get c=some (.v (.bool e))) (bs:e=true->x.wp P Q a w) (bf:e=false->y.wp P Q a w):(Code.cond c x y).wp P Q a w:=
  wp_cond_split (S.get he) bs bf
theorem aj.cast (S:aj P n w0 M u N β σ a w) (h:σ=σ'):aj P n w0 M u N β σ' a w:=h▸S
def rb (σ:b1) (keep:List Nat) (m:Nat):Option b1:=bif Nat.ble m σ.aM.length then some ⟨σ.keep m keep,σ.aM.take m⟩ else none
theorem aj.prune (S:aj P n w0 M u N β σ a w) {keep:List Nat} {m:Nat} (h:rb σ keep m=some σ'):aj P n w0 M u N β σ' a w:=by
  unfold rb at h
  cases hb:Nat.ble m σ.aM.length with
  |false=>rw [hb] at h;cases h
  |true=>
    rw [hb] at h
    simp only [cond_true,Option.some.injEq] at h
    subst h
    have hle:m<=σ.aM.length:=Nat.le_of_ble_eq_true hb
    refine S.weaken m keep fun t k o hl=>?_
    have:=(sg m keep t _ hl).2 k o rfl
    simp;omega
theorem akr {c:Code} (Inv:Nat->Act->World->Prop) (m:Nat) (h0:Inv m a w)
    (round:∀m a w,Inv m a w->c.wp P (Exit.then (fun a0 w'=>∃q2,q2<m/\Inv q2 a0 w') Q) a w):(Code.loop c).wp P Q a w:=by
  intro b k cs
  have key:∀n a w,Inv n a w->
      ∃e a0 w',Q e a0 w'/\Arrives P (lone (b.at a (.code c:: .inLoop c::k)) cs w) b k cs e a0 w':=by
    intro n
    induction n using Nat.strongRecOn with
    |_ n gh=>
      intro a w u3
      obtain⟨e,w9,y8,a9,ti⟩:=round n a w u3 b (.inLoop c::k) cs
      cases e with
      |normal=>
        obtain⟨q2,eP,ac_⟩:=a9
        obtain⟨aa0,W7,aku,aeQ,adU⟩:=gh q2 eP w9 y8 ac_
        exact⟨aa0,W7,aku,aeQ,.of_steps (Steps.trans ti (.one step_inLoop)) adU⟩
      |exit id=>exact⟨_,w9,y8,a9,.pass (x:= .inLoop c) rfl (fun _ _=> .inl (by simp)) ti⟩
      |goto l=>exact⟨_,w9,y8,a9,.pass (x:= .inLoop c) rfl (fun _ _=> .inl (by simp)) ti⟩
      |ret=>exact⟨_,w9,y8,a9,.pass (x:= .inLoop c) rfl (fun _ _=> .inl (by simp)) ti⟩
      |panic amr=>exact⟨_,w9,y8,a9,.pass (x:= .inLoop c) rfl (fun _ _=> .inl (by simp)) ti⟩
      |outgrown=>exact⟨_,w9,y8,a9,.pass (x:= .inLoop c) rfl (fun _ _=> .inl (by simp)) ti⟩
  obtain⟨e,a0,w',a9,ti⟩:=key _ a w h0
  exact⟨e,a0,w',a9,.of_steps (.one step_loop) ti⟩
abbrev sO {α:Type} [GT α] (u:World) (N:au) (x:α) (p:GT.Ptr α):Prop:=GT.rd b7 N u x p
abbrev alM {α:Type} [GT α] (w:World) (x:α) (p:GT.Ptr α):Prop:=GT.rd b7 (fc w.heap.size) w x p
structure ad {α:Type} [GT α] (w0:World) (M:au) (u:World) (N F:au) (x:α) (p:GT.Ptr α):Prop where
  own:GT.own b7 F u x p
  sub:∀b,F b->N b
  dJ:∀b,F b->w0.heap.size<=b\/M b
theorem aj.mw (_:aj P n w0 M u N β σ a w) {α:Type} [GT α]:ad w0 M u N ab ([]:List α) (GT.cY (α:=List α)):=
  ⟨GT.gr _ _ _,fun _ h=>False.elim h,fun _ h=>False.elim h⟩
theorem ad.ak {α:Type} [GT α] {F:au} {x:α} {p:GT.Ptr α} (h:ad w0 M u N F x p):sO u N x p:=GT.eB (GT.gj h.own) (Nat.le_refl _) h.sub
theorem aj.arg {α:Type} [GT α] {K:Nat} {x:α} {p:GT.Ptr α} (S:aj P n w0 ab u N β σ a w) (h:GT.rd K (fc w0.heap.size) w0 x p):GT.rd K N u x p:=
  GT.eB (GT.gl h (fun b hb _=>(S.k3 b hb (fun f=>f)).2)) (Nat.le_refl _) (fun b hb=>(S.k3 b hb (fun f=>f)).1)
theorem aj.rd {α:Type} [GT α] {K:Nat} {x:α} {p:GT.Ptr α} (S:aj P n w0 M u N β σ a w) (h:GT.rd K N u x p):GT.rd K (fc w.heap.size) w x p:=
  GT.eB (GT.gz (GT.gl h (fun b hb _=>(S.sep b hb).2.1))) (Nat.le_refl _) (fun _ hb=>hb.2)
def Or (A C:au):au:=fun b=>A b\/C b
theorem ad.up {α:Type} [GT α] {F:au} {x:α} {p:GT.Ptr α} {w':World} {aA:au} (h:ad w0 M u N F x p) (g:∀b,N b->aA b/\w'.heap[b]? =u.heap[b]?):ad w0 M w' aA F x p:=
  ⟨GT.b8 h.own (fun b hb _=>(g b (h.sub b hb)).2),fun b hb=>(g b (h.sub b hb)).1,h.dJ⟩
def dw {α:Type} [GT α] (ks:au) (w:World) (r:α) (e:Ending) (w':World):Prop:=
  ∃q,e= .returned (GT.val r q)/\bu ks w w'/\GT.own b7 (kT w.heap.size w'.heap.size) w' r q
def rC {α g_:Type} [GT α] [GT g_] (ks:au) (w:World) (r:α) (r':g_) (e:Ending) (w':World):Prop:=
  ∃q jd F bW,e= .returned (.tuple #[GT.val r q,GT.val r' jd])/\bu ks w w'/\GT.own b7 F w' r q/\GT.own b7 bW w' r' jd/\J F bW/\∀b,F b\/bW b->w.heap.size<=b/\b<w'.heap.size
def zo {α g_ za:Type} [GT α] [GT g_] [GT za] (ks:au) (w:World) (r:α) (r':g_) (r'':za) (e:Ending) (w':World):Prop:=
  ∃q jd Mi F,e= .returned (.tuple #[GT.val r q,GT.val r' jd,GT.val r'' Mi])/\bu ks w w'/\GT.own b7 F w' r q/\GT.own b7 ab w' r' jd/\GT.own b7 ab w' r'' Mi/\∀b,F b->w.heap.size<=b/\b<w'.heap.size
def kv (P:Program) (n:Nat) (ops:Array Oper) (i:Nat) (σ:b1):Option (FuncId×List Value×Tmp):=
  match ops.toList[i]? with
  |some o=>
    match oi ops σ o,o.op,o.dst with
    |some true,.call ⟨.value (.func f),args,_⟩,some d=>
      match P.funcs[f]? with
      |some fn=>bif fn.name== "runtime.NumGoroutine" ||fn.body.isNone|| !Nat.blt d n then none else(mC σ args.toList).map fun l=>(f,l,d)
      |none=>none
    |some true,.call ⟨.value (.tmp t),args,_⟩,some d=>
      match σ.get (.tmp t) with
      |some (.v (.func (.func f) first sU))=>bif callee P f&&Nat.blt d n then(mC σ args.toList).map fun l=>(f,first.toList++l++sU.toList,d) else none
      |_=>none
    |_,_,_=>none
  |none=>none
theorem w3.step {i:Nat} {o:Oper} (bM:ops[i]? =some o) (hw:Region.wanted o (yielded ops a.tmps)=true) (h:o.wp P a w di Q):wpOp P ops Q i di a w:=by
  unfold wpOp
  simp only [bM,hw,if_true]
  exact .inl h
theorem jQ.op {i:Nat} (hi:Nat.blt i ops.size=true) (h:wpOp P ops Q i (fun a0 w'=>jQ P ops Q (i+1) a0 w') a w):jQ P ops Q i a w:=by
  have eP:i<ops.size:=Nat.le_of_ble_eq_true hi
  unfold jQ
  rw [show ops.size-i=(ops.size-(i+1))+1 by omega,List.range'_succ,wpOps_cons]
  exact h
theorem aj.after (S:aj P n w0 M u N β σ a w) {w':World} {d:Tmp} {v:Value} (hd:Nat.blt d n=true) (hc:bu ab w w'):
    aj P n w0 M w' (Or N (kT w.heap.size w'.heap.size)) β ⟨(d,.v v)::σ.env,σ.aM⟩ (a.put (some d) v) w':=by
  have bD:σ.put n (some d) (.v v)=some ⟨(d,.v v)::σ.env,σ.aM⟩:=by simp [b1.put,hd]
  have ik:=S.put bD (fun _ _ e=>by cases e)
  have hb:∀k,k<σ.aM.length->β k<w.heap.size:=fun k hk=>by
    obtain⟨n7,h⟩:=S.box k _ (List.getElem?_eq_getElem hk)
    rcases Nat.lt_or_ge (β k) w.heap.size with hl|hl
    · exact hl
    · rw [Array.getElem?_eq_none hl] at h;cases h
  refine⟨ik.l_,ik.aW,ik.env,ik.ok,fun k cs hk=>?_,ik.inj,ik.new,fun b eN=>?_,S.fp.step hc (fun _ _ f=>f.elim),fun b hb hm=>?_⟩
  · obtain⟨T,h⟩:=ik.box k cs hk
    have D5:k<σ.aM.length:=(List.getElem?_eq_some_iff.1 hk).1
    exact⟨T,(hc.block _ (hb k D5) (fun f=>f)).trans h⟩
  · rcases eN with h|h
    · obtain⟨h1,an,aF⟩:=ik.sep b h
      exact⟨Nat.lt_of_lt_of_le h1 hc.size,rfl,aF⟩
    · refine⟨h.2,rfl,fun k hk e=>?_⟩
      have:=hb k hk
      have:=h.1
      omega
  · obtain⟨h1,an⟩:=S.k3 b hb hm
    exact⟨.inl h1,((hc.block b (S.sep b h1).1 (fun f=>f)).trans (S.sep b h1).2.1).trans an⟩
theorem aj.up (S:aj P n w0 M u N β σ a w) {w':World} (hc:bu ab w w'):∀b,N b->Or N (kT w.heap.size w'.heap.size) b/\w'.heap[b]? =u.heap[b]? :=fun b hb=>
  ⟨.inl hb,(hc.block b (S.sep b hb).1 (fun f=>f)).trans (S.sep b hb).2.1⟩
theorem aj.call (S:aj P n w0 M u N β σ a w) {i:Nat} {f:FuncId} {eG:List Value} {d:Tmp} {cd:Ending->World->Prop} (hcall:kv P n ops i σ=some (f,eG,d)) (hc:Calls P f eG.toArray w cd)
    (K:∀e w',cd e w'->∃v,e= .returned v/\di (a.put (some d) v) w'):wpOp P ops Q i di a w:=by
  unfold kv at hcall
  split at hcall
  · rename_i o bM
    have kF:ops[i]? =some o:=by simpa using bM
    split at hcall
    · rename_i z5 args kX o6 aJ hop hd
      split at hcall
      · rename_i fn AN
        cases hb:(fn.name== "runtime.NumGoroutine" ||fn.body.isNone|| !Nat.blt o6 n) with
        |true=>rw [hb] at hcall;cases hcall
        |false=>
          rw [hb] at hcall
          simp only [cond_false] at hcall
          cases b5:mC σ args.toList with
          |none=>simp [b5] at hcall
          |some l=>
            simp [b5] at hcall
            obtain⟨rfl,rfl,rfl⟩:=hcall
            simp only [Bool.or_eq_false_iff] at hb
            refine w3.step kF (mi S aJ) ?_
            have p9:args.map a.eval=l.toArray:=by
              rw [←Array.toList_inj];simpa using wJ S _ _ b5
            have oz:(execOp a.eval o).run P w= .ok (.enter z5 l.toArray) w:=by
              unfold execOp
              simp only [hop]
              simp only [resolve,p9,Act.eval,Deferred.ofValue]
              have sh:fn.name≠ "runtime.NumGoroutine" :=fun e=>by rw [e] at hb;simp at hb
              have si:¬fn.body=none:=fun e=>by rw [e] at hb;simp at hb
              simp [invoke,callFunc,AN,sh,si]
            unfold Oper.wp
            rw [oz,Oper.upon_enter]
            refine hc.mono fun e w' u_=>?_
            obtain⟨v,rfl,h⟩:=K e w' u_
            rw [hd]
            exact h
      · cases hcall
    · rename_i t args kX o6 aJ hop hd
      split at hcall
      · rename_i z5 first sU hx
        have e:=S.get hx
        cases hb:(callee P z5&&Nat.blt o6 n) with
        |false=>rw [hb] at hcall;cases hcall
        |true=>
          rw [hb] at hcall
          simp only [cond_true] at hcall
          simp only [Bool.and_eq_true] at hb
          cases b5:mC σ args.toList with
          |none=>simp [b5] at hcall
          |some l=>
            simp only [b5,Option.map_some,Option.some.injEq,Prod.mk.injEq] at hcall
            obtain⟨rfl,rfl,rfl⟩:=hcall
            refine w3.step kF (mi S aJ) ?_
            have p9:args.map a.eval=l.toArray:=by
              rw [←Array.toList_inj];simpa using wJ S _ _ b5
            have oz:(execOp a.eval o).run P w= .ok (.enter z5 (first.toList++l++sU.toList).toArray) w:=by
              unfold execOp
              simp only [hop]
              exact Vz (l:=l) (x:= .tmp t) e hb.1 p9 _ w
            unfold Oper.wp
            rw [oz,Oper.upon_enter]
            refine hc.mono fun e w' u_=>?_
            obtain⟨v,rfl,h⟩:=K e w' u_
            rw [hd]
            exact h
      · cases hcall
    · cases hcall
  · cases hcall
theorem J.fresh {F:au} (S:aj P n w0 M u N β σ a w) (w':World) (h:∀b,F b->w.heap.size<=b/\b<w'.heap.size):J N F:=fun b h1 an=>by
  have:=(S.sep b h1).1
  have:=(h b an).1
  omega
theorem aj.P2 {α:Type} [GT α] (S:aj P n w0 M u N β σ a w) {i:Nat} {f:FuncId} {eG:List Value} {d:Tmp} {r:α} (hc:Calls P f eG.toArray w (dw ab w r)) (hcall:kv P n ops i σ=some (f,eG,d)) (hd:Nat.blt d n=true)
    (K:∀a0 w' aA q F,aj P n w0 M w' aA β ⟨(d,.v (GT.val r q))::σ.env,σ.aM⟩ a0 w'->(∀b,N b->aA b/\w'.heap[b]? =u.heap[b]?)->ad w0 M w' aA F r q->J N F->di a0 w'):wpOp P ops Q i di a w:=
  S.call hcall hc fun _ w' ⟨q,he,ff,bM⟩=>⟨_,he,K _ w' _ q _ (S.after hd ff) (S.up ff) ⟨bM,fun _ h=> .inr h,fun _ h=> .inl (Nat.le_trans S.fp.size h.1)⟩ (J.fresh S w' fun _ h=>h)⟩
theorem aj.call2 {α g_:Type} [GT α] [GT g_] (S:aj P n w0 M u N β σ a w) {i:Nat} {f:FuncId} {eG:List Value} {d:Tmp} {r:α} {r':g_} (hc:Calls P f eG.toArray w (rC ab w r r')) (hcall:kv P n ops i σ=some (f,eG,d)) (hd:Nat.blt d n=true)
    (K:∀a0 w' aA q jd F bW,aj P n w0 M w' aA β ⟨(d,.v (.tuple #[GT.val r q,GT.val r' jd]))::σ.env,σ.aM⟩ a0 w'->(∀b,N b->aA b/\w'.heap[b]? =u.heap[b]?)->ad w0 M w' aA F r q->ad w0 M w' aA bW r' jd->J N F->J N bW->J F bW->di a0 w'):wpOp P ops Q i di a w:=
  S.call hcall hc fun _ w' ⟨q,jd,F,bW,he,ff,bM,kF,hd',bf⟩=>⟨_,he,K _ w' _ q jd F bW (S.after hd ff) (S.up ff)
    ⟨bM,fun b h=> .inr (bf b (.inl h)),fun b h=> .inl (Nat.le_trans S.fp.size (bf b (.inl h)).1)⟩ ⟨kF,fun b h=> .inr (bf b (.inr h)),fun b h=> .inl (Nat.le_trans S.fp.size (bf b (.inr h)).1)⟩
    (J.fresh S w' fun b h=>bf b (.inl h)) (J.fresh S w' fun b h=>bf b (.inr h)) hd'⟩
theorem aj.own {α:Type} [GT α] {F:au} {x:α} {p:GT.Ptr α} (S:aj P n w0 ab u N β σ a w) (h:ad w0 ab u N F x p):GT.own b7 (kT w0.heap.size w.heap.size) w x p:=
  GT.fK (GT.b8 h.own (fun b hb _=>(S.sep b (h.sub b hb)).2.1)) (Nat.le_refl _) (fun b hb=>⟨(h.dJ b hb).resolve_right (fun f=>f),(S.sep b (h.sub b hb)).1⟩)
theorem aj.UD {α:Type} [GT α] {F:au} {x:α} {p:GT.Ptr α} (S:aj P n w0 ab u N β σ a w) (h:ad w0 ab u N F x p):GT.own b7 F w x p/\∀b,F b->w0.heap.size<=b/\b<w.heap.size:=
  ⟨GT.b8 h.own (fun b hb _=>(S.sep b (h.sub b hb)).2.1),fun b hb=>⟨(h.dJ b hb).resolve_right (fun f=>f),(S.sep b (h.sub b hb)).1⟩⟩
end
end Go.Proofs.YtjlocpdfcanlhaaGreat
namespace Go.Proofs.YtjlocpdfcanlhaaGreat
open Go
def kY (P:Program) (n:Nat) (ops:Array Oper):List Oper->b1->List Value->Option (b1×List (Ask×Value))
  |
    [],σ,_=>some (σ,[])
  |o::r,σ,c8=>
    match oi ops σ o with
    |none=>none
    |some false=>(σ.put n o.dst (.v undef)).bind fun σ'=>kY P n ops r σ' c8
    |some true=>
      match tH P σ o with
      |some (.val x)=>(σ.put n o.dst x).bind fun σ'=>kY P n ops r σ' c8
      |some (.ask q)=>
        match c8 with
        |[]=>none
        |v::tI=>(σ.put n o.dst (.v v)).bind fun σ'=>(kY P n ops r σ' tI).map fun x=>(x.1,(q,v)::x.2)
      |_=>none
def H5 (P:Program) (n:Nat) (ops:Array Oper) (σ:b1) (c8:List Value) (keep:List Nat) (m:Nat):Option (b1×List (Ask×Value)):=
  (kY P n ops ops.toList σ c8).map fun x=>(⟨x.1.keep m keep,x.1.aM.take m⟩,x.2)
section
variable {P:Program} {n:Nat} {w0:World} {M:au} {u:World} {N:au} {β:Nat->Nat} {σ σ':b1} {a:Act} {w:World} {ops:Array Oper} {Q:Exit->Act->World->Prop}
theorem H6 (wd:World) (σ':b1) (Q':Act->Prop):∀(l:List Oper) (σ:b1) (a:Act) (claims:List (Ask×Value)),
    kY P n ops l σ (claims.map (·.2))=some (σ',claims)->fr P u N claims->aj P n w0 M u N β σ a wd->
    (∀a0,aj P n w0 M u N β σ' a0 wd->Q' a0)->wpQuiet P ops (fun w'=>bu ab wd w') Q' l a
  |
    [],σ,a,claims,bV,_,S,K=>by
    simp only [kY,Option.some.injEq,Prod.mk.injEq] at bV
    obtain⟨rfl,_⟩:=bV
    exact K a S
  |o::l,σ,a,claims,bV,a9,S,K=>by
    have n5:=H6 wd σ' Q' l
    simp only [wpQuiet]
    simp only [kY] at bV
    split at bV
    · cases bV
    · rename_i aJ
      rw [mi S aJ]
      simp only [Bool.false_eq_true,if_false]
      cases bD:σ.put n o.dst (.v undef) with
      |none=>rw [bD] at bV;cases bV
      |some bH=>
        rw [bD] at bV
        exact n5 bH _ claims bV a9 (S.put bD (fun _ _ e=>by cases e)) K
    · rename_i aJ
      rw [mi S aJ]
      simp only [if_true]
      split at bV
      · rename_i x hx
        cases bD:σ.put n o.dst x with
        |none=>rw [bD] at bV;cases bV
        |some bH=>
          rw [bD] at bV
          refine⟨x.val β,fun w hw=>?_,n5 bH _ claims bV a9 (S.put bD (l3 S hx).2) K⟩
          unfold Oper.quietAt
          rw [(l3 (S.ext hw) hx).1]
          exact⟨rfl,rfl⟩
      · rename_i q hx
        split at bV
        · cases bV
        · rename_i v c8 he
          cases bD:σ.put n o.dst (.v v) with
          |none=>rw [bD] at bV;cases bV
          |some bH=>
            rw [bD] at bV
            simp only [Option.bind_some] at bV
            cases bn:kY P n ops l bH c8 with
            |none=>rw [bn] at bV;cases bV
            |some r=>
              rw [bn] at bV
              simp only [Option.map_some,Option.some.injEq,Prod.mk.injEq] at bV
              obtain⟨ct,cA⟩:=bV
              subst cA
              simp only [List.map_cons,List.cons.injEq,true_and] at he
              refine⟨v,fun w hw=>?_,n5 bH _ r.2 (by rw [he,bn,←ct]) a9.2 (S.put bD (fun _ _ e=>by cases e)) K⟩
              have dR:=S.ext hw
              have h1:=l3 dR hx
              unfold Oper.quietAt
              cases q with
              |call f args=>
                simp only [zs] at h1
                rw [h1]
                exact⟨rfl,(a9.1 w (fun b hb=>⟨(dR.sep b hb).1,(dR.sep b hb).2.1⟩)).mono fun e w' ⟨aF,b2⟩=>⟨aF,hw.trans b2⟩⟩
              |_=>
                rw [h1 v (a9.1 w (fun b hb=>(dR.sep b hb).2.1))]
                exact⟨rfl,rfl⟩
      · cases bV
theorem aj.drawn (S:aj P n w0 M u N β σ a w) {id:Nat} {claims:List (Ask×Value)} {keep:List Nat} {m:Nat} (a9:fr P u N claims)
    (hm:P.follows .mixedOrders=true) (ca:Region.lexB .any ops=true)
    (bV:H5 P n ops σ (claims.map (·.2)) keep m=some (σ',claims)) (K:∀a0 w',aj P n w0 M u N β σ' a0 w'->Q .normal a0 w'):(Code.region id ops true).wp P Q a w:=by
  unfold H5 at bV
  cases bn:kY P n ops ops.toList σ (claims.map (·.2)) with
  |none=>rw [bn] at bV;cases bV
  |some r=>
    rw [bn] at bV
    simp only [Option.map_some,Option.some.injEq,Prod.mk.injEq] at bV
    obtain⟨ct,cA⟩:=bV
    have ik:aj P n w0 M u N β σ a {w with drawn:=w.drawn+1}:=S.ext (bu.draw ab w _)
    refine wp_region_quiet (C:=fun w'=>bu ab {w with drawn:=w.drawn+1} w') hm ca (bu.refl _ _) ?_
    refine H6 _ r.1 _ ops.toList σ a claims (by rw [bn,←cA]) a9 ik fun a0 dR w' qe=>?_
    subst ct
    refine K a0 w' ((dR.ext qe).weaken m keep fun t k o h=>?_)
    have h1:=sg m keep t _ h
    have an:=dR.ok t k o h1.1
    have aF:=h1.2 k o rfl
    simp;omega
end
section
variable {P:Program} {u:World} {N:au}
theorem a_.lo {x:Int} (h:a_ x):-9223372036854775808<=x:=h.1
theorem a_.hi {x:Int} (h:a_ x):x<=9223372036854775807:=h.2
theorem wL {x:Int} (h:a_ x):IntKind.i64.wrap x=x:=Go.IntWalk.i64_in x ⟨h.1,by have:=h.2;omega⟩
theorem WU {x y:Int} (h:a_ (x+y)):g2 P u N (.int .add .i64 x y) (aa (x+y)):=fun w _=>by
  show Result.ok (Value.int .i64 (IntKind.i64.wrap (x+y))) w=_
  rw [wL h]
theorem jl {x y:Int}:g2 P u N (.int .add .i64 x y) (aa (IntKind.i64.wrap (x+y))):=fun _ _=>rfl
theorem WZ {x y:Int}:g2 P u N (.int .sub .i64 x y) (aa (IntKind.i64.wrap (x-y))):=fun _ _=>rfl
theorem WX {x y:Int} (h:a_ (x-y)):g2 P u N (.int .sub .i64 x y) (aa (x-y)):=fun w _=>by
  show Result.ok (Value.int .i64 (IntKind.i64.wrap (x-y))) w=_
  rw [wL h]
theorem Od {x y:Int} (h:a_ (x*y)):g2 P u N (.int .mul .i64 x y) (aa (x*y)):=fun w _=>by
  show Result.ok (Value.int .i64 (IntKind.i64.wrap (x*y))) w=_
  rw [wL h]
theorem oU {x y:Int} (h:y≠0):g2 P u N (.int .rem .i64 x y) (aa (x.tmod y)):=fun w _=>by
  show(Op.intDiv .rem .i64 x y).run P w=_
  unfold Op.intDiv
  rw [if_neg h];rfl
theorem Oe {x y:Int} (h:y≠0) (cl:a_ (x.tdiv y)):g2 P u N (.int .quo .i64 x y) (aa (x.tdiv y)):=fun w _=>by
  show(Op.intDiv .quo .i64 x y).run P w=_
  unfold Op.intDiv
  rw [if_neg h]
  show Result.ok (Value.int .i64 (IntKind.i64.wrap (x.tdiv y))) w=_
  rw [wL cl]
def jH (x y:Int):Int:=IntKind.i64.wrap ((BitVec.ofInt 64 x&&& BitVec.ofInt 64 y).toNat)
def af7 (x y:Int):Int:=IntKind.i64.wrap ((BitVec.ofInt 64 x|||BitVec.ofInt 64 y).toNat)
def apx (x y:Int):Int:=IntKind.i64.wrap ((BitVec.ofInt 64 x ^^^ BitVec.ofInt 64 y).toNat)
def vT (x y:Int):Int:=IntKind.i64.wrap ((BitVec.ofInt 64 x&&& ~~~ BitVec.ofInt 64 y).toNat)
theorem akt (x:Int):a_ (IntKind.i64.wrap x):=by
  rw [IntKind.wrap_i64];exact⟨by omega,by omega⟩
theorem afY (x y:Int):a_ (vT x y):=akt _
theorem qC {x y:Int}:g2 P u N (.int .and .i64 x y) (aa (jH x y)):=fun _ _=>rfl
theorem WV {x y:Int}:g2 P u N (.int .andNot .i64 x y) (aa (vT x y)):=fun _ _=>rfl
def oO (x y:Int):Int:=IntKind.i64.wrap (x*2 ^ (min y.toNat 64))
def sE (x y:Int):Int:=x.fdiv (2 ^ (min y.toNat 64))
theorem Of {yk:IntKind} {x y:Int} (h:0<=y):g2 P u N (.iV (Op.shift .shl .i64 x yk y)) (aa (oO x y)):=fun w _=>by
  show(Op.shift .shl .i64 x yk y).run P w=_
  unfold Op.shift
  rw [if_neg (by omega)];rfl
theorem WW {yk:IntKind} {x y:Int} (h:0<=y):g2 P u N (.iV (Op.shift .shr .i64 x yk y)) (aa (sE x y)):=fun w _=>by
  show(Op.shift .shr .i64 x yk y).run P w=_
  unfold Op.shift
  rw [if_neg (by omega)];rfl
theorem GU {s d:TypeId} {Cx:TypeDesc} {x:Int} (hs:P.underlying s=some Cx) (hd:P.underlying d=some (.int .u64)) (h0:0<=x) (h1:x<=9223372036854775807):g2 P u N (.iV (Go.convert s d (aa x))) (.int .u64 x):=fun w _=>by
  show(Go.convert s d (.int .i64 x)).run P w=_
  unfold Go.convert
  simp only [Sem.run_bind,run_underlying hs,run_underlying hd,Result.andThen_ok]
  have e:IntKind.u64.wrap x=x:=Go.IntWalk.u64_in x ⟨h0,by omega⟩
  unfold Conv.intToInt
  rw [e]
  cases Cx<;>rfl
section lists
variable {α:Type} [GT α] {xs:List α} {p:GT.Ptr (List α)}
theorem eI {K:Nat} (h:GT.rd K N u xs p) {t e:TypeId} {i:Int} {k l:Nat} (hl:l=xs.length) (hk:i=k) (hi:k<xs.length) (bs:P.underlying t=some (.slice e)) (he:ji P e=some (GT.width α)):
    g2 P u N (.idx t (R l p.1) (aa i)) (bg p.1.b (p.1.off+k*GT.width α)):=fun w _=>by
  subst hl
  have qa:=(af.at_ h (by omega)).1
  subst hk
  have z3:p.1.addr=some ⟨p.1.b,p.1.off,none⟩:=by unfold l8.addr;rw [qa];rfl
  show(Instr.indexAt t (.slice p.1.addr xs.length p.1.cap) (.int .i64 k)).run P w=_
  unfold Instr.indexAt
  simp only [asIntOf,Sem.run_bind,Sem.run_pure,Result.andThen_ok,run_underlying bs,z3]
  have eP:0<=(k:Int)/\(k:Int)<xs.length:=⟨by omega,by omega⟩
  simp only [eP,and_self,if_true,Sem.run_bind,yU he,Result.andThen_ok,Sem.run_pure,Int.toNat_natCast,Addr.add_mid]
theorem P8 {K:Nat} (h:GT.rd K N u xs p) {k:Nat} (hi:k<xs.length) {w:World} (hw:∀b,N b->w.heap[b]? =u.heap[b]?):kQ w p.1.b (p.1.off+k*GT.width α) (GT.cells (el xs k) (p.2 k)):=by
  have h1:=af.cell h k hi
  intro j v b0
  rw [←h1 j v b0]
  exact P7 (hw _ (af.at_ h (by omega)).2)
theorem iO {K:Nat} (h:GT.rd K N u xs p) {t:TypeId} {k j:Nat} {v:Value} (hi:k<xs.length) (b0:(GT.cells (el xs k) (p.2 k))[j]? =some v) (bs:lv P t=some false):
    g2 P u N (.load t (bg p.1.b (p.1.off+k*GT.width α+j))) v:=fun w hw=>by
  have:=P8 h hi hw j v b0
  show(Instr.loadAt t (.pointer (some ⟨p.1.b,_,none⟩))).run P w=_
  simp only [Instr.loadAt,Instr.sureAddr,Sem.run_bind,Sem.run_pure,Result.andThen_ok,loadVar,FI bs,Bool.false_eq_true,if_false,run_load,this]
theorem CR {K:Nat} (h:GT.rd K N u xs p) {t:TypeId} {k:Nat} (hi:k<xs.length) (ay:GT.agg α=false) (bs:lv P t=some false):
    g2 P u N (.load t (bg p.1.b (p.1.off+k*GT.width α))) (GT.val (el xs k) (p.2 k)):=by
  have hl:=GT.len (el xs k) (p.2 k)
  rw [GT.one ay] at hl
  match hc:GT.cells (el xs k) (p.2 k),hl with
  |[v],_=>
    have e:GT.val (el xs k) (p.2 k)=v:=by unfold GT.val;rw [ay,hc];rfl
    rw [e]
    have:=iO (P:=P) (j:=0) h hi (v:=v) (by rw [hc];rfl) bs
    simpa using this
theorem WY {K:Nat} (h:GT.rd K N u xs p) {t:TypeId} {k j s:Nat} (hi:k<xs.length) (ay:lv P t=some true) (hs:ji P t=some s) (aoa:j+s<=GT.width α):
    g2 P u N (.load t (bg p.1.b (p.1.off+k*GT.width α+j))) (.agg (((GT.cells (el xs k) (p.2 k)).drop j).take s).toArray):=fun w hw=>by
  obtain⟨d,hd,bn⟩:=Ny ay
  have hc:=P8 h hi hw
  refine run_loadAt_mid w _ _ t _ d (fun i v b5=>?_) hd bn ?_
  · rw [List.getElem?_take] at b5
    split at b5
    · rw [List.getElem?_drop] at b5
      have:=hc _ _ b5
      rwa [←Nat.add_assoc] at this
    · cases b5
  · rw [V1 hs,List.length_take,List.length_drop,GT.len]
    congr 1
    omega
theorem rB {K:Nat} (h:GT.rd K N u xs p) {t:TypeId} {k:Nat} (hi:k<xs.length) (aJ:GT.agg α=true) (ay:lv P t=some true) (hs:ji P t=some (GT.width α)):
    g2 P u N (.load t (bg p.1.b (p.1.off+k*GT.width α))) (GT.val (el xs k) (p.2 k)):=by
  have:=WY (P:=P) (j:=0) h hi ay hs (by omega)
  have e:GT.val (el xs k) (p.2 k)= .agg (((GT.cells (el xs k) (p.2 k)).drop 0).take (GT.width α)).toArray:=by
    unfold GT.val
    rw [aJ,List.drop_zero,List.take_of_length_le (by rw [GT.len];exact Nat.le_refl _)]
    rfl
  rw [e]
  simpa using this
end lists
theorem fT {s:Sem Value} {v:Value} (h:∀w,s.run P w= .ok v w):g2 P u N (.iV s) v:=fun w _=>h w
theorem VX {x y:Int} (hy:0<y/\y<=9223372036854775807):a_ (Int.tmod x y):=by
  have h1:=Int.tmod_lt_of_pos x hy.1
  rcases Int.le_total 0 x with h0|h0
  · have:=Int.tmod_nonneg y h0
    exact⟨by omega,by omega⟩
  · have e:Int.tmod x y=-Int.tmod (-x) y:=by rw [Int.neg_tmod];omega
    have aF:=Int.tmod_lt_of_pos (-x) hy.1
    exact⟨by omega,by omega⟩
theorem aE {f:FuncId} {args:List Value} {v:Value} (h:∀w,(∀b,N b->b<w.heap.size/\w.heap[b]? =u.heap[b]?)->Calls P f args.toArray w fun e w'=>e= .returned v/\bu ab w w'):g2 P u N (.call f args) v:=h
theorem bN {α:Type} [GT α] {K:Nat} {x:α} {p:GT.Ptr α} (h:GT.rd K N u x p) {w:World} (hw:∀b,N b->b<w.heap.size/\w.heap[b]? =u.heap[b]?):GT.rd K (fc w.heap.size) w x p:=
  GT.eB (GT.gl h (fun b hb _=>(hw b hb).2)) (Nat.le_refl _) (fun b hb=>(hw b hb).1)
end
end Go.Proofs.YtjlocpdfcanlhaaGreat
namespace Go.Proofs.YtjlocpdfcanlhaaGreat
open Go
structure nv (F:au) (l:List au):Prop where
  sub:∀G,G∈l->∀b,G b->F b
  cq:l.Pairwise J
theorem nv.mono {F bW:au} {l:List au} (h:nv F l) (bf:∀b,F b->bW b):nv bW l:=⟨fun G cM b hb=>bf b (h.sub G cM b hb),h.cq⟩
theorem nv.lt {F:au} {l:List au} (h:nv F l) (n:Nat):nv (fun b=>F b/\b<n) (l.map fun G b=>G b/\b<n):=
  ⟨fun G cM b hb=>by
      obtain⟨gJ,h1,rfl⟩:=List.mem_map.1 cM
      exact⟨h.sub gJ h1 b hb.1,hb.2⟩,
    List.pairwise_map.2 (h.cq.imp fun hd b x y=>hd b x.1 y.1)⟩
structure aQ where
  page:Int
  bd:Int
  deriving DecidableEq
theorem aQ.ext_iff {a b:aQ}:a=b↔a.page=b.page/\a.bd=b.bd:=by
  cases a;cases b;simp
structure ea (d:aQ):Prop where
  page:a_ d.page
  bd:a_ d.bd
instance:GT aQ where
  Ptr:=Unit
  eK:=⟨0,0⟩
  cY:=()
  width:=2
  agg:=true
  cells x _:=[aa x.page,aa x.bd]
  rd _ _ _ x _:=ea x
  own _ _ _ x _:=ea x
  jM:=by decide
  len _ _:=rfl
  one h:=by cases h
  plain _ _ v h:=by simp only [List.mem_cons,List.not_mem_nil,or_false] at h;rcases h with rfl|rfl<;>rfl
  eB h _ _:=h
  gl h _:=h
  gz h:=h
  fK h _ _:=h
  b8 h _:=h
  gI h:=h
  gj h:=h
  gr _ _ _:=⟨⟨by decide,by decide⟩,⟨by decide,by decide⟩⟩
structure bQ where
  known:List Bool
  aY:List aQ
  deriving DecidableEq
theorem bQ.ext_iff {a b:bQ}:a=b↔a.known=b.known/\a.aY=b.aY:=by
  cases a;cases b;simp
structure fm where
  known:aC Bool
  aY:aC aQ
structure er (K:Nat) (F:au) (w:World) (d:bQ) (p:fm):Prop where
  known:GT.rd K F w d.known p.known
  aY:GT.rd K F w d.aY p.aY
def WR (K:Nat) (F:au) (w:World) (x:bQ) (p:fm):Prop:=
  ∃cH cE:au,GT.own K cH w x.known p.known/\GT.own K cE w x.aY p.aY/\nv F [cH,cE]
instance:GT bQ where
  Ptr:=fm
  eK:=⟨[],[]⟩
  cY:=⟨GT.cY (α:=List Bool),GT.cY (α:=List aQ)⟩
  width:=2
  agg:=true
  cells x p:=[R x.known.length p.known.1,R x.aY.length p.aY.1]
  rd:=er
  own:=WR
  jM:=by decide
  len _ _:=rfl
  one h:=by cases h
  plain _ _ v h:=by simp only [List.mem_cons,List.not_mem_nil,or_false] at h;rcases h with rfl|rfl<;>rfl
  eB h hk bf:=⟨GT.eB h.known hk bf,GT.eB h.aY hk bf⟩
  gl h hw:=⟨GT.gl h.known hw,GT.gl h.aY hw⟩
  gz h:=⟨GT.gz h.known,GT.gz h.aY⟩
  fK:=by
    rintro K di F G w x p ⟨cH,cE,h0,h1,s⟩ hk bf
    exact⟨cH,cE,GT.fK h0 hk (fun _ y=>y),GT.fK h1 hk (fun _ y=>y),s.mono bf⟩
  b8:=by
    rintro K F w w' x p ⟨cH,cE,h0,h1,s⟩ hw
    exact⟨cH,cE,GT.b8 h0 (fun b hb=>hw b (s.sub _ (by simp) b hb)),GT.b8 h1 (fun b hb=>hw b (s.sub _ (by simp) b hb)),s⟩
  gI:=by
    rintro K F w x p ⟨cH,cE,h0,h1,s⟩
    exact⟨_,_,GT.gI h0,GT.gI h1,s.lt _⟩
  gj:=by
    rintro K F w x p ⟨cH,cE,h0,h1,s⟩
    exact⟨GT.eB (GT.gj h0) (Nat.le_refl _) (s.sub _ (by simp)),GT.eB (GT.gj h1) (Nat.le_refl _) (s.sub _ (by simp))⟩
  gr K F w:=⟨ab,ab,GT.gr _ _ _,GT.gr _ _ _,⟨fun G cM b hb=>by simp at cM;rcases cM with rfl<;>exact hb.elim,by simp [J,ab]⟩⟩
structure aG where
  tag:Int
  page:Int
  host:Int
  bd:Int
  deriving DecidableEq
theorem aG.ext_iff {a b:aG}:a=b↔a.tag=b.tag/\a.page=b.page/\a.host=b.host/\a.bd=b.bd:=by
  cases a;cases b;simp
structure e7 (d:aG):Prop where
  tag:a_ d.tag
  page:a_ d.page
  host:a_ d.host
  bd:a_ d.bd
instance:GT aG where
  Ptr:=Unit
  eK:=⟨0,0,0,0⟩
  cY:=()
  width:=4
  agg:=true
  cells x _:=[aa x.tag,aa x.page,aa x.host,aa x.bd]
  rd _ _ _ x _:=e7 x
  own _ _ _ x _:=e7 x
  jM:=by decide
  len _ _:=rfl
  one h:=by cases h
  plain _ _ v h:=by simp only [List.mem_cons,List.not_mem_nil,or_false] at h;rcases h with rfl|rfl|rfl|rfl<;>rfl
  eB h _ _:=h
  gl h _:=h
  gz h:=h
  fK h _ _:=h
  b8 h _:=h
  gI h:=h
  gj h:=h
  gr _ _ _:=⟨⟨by decide,by decide⟩,⟨by decide,by decide⟩,⟨by decide,by decide⟩,⟨by decide,by decide⟩⟩
structure c_ where
  eF:Int
  x:Int
  deriving DecidableEq
theorem c_.ext_iff {a b:c_}:a=b↔a.eF=b.eF/\a.x=b.x:=by
  cases a;cases b;simp
structure iY (d:c_):Prop where
  eF:a_ d.eF
  x:a_ d.x
instance:GT c_ where
  Ptr:=Unit
  eK:=⟨0,0⟩
  cY:=()
  width:=2
  agg:=true
  cells x _:=[aa x.eF,aa x.x]
  rd _ _ _ x _:=iY x
  own _ _ _ x _:=iY x
  jM:=by decide
  len _ _:=rfl
  one h:=by cases h
  plain _ _ v h:=by simp only [List.mem_cons,List.not_mem_nil,or_false] at h;rcases h with rfl|rfl<;>rfl
  eB h _ _:=h
  gl h _:=h
  gz h:=h
  fK h _ _:=h
  b8 h _:=h
  gI h:=h
  gj h:=h
  gr _ _ _:=⟨⟨by decide,by decide⟩,⟨by decide,by decide⟩⟩
structure fo where
  aX:Int
  post:Int
  eV:Bool
  deriving DecidableEq
theorem fo.ext_iff {a b:fo}:a=b↔a.aX=b.aX/\a.post=b.post/\a.eV=b.eV:=by
  cases a;cases b;simp
structure hr (d:fo):Prop where
  aX:a_ d.aX
  post:a_ d.post
instance:GT fo where
  Ptr:=Unit
  eK:=⟨0,0,false⟩
  cY:=()
  width:=3
  agg:=true
  cells x _:=[aa x.aX,aa x.post,B x.eV]
  rd _ _ _ x _:=hr x
  own _ _ _ x _:=hr x
  jM:=by decide
  len _ _:=rfl
  one h:=by cases h
  plain _ _ v h:=by simp only [List.mem_cons,List.not_mem_nil,or_false] at h;rcases h with rfl|rfl|rfl<;>rfl
  eB h _ _:=h
  gl h _:=h
  gz h:=h
  fK h _ _:=h
  b8 h _:=h
  gI h:=h
  gj h:=h
  gr _ _ _:=⟨⟨by decide,by decide⟩,⟨by decide,by decide⟩⟩
structure df where
  kind:Int
  page:Int
  wr:Bool
  n:Int
  deriving DecidableEq
theorem df.ext_iff {a b:df}:a=b↔a.kind=b.kind/\a.page=b.page/\a.wr=b.wr/\a.n=b.n:=by
  cases a;cases b;simp
structure fF (d:df):Prop where
  kind:a_ d.kind
  page:a_ d.page
  n:a_ d.n
instance:GT df where
  Ptr:=Unit
  eK:=⟨0,0,false,0⟩
  cY:=()
  width:=4
  agg:=true
  cells x _:=[aa x.kind,aa x.page,B x.wr,aa x.n]
  rd _ _ _ x _:=fF x
  own _ _ _ x _:=fF x
  jM:=by decide
  len _ _:=rfl
  one h:=by cases h
  plain _ _ v h:=by simp only [List.mem_cons,List.not_mem_nil,or_false] at h;rcases h with rfl|rfl|rfl|rfl<;>rfl
  eB h _ _:=h
  gl h _:=h
  gz h:=h
  fK h _ _:=h
  b8 h _:=h
  gI h:=h
  gj h:=h
  gr _ _ _:=⟨⟨by decide,by decide⟩,⟨by decide,by decide⟩,⟨by decide,by decide⟩⟩
structure ax where
  prog:List c_
  acc:Int
  aw:Int
  written:List aQ
  live:List aQ
  aN:fo
  aB:Int
  exit:df
  halted:Bool
  seen:List Int
  deriving DecidableEq
theorem ax.ext_iff {a b:ax}:a=b↔a.prog=b.prog/\a.acc=b.acc/\a.aw=b.aw/\a.written=b.written/\a.live=b.live/\a.aN=b.aN/\a.aB=b.aB/\a.exit=b.exit/\a.halted=b.halted/\a.seen=b.seen:=by
  cases a;cases b;simp
structure c6 where
  prog:aC c_
  written:aC aQ
  live:aC aQ
  seen:aC Int
structure az (K:Nat) (F:au) (w:World) (d:ax) (p:c6):Prop where
  prog:GT.rd K F w d.prog p.prog
  acc:a_ d.acc
  aw:a_ d.aw
  written:GT.rd K F w d.written p.written
  live:GT.rd K F w d.live p.live
  aN:hr d.aN
  aB:a_ d.aB
  exit:fF d.exit
  seen:GT.rd K F w d.seen p.seen
def WO (K:Nat) (F:au) (w:World) (x:ax) (p:c6):Prop:=
  ∃cH cE cT c1:au,GT.own K cH w x.prog p.prog/\GT.own K cE w x.written p.written/\GT.own K cT w x.live p.live/\GT.own K c1 w x.seen p.seen/\nv F [cH,cE,cT,c1]/\a_ x.acc/\a_ x.aw/\hr x.aN/\a_ x.aB/\fF x.exit
instance:GT ax where
  Ptr:=c6
  eK:=⟨[],0,0,[],[],⟨0,0,false⟩,0,⟨0,0,false,0⟩,false,[]⟩
  cY:=⟨GT.cY (α:=List c_),GT.cY (α:=List aQ),GT.cY (α:=List aQ),GT.cY (α:=List Int)⟩
  width:=15
  agg:=true
  cells x p:=[R x.prog.length p.prog.1,aa x.acc,aa x.aw,R x.written.length p.written.1,R x.live.length p.live.1,aa x.aN.aX,aa x.aN.post,B x.aN.eV,aa x.aB,aa x.exit.kind,aa x.exit.page,B x.exit.wr,aa x.exit.n,B x.halted,R x.seen.length p.seen.1]
  rd:=az
  own:=WO
  jM:=by decide
  len _ _:=rfl
  one h:=by cases h
  plain _ _ v h:=by simp only [List.mem_cons,List.not_mem_nil,or_false] at h;rcases h with rfl|rfl|rfl|rfl|rfl|rfl|rfl|rfl|rfl|rfl|rfl|rfl|rfl|rfl|rfl<;>rfl
  eB h hk bf:=⟨GT.eB h.prog hk bf,h.acc,h.aw,GT.eB h.written hk bf,GT.eB h.live hk bf,h.aN,h.aB,h.exit,GT.eB h.seen hk bf⟩
  gl h hw:=⟨GT.gl h.prog hw,h.acc,h.aw,GT.gl h.written hw,GT.gl h.live hw,h.aN,h.aB,h.exit,GT.gl h.seen hw⟩
  gz h:=⟨GT.gz h.prog,h.acc,h.aw,GT.gz h.written,GT.gz h.live,h.aN,h.aB,h.exit,GT.gz h.seen⟩
  fK:=by
    rintro K di F G w x p ⟨cH,cE,cT,c1,h0,h1,an,aF,s,f0,f1,f2,f3,f4⟩ hk bf
    exact⟨cH,cE,cT,c1,GT.fK h0 hk (fun _ y=>y),GT.fK h1 hk (fun _ y=>y),GT.fK an hk (fun _ y=>y),GT.fK aF hk (fun _ y=>y),s.mono bf,f0,f1,f2,f3,f4⟩
  b8:=by
    rintro K F w w' x p ⟨cH,cE,cT,c1,h0,h1,an,aF,s,f0,f1,f2,f3,f4⟩ hw
    exact⟨cH,cE,cT,c1,GT.b8 h0 (fun b hb=>hw b (s.sub _ (by simp) b hb)),GT.b8 h1 (fun b hb=>hw b (s.sub _ (by simp) b hb)),GT.b8 an (fun b hb=>hw b (s.sub _ (by simp) b hb)),GT.b8 aF (fun b hb=>hw b (s.sub _ (by simp) b hb)),s,f0,f1,f2,f3,f4⟩
  gI:=by
    rintro K F w x p ⟨cH,cE,cT,c1,h0,h1,an,aF,s,f0,f1,f2,f3,f4⟩
    exact⟨_,_,_,_,GT.gI h0,GT.gI h1,GT.gI an,GT.gI aF,s.lt _,f0,f1,f2,f3,f4⟩
  gj:=by
    rintro K F w x p ⟨cH,cE,cT,c1,h0,h1,an,aF,s,f0,f1,f2,f3,f4⟩
    exact⟨GT.eB (GT.gj h0) (Nat.le_refl _) (s.sub _ (by simp)),f0,f1,GT.eB (GT.gj h1) (Nat.le_refl _) (s.sub _ (by simp)),GT.eB (GT.gj an) (Nat.le_refl _) (s.sub _ (by simp)),f2,f3,f4,GT.eB (GT.gj aF) (Nat.le_refl _) (s.sub _ (by simp))⟩
  gr K F w:=⟨ab,ab,ab,ab,GT.gr _ _ _,GT.gr _ _ _,GT.gr _ _ _,GT.gr _ _ _,⟨fun G cM b hb=>by simp at cM;rcases cM with rfl<;>exact hb.elim,by simp [J,ab]⟩,⟨by decide,by decide⟩,⟨by decide,by decide⟩,⟨⟨by decide,by decide⟩,⟨by decide,by decide⟩⟩,⟨by decide,by decide⟩,⟨⟨by decide,by decide⟩,⟨by decide,by decide⟩,⟨by decide,by decide⟩⟩⟩
structure cP where
  mem:List (List Int)
  U:List ax
  outs:List Int
  aB:Int
  deriving DecidableEq
theorem cP.ext_iff {a b:cP}:a=b↔a.mem=b.mem/\a.U=b.U/\a.outs=b.outs/\a.aB=b.aB:=by
  cases a;cases b;simp
structure iX where
  mem:aC (List Int)
  U:aC ax
  outs:aC Int
structure fE (K:Nat) (F:au) (w:World) (d:cP) (p:iX):Prop where
  mem:GT.rd K F w d.mem p.mem
  U:GT.rd K F w d.U p.U
  outs:GT.rd K F w d.outs p.outs
  aB:a_ d.aB
def WN (K:Nat) (F:au) (w:World) (x:cP) (p:iX):Prop:=
  ∃cH cE cT:au,GT.own K cH w x.mem p.mem/\GT.own K cE w x.U p.U/\GT.own K cT w x.outs p.outs/\nv F [cH,cE,cT]/\a_ x.aB
instance:GT cP where
  Ptr:=iX
  eK:=⟨[],[],[],0⟩
  cY:=⟨GT.cY (α:=List (List Int)),GT.cY (α:=List ax),GT.cY (α:=List Int)⟩
  width:=4
  agg:=true
  cells x p:=[R x.mem.length p.mem.1,R x.U.length p.U.1,R x.outs.length p.outs.1,aa x.aB]
  rd:=fE
  own:=WN
  jM:=by decide
  len _ _:=rfl
  one h:=by cases h
  plain _ _ v h:=by simp only [List.mem_cons,List.not_mem_nil,or_false] at h;rcases h with rfl|rfl|rfl|rfl<;>rfl
  eB h hk bf:=⟨GT.eB h.mem hk bf,GT.eB h.U hk bf,GT.eB h.outs hk bf,h.aB⟩
  gl h hw:=⟨GT.gl h.mem hw,GT.gl h.U hw,GT.gl h.outs hw,h.aB⟩
  gz h:=⟨GT.gz h.mem,GT.gz h.U,GT.gz h.outs,h.aB⟩
  fK:=by
    rintro K di F G w x p ⟨cH,cE,cT,h0,h1,an,s,f0⟩ hk bf
    exact⟨cH,cE,cT,GT.fK h0 hk (fun _ y=>y),GT.fK h1 hk (fun _ y=>y),GT.fK an hk (fun _ y=>y),s.mono bf,f0⟩
  b8:=by
    rintro K F w w' x p ⟨cH,cE,cT,h0,h1,an,s,f0⟩ hw
    exact⟨cH,cE,cT,GT.b8 h0 (fun b hb=>hw b (s.sub _ (by simp) b hb)),GT.b8 h1 (fun b hb=>hw b (s.sub _ (by simp) b hb)),GT.b8 an (fun b hb=>hw b (s.sub _ (by simp) b hb)),s,f0⟩
  gI:=by
    rintro K F w x p ⟨cH,cE,cT,h0,h1,an,s,f0⟩
    exact⟨_,_,_,GT.gI h0,GT.gI h1,GT.gI an,s.lt _,f0⟩
  gj:=by
    rintro K F w x p ⟨cH,cE,cT,h0,h1,an,s,f0⟩
    exact⟨GT.eB (GT.gj h0) (Nat.le_refl _) (s.sub _ (by simp)),GT.eB (GT.gj h1) (Nat.le_refl _) (s.sub _ (by simp)),GT.eB (GT.gj an) (Nat.le_refl _) (s.sub _ (by simp)),f0⟩
  gr K F w:=⟨ab,ab,ab,GT.gr _ _ _,GT.gr _ _ _,GT.gr _ _ _,⟨fun G cM b hb=>by simp at cM;rcases cM with rfl<;>exact hb.elim,by simp [J,ab]⟩,⟨by decide,by decide⟩⟩
structure aO where
  outer:List aQ
  out:List (List Int)
  aT:List Bool
  U:List ax
  outs:List Int
  aB:Int
  aX:Int
  tables:List bQ
  owned:Int
  deriving DecidableEq
theorem aO.ext_iff {a b:aO}:a=b↔a.outer=b.outer/\a.out=b.out/\a.aT=b.aT/\a.U=b.U/\a.outs=b.outs/\a.aB=b.aB/\a.aX=b.aX/\a.tables=b.tables/\a.owned=b.owned:=by
  cases a;cases b;simp
structure fj where
  outer:aC aQ
  out:aC (List Int)
  aT:aC Bool
  U:aC ax
  outs:aC Int
  tables:aC bQ
structure aU (K:Nat) (F:au) (w:World) (d:aO) (p:fj):Prop where
  outer:GT.rd K F w d.outer p.outer
  out:GT.rd K F w d.out p.out
  aT:GT.rd K F w d.aT p.aT
  U:GT.rd K F w d.U p.U
  outs:GT.rd K F w d.outs p.outs
  aB:a_ d.aB
  aX:a_ d.aX
  tables:GT.rd K F w d.tables p.tables
  owned:a_ d.owned
def WS (K:Nat) (F:au) (w:World) (x:aO) (p:fj):Prop:=
  ∃cH cE cT c1 eC eQ:au,GT.own K cH w x.outer p.outer/\GT.own K cE w x.out p.out/\GT.own K cT w x.aT p.aT/\GT.own K c1 w x.U p.U/\GT.own K eC w x.outs p.outs/\GT.own K eQ w x.tables p.tables/\nv F [cH,cE,cT,c1,eC,eQ]/\a_ x.aB/\a_ x.aX/\a_ x.owned
instance:GT aO where
  Ptr:=fj
  eK:=⟨[],[],[],[],[],0,0,[],0⟩
  cY:=⟨GT.cY (α:=List aQ),GT.cY (α:=List (List Int)),GT.cY (α:=List Bool),GT.cY (α:=List ax),GT.cY (α:=List Int),GT.cY (α:=List bQ)⟩
  width:=9
  agg:=true
  cells x p:=[R x.outer.length p.outer.1,R x.out.length p.out.1,R x.aT.length p.aT.1,R x.U.length p.U.1,R x.outs.length p.outs.1,aa x.aB,aa x.aX,R x.tables.length p.tables.1,aa x.owned]
  rd:=aU
  own:=WS
  jM:=by decide
  len _ _:=rfl
  one h:=by cases h
  plain _ _ v h:=by simp only [List.mem_cons,List.not_mem_nil,or_false] at h;rcases h with rfl|rfl|rfl|rfl|rfl|rfl|rfl|rfl|rfl<;>rfl
  eB h hk bf:=⟨GT.eB h.outer hk bf,GT.eB h.out hk bf,GT.eB h.aT hk bf,GT.eB h.U hk bf,GT.eB h.outs hk bf,h.aB,h.aX,GT.eB h.tables hk bf,h.owned⟩
  gl h hw:=⟨GT.gl h.outer hw,GT.gl h.out hw,GT.gl h.aT hw,GT.gl h.U hw,GT.gl h.outs hw,h.aB,h.aX,GT.gl h.tables hw,h.owned⟩
  gz h:=⟨GT.gz h.outer,GT.gz h.out,GT.gz h.aT,GT.gz h.U,GT.gz h.outs,h.aB,h.aX,GT.gz h.tables,h.owned⟩
  fK:=by
    rintro K di F G w x p ⟨cH,cE,cT,c1,eC,eQ,h0,h1,an,aF,b2,bl,s,f0,f1,f2⟩ hk bf
    exact⟨cH,cE,cT,c1,eC,eQ,GT.fK h0 hk (fun _ y=>y),GT.fK h1 hk (fun _ y=>y),GT.fK an hk (fun _ y=>y),GT.fK aF hk (fun _ y=>y),GT.fK b2 hk (fun _ y=>y),GT.fK bl hk (fun _ y=>y),s.mono bf,f0,f1,f2⟩
  b8:=by
    rintro K F w w' x p ⟨cH,cE,cT,c1,eC,eQ,h0,h1,an,aF,b2,bl,s,f0,f1,f2⟩ hw
    exact⟨cH,cE,cT,c1,eC,eQ,GT.b8 h0 (fun b hb=>hw b (s.sub _ (by simp) b hb)),GT.b8 h1 (fun b hb=>hw b (s.sub _ (by simp) b hb)),GT.b8 an (fun b hb=>hw b (s.sub _ (by simp) b hb)),GT.b8 aF (fun b hb=>hw b (s.sub _ (by simp) b hb)),GT.b8 b2 (fun b hb=>hw b (s.sub _ (by simp) b hb)),GT.b8 bl (fun b hb=>hw b (s.sub _ (by simp) b hb)),s,f0,f1,f2⟩
  gI:=by
    rintro K F w x p ⟨cH,cE,cT,c1,eC,eQ,h0,h1,an,aF,b2,bl,s,f0,f1,f2⟩
    exact⟨_,_,_,_,_,_,GT.gI h0,GT.gI h1,GT.gI an,GT.gI aF,GT.gI b2,GT.gI bl,s.lt _,f0,f1,f2⟩
  gj:=by
    rintro K F w x p ⟨cH,cE,cT,c1,eC,eQ,h0,h1,an,aF,b2,bl,s,f0,f1,f2⟩
    exact⟨GT.eB (GT.gj h0) (Nat.le_refl _) (s.sub _ (by simp)),GT.eB (GT.gj h1) (Nat.le_refl _) (s.sub _ (by simp)),GT.eB (GT.gj an) (Nat.le_refl _) (s.sub _ (by simp)),GT.eB (GT.gj aF) (Nat.le_refl _) (s.sub _ (by simp)),GT.eB (GT.gj b2) (Nat.le_refl _) (s.sub _ (by simp)),f0,f1,GT.eB (GT.gj bl) (Nat.le_refl _) (s.sub _ (by simp)),f2⟩
  gr K F w:=⟨ab,ab,ab,ab,ab,ab,GT.gr _ _ _,GT.gr _ _ _,GT.gr _ _ _,GT.gr _ _ _,GT.gr _ _ _,GT.gr _ _ _,⟨fun G cM b hb=>by simp at cM;rcases cM with rfl<;>exact hb.elim,by simp [J,ab]⟩,⟨by decide,by decide⟩,⟨by decide,by decide⟩,⟨by decide,by decide⟩⟩
structure ah where
  mem:List (List Int)
  I:List aO
  buf:List aG
  ag:List aG
  deriving DecidableEq
theorem ah.ext_iff {a b:ah}:a=b↔a.mem=b.mem/\a.I=b.I/\a.buf=b.buf/\a.ag=b.ag:=by
  cases a;cases b;simp
structure cb where
  mem:aC (List Int)
  I:aC aO
  buf:aC aG
  ag:aC aG
structure bz (K:Nat) (F:au) (w:World) (d:ah) (p:cb):Prop where
  mem:GT.rd K F w d.mem p.mem
  I:GT.rd K F w d.I p.I
  buf:GT.rd K F w d.buf p.buf
  ag:GT.rd K F w d.ag p.ag
def WQ (K:Nat) (F:au) (w:World) (x:ah) (p:cb):Prop:=
  ∃cH cE cT c1:au,GT.own K cH w x.mem p.mem/\GT.own K cE w x.I p.I/\GT.own K cT w x.buf p.buf/\GT.own K c1 w x.ag p.ag/\nv F [cH,cE,cT,c1]
instance:GT ah where
  Ptr:=cb
  eK:=⟨[],[],[],[]⟩
  cY:=⟨GT.cY (α:=List (List Int)),GT.cY (α:=List aO),GT.cY (α:=List aG),GT.cY (α:=List aG)⟩
  width:=4
  agg:=true
  cells x p:=[R x.mem.length p.mem.1,R x.I.length p.I.1,R x.buf.length p.buf.1,R x.ag.length p.ag.1]
  rd:=bz
  own:=WQ
  jM:=by decide
  len _ _:=rfl
  one h:=by cases h
  plain _ _ v h:=by simp only [List.mem_cons,List.not_mem_nil,or_false] at h;rcases h with rfl|rfl|rfl|rfl<;>rfl
  eB h hk bf:=⟨GT.eB h.mem hk bf,GT.eB h.I hk bf,GT.eB h.buf hk bf,GT.eB h.ag hk bf⟩
  gl h hw:=⟨GT.gl h.mem hw,GT.gl h.I hw,GT.gl h.buf hw,GT.gl h.ag hw⟩
  gz h:=⟨GT.gz h.mem,GT.gz h.I,GT.gz h.buf,GT.gz h.ag⟩
  fK:=by
    rintro K di F G w x p ⟨cH,cE,cT,c1,h0,h1,an,aF,s⟩ hk bf
    exact⟨cH,cE,cT,c1,GT.fK h0 hk (fun _ y=>y),GT.fK h1 hk (fun _ y=>y),GT.fK an hk (fun _ y=>y),GT.fK aF hk (fun _ y=>y),s.mono bf⟩
  b8:=by
    rintro K F w w' x p ⟨cH,cE,cT,c1,h0,h1,an,aF,s⟩ hw
    exact⟨cH,cE,cT,c1,GT.b8 h0 (fun b hb=>hw b (s.sub _ (by simp) b hb)),GT.b8 h1 (fun b hb=>hw b (s.sub _ (by simp) b hb)),GT.b8 an (fun b hb=>hw b (s.sub _ (by simp) b hb)),GT.b8 aF (fun b hb=>hw b (s.sub _ (by simp) b hb)),s⟩
  gI:=by
    rintro K F w x p ⟨cH,cE,cT,c1,h0,h1,an,aF,s⟩
    exact⟨_,_,_,_,GT.gI h0,GT.gI h1,GT.gI an,GT.gI aF,s.lt _⟩
  gj:=by
    rintro K F w x p ⟨cH,cE,cT,c1,h0,h1,an,aF,s⟩
    exact⟨GT.eB (GT.gj h0) (Nat.le_refl _) (s.sub _ (by simp)),GT.eB (GT.gj h1) (Nat.le_refl _) (s.sub _ (by simp)),GT.eB (GT.gj an) (Nat.le_refl _) (s.sub _ (by simp)),GT.eB (GT.gj aF) (Nat.le_refl _) (s.sub _ (by simp))⟩
  gr K F w:=⟨ab,ab,ab,ab,GT.gr _ _ _,GT.gr _ _ _,GT.gr _ _ _,GT.gr _ _ _,⟨fun G cM b hb=>by simp at cM;rcases cM with rfl<;>exact hb.elim,by simp [J,ab]⟩⟩
structure nw where
  kind:Int
  m:Int
  g:Int
  x:Int
  y:Int
  z:Int
  deriving DecidableEq
theorem nw.ext_iff {a b:nw}:a=b↔a.kind=b.kind/\a.m=b.m/\a.g=b.g/\a.x=b.x/\a.y=b.y/\a.z=b.z:=by
  cases a;cases b;simp
structure Og (d:nw):Prop where
  kind:a_ d.kind
  m:a_ d.m
  g:a_ d.g
  x:a_ d.x
  y:a_ d.y
  z:a_ d.z
instance:GT nw where
  Ptr:=Unit
  eK:=⟨0,0,0,0,0,0⟩
  cY:=()
  width:=6
  agg:=true
  cells x _:=[aa x.kind,aa x.m,aa x.g,aa x.x,aa x.y,aa x.z]
  rd _ _ _ x _:=Og x
  own _ _ _ x _:=Og x
  jM:=by decide
  len _ _:=rfl
  one h:=by cases h
  plain _ _ v h:=by simp only [List.mem_cons,List.not_mem_nil,or_false] at h;rcases h with rfl|rfl|rfl|rfl|rfl|rfl<;>rfl
  eB h _ _:=h
  gl h _:=h
  gz h:=h
  fK h _ _:=h
  b8 h _:=h
  gI h:=h
  gj h:=h
  gr _ _ _:=⟨⟨by decide,by decide⟩,⟨by decide,by decide⟩,⟨by decide,by decide⟩,⟨by decide,by decide⟩,⟨by decide,by decide⟩,⟨by decide,by decide⟩⟩
structure pN where
  ok:Bool
  n:Int
  deriving DecidableEq
theorem pN.ext_iff {a b:pN}:a=b↔a.ok=b.ok/\a.n=b.n:=by
  cases a;cases b;simp
structure Oh (d:pN):Prop where
  n:a_ d.n
instance:GT pN where
  Ptr:=Unit
  eK:=⟨false,0⟩
  cY:=()
  width:=2
  agg:=true
  cells x _:=[B x.ok,aa x.n]
  rd _ _ _ x _:=Oh x
  own _ _ _ x _:=Oh x
  jM:=by decide
  len _ _:=rfl
  one h:=by cases h
  plain _ _ v h:=by simp only [List.mem_cons,List.not_mem_nil,or_false] at h;rcases h with rfl|rfl<;>rfl
  eB h _ _:=h
  gl h _:=h
  gz h:=h
  fK h _ _:=h
  b8 h _:=h
  gI h:=h
  gj h:=h
  gr _ _ _:=⟨⟨by decide,by decide⟩⟩
end Go.Proofs.YtjlocpdfcanlhaaGreat
namespace Go.Proofs.YtjlocpdfcanlhaaGreat
open Go
section
variable {P:Program} {n:Nat} {w0:World} {M:au} {u:World} {N:au} {β:Nat->Nat} {σ σ':b1} {a:Act} {w:World} {ops:Array Oper} {Q:Exit->Act->World->Prop} {di:Act->World->Prop}
theorem aj.qE (S:aj P n w0 M u N β σ a w) {w':World} {ks:au} (hc:bu ks w w') (h1:∀b,ks b->N b) (an:∀b,ks b->w0.heap.size<=b\/M b):
    aj P n w0 M w' (Or N (kT w.heap.size w'.heap.size)) β σ a w':=by
  have hb:∀k,k<σ.aM.length->β k<w.heap.size:=fun k hk=>by
    obtain⟨n7,h⟩:=S.box k _ (List.getElem?_eq_getElem hk)
    rcases Nat.lt_or_ge (β k) w.heap.size with hl|hl
    · exact hl
    · rw [Array.getElem?_eq_none hl] at h;cases h
  refine⟨S.l_,S.aW,S.env,S.ok,fun k cs hk=>?_,S.inj,S.new,fun b eN=>?_,S.fp.step hc (fun b eN hm=>(an b hm).resolve_left (by omega)),fun b eN hm=>?_⟩
  · obtain⟨T,h⟩:=S.box k cs hk
    have D5:k<σ.aM.length:=(List.getElem?_eq_some_iff.1 hk).1
    exact⟨T,(hc.block _ (hb k D5) (fun f=>(S.sep _ (h1 _ f)).2.2 k D5 rfl)).trans h⟩
  · rcases eN with h|h
    · obtain⟨ct,cA,fe⟩:=S.sep b h
      exact⟨Nat.lt_of_lt_of_le ct hc.size,rfl,fe⟩
    · refine⟨h.2,rfl,fun k hk e=>?_⟩
      have:=hb k hk
      have:=h.1
      omega
  · obtain⟨ct,cA⟩:=S.k3 b eN hm
    have cX:¬ks b:=fun f=>by
      rcases an b f with h|h
      · omega
      · exact hm h
    exact⟨.inl ct,((hc.block b (S.sep b ct).1 cX).trans (S.sep b ct).2.1).trans cA⟩
theorem aj.bw (S:aj P n w0 M u N β σ a w) {w':World} {ks:au} (hc:bu ks w w'):∀b,N b->¬ks b->Or N (kT w.heap.size w'.heap.size) b/\w'.heap[b]? =u.heap[b]? :=fun b hb hm=>
  ⟨.inl hb,(hc.block b (S.sep b hb).1 hm).trans (S.sep b hb).2.1⟩
theorem ad.bw {α:Type} [GT α] {F ks:au} {x:α} {p:GT.Ptr α} {w':World} {aA:au} (h:ad w0 M u N F x p) (hd:J F ks) (g:∀b,N b->¬ks b->aA b/\w'.heap[b]? =u.heap[b]?):ad w0 M w' aA F x p:=
  ⟨GT.b8 h.own (fun b hb _=>(g b (h.sub b hb) (fun m=>hd b hb m)).2),fun b hb=>(g b (h.sub b hb) (fun m=>hd b hb m)).1,h.dJ⟩
theorem vV {d:Tmp} {v:Value} (hd:Nat.blt d n=true):σ.put n (some d) (.v v)=some ⟨(d,.v v)::σ.env,σ.aM⟩:=by simp [b1.put,hd]
def FL:Operand->Operand->Bool
  | .tmp s,.tmp r=>Nat.beq s r
  | .const (.int .i64 x),.const (.int .i64 y)=>decide (x=y)
  |_,_=>false
theorem ajO {l c:Operand} (h:FL l c=true):σ.get l=σ.get c:=by
  unfold FL at h
  split at h
  · rw [Nat.eq_of_beq_eq_true h]
  · rw [of_decide_eq_true h]
  · cases h
def KX (P:Program) (n:Nat) (ops:Array Oper) (i:Nat) (σ:b1):Option (Value×List Value×Nat×Nat×Tmp):=
  match ops.toList[i]? with
  |some o=>
    match oi ops σ o,o.op,o.dst with
    |some true,.makeSlice t l c,some d=>
      match P.underlying t,σ.get l with
      |some (.slice e),some (.v (.int .i64 m))=>
        match P.info? e with
        |some i=>
          match i.zero with
          |some z=>bif Nat.blt d n&&FL l c then some (.int .i64 m,z.cells.toList,i.bytes,i.size,d) else none
          |_=>none
        |none=>none
      |_,_=>none
    |_,_,_=>none
  |none=>none
theorem ak1 {α:Type} [GT α] (km:List Value) (ed:km.length=GT.width α) (m:Nat) (b:Nat) (T:TypeId) (w:World) (hw:w.heap[b]? =some (.cells ((Array.range (m*GT.width α)).map (km.toArray[· % km.toArray.size]!)) T (0,0))) (i:Nat) (hi:i<m):
    kQ w b (0+i*GT.width α) km:=by
  intro j v b0
  have r8:j<GT.width α:=by rw [←ed];exact(List.getElem?_eq_some_iff.1 b0).1
  have eP:i*GT.width α+j<m*GT.width α:=by
    have:=Nat.mul_le_mul_right (GT.width α) (show i+1<=m from hi)
    rw [Nat.add_mul] at this;omega
  simp only [World.cell?,hw,Nat.zero_add,Option.isSome_none,Bool.false_eq_true,if_false]
  rw [Array.getElem?_map,Array.getElem?_range]
  simp only [eP,if_true,Option.map_some,Option.some.injEq]
  have aeB:(i*GT.width α+j) % GT.width α=j:=by rw [Nat.mul_comm,Nat.mul_add_mod];exact Nat.mod_eq_of_lt r8
  simp only [List.size_toArray,ed,aeB]
  simp [b0]
theorem run_make {t e:TypeId} {info:TypeInfo} {z:Value} {m:Nat} (bs:P.underlying t=some (.slice e)) (hi:P.info? e=some info) (ed:info.zero=some z) (hb:info.bytes*m<=281474976710656) (hm:m<=9223372036854775807) (w:World)
    (hs:0<info.size) (yt:z.cells.size=info.size):
    (Instr.makeSlice t (aa m) (aa m)).run P w= .ok (.slice (some ⟨w.heap.size,0,none⟩) m m) {w with heap:=w.heap.push (.cells ((Array.range (m*info.size)).map (z.cells[· % z.cells.size]!)) e)}:=by
  unfold Instr.makeSlice
  have hw:IntKind.i64.wrap (m:Int)=m:=wL ⟨by omega,by omega⟩
  have h1:¬((m:Int)<0):=by omega
  have an:¬((info.bytes:Int)*m>2 ^ 48):=by
    have:((info.bytes*m:Nat):Int)<=(281474976710656:Nat):=Int.ofNat_le.2 hb
    simp only [Int.natCast_mul] at this
    omega
  have hzero:(zeroValue e).run P w= .ok z w:=by simp [zeroValue,typeInfo,hi,ed]
  simp only [Sem.run_bind,run_underlying bs,Result.andThen_ok,asInt,asIntOf,Sem.run_pure,typeInfo,run_program,hi,hw,h1,an,decide_false,Bool.or_self,Bool.false_eq_true,Int.lt_irrefl,gt_iff_lt,if_false,Int.toNat_natCast]
  have JR:∀k:Nat,(askRoom k).run P w= .ok () w:=fun k=>by
    unfold askRoom;split<;>rfl
  simp only [JR,Result.andThen_ok,sizeOf,typeInfo,Sem.run_bind,run_program,hi,Sem.run_pure]
  by_cases h0:m*info.size=0
  · have:m=0:=by
      rcases Nat.mul_eq_zero.1 h0 with h|h
      · exact h
      · omega
    subst this
    have bn:Array.range 0=#[]:=rfl
    simp [newRow,bn]
  · simp only [h0,if_false,Sem.run_bind,hzero,Result.andThen_ok,Sem.run_pure,newRow,run_newObj]
theorem aj.make {α:Type} [GT α] (S:aj P n w0 M u N β σ a w) {i:Nat} {m by':Nat} {d:Tmp} (hop:KX P n ops i σ=some (aa m,GT.cells (GT.eK:α) GT.cY,by',GT.width α,d)) (hb:by'*m<=281474976710656) (hm:m<=b7)
    (K:∀a0 w' aA q F,aj P n w0 M w' aA β ⟨(d,.v (R m q.1))::σ.env,σ.aM⟩ a0 w'->(∀b,N b->aA b/\w'.heap[b]? =u.heap[b]?)->
      ad w0 M w' aA F (List.replicate m (GT.eK:α)) q->J N F->di a0 w'):wpOp P ops Q i di a w:=by
  unfold KX at hop
  split at hop
  · rename_i o bM
    have kF:ops[i]? =some o:=by simpa using bM
    split at hop
    · rename_i t l c o6 aJ vK hd
      split at hop
      · rename_i e q2 hu hx
        split at hop
        · rename_i info yd
          split at hop
          · rename_i z ed
            cases nN:(Nat.blt o6 n&&FL l c) with
            |false=>rw [nN] at hop;cases hop
            |true=>
                  rw [nN] at hop
                  simp only [Bool.and_eq_true] at nN
                  obtain⟨ad4,aeT⟩:=nN
                  have hy:=hx
                  rw [ajO (σ:=σ) aeT] at hy
                  simp only [cond_true,Option.some.injEq,Prod.mk.injEq,Value.int.injEq,true_and] at hop
                  obtain⟨rfl,S0,rfl,hF,rfl⟩:=hop
                  have yt:z.cells.size=info.size:=by
                    have:=GT.len (GT.eK:α) GT.cY
                    rw [←S0] at this
                    rw [hF];simpa using this
                  have oz:=run_make (P:=P) hu yd ed hb (by unfold b7 at hm;omega) w (by rw [hF];exact GT.jM) yt
                  refine w3.step kF (mi S aJ) ?_
                  have hex:(execOp a.eval o).run P w= .ok (.value (.slice (some ⟨w.heap.size,0,none⟩) m m)) {w with heap:=w.heap.push (.cells ((Array.range (m*info.size)).map (z.cells[· % z.cells.size]!)) e)}:=by
                    unfold execOp
                    simp only [vK,S.get hx,S.get hy]
                    show(do pure (.value (←Instr.makeSlice t (aa m) (aa m))):Sem Next).run P w=_
                    rw [Sem.run_bind,oz]
                    rfl
                  unfold Oper.wp
                  rw [hex]
                  simp only [Oper.upon,hd]
                  have ff:bu ab w {w with heap:=w.heap.push (.cells ((Array.range (m*info.size)).map (z.cells[· % z.cells.size]!)) e)}:=bu.push ab w _
                  have mm:({w with heap:=w.heap.push (.cells ((Array.range (m*info.size)).map (z.cells[· % z.cells.size]!)) e)}:World).heap[w.heap.size]? =some (.cells ((Array.range (m*info.size)).map (z.cells[· % z.cells.size]!)) e):=by simp
                  refine K _ _ _ (⟨false,w.heap.size,0,m,none⟩,fun _=>GT.cY) (kT w.heap.size _) (S.after ad4 ff) (S.up ff) ⟨?_,fun _ h=> .inr h,fun _ h=> .inl (Nat.le_trans S.fp.size h.1)⟩ (J.fresh S _ fun _ h=>h)
                  have h_:∀k,k<m->el (List.replicate m (GT.eK:α)) k=GT.eK:=fun k hk=>by simp [el,hk]
                  refine⟨by simpa using hm,by simp,by unfold b7 at hm;simp;omega,fun h=>(by cases h),fun _=>⟨⟨Nat.le_refl _,by simp⟩,_,e,mm,by simp [hF]⟩,fun k hk=>?_,fun _=>ab,fun k hk=>?_,fun _ _ b eN=>eN.elim,fun _ _ _ _ _ b eN=>eN.elim⟩
                  · simp only [List.length_replicate] at hk
                    rw [h_ k hk]
                    have ct:z.cells=(GT.cells (GT.eK:α) GT.cY).toArray:=by rw [←S0]
                    refine ak1 (α:=α) _ (GT.len _ _) m w.heap.size e _ ?_ k hk
                    rw [mm,ct,hF]
                  · simp only [List.length_replicate] at hk
                    rw [h_ k hk]
                    exact GT.gr _ _ _
          · cases hop
        · cases hop
      · cases hop
    · cases hop
  · cases hop
end
end Go.Proofs.YtjlocpdfcanlhaaGreat
namespace Go.Proofs.YtjlocpdfcanlhaaGreat
open Go
section
variable {P:Program} {n:Nat} {w0:World} {M:au} {u:World} {N:au} {β:Nat->Nat} {σ σ':b1} {a:Act} {w:World} {ops:Array Oper} {Q:Exit->Act->World->Prop} {di:Act->World->Prop}
def pI (ops:Array Oper) (i:Nat) (σ:b1):Option (TypeId×Value×Value):=
  match ops.toList[i]? with
  |some o=>
    match oi ops σ o,o.op,o.dst with
    |some true,.store t x y,none=>
      match σ.get x,σ.get y with
      |some (.v a),some (.v v)=>some (t,a,v)
      |_,_=>none
    |_,_,_=>none
  |none=>none
theorem ajZ (S:aj P n w0 M u N β σ a w) {i:Nat} {t:TypeId} {b o:Nat} {v:Value} {cs:Array Value} {T:TypeId} (hop:pI ops i σ=some (t,bg b o,v)) (hs:ji P t=some v.cells.toList.length) (hpl:v.cells.toList.all (·.oneCell')=true)
    (hb:w.heap[b]? =some (.cells cs T (0,0))) (hle:o+v.cells.toList.length<=cs.size)
    (h:di a (w.setRow b (cs.toList.take o++v.cells.toList++cs.toList.drop (o+v.cells.toList.length)).toArray)):wpOp P ops Q i di a w:=by
  unfold pI at hop
  split at hop
  · rename_i tG bM
    have kF:ops[i]? =some tG:=by simpa using bM
    split at hop
    · rename_i Cu x y aJ vK hd
      split at hop
      · rename_i jj F4 hx hy
        simp only [Option.some.injEq,Prod.mk.injEq] at hop
        obtain⟨rfl,rfl,rfl⟩:=hop
        refine w3.step kF (mi S aJ) ?_
        have oz:=run_storeCells_at (P:=P) b o T F4.cells.toList 0 cs w hb (by simp at hle ⊢;exact hle) (fun z ed=>List.all_eq_true.1 hpl z ed)
        simp only [Nat.add_zero] at oz
        have hex:(execOp a.eval tG).run P w= .ok .skip (w.setRow b (cs.toList.take o++F4.cells.toList++cs.toList.drop (o+F4.cells.toList.length)).toArray):=by
          unfold execOp
          simp only [vK,S.get hx,S.get hy]
          show(do Instr.storeAt Cu (bg b o) F4;pure .skip:Sem Next).run P w=_
          rw [Sem.run_bind]
          simp only [Instr.storeAt,Instr.sureAddr,Sem.run_bind,Sem.run_pure,Result.andThen_ok,storeVar,yU hs]
          rw [if_neg (by simp),oz]
          rfl
        unfold Oper.wp
        rw [hex]
        simp only [Oper.upon,hd]
        exact h
      · cases hop
    · cases hop
  · cases hop
theorem Ns (l ei:List Value) (o i:Nat) (h:o+ei.length<=l.length):(l.take o++ei++l.drop (o+ei.length))[i]? =if i<o then l[i]? else if i<o+ei.length then ei[i-o]? else l[i]? :=by
  have hl:(l.take o).length=o:=by simp;omega
  by_cases h1:i<o
  · rw [if_pos h1,List.append_assoc,List.getElem?_append_left (by omega),List.getElem?_take,if_pos h1]
  · rw [if_neg h1]
    by_cases an:i<o+ei.length
    · rw [if_pos an,List.append_assoc,List.getElem?_append_right (by omega),hl,List.getElem?_append_left (by omega)]
    · rw [if_neg an,List.append_assoc,List.getElem?_append_right (by omega),hl,List.getElem?_append_right (by omega),List.getElem?_drop]
      congr 1
      omega
theorem H0 {α:Type} [GT α] (xs:List α) (k i:Nat) (y:α) (hk:k<xs.length):el (xs.set k y) i=if i=k then y else el xs i:=by
  unfold el
  simp only [List.getD_eq_getElem?_getD,List.getElem?_set]
  by_cases h:i=k
  · subst h;simp [hk]
  · rw [if_neg (fun e=>h e.symm),if_neg h]
theorem g1.Bm {α:Type} [GT α] {K:Nat} {F:au} {w:World} {xs:List α} {p:aC α} (h:g1 K F w xs p) (hl:0<p.1.cap):p.1.nil=false:=by
  cases cX:p.1.nil with
  |false=>rfl
  |true=>have:=h.null cX;omega
theorem aj.qt {α:Type} [GT α] {xs:List α} {p:aC α} {F Fy:au} (S:aj P n w0 M u N β σ a w) (hx:ad w0 M u N F xs p) {i k j off:Nat} {t:TypeId} {v:Value} {y:α} {q:GT.Ptr α} (hop:pI ops i σ=some (t,bg p.1.b off,v))
    (hoff:off=p.1.off+k*GT.width α+j) (hk:k<xs.length) (hs:ji P t=some v.cells.toList.length) (hpl:v.cells.toList.all (·.oneCell')=true) (hjw:j+v.cells.toList.length<=GT.width α)
    (hc:GT.cells y q=(GT.cells (el xs k) (p.2 k)).take j++v.cells.toList++(GT.cells (el xs k) (p.2 k)).drop (j+v.cells.toList.length))
    (hy:∀G,GT.own b7 G u (el xs k) (p.2 k)->(∀b,G b->F b)->∃gJ,GT.own b7 gJ u y q/\∀b,gJ b->G b\/Fy b) (hd:J F Fy) (hyN:∀b,Fy b->N b) (hyY:∀b,Fy b->w0.heap.size<=b\/M b)
    (K:∀w' aA bW,aj P n w0 M w' aA β σ a w'->(∀b,N b->¬F b->aA b/\w'.heap[b]? =u.heap[b]?)->
      ad w0 M w' aA bW (xs.set k y) ((p.1,fun i=>if i=k then q else p.2 i):aC α)->(∀G:au,J G F->J G Fy->(∀b,G b->N b)->J G bW)->(∀b,bW b->F b\/Fy b)->(∀b,N b->aA b)->di a w'):wpOp P ops Q i di a w:=by
  have bM:g1 b7 F u xs p:=hx.own
  have vE:=bM.cap
  have qa:p.1.nil=false:=bM.Bm (by omega)
  obtain⟨eM,cs,T,mm,hF⟩:=bM.row qa
  obtain⟨eP,A3,_⟩:=S.sep _ (hx.sub _ eM)
  have SW:w.heap[p.1.b]? =some (.cells cs T (0,0)):=A3.trans mm
  have hmul:(k+1)*GT.width α<=p.1.cap*GT.width α:=Nat.mul_le_mul_right _ (by omega)
  rw [Nat.add_mul,Nat.one_mul] at hmul
  have hle:off+v.cells.toList.length<=cs.size:=by omega
  refine ajZ S hop hs hpl SW hle ?_
  have tk:=setRow_heap w p.1.b cs (cs.toList.take off++v.cells.toList++cs.toList.drop (off+v.cells.toList.length)).toArray T (0,0) SW
  have yn:∀b,b≠p.1.b->(w.setRow p.1.b (cs.toList.take off++v.cells.toList++cs.toList.drop (off+v.cells.toList.length)).toArray).heap[b]? =w.heap[b]? :=fun b hb=>by
    simp only [World.setRow,Array.getElem?_modify]
    rw [if_neg (fun e=>hb e.symm)]
  have Ej:(w.setRow p.1.b (cs.toList.take off++v.cells.toList++cs.toList.drop (off+v.cells.toList.length)).toArray).heap.size=w.heap.size:=by simp [World.setRow]
  generalize qe:w.setRow p.1.b (cs.toList.take off++v.cells.toList++cs.toList.drop (off+v.cells.toList.length)).toArray=w' at*
  have ff:bu F w w':=by
    subst qe
    exact⟨rfl,rfl,rfl,by rw [Ej];exact Nat.le_refl _,fun b _ cX=>yn b (fun e=>cX (e▸eM))⟩
  have ot:∀pos,w'.cell? ⟨p.1.b,pos,none⟩=if pos<off then cs[pos]? else if pos<off+v.cells.toList.length then v.cells.toList[pos-off]? else cs[pos]? :=fun pos=>by
    simp only [World.cell?,tk,Option.isSome_none,Bool.false_eq_true,if_false]
    have:=Ns cs.toList v.cells.toList off pos (by simpa using hle)
    simpa using this
  have hold:∀pos x,u.cell? ⟨p.1.b,pos,none⟩=some x->cs[pos]? =some x:=fun pos x h=>by
    simpa [World.cell?,mm] using h
  refine K w' _ (Or F Fy) (S.qE ff hx.sub hx.dJ) (S.bw ff) ⟨?_,fun b hb=> .inl (hb.elim (hx.sub b) (hyN b)),fun b hb=>hb.elim (hx.dJ b) (hyY b)⟩ (fun G cm a8 _ b hb h=>h.elim (cm b hb) (a8 b hb)) (fun _ h=>h) (fun _ h=> .inl h)
  obtain⟨G,cm,a8,b4⟩:=bM.el
  obtain⟨gJ,acy,gs⟩:=hy (G k) (cm k hk) (fun b hb=>(a8 k hk b hb).1)
  have th:∀b,F b->b≠p.1.b->w'.heap[b]? =u.heap[b]? :=fun b hb kE=>(yn b kE).trans (S.sep b (hx.sub b hb)).2.1
  have adT:∀b,Fy b->w'.heap[b]? =u.heap[b]? :=fun b hb=>(yn b (fun e=>hd _ (e▸eM) hb)).trans (S.sep b (hyN b hb)).2.1
  refine⟨by rw [List.length_set];exact bM.le,by rw [List.length_set];exact bM.cap,bM.o5,bM.null,fun _=>⟨.inl eM,_,T,tk,?_⟩,fun i hi=>?_,fun i=>if i=k then gJ else G i,fun i hi=>?_,fun i hi b hb=>?_,fun i A6 hi hD kE=>?_⟩
  · have:(cs.toList.take off++v.cells.toList++cs.toList.drop (off+v.cells.toList.length)).toArray.size=cs.size:=by simp at hle ⊢;omega
    rw [this];exact hF
  · rw [List.length_set] at hi
    rw [H0 _ _ _ _ hk]
    by_cases e:i=k
    · subst e
      simp only [if_true]
      intro z x ed
      have yt:z<GT.width α:=by
        have:=(List.getElem?_eq_some_iff.1 ed).1
        rwa [GT.len] at this
      rw [hc,Ns _ _ _ _ (by rw [GT.len];exact hjw)] at ed
      rw [ot]
      by_cases F6:z<j
      · rw [if_pos F6] at ed
        rw [if_pos (by omega)]
        exact hold _ _ (bM.cell i hk z x ed)
      · rw [if_neg F6] at ed
        rw [if_neg (by omega)]
        by_cases Wd:z<j+v.cells.toList.length
        · rw [if_pos Wd] at ed
          rw [if_pos (by omega),←ed]
          congr 1
          omega
        · rw [if_neg Wd] at ed
          rw [if_neg (by omega)]
          exact hold _ _ (bM.cell i hk z x ed)
    · simp only [e,if_false]
      intro z x ed
      have yt:z<GT.width α:=by
        have:=(List.getElem?_eq_some_iff.1 ed).1
        rwa [GT.len] at this
      have h1:=hold _ _ (bM.cell i hi z x ed)
      rw [ot]
      rcases Nat.lt_or_gt_of_ne e with h|h
      · have:=Nat.mul_le_mul_right (GT.width α) (show i+1<=k from h)
        rw [Nat.add_mul,Nat.one_mul] at this
        rw [if_pos (by omega)]
        exact h1
      · have:=Nat.mul_le_mul_right (GT.width α) (show k+1<=i from h)
        rw [Nat.add_mul,Nat.one_mul] at this
        rw [if_neg (by omega),if_neg (by omega)]
        exact h1
  · rw [List.length_set] at hi
    rw [H0 _ _ _ _ hk]
    by_cases e:i=k
    · subst e
      simp only [if_true]
      exact GT.b8 acy fun b hb _=>by
        rcases gs b hb with h|h
        · obtain⟨h1,an⟩:=a8 i hk b h
          exact th b h1 an
        · exact adT b h
    · simp only [e,if_false]
      exact GT.b8 (cm i hi) fun b hb _=>th b (a8 i hi b hb).1 (a8 i hi b hb).2
  · rw [List.length_set] at hi
    by_cases e:i=k
    · subst e
      simp only [if_true] at hb
      rcases gs b hb with h|h
      · exact⟨.inl (a8 i hk b h).1,(a8 i hk b h).2⟩
      · exact⟨.inr h,fun e=>hd _ (e▸eM) h⟩
    · simp only [e,if_false] at hb
      exact⟨.inl (a8 i hi b hb).1,(a8 i hi b hb).2⟩
  · rw [List.length_set] at hi hD
    intro b hb eN
    by_cases e:i=k
    · by_cases h3:A6=k
      · exact kE (e.trans h3.symm)
      · simp only [e,if_true] at hb
        simp only [h3,if_false] at eN
        rcases gs b hb with h|h
        · exact b4 k A6 hk hD (fun q=>h3 q.symm) b h eN
        · exact hd b (a8 A6 hD b eN).1 h
    · by_cases h3:A6=k
      · simp only [e,if_false] at hb
        simp only [h3,if_true] at eN
        rcases gs b eN with h|h
        · exact b4 i k hi hk e b hb h
        · exact hd b (a8 i hi b hb).1 h
      · simp only [e,h3,if_false] at hb eN
        exact b4 i A6 hi hD kE b hb eN
theorem aj.FN {α:Type} [GT α] {xs:List α} {p:aC α} {F Fy:au} (S:aj P n w0 M u N β σ a w) (hx:ad w0 M u N F xs p) {i k j off:Nat} {t:TypeId} {v:Value} {y:α} {q:GT.Ptr α} (hop:pI ops i σ=some (t,bg p.1.b off,v))
    (hoff:off=p.1.off+k*GT.width α+j) (hk:k<xs.length) (hs:ji P t=some v.cells.toList.length) (hpl:v.cells.toList.all (·.oneCell')=true) (hjw:j+v.cells.toList.length<=GT.width α)
    (hc:GT.cells y q=(GT.cells (el xs k) (p.2 k)).take j++v.cells.toList++(GT.cells (el xs k) (p.2 k)).drop (j+v.cells.toList.length))
    (hy:∀G,GT.own b7 G u (el xs k) (p.2 k)->(∀b,G b->F b)->∃gJ,GT.own b7 gJ u y q/\∀b,gJ b->G b\/Fy b) (hd:J F Fy) (hyN:∀b,Fy b->N b) (hyY:∀b,Fy b->w0.heap.size<=b\/M b)
    (K:∀w' aA bW cw,aj P n w0 M w' aA β σ a w'->(∀b,N b->¬F b->aA b/\w'.heap[b]? =u.heap[b]?)->
      ad w0 M w' aA bW (xs.set k y) (p.1,cw)->(∀G:au,J G F->J G Fy->(∀b,G b->N b)->J G bW)->(∀b,bW b->F b\/Fy b)->(∀b,N b->aA b)->di a w'):wpOp P ops Q i di a w:=
  S.qt hx hop hoff hk hs hpl hjw hc hy hd hyN hyY fun w' aA bW=>K w' aA bW _
theorem aj.ajN {α:Type} [GT α] {xs:List α} {p:aC α} {F Fy:au} (S:aj P n w0 M u N β σ a w) (hx:ad w0 M u N F xs p) {i k j off:Nat} {t:TypeId} {v:Value} {y:α} {q:GT.Ptr α}
    (hy:∀G,GT.own b7 G u (el xs k) (p.2 k)->(∀b,G b->F b)->∃gJ,GT.own b7 gJ u y q/\∀b,gJ b->G b\/Fy b) (hd:J F Fy) (hyN:∀b,Fy b->N b) (hyY:∀b,Fy b->w0.heap.size<=b\/M b)
    (K:∀w' aA bW cw,aj P n w0 M w' aA β σ a w'->(∀b,N b->¬F b->aA b/\w'.heap[b]? =u.heap[b]?)->
      ad w0 M w' aA bW (xs.set k y) (p.1,cw)->(∀G:au,J G F->J G Fy->(∀b,G b->N b)->J G bW)->(∀b,bW b->F b\/Fy b)->(∀b,N b->aA b)->di a w')
    (hop:pI ops i σ=some (t,bg p.1.b off,v):=by kernel_rfl) (hoff:off=p.1.off+k*GT.width α+j:=by kernel_rfl) (hk:k<xs.length:=by omega) (hs:ji P t=some v.cells.toList.length:=by kernel_rfl) (hpl:v.cells.toList.all (·.oneCell')=true:=by kernel_rfl) (hjw:Nat.ble (j+v.cells.toList.length) (GT.width α)=true:=by kernel_rfl)
    (hc:GT.cells y q=(GT.cells (el xs k) (p.2 k)).take j++v.cells.toList++(GT.cells (el xs k) (p.2 k)).drop (j+v.cells.toList.length):=by kernel_rfl):wpOp P ops Q i di a w:=
  S.FN hx hop hoff hk hs hpl (Nat.le_of_ble_eq_true hjw) hc hy hd hyN hyY K
theorem aj.y1 {α:Type} [GT α] {xs:List α} {p:aC α} {F:au} (S:aj P n w0 M u N β σ a w) (hx:ad w0 M u N F xs p) {i k j off:Nat} {t:TypeId} {v:Value} {y:α} {q:GT.Ptr α}
    (hy:∀G,GT.own b7 G u (el xs k) (p.2 k)->(∀b,G b->F b)->∃gJ,GT.own b7 gJ u y q/\∀b,gJ b->G b\/ab b)
    (K:∀w' aA bW cw,aj P n w0 M w' aA β σ a w'->(∀b,N b->¬F b->aA b/\w'.heap[b]? =u.heap[b]?)->
      ad w0 M w' aA bW (xs.set k y) (p.1,cw)->(∀G:au,J G F->J G ab->(∀b,G b->N b)->J G bW)->(∀b,bW b->F b\/ab b)->(∀b,N b->aA b)->di a w')
    (hop:pI ops i σ=some (t,bg p.1.b off,v):=by kernel_rfl) (hoff:off=p.1.off+k*GT.width α+j:=by kernel_rfl) (hk:k<xs.length:=by omega) (hs:ji P t=some v.cells.toList.length:=by kernel_rfl) (hpl:v.cells.toList.all (·.oneCell')=true:=by kernel_rfl) (hjw:Nat.ble (j+v.cells.toList.length) (GT.width α)=true:=by kernel_rfl)
    (hc:GT.cells y q=(GT.cells (el xs k) (p.2 k)).take j++v.cells.toList++(GT.cells (el xs k) (p.2 k)).drop (j+v.cells.toList.length):=by kernel_rfl):wpOp P ops Q i di a w:=
  S.FN hx hop hoff hk hs hpl (Nat.le_of_ble_eq_true hjw) hc hy (fun _ _ h=>False.elim h) (fun _ h=>False.elim h) (fun _ h=>False.elim h) K
theorem aj.kO {α:Type} [GT α] {xs:List α} {p:aC α} {F Fy:au} (S:aj P n w0 M u N β σ a w) (hx:ad w0 M u N F xs p) {i k off:Nat} {t:TypeId} {y:α} {q:GT.Ptr α} (hy:ad w0 M u N Fy y q) (hd:J F Fy)
    (K:∀w' aA bW cw,aj P n w0 M w' aA β σ a w'->(∀b,N b->¬F b->aA b/\w'.heap[b]? =u.heap[b]?)->
      ad w0 M w' aA bW (xs.set k y) (p.1,cw)->(∀G:au,J G F->J G Fy->(∀b,G b->N b)->J G bW)->(∀b,bW b->F b\/Fy b)->(∀b,N b->aA b)->di a w')
    (hop:pI ops i σ=some (t,bg p.1.b off,GT.val y q):=by kernel_rfl) (hoff:off=p.1.off+k*GT.width α+0:=by kernel_rfl) (hk:k<xs.length:=by omega) (hs:ji P t=some (GT.val y q).cells.toList.length:=by kernel_rfl) (hpl:(GT.val y q).cells.toList.all (·.oneCell')=true:=by kernel_rfl) (hjw:Nat.ble (0+(GT.val y q).cells.toList.length) (GT.width α)=true:=by kernel_rfl)
    (hc:GT.cells y q=(GT.cells (el xs k) (p.2 k)).take 0++(GT.val y q).cells.toList++(GT.cells (el xs k) (p.2 k)).drop (0+(GT.val y q).cells.toList.length):=by kernel_rfl):wpOp P ops Q i di a w:=
  S.FN hx hop hoff hk hs hpl (Nat.le_of_ble_eq_true hjw) hc (fun _ _ _=>⟨Fy,hy.own,fun _ h=> .inr h⟩) hd hy.sub hy.dJ K
end
end Go.Proofs.YtjlocpdfcanlhaaGreat
namespace Go.Proofs.YtjlocpdfcanlhaaGreat
open Go
section
variable {P:Program} {n:Nat} {w0:World} {M:au} {u:World} {N:au} {β:Nat->Nat} {σ σ':b1} {a:Act} {w:World} {ops:Array Oper} {Q:Exit->Act->World->Prop} {di:Act->World->Prop}
def rowOf (s:Nat):Nat->List (Nat×Value)->Option (List Value)
  |_,[]=>some []
  |k,(i,v)::r=>bif Nat.beq i k&&Nat.beq v.cells.toList.length s then(rowOf s (k+1) r).map fun l=>v.cells.toList++l else none
theorem Q9 (off:Nat):∀(l:List Value) (j:Nat) (pre x wG:List Value),pre.length=off+j->x.length=l.length->
    (l.zipIdx j).foldl (fun(cs:Array Value) (c:Value×Nat)=>cs.setIfInBounds (off+c.2) c.1) (pre++x++wG).toArray=(pre++l++wG).toArray
  |
    [],j,pre,x,wG,h1,an=>by
    have:x=[]:=List.length_eq_zero_iff.1 (by simpa using an)
    subst this;simp
  |v::l,j,pre,x,wG,h1,an=>by
    match x,an with
    |y::jj,an=>
      simp only [List.zipIdx_cons,List.foldl_cons]
      have e:((pre++y::jj++wG).toArray.setIfInBounds (off+j) v)=((pre++[v])++jj++wG).toArray:=by
        simp only [List.setIfInBounds_toArray]
        congr 1
        rw [List.append_assoc,List.set_append_right _ _ (by omega),h1]
        simp
      rw [e,Q9 off l (j+1) (pre++[v]) jj wG (by simp;omega) (by simpa using an)]
      simp
theorem QW (s:Nat):∀(l:List (Nat×Value)) (k:Nat) (row pre rest:List Value),rowOf s k l=some row->pre.length=k*s->rest.length=l.length*s->
    Instr.fill (fun i=>some (i*s,s)) (pre++rest).toArray l=some (pre++row).toArray
  |
    [],k,row,pre,rest,h,h1,an=>by
    simp only [rowOf,Option.some.injEq] at h
    subst h
    have:rest=[]:=List.length_eq_zero_iff.1 (by simpa using an)
    subst this
    simp [Instr.fill]
  |(i,v)::r,k,row,pre,rest,h,h1,an=>by
    simp only [rowOf] at h
    cases hb:(Nat.beq i k&&Nat.beq v.cells.toList.length s) with
    |false=>rw [hb] at h;cases h
    |true=>
      rw [hb] at h
      simp only [Bool.and_eq_true] at hb
      have ct:i=k:=Nat.eq_of_beq_eq_true hb.1
      have cA:v.cells.toList.length=s:=Nat.eq_of_beq_eq_true hb.2
      subst ct
      simp only [cond_true] at h
      cases bn:rowOf s (i+1) r with
      |none=>rw [bn] at h;cases h
      |some yT=>
        rw [bn] at h
        simp only [Option.map_some,Option.some.injEq] at h
        subst h
        have hlen:rest.length=s+r.length*s:=by rw [an,List.length_cons,Nat.add_mul,Nat.one_mul,Nat.add_comm]
        have hs:v.cells.size=s:=by simpa using cA
        unfold Instr.fill
        have c:(v.cells.size≠s||decide (i*s+v.cells.size>(pre++rest).toArray.size))=false:=by
          simp [hs,h1,hlen]
        simp only [c,Bool.false_eq_true,if_false]
        have bf:v.cells.zipIdx.foldl (fun(cs:Array Value) (x:Value×Nat)=>cs.setIfInBounds (i*s+x.2) x.1) (pre++rest).toArray=(pre++v.cells.toList++rest.drop s).toArray:=by
          rw [←Array.foldl_toList,Array.toList_zipIdx]
          have:=Q9 (i*s) v.cells.toList 0 pre (rest.take s) (rest.drop s) (by omega) (by simp;omega)
          simpa using this
        have:=QW s r (i+1) yT (pre++v.cells.toList) (rest.drop s) bn (by simp [Nat.add_mul,h1] at cA ⊢;omega) (by simp;omega)
        have fe:(fun(cs:Array Value) (x:Value×Nat)=>match x with|(c,j)=>cs.setIfInBounds (i*s+j) c)=fun cs x=>cs.setIfInBounds (i*s+x.2) x.1:=by
          funext cs x;rfl
        rw [fe,bf,this]
        simp
def xb (P:Program) (n:Nat) (ops:Array Oper) (i:Nat) (σ:b1):Option (List Value×Nat×Tmp):=
  match ops.toList[i]? with
  |some o=>
    match oi ops σ o,o.op,o.dst with
    |some true,.buildSlice t len parts,some d=>
      match P.underlying t with
      |some (.slice e)=>
        match P.info? e with
        |some info=>
          match info.zero,tf σ parts.toList with
          |some z,some l=>bif Nat.blt d n&&Nat.beq z.cells.toList.length info.size&&Nat.beq l.length len&&Nat.ble (len*info.size) 16777216&&Nat.blt 0 info.size then(rowOf info.size 0 l).map fun r=>(r,len,d) else none
          |_,_=>none
        |none=>none
      |_=>none
    |_,_,_=>none
  |none=>none
theorem aj.o3 (S:aj P n w0 M u N β σ a w) {i:Nat} {row:List Value} {m:Nat} {d:Tmp} (hop:xb P n ops i σ=some (row,m,d))
    (K:∀a0 w' T,aj P n w0 M w' (Or N (kT w.heap.size w'.heap.size)) β ⟨(d,.v (R m ⟨false,w.heap.size,0,m,none⟩))::σ.env,σ.aM⟩ a0 w'->(∀b,N b->Or N (kT w.heap.size w'.heap.size) b/\w'.heap[b]? =u.heap[b]?)->
      w'.heap[w.heap.size]? =some (.cells row.toArray T (0,0))->w'.heap.size=w.heap.size+1->di a0 w'):wpOp P ops Q i di a w:=by
  unfold xb at hop
  split at hop
  · rename_i o bM
    have kF:ops[i]? =some o:=by simpa using bM
    split at hop
    · rename_i t len parts o6 aJ vK hd
      split at hop
      · rename_i e hu
        split at hop
        · rename_i info yd
          split at hop
          · rename_i z l ed hl
            cases nN:(Nat.blt o6 n&&Nat.beq z.cells.toList.length info.size&&Nat.beq l.length len&&Nat.ble (len*info.size) 16777216&&Nat.blt 0 info.size) with
            |false=>rw [nN] at hop;cases hop
            |true=>
              rw [nN] at hop
              simp only [cond_true] at hop
              simp only [Bool.and_eq_true] at nN
              obtain⟨⟨⟨⟨hv,nx⟩,qF⟩,o2⟩,dM⟩:=nN
              have cA:z.cells.toList.length=info.size:=Nat.eq_of_beq_eq_true nx
              have fe:l.length=len:=Nat.eq_of_beq_eq_true qF
              have pY:len*info.size<=16777216:=Nat.le_of_ble_eq_true o2
              have xx:0<info.size:=Nat.le_of_ble_eq_true dM
              cases bn:rowOf info.size 0 l with
              |none=>rw [bn] at hop;cases hop
              |some yT=>
                rw [bn] at hop
                simp only [Option.map_some,Option.some.injEq,Prod.mk.injEq] at hop
                obtain⟨rfl,rfl,rfl⟩:=hop
                refine w3.step kF (mi S aJ) ?_
                have aeI:(parts.map fun(i,x)=>(i,a.eval x))=l.toArray:=by
                  rw [←Array.toList_inj]
                  simpa using Iy S _ _ hl
                have hzero:(zeroValue e).run P w= .ok z w:=by simp [zeroValue,typeInfo,yd,ed]
                have Sk:∀C4:Array Value,C4.size=len*info.size->Instr.fill (fun i=>some (i*info.size,info.size)) C4 l=some yT.toArray:=fun C4 hc=>by
                  have:=QW info.size l 0 yT [] C4.toList bn (by simp) (by rw [fe];simpa using hc)
                  simpa using this
                have hex:(execOp a.eval o).run P w= .ok (.value (.slice (some ⟨w.heap.size,0,none⟩) len len)) {w with heap:=w.heap.push (.cells yT.toArray e)}:=by
                  unfold execOp
                  simp only [vK]
                  show(do pure (.value (←Instr.buildSlice t len (parts.map fun(i,x)=>(i,a.eval x)))):Sem Next).run P w=_
                  rw [aeI]
                  unfold Instr.buildSlice
                  have cX:¬(len*info.size>2 ^ 24):=by omega
                  simp only [Sem.run_bind,run_underlying hu,Result.andThen_ok,sizeOf,typeInfo,run_program,yd,Sem.run_pure]
                  simp only [cX,if_false]
                  by_cases h0:len*info.size=0
                  · simp only [h0,if_true,Sem.run_bind,Sem.run_pure,Result.andThen_ok]
                    rw [Sk _ (by simp [h0])]
                    simp [newRow]
                  · simp only [h0,if_false,Sem.run_bind,hzero,Sem.run_pure,Result.andThen_ok]
                    rw [Sk _ (by simp)]
                    simp [newRow]
                unfold Oper.wp
                rw [hex]
                simp only [Oper.upon,hd]
                have ff:bu ab w {w with heap:=w.heap.push (.cells yT.toArray e)}:=bu.push ab w _
                exact K _ _ e (S.after hv ff) (S.up ff) (by simp) (by simp)
          · cases hop
        · cases hop
      · cases hop
    · cases hop
  · cases hop
theorem aj.fA {α:Type} [GT α] (S:aj P n w0 M u N β σ a w) {i:Nat} {d:Tmp} (hop:xb P n ops i σ=some ([],0,d))
    (K:∀a0 w' aA q F,aj P n w0 M w' aA β ⟨(d,.v (R 0 q.1))::σ.env,σ.aM⟩ a0 w'->(∀b,N b->aA b/\w'.heap[b]? =u.heap[b]?)->
      ad w0 M w' aA F ([]:List α) q->J N F->di a0 w'):wpOp P ops Q i di a w:=by
  refine S.o3 hop fun a0 w' T dR up mm hF=>K a0 w' _ (⟨false,w.heap.size,0,0,none⟩,fun _=>GT.cY) (kT w.heap.size w'.heap.size) dR up ⟨?_,fun _ h=> .inr h,fun _ h=> .inl (Nat.le_trans S.fp.size h.1)⟩ (J.fresh S w' fun _ h=>h)
  exact⟨Nat.zero_le _,Nat.zero_le _,Nat.zero_le _,fun h=>(by cases h),fun _=>⟨⟨Nat.le_refl _,(by show w.heap.size<w'.heap.size;omega)⟩,_,T,mm,by simp⟩,fun i hi=>absurd hi (Nat.not_lt_zero _),fun _=>ab,fun i hi=>absurd hi (Nat.not_lt_zero _),fun i hi=>absurd hi (Nat.not_lt_zero _),fun i _ hi=>absurd hi (Nat.not_lt_zero _)⟩
theorem aj.pS {α:Type} [GT α] {x:α} {p:GT.Ptr α} {F:au} (S:aj P n w0 M u N β σ a w) (hx:GT.own b7 F u x p) (hN:∀b,F b->N b) (hY:∀b,F b->w0.heap.size<=b\/M b) {i:Nat} {d:Tmp} (hop:xb P n ops i σ=some (GT.cells x p,1,d))
    (K:∀a0 w' aA q bW,aj P n w0 M w' aA β ⟨(d,.v (R 1 q.1))::σ.env,σ.aM⟩ a0 w'->(∀b,N b->aA b/\w'.heap[b]? =u.heap[b]?)->
      ad w0 M w' aA bW [x] q->(∀G:au,J G F->(∀b,G b->N b)->J G bW)->di a0 w'):wpOp P ops Q i di a w:=by
  refine S.o3 hop fun a0 w' T dR up mm hF=>K a0 w' _ (⟨false,w.heap.size,0,1,none⟩,fun _=>p) (Or F (kT w.heap.size w'.heap.size)) dR up ⟨?_,fun b h=>h.elim (fun h=> .inl (hN b h)) .inr,fun b h=>h.elim (hY b) (fun h=> .inl (Nat.le_trans S.fp.size h.1))⟩
    (fun G cm a8 b hb h=>h.elim (cm b hb) (J.fresh S w' (fun _ h=>h) b (a8 b hb)))
  have eP:∀b,F b->b<w.heap.size:=fun b hb=>(S.sep b (hN b hb)).1
  refine⟨(show 1<=b7 by decide),Nat.le_refl _,(show 1<=9223372036854775807 by decide),fun h=>(by cases h),fun _=>⟨.inr ⟨Nat.le_refl _,(by show w.heap.size<w'.heap.size;omega)⟩,_,T,mm,by simp [GT.len]⟩,fun i hi=>?_,fun _=>F,fun i hi=>?_,fun i hi b hb=>⟨.inl hb,fun e=>by have:=eP b hb;simp only [] at e;omega⟩,fun i j hi b0 kE=>?_⟩
  · simp at hi;subst hi
    intro j v b0
    have AP:(GT.cells x p)[j]? =some v:=b0
    simp only [World.cell?,mm,Option.isSome_none,Bool.false_eq_true,if_false]
    simpa using AP
  · simp at hi;subst hi
    exact GT.b8 hx fun b hb _=>(up b (hN b hb)).2
  · simp at hi b0;omega
theorem Rk (m:Nat):∀(r c:Nat),Builtin.growBy m r c<=2*m+400\/Builtin.growBy m r c<=c
  |
    0,c=> .inr (by simp [Builtin.growBy])
  |r+1,c=>by
    unfold Builtin.growBy
    split
    · exact .inr (Nat.le_refl _)
    · rename_i h
      rcases Rk m r (c+(c+768) / 4) with cl|cl
      · exact .inl cl
      · exact .inl (by omega)
theorem agY (need cap:Nat) (h:cap<need):Builtin.nextslicecap need cap<=2*need+400:=by
  unfold Builtin.nextslicecap
  split
  · omega
  · split
    · omega
    · rcases Rk need 4 cap with cl|cl<;>omega
def rG (P:Program) (n:Nat) (ops:Array Oper) (i:Nat) (σ:b1):Option (Value×Value×Nat×Nat×Tmp):=
  match ops.toList[i]? with
  |some o=>
    match oi ops σ o,o.op,o.dst with
    |some true,.call ⟨.builtin .append,args,kX⟩,some d=>
      match args.toList,kX.toList with
      |[x,y],[t1,t2]=>
        match P.underlying t1,P.underlying t2,σ.get x,σ.get y with
        |some (.slice e),some (.slice _),some (.v s),some (.v r)=>
          match P.info? e with
          |some info=>
            match info.zero with
            |some z=>bif Nat.blt d n&&Nat.beq z.cells.toList.length info.size&&Nat.ble info.bytes 4096&&Nat.blt 0 info.bytes then some (s,r,info.size,info.bytes,d) else none
            |none=>none
          |none=>none
        |_,_,_,_=>none
      |_,_=>none
    |_,_,_=>none
  |none=>none
def gg {α:Type} [GT α] (xs:List α) (p:Nat->GT.Ptr α) (m:Nat):List Value:=(List.range m).flatMap fun i=>GT.cells (el xs i) (p i)
theorem s9 {α:Type} [GT α] (xs:List α) (p:Nat->GT.Ptr α) (m:Nat):(gg xs p m).length=m*GT.width α:=by
  unfold gg
  induction m with
  |zero=>simp
  |succ m gh=>rw [List.range_succ,List.flatMap_append,List.length_append,gh];simp [GT.len,Nat.add_mul]
theorem DF {α:Type} [GT α] (xs:List α) (p:Nat->GT.Ptr α) (m:Nat):∀(i j:Nat),i<m->j<GT.width α->(gg xs p m)[i*GT.width α+j]? =(GT.cells (el xs i) (p i))[j]? :=by
  induction m with
  |zero=>intro i j h;omega
  |succ m gh=>
    intro i j hi b0
    have hs:gg xs p (m+1)=gg xs p m++GT.cells (el xs m) (p m):=by
      unfold gg;rw [List.range_succ,List.flatMap_append];simp
    rw [hs]
    have hl:=s9 xs p m
    by_cases h:i<m
    · have:=Nat.mul_le_mul_right (GT.width α) (show i+1<=m from h)
      rw [Nat.add_mul,Nat.one_mul] at this
      rw [List.getElem?_append_left (by omega)]
      exact gh i j h b0
    · have:i=m:=by omega
      subst this
      rw [List.getElem?_append_right (by omega),hl]
      congr 1
      omega
theorem abu {α:Type} [GT α] (xs:List α) (p:Nat->GT.Ptr α) (m:Nat):∀v∈gg xs p m,v.oneCell'=true:=by
  intro v b5
  unfold gg at b5
  rw [List.mem_flatMap] at b5
  obtain⟨i,_,h⟩:=b5
  exact GT.plain _ _ v h
theorem FJ {α:Type} [GT α] {xs:List α} {p:aC α} {w:World} (hc:∀i,i<xs.length->kQ w p.1.b (p.1.off+i*GT.width α) (GT.cells (el xs i) (p.2 i))) (cX:p.1.nil=true->xs.length=0) (s:Nat) (hs:s=GT.width α):
    (Builtin.firstCells s xs.length (R xs.length p.1)).run P w= .ok (gg xs p.2 xs.length).toArray w:=by
  subst hs
  unfold R l8.addr
  cases h:p.1.nil with
  |true=>
    have:=cX h
    simp only [cond_true,Builtin.firstCells,this]
    cases p.1.rE<;>simp [gg,loadCells,loadCellsFrom]
  |false=>
    simp only [cond_false,Builtin.firstCells]
    have:=run_loadCells_list (P:=P) w ⟨p.1.b,p.1.off,none⟩ (gg xs p.2 xs.length) (fun k v hk=>by
      have pn:k<xs.length*GT.width α:=by
        have:=(List.getElem?_eq_some_iff.1 hk).1
        rwa [s9] at this
      have ad3:=Nat.div_add_mod k (GT.width α)
      have SB:=Nat.mod_lt k (GT.jM (α:=α))
      have aR:k / GT.width α<xs.length:=by
        rw [Nat.div_lt_iff_lt_mul GT.jM];exact pn
      have e:k=k / GT.width α*GT.width α+k % GT.width α:=by rw [Nat.mul_comm];exact ad3.symm
      rw [e,DF xs p.2 xs.length _ _ aR SB] at hk
      have:=hc _ aR _ _ hk
      rw [Addr.add_mid]
      rwa [Nat.add_assoc,←e] at this)
    rw [s9] at this
    exact this
theorem ai0 {α:Type} [GT α] {xs bj:List α} {p q:aC α} {t1 t2 e cA ty:TypeId} {info:TypeInfo} {z:Value} {w:World} {cs:Array Value} {T:TypeId}
    (h1
        :P.underlying t1=some (.slice e)) (an:P.underlying t2=some (.slice cA)) (hi:P.info? e=some info) (ed:info.zero=some z) (yt:z.cells.toList.length=info.size) (hF:info.size=GT.width α) (ad1:info.bytes<=4096) (an2:0<info.bytes)
    (hx:∀i,i<xs.length->kQ w p.1.b (p.1.off+i*GT.width α) (GT.cells (el xs i) (p.2 i))) (SX:p.1.nil=true->p.1.cap=0) (JX:xs.length<=p.1.cap)
    (mm:p.1.nil=false->w.heap[p.1.b]? =some (.cells cs T (0,0))/\p.1.off+p.1.cap*GT.width α<=cs.size)
    (hy:∀i,i<bj.length->kQ w q.1.b (q.1.off+i*GT.width α) (GT.cells (el bj i) (q.2 i))) (Ek:q.1.nil=true->bj.length=0) (hl:xs.length+bj.length<=b7):
    (p.1.nil=false/\xs.length+bj.length<=p.1.cap/\(Builtin.append_ #[t1,t2] ty #[R xs.length p.1,R bj.length q.1]).run P w= .ok (R (xs.length+bj.length) p.1)
        (w.setRow p.1.b (cs.toList.take (p.1.off+xs.length*GT.width α)++gg bj q.2 bj.length++cs.toList.drop (p.1.off+xs.length*GT.width α+bj.length*GT.width α)).toArray))\/
    (xs.length+bj.length=0/\p.1.nil=true/\(Builtin.append_ #[t1,t2] ty #[R xs.length p.1,R bj.length q.1]).run P w= .ok (R (xs.length+bj.length) p.1) w)\/
    ∃(cap:Nat) (dH:Nat) (km:List Value),xs.length+bj.length<=cap/\cap<=9223372036854775807/\km.length=(cap-(xs.length+bj.length))*GT.width α/\(Builtin.append_ #[t1,t2] ty #[R xs.length p.1,R bj.length q.1]).run P w=
      .ok (R (xs.length+bj.length) ⟨false,w.heap.size,0,cap,none⟩) {w with heap:=w.heap.push (.cells (gg xs p.2 xs.length++gg bj q.2 bj.length++km).toArray e),drawn:=dH}:=by
  have SY:p.1.nil=true->xs.length=0:=fun h=>by have:=SX h;omega
  have abN:=FJ (P:=P) hx SY info.size hF
  have uS:=FJ (P:=P) hy Ek info.size hF
  rw [hF] at abN uS
  have aos:∀k,TypeDesc.slice cA≠ .int k:=fun k h=>by cases h
  have aop:(match (TypeDesc.slice cA:TypeDesc) with| .int _=>true|_=>false)=false:=rfl
  unfold b7 at hl
  by_cases vF:xs.length+bj.length<=p.1.cap
  · cases r9:p.1.nil with
    |
      true=>
      have an3:=SX r9
      right;left
      refine⟨by omega,rfl,?_⟩
      have z3:p.1.addr=p.1.rE:=by unfold l8.addr;rw [r9];rfl
      have iq:bj.length=0:=by omega
      rw [iq] at uS
      simp only [gg,List.range_zero,List.flatMap_nil] at uS
      rw [iq]
      have ct:xs.length+0<=p.1.cap:=by omega
      simp only [R,z3] at uS ⊢
      cases an0:p.1.rE<;>simp only [Builtin.append_,List.getElem?_toArray,List.getElem?_cons_zero,List.getElem?_cons_succ,Sem.run_bind,run_underlying h1,run_underlying an,Result.andThen_ok,sizeOf,typeInfo,run_program,hi,Sem.run_pure,Bool.false_eq_true,if_false,Builtin.lenOf,ct,if_true,Bool.not_false,hF,uS]
      rfl
    |false=>
      left
      obtain⟨bn,aoy⟩:=mm r9
      refine⟨rfl,vF,?_⟩
      have z3:p.1.addr=some ⟨p.1.b,p.1.off,none⟩:=by unfold l8.addr;rw [r9];rfl
      have hmul:(xs.length+bj.length)*GT.width α<=p.1.cap*GT.width α:=Nat.mul_le_mul_right _ vF
      rw [Nat.add_mul] at hmul
      have m3:=run_storeCells_at (P:=P) p.1.b (p.1.off+xs.length*GT.width α) T (gg bj q.2 bj.length) 0 cs w bn (by rw [s9];simp only [Nat.add_zero];omega) (abu _ _ _)
      simp only [Nat.add_zero] at m3
      simp only [R,z3] at uS ⊢
      simp only [Builtin.append_,List.getElem?_toArray,List.getElem?_cons_zero,List.getElem?_cons_succ,Sem.run_bind,run_underlying h1,run_underlying an,Result.andThen_ok,sizeOf,typeInfo,run_program,hi,Sem.run_pure,Bool.false_eq_true,if_false,Builtin.lenOf,vF,if_true,Bool.not_false,uS,Addr.add_mid,hF]
      rw [m3,s9]
      rfl
  · right;right
    have aoq:=agY (xs.length+bj.length) p.1.cap (by omega)
    have hb:Builtin.nextslicecap (xs.length+bj.length) p.1.cap*info.bytes<=(2*4194304+400)*4096:=Nat.mul_le_mul (by omega) ad1
    have cm:¬(((xs.length+bj.length:Nat):Int)>IntKind.i64.max/\(False\/info.bytes=0)):=fun h=>by
      rcases h.2 with h|h
      · exact h
      · omega
    have a8:¬(Builtin.nextslicecap (xs.length+bj.length) p.1.cap*info.bytes>2 ^ 48):=by omega
    have a9:(Question.appendCap (xs.length+bj.length) p.1.cap e).forced=false:=rfl
    let cap:=(Question.appendCap (xs.length+bj.length) p.1.cap e).cut (w.tape w.drawn (.appendCap (xs.length+bj.length) p.1.cap e))
    have vE:cap=(xs.length+bj.length)+w.tape w.drawn (.appendCap (xs.length+bj.length) p.1.cap e) % (2 ^ 63-(xs.length+bj.length)):=rfl
    have SB:w.tape w.drawn (.appendCap (xs.length+bj.length) p.1.cap e) % (2 ^ 63-(xs.length+bj.length))<2 ^ 63-(xs.length+bj.length):=Nat.mod_lt _ (by omega)
    have hzero:(zeroValue e).run P {w with drawn:=w.drawn+1}= .ok z {w with drawn:=w.drawn+1}:=by simp [zeroValue,typeInfo,hi,ed]
    have Ih:=FJ (P:=P) (w:={w with drawn:=w.drawn+1}) (xs:=xs) (p:=p) hx SY info.size hF
    have Ii:=FJ (P:=P) (w:={w with drawn:=w.drawn+1}) (xs:=bj) (p:=q) hy Ek info.size hF
    rw [hF] at Ih Ii
    have JR:∀(k:Nat) (w:World),(askRoom k).run P w= .ok () w:=fun k w=>by unfold askRoom;split<;>rfl
    refine⟨cap,w.drawn+1,(Builtin.zeroCells z.cells (cap-(xs.length+bj.length))).toList,by omega,by omega,?_,?_⟩
    · unfold Builtin.zeroCells
      have:z.cells.size=GT.width α:=by rw [←hF,←yt];simp
      simp [this]
    · have ff:(choose (.appendCap (xs.length+bj.length) p.1.cap e)).run P w= .ok cap {w with drawn:=w.drawn+1}:=rfl
      simp only [R] at Ih Ii ⊢
      simp only [Builtin.append_,List.getElem?_toArray,List.getElem?_cons_zero,List.getElem?_cons_succ,Sem.run_bind,run_underlying h1,run_underlying an,Result.andThen_ok,sizeOf,typeInfo,run_program,hi,Sem.run_pure,Bool.false_eq_true,if_false,Builtin.lenOf,vF,Bool.not_false,if_true,cm,a8,ff,JR,hF,Ih,Ii,hzero,newRow,run_newObj]
      have aaQ:(gg xs p.2 xs.length).toArray++(gg bj q.2 bj.length).toArray++Builtin.zeroCells z.cells (cap-(xs.length+bj.length))=(gg xs p.2 xs.length++gg bj q.2 bj.length++(Builtin.zeroCells z.cells (cap-(xs.length+bj.length))).toList).toArray:=by
        apply Array.ext'
        simp
      rw [aaQ]
      rfl
theorem aj.append {α:Type} [GT α] {xs bj:List α} {p q:aC α} {F Fy:au} (S:aj P n w0 M u N β σ a w) (hx:ad w0 M u N F xs p) (hyr:sO u N bj q)
    (A5:∃G:Nat->au,(∀i,i<bj.length->GT.own b7 (G i) u (el bj i) (q.2 i))/\(∀i,i<bj.length->∀b,G i b->Fy b)/\(∀i j,i<bj.length->j<bj.length->i≠j->J (G i) (G j)))
    (hd:J F Fy) (hyN:∀b,Fy b->N b) (hyY:∀b,Fy b->w0.heap.size<=b\/M b) {i:Nat} {by':Nat} {d:Tmp} (hop:rG P n ops i σ=some (R xs.length p.1,R bj.length q.1,GT.width α,by',d)) (hl:xs.length+bj.length<=b7)
    (K:∀a0 w' aA r bW,aj P n w0 M w' aA β ⟨(d,.v (R (xs.length+bj.length) r.1))::σ.env,σ.aM⟩ a0 w'->(∀b,N b->¬F b->aA b/\w'.heap[b]? =u.heap[b]?)->
      ad w0 M w' aA bW (xs++bj) r->(∀G:au,J G F->J G Fy->(∀b,G b->N b)->J G bW)->((∀b,N b->aA b)/\(∀i,i<xs.length->r.2 i=p.2 i)/\(r.1=p.1\/∀b,N b->w'.heap[b]? =u.heap[b]?))->di a0 w'):wpOp P ops Q i di a w:=by
  unfold rG at hop
  split at hop
  · rename_i o bM
    have kF:ops[i]? =some o:=by simpa using bM
    split at hop
    · rename_i args kX o6 aJ vK ad5
      split at hop
      · rename_i x y t1 t2 ay bs
        split at hop
        · rename_i e cA s r aeW oA aeU aeV
          split at hop
          · rename_i info yd
            split at hop
            · rename_i z ed
              cases nN:(Nat.blt o6 n&&Nat.beq z.cells.toList.length info.size&&Nat.ble info.bytes 4096&&Nat.blt 0 info.bytes) with
              |false=>rw [nN] at hop;cases hop
              |true=>
                rw [nN] at hop
                simp only [cond_true,Option.some.injEq,Prod.mk.injEq] at hop
                obtain⟨rfl,rfl,hF,_,rfl⟩:=hop
                simp only [Bool.and_eq_true] at nN
                obtain⟨⟨⟨hv,nx⟩,qF⟩,o2⟩:=nN
                have ct:args=#[x,y]:=by rw [←Array.toList_inj];exact ay
                have aaK:kX=#[t1,t2]:=by rw [←Array.toList_inj];exact bs
                subst ct aaK
                have oy:g1 b7 F u xs p:=hx.own
                have J1:af b7 N u bj q:=hyr
                obtain⟨G,cm,a8,b4⟩:=oy.el
                obtain⟨Ob,acz,uV,acA⟩:=A5
                have A0:∀b,N b->w.heap[b]? =u.heap[b]? :=fun b hb=>(S.sep b hb).2.1
                have JX:∀i,i<xs.length->kQ w p.1.b (p.1.off+i*GT.width α) (GT.cells (el xs i) (p.2 i)):=fun i hi=>by
                  have qa:=oy.Bm (by have:=oy.cap;omega)
                  exact(oy.cell i hi).uw (A0 _ (hx.sub _ (oy.row qa).1))
                have ae2:∀i,i<bj.length->kQ w q.1.b (q.1.off+i*GT.width α) (GT.cells (el bj i) (q.2 i)):=fun i hi=>
                  (J1.cell i hi).uw (A0 _ (J1.at_ (by omega)).2)
                have Ek:q.1.nil=true->bj.length=0:=fun h=>by
                  rcases Nat.eq_zero_or_pos bj.length with h0|h0
                  · exact h0
                  · have:=(J1.at_ h0).1;rw [h] at this;cases this
                obtain⟨cs,T,R_⟩:∃(cs:Array Value) (T:TypeId),p.1.nil=false->w.heap[p.1.b]? =some (.cells cs T (0,0))/\p.1.off+p.1.cap*GT.width α<=cs.size:=by
                  cases cX:p.1.nil with
                  |true=>exact⟨#[],0,fun h=>by cases h⟩
                  |false=>
                    obtain⟨eM,cs,T,h1,an⟩:=oy.row cX
                    exact⟨cs,T,fun _=>⟨(A0 _ (hx.sub _ eM)).trans h1,an⟩⟩
                have oz:=ai0 (P:=P) (ty:=o.type) aeW oA yd ed (Nat.eq_of_beq_eq_true nx) hF (Nat.le_of_ble_eq_true qF) (Nat.le_of_ble_eq_true o2) JX oy.null oy.cap R_ ae2 Ek hl
                have step:∀(v:Value) (w':World),(Builtin.append_ #[t1,t2] o.type #[R xs.length p.1,R bj.length q.1]).run P w= .ok v w'->di (a.put (some o6) v) w'->wpOp P ops Q i di a w:=fun v w' bn hk=>by
                  refine w3.step kF (mi S aJ) ?_
                  have hex:(execOp a.eval o).run P w= .ok (.value v) w':=by
                    unfold execOp
                    simp only [vK]
                    simp only [resolve,List.map_toArray,List.map_cons,List.map_nil,S.get aeU,S.get aeV]
                    show(do let v ←Builtin.append_ #[t1,t2] o.type #[R xs.length p.1,R bj.length q.1];pure (Next.value v):Sem Next).run P w=_
                    rw [Sem.run_bind,bn]
                    rfl
                  unfold Oper.wp
                  rw [hex]
                  simp only [Oper.upon,ad5]
                  exact hk
                have H2:∀i,el (xs++bj) i=if i<xs.length then el xs i else el bj (i-xs.length):=fun i=>by
                  unfold el
                  simp only [List.getD_eq_getElem?_getD,List.getElem?_append]
                  split<;>rfl
                let qq:Nat->GT.Ptr α:=fun i=>if i<xs.length then p.2 i else q.2 (i-xs.length)
                have JS:∀i,i<xs.length->qq i=p.2 i:=fun i hi=>if_pos hi
                let nu:Nat->au:=fun i=>if i<xs.length then G i else Ob (i-xs.length)
                --the amO own blocks,in any world ap9 leaves ap_ as aqa aqe
                have Sf:∀(w':World) (o1:Nat),(∀b,N b->b≠p.1.b\/¬F b->w'.heap[b]? =u.heap[b]?)->(∀i,i<xs.length->∀b,G i b->b≠o1)->(∀i,i<bj.length->∀b,Ob i b->b≠o1)->
                    ∃nu:Nat->au,(∀i,i<(xs++bj).length->GT.own b7 (nu i) w' (el (xs++bj) i) (qq i))/\(∀i,i<(xs++bj).length->∀b,nu i b->Or F (Or Fy (kT w.heap.size w'.heap.size)) b/\b≠o1)/\(∀i j,i<(xs++bj).length->j<(xs++bj).length->i≠j->J (nu i) (nu j)):=fun w' o1 qe kE aeC=>by
                  refine⟨nu,fun i hi=>?_,fun i hi b hb=>?_,fun i j hi b0 r6=>?_⟩
                  · rw [List.length_append] at hi
                    rw [H2]
                    by_cases h:i<xs.length
                    · simp only [nu,qq,h,if_true]
                      exact GT.b8 (cm i h) fun b hb _=>qe b (hx.sub b (a8 i h b hb).1) (.inl (a8 i h b hb).2)
                    · simp only [nu,qq,h,if_false]
                      have hD:i-xs.length<bj.length:=by omega
                      exact GT.b8 (acz _ hD) fun b hb _=>qe b (hyN b (uV _ hD b hb)) (.inr fun eM=>hd b eM (uV _ hD b hb))
                  · rw [List.length_append] at hi
                    by_cases h:i<xs.length
                    · simp only [nu,h,if_true] at hb
                      exact⟨.inl (a8 i h b hb).1,kE i h b hb⟩
                    · simp only [nu,h,if_false] at hb
                      have hD:i-xs.length<bj.length:=by omega
                      exact⟨.inr (.inl (uV _ hD b hb)),aeC _ hD b hb⟩
                  · rw [List.length_append] at hi b0
                    intro b hb eN
                    by_cases h:i<xs.length<;>by_cases cl:j<xs.length
                    · simp only [nu,h,cl,if_true] at hb eN
                      exact b4 i j h cl r6 b hb eN
                    · simp only [nu,h,cl,if_true,if_false] at hb eN
                      exact hd b (a8 i h b hb).1 (uV _ (by omega) b eN)
                    · simp only [nu,h,cl,if_true,if_false] at hb eN
                      exact hd b (a8 j cl b eN).1 (uV _ (by omega) b hb)
                    · simp only [nu,h,cl,if_false] at hb eN
                      exact acA _ _ (by omega) (by omega) (by omega) b hb eN
                have Jm:∀w':World,∀b,Or F (Or Fy (kT w.heap.size w'.heap.size)) b->Or N (kT w.heap.size w'.heap.size) b:=fun w' b h=>by
                  rcases h with h|h|h
                  · exact .inl (hx.sub b h)
                  · exact .inl (hyN b h)
                  · exact .inr h
                have J0:∀w':World,∀b,Or F (Or Fy (kT w.heap.size w'.heap.size)) b->w0.heap.size<=b\/M b:=fun w' b h=>by
                  rcases h with h|h|h
                  · exact hx.dJ b h
                  · exact hyY b h
                  · exact .inl (Nat.le_trans S.fp.size h.1)
                have Ji:∀(w':World) (G:au),J G F->J G Fy->(∀b,G b->N b)->J G (Or F (Or Fy (kT w.heap.size w'.heap.size))):=fun w' G d1 d2 hs b hb h=>by
                  rcases h with h|h|h
                  · exact d1 b hb h
                  · exact d2 b hb h
                  · have:=(S.sep b (hs b hb)).1
                    have:=h.1
                    omega
                have ia:∀(w':World) (aA:au) (v:Value),aj P n w0 M w' aA β σ a w'->aj P n w0 M w' aA β ⟨(o6,.v v)::σ.env,σ.aM⟩ (a.put (some o6) v) w':=fun w' aA v dR=>
                  dR.put (vV hv) (fun _ _ e=>by cases e)
                rcases oz with⟨r9,vF,bn⟩|⟨h0,r9,bn⟩|⟨cap,dH,km,ad2,AK,ae3,bn⟩
                · --in place
                  obtain⟨mm,aeR⟩:=R_ r9
                  have x8:=(oy.row r9).1
                  refine step _ _ bn ?_
                  have yn:∀b,b≠p.1.b->(w.setRow p.1.b (cs.toList.take (p.1.off+xs.length*GT.width α)++gg bj q.2 bj.length++cs.toList.drop (p.1.off+xs.length*GT.width α+bj.length*GT.width α)).toArray).heap[b]? =w.heap[b]? :=fun b hb=>by
                    simp only [World.setRow,Array.getElem?_modify]
                    rw [if_neg (fun e=>hb e.symm)]
                  have Ej:(w.setRow p.1.b (cs.toList.take (p.1.off+xs.length*GT.width α)++gg bj q.2 bj.length++cs.toList.drop (p.1.off+xs.length*GT.width α+bj.length*GT.width α)).toArray).heap.size=w.heap.size:=by simp [World.setRow]
                  have tk:=setRow_heap w p.1.b cs (cs.toList.take (p.1.off+xs.length*GT.width α)++gg bj q.2 bj.length++cs.toList.drop (p.1.off+xs.length*GT.width α+bj.length*GT.width α)).toArray T (0,0) mm
                  have hmul:(xs.length+bj.length)*GT.width α<=p.1.cap*GT.width α:=Nat.mul_le_mul_right _ vF
                  rw [Nat.add_mul] at hmul
                  have hlen:=s9 bj q.2 bj.length
                  have ot:∀pos,(w.setRow p.1.b (cs.toList.take (p.1.off+xs.length*GT.width α)++gg bj q.2 bj.length++cs.toList.drop (p.1.off+xs.length*GT.width α+bj.length*GT.width α)).toArray).cell? ⟨p.1.b,pos,none⟩=
                      if pos<p.1.off+xs.length*GT.width α then cs[pos]? else if pos<p.1.off+xs.length*GT.width α+bj.length*GT.width α then(gg bj q.2 bj.length)[pos-(p.1.off+xs.length*GT.width α)]? else cs[pos]? :=fun pos=>by
                    simp only [World.cell?,tk,Option.isSome_none,Bool.false_eq_true,if_false]
                    have:=Ns cs.toList (gg bj q.2 bj.length) (p.1.off+xs.length*GT.width α) pos (by rw [hlen];simp;omega)
                    rw [hlen] at this
                    simpa using this
                  generalize qe:w.setRow p.1.b (cs.toList.take (p.1.off+xs.length*GT.width α)++gg bj q.2 bj.length++cs.toList.drop (p.1.off+xs.length*GT.width α+bj.length*GT.width α)).toArray=w' at*
                  have ff:bu F w w':=by
                    subst qe
                    exact⟨rfl,rfl,rfl,by rw [Ej];exact Nat.le_refl _,fun b _ cX=>yn b (fun e=>cX (e▸x8))⟩
                  have A3:∀b,N b->b≠p.1.b\/¬F b->w'.heap[b]? =u.heap[b]? :=fun b hb kE=>(yn b (kE.elim id (fun h e=>h (e▸x8)))).trans (A0 b hb)
                  obtain⟨GS,ct,cA,fe⟩:=Sf w' p.1.b A3 (fun i hi b hb=>(a8 i hi b hb).2) (fun i hi b hb e=>hd _ (e▸x8) (uV i hi b hb))
                  refine K _ w' _ (p.1,qq) (Or F (Or Fy (kT w.heap.size w'.heap.size))) (ia w' _ _ (S.qE ff hx.sub hx.dJ)) (S.bw ff) ⟨?_,Jm w',J0 w'⟩ (Ji w') ⟨fun _=> .inl,JS,.inl rfl⟩
                  refine⟨by rw [List.length_append];exact hl,by rw [List.length_append];exact vF,oy.o5,oy.null,fun _=>⟨.inl x8,_,T,tk,?_⟩,fun i hi=>?_,GS,ct,cA,fe⟩
                  · have:(cs.toList.take (p.1.off+xs.length*GT.width α)++gg bj q.2 bj.length++cs.toList.drop (p.1.off+xs.length*GT.width α+bj.length*GT.width α)).toArray.size=cs.size:=by simp [hlen];omega
                    rw [this];exact aeR
                  · rw [List.length_append] at hi
                    rw [H2]
                    intro j v b5
                    have r8:j<GT.width α:=by
                      have:=(List.getElem?_eq_some_iff.1 b5).1
                      rwa [GT.len] at this
                    rw [ot]
                    by_cases h:i<xs.length
                    · simp only [h,if_true,qq] at b5
                      have:=Nat.mul_le_mul_right (GT.width α) (show i+1<=xs.length from h)
                      rw [Nat.add_mul,Nat.one_mul] at this
                      simp only []
                      rw [if_pos (by omega)]
                      have:=JX i h j v b5
                      simpa [World.cell?,mm] using this
                    · simp only [h,if_false,qq] at b5
                      have hD:i-xs.length<bj.length:=by omega
                      have h1:=Nat.mul_le_mul_right (GT.width α) (show i-xs.length+1<=bj.length from hD)
                      rw [Nat.add_mul,Nat.one_mul] at h1
                      have an:i*GT.width α=xs.length*GT.width α+(i-xs.length)*GT.width α:=by
                        rw [←Nat.add_mul];congr 1;omega
                      simp only []
                      rw [if_neg (by omega),if_pos (by omega)]
                      have:=DF bj q.2 bj.length (i-xs.length) j hD r8
                      rw [←b5,←this]
                      congr 1
                      omega
                · --nothing at all
                  refine step _ _ bn ?_
                  have ff:bu F w w:=bu.refl _ _
                  have ex:xs.length=0:=by omega
                  have amP:bj.length=0:=by omega
                  refine K _ w _ (p.1,qq) (Or F (Or Fy (kT w.heap.size w.heap.size))) (ia w _ _ (S.qE ff hx.sub hx.dJ)) (S.bw ff) ⟨?_,Jm w,J0 w⟩ (Ji w) ⟨fun _=> .inl,JS,.inl rfl⟩
                  have hlen:(xs++bj).length=0:=by rw [List.length_append];exact h0
                  exact⟨by rw [hlen];exact Nat.zero_le _,by rw [hlen];exact Nat.zero_le _,oy.o5,oy.null,fun h=>(by rw [r9] at h;cases h),fun i hi=>(by omega),fun _=>ab,fun i hi=>(by omega),fun i hi=>(by omega),fun i j hi=>(by omega)⟩
                · --a new block
                  refine step _ _ bn ?_
                  have R9:bu ab w {w with heap:=w.heap.push (.cells (gg xs p.2 xs.length++gg bj q.2 bj.length++km).toArray e),drawn:=dH}:=
                    ⟨rfl,rfl,rfl,by simp,fun k hk _=>by simp [Array.getElem?_push,Nat.ne_of_lt hk]⟩
                  have tk:({w with heap:=w.heap.push (.cells (gg xs p.2 xs.length++gg bj q.2 bj.length++km).toArray e),drawn:=dH}:World).heap[w.heap.size]? =some (.cells (gg xs p.2 xs.length++gg bj q.2 bj.length++km).toArray e):=by simp
                  have Ej:({w with heap:=w.heap.push (.cells (gg xs p.2 xs.length++gg bj q.2 bj.length++km).toArray e),drawn:=dH}:World).heap.size=w.heap.size+1:=by simp
                  generalize qe:({w with heap:=w.heap.push (.cells (gg xs p.2 xs.length++gg bj q.2 bj.length++km).toArray e),drawn:=dH}:World)=w' at*
                  have ff:bu F w w':=R9.mono fun _ f=>f.elim
                  have ph:∀b,N b->w'.heap[b]? =u.heap[b]? :=fun b hb=>(R9.block b (S.sep b hb).1 (fun f=>f)).trans (A0 b hb)
                  have A3:∀b,N b->b≠p.1.b\/¬F b->w'.heap[b]? =u.heap[b]? :=fun b hb _=>ph b hb
                  have Sy:∀b,N b->b≠w.heap.size:=fun b hb=>Nat.ne_of_lt (S.sep b hb).1
                  obtain⟨GS,ct,cA,fe⟩:=Sf w' w.heap.size A3 (fun i hi b hb=>Sy b (hx.sub b (a8 i hi b hb).1)) (fun i hi b hb=>Sy b (hyN b (uV i hi b hb)))
                  refine K _ w' _ (⟨false,w.heap.size,0,cap,none⟩,qq) (Or F (Or Fy (kT w.heap.size w'.heap.size))) (ia w' _ _ (S.qE ff hx.sub hx.dJ)) (S.bw ff) ⟨?_,Jm w',J0 w'⟩ (Ji w') ⟨fun _=> .inl,JS,.inr ph⟩
                  have hlx:=s9 xs p.2 xs.length
                  have hly:=s9 bj q.2 bj.length
                  refine⟨by rw [List.length_append];exact hl,by rw [List.length_append];exact ad2,AK,fun h=>(by cases h),fun _=>⟨.inr (.inr ⟨Nat.le_refl _,by show w.heap.size<w'.heap.size;omega⟩),_,e,tk,?_⟩,fun i hi=>?_,GS,ct,cA,fe⟩
                  · simp only [List.size_toArray,List.length_append,hlx,hly,ae3,Nat.zero_add]
                    rw [←Nat.add_mul,←Nat.add_mul]
                    exact Nat.mul_le_mul_right _ (by omega)
                  · rw [List.length_append] at hi
                    rw [H2]
                    intro j v b5
                    have r8:j<GT.width α:=by
                      have:=(List.getElem?_eq_some_iff.1 b5).1
                      rwa [GT.len] at this
                    simp only [World.cell?,tk,Option.isSome_none,Bool.false_eq_true,if_false,Nat.zero_add,List.getElem?_toArray]
                    by_cases h:i<xs.length
                    · simp only [h,if_true,qq] at b5
                      have:=Nat.mul_le_mul_right (GT.width α) (show i+1<=xs.length from h)
                      rw [Nat.add_mul,Nat.one_mul] at this
                      rw [List.append_assoc,List.getElem?_append_left (by omega),DF xs p.2 xs.length i j h r8]
                      exact b5
                    · simp only [h,if_false,qq] at b5
                      have hD:i-xs.length<bj.length:=by omega
                      have h1:=Nat.mul_le_mul_right (GT.width α) (show i-xs.length+1<=bj.length from hD)
                      rw [Nat.add_mul,Nat.one_mul] at h1
                      have an:i*GT.width α=xs.length*GT.width α+(i-xs.length)*GT.width α:=by
                        rw [←Nat.add_mul];congr 1;omega
                      rw [List.append_assoc,List.getElem?_append_right (by omega),hlx,List.getElem?_append_left (by omega)]
                      have:=DF bj q.2 bj.length (i-xs.length) j hD r8
                      rw [←b5,←this]
                      congr 1
                      omega
            · cases hop
          · cases hop
        · cases hop
      · cases hop
    · cases hop
  · cases hop
theorem aj.CT {α:Type} [GT α] {xs bj:List α} {p q:aC α} {F:au} (S:aj P n w0 M u N β σ a w) (hx:ad w0 M u N F xs p) (hyr:sO u N bj q) (hfl:∀(x:α) (r:GT.Ptr α),GT.rd b7 N u x r->GT.own b7 ab u x r)
    {i:Nat} {by' lx ly:Nat} {d:Tmp} (hlx:lx=xs.length) (hly:ly=bj.length) (hop:rG P n ops i σ=some (R lx p.1,R ly q.1,GT.width α,by',d)) (hl:xs.length+bj.length<=b7)
    (K:∀a0 w' aA r bW,aj P n w0 M w' aA β ⟨(d,.v (R (xs++bj).length r.1))::σ.env,σ.aM⟩ a0 w'->(∀b,N b->¬F b->aA b/\w'.heap[b]? =u.heap[b]?)->
      ad w0 M w' aA bW (xs++bj) r->(∀G:au,J G F->(∀b,G b->N b)->J G bW)->di a0 w'):wpOp P ops Q i di a w:=by
  subst hlx hly
  exact S.append hx hyr (Fy:=ab) ⟨fun _=>ab,fun i hi=>hfl _ _ (af.el hyr i hi),fun _ _ b h=>False.elim h,fun _ _ _ _ _ b h=>False.elim h⟩ (fun b _ h=>False.elim h) (fun b h=>False.elim h) (fun b h=>False.elim h) hop hl
    fun a0 w' aA r bW h1 an aF b2 _=>K a0 w' aA r bW (by rw [List.length_append];exact h1) an aF fun G cm a8=>b2 G cm (fun b _ h=>False.elim h) a8
theorem aj.lH {α:Type} [GT α] {bj:List α} {p q:aC α} {F:au} (S:aj P n w0 M u N β σ a w) (hx:ad w0 M u N F ([]:List α) p) (hyr:sO u N bj q) (hfl:∀(x:α) (r:GT.Ptr α),GT.rd b7 N u x r->GT.own b7 ab u x r)
    {i:Nat} {by' lx ly:Nat} {d:Tmp} (hly:ly=bj.length)
    (K:∀a0 w' aA r bW,aj P n w0 M w' aA β ⟨(d,.v (R bj.length r.1))::σ.env,σ.aM⟩ a0 w'->(∀b,N b->¬F b->aA b/\w'.heap[b]? =u.heap[b]?)->
      ad w0 M w' aA bW bj r->(∀G:au,J G F->(∀b,G b->N b)->J G bW)->di a0 w') (hlx:lx=0:=by rfl) (hop:rG P n ops i σ=some (R lx p.1,R ly q.1,GT.width α,by',d):=by kernel_rfl):wpOp P ops Q i di a w:=
  S.CT hx hyr hfl (lx:=lx) (ly:=ly) hlx hly hop (by rw [List.length_nil,Nat.zero_add];exact af.le hyr) K
theorem aj.CU {α:Type} [GT α] {xs bj:List α} {p q:aC α} {F Fy:au} (S:aj P n w0 M u N β σ a w) (hx:ad w0 M u N F xs p) (hy:ad w0 M u N Fy bj q) (hd:J F Fy)
    {i:Nat} {by' lx ly:Nat} {d:Tmp} (hlx:lx=xs.length) (hly:ly=bj.length) (hop:rG P n ops i σ=some (R lx p.1,R ly q.1,GT.width α,by',d)) (hl:xs.length+bj.length<=b7)
    (K:∀a0 w' aA r bW,aj P n w0 M w' aA β ⟨(d,.v (R (xs++bj).length r.1))::σ.env,σ.aM⟩ a0 w'->(∀b,N b->¬F b->aA b/\w'.heap[b]? =u.heap[b]?)->
      ad w0 M w' aA bW (xs++bj) r->(∀G:au,J G F->J G Fy->(∀b,G b->N b)->J G bW)->di a0 w'):wpOp P ops Q i di a w:=by
  subst hlx hly
  obtain⟨G,cm,a8,b4⟩:=g1.el hy.own
  exact S.append hx hy.ak ⟨G,cm,fun i hi b hb=>(a8 i hi b hb).1,b4⟩ hd hy.sub hy.dJ hop hl
    fun a0 w' aA r bW h1 an aF b2 _=>K a0 w' aA r bW (by rw [List.length_append];exact h1) an aF b2
abbrev ck (α:Type) [GT α]:List Value:=GT.cells (GT.eK:α) GT.cY
theorem b3 {x y:Int} (h:x=y):Ending.returned (packed [aa x])= .returned (aa y):=by rw [h];rfl
theorem a6 {x y:Bool} (h:x=y):Ending.returned (packed [B x])= .returned (B y):=by rw [h];rfl
theorem hU {α:Type} [GT α] {x y:α} {p:GT.Ptr α} (h:x=y):Ending.returned (packed [GT.val x p])= .returned (GT.val y p):=by rw [h];rfl
theorem jg {a b c d:Value} (h:a=c) (cl:b=d):Ending.returned (packed [a,b])= .returned (.tuple #[c,d]):=by rw [h,cl];rfl
theorem FD {a b c a0 lI zD:Value} (h:a=a0) (cl:b=lI) (IA:c=zD):Ending.returned (packed [a,b,c])= .returned (.tuple #[a0,lI,zD]):=by rw [h,cl,IA];rfl
theorem h4 {x y:Int} (h:x=y):aa x=aa y:=by rw [h]
theorem jy {x y:Bool} (h:x=y):B x=B y:=by rw [h]
theorem cx {α:Type} [GT α] {r x:α} {p:GT.Ptr α} {F:au} {v:Value} (S:aj P n w0 ab u N β σ a w) (h:r=x) (b5:v=GT.val x p) (o:ad w0 ab u N F x p):dw ab w0 r (.returned (packed [v])) w:=by
  subst h b5
  exact⟨p,rfl,S.fp,S.own o⟩
theorem f_ {α g_:Type} [GT α] [GT g_] {r x:α} {r' jj:g_} {p:GT.Ptr α} {p':GT.Ptr g_} {F:au} {v Cz:Value} (S:aj P n w0 ab u N β σ a w) (h:r=x) (cl:r'=jj) (b5:v=GT.val x p) (A1:Cz=GT.val jj p') (o:ad w0 ab u N F x p) (jW:GT.own b7 ab w jj p'):rC ab w0 r r' (.returned (packed [v,Cz])) w:=by
  subst h cl b5 A1
  obtain⟨h1,an⟩:=S.UD o
  exact⟨p,p',F,ab,rfl,S.fp,h1,jW,fun _ _ f=>f,fun b hb=>hb.elim (an b) (fun f=>False.elim f)⟩
theorem yS {α g_ za:Type} [GT α] [GT g_] [GT za] {r x:α} {r' jj:g_} {r'' NC:za} {p:GT.Ptr α} {p':GT.Ptr g_} {p'':GT.Ptr za} {F:au} {v Cz V3:Value} (S:aj P n w0 ab u N β σ a w) (h:r=x) (cl:r'=jj) (IA:r''=NC) (b5:v=GT.val x p) (A1:Cz=GT.val jj p') (ae0:V3=GT.val NC p'')
    (o:ad w0 ab u N F x p) (jW:GT.own b7 ab w jj p') (ag0:GT.own b7 ab w NC p''):zo ab w0 r r' r'' (.returned (packed [v,Cz,V3])) w:=by
  subst h cl IA b5 A1 ae0
  obtain⟨h1,an⟩:=S.UD o
  exact⟨p,p',p'',F,rfl,S.fp,h1,jW,ag0,an⟩
def alO {α:Type} [GT α] (F:au) (w:World) (p:GT.Ptr α) (x jj:α) (k:Int) (e:Ending) (w':World):Prop:=
  e= .returned (aa k)/\bu F w w'/\∃p',GT.cells jj p'=GT.cells x p/\GT.own b7 F w' jj p'
theorem aj.fX {α:Type} [GT α] {F:au} {x:α} {p:GT.Ptr α} (S:aj P n w0 M u N β σ a w) (h:ad w0 M u N F x p):GT.own b7 F w x p:=
  GT.b8 h.own (fun b hb _=>(S.sep b (h.sub b hb)).2.1)
end
end Go.Proofs.YtjlocpdfcanlhaaGreat
namespace Go.Proofs.YtjlocpdfcanlhaaGreat
open Go
def s_ (P:Program):Nat->List Field->Option (List Bool)
  |
    _,[]=>some []
  |i,f::ew=>
    bif (f.name== "_")|| !Nat.beq f.offset i then none else
    match P.underlying f.type with
    |some (.int .i64)=>(s_ P (i+1) ew).map fun l=>true::l
    |some .bool=>(s_ P (i+1) ew).map fun l=>false::l
    |_=>none
def z7 (P:Program) (t:TypeId):Option (List Bool):=
  match P.underlying t with
  |some (.struct ew)=>bif P.stoodInHeld t then none else s_ P 0 ew.toList
  |_=>none
def pA:List Bool->List Value->Prop
  |[],_=>True
  |true::dk,.int .i64 _::xs=>pA dk xs
  |false::dk,.bool _::xs=>pA dk xs
  |_,_=>False
def o7:List Bool->List Value->List Value->Bool
  |[],_,_=>true
  |true::dk,.int .i64 a::xs,.int .i64 b::bj=>(a==b)&&o7 dk xs bj
  |false::dk,.bool a::xs,.bool b::bj=>(a==b)&&o7 dk xs bj
  |_,_,_=>false
theorem Fs {P:Program} {t:TypeId} {cs:Array Value} {i:Nat} {v:Value} (bs:lv P t=some false) (h:cs[i]? =some v) (w:World):(part t cs i).run P w= .ok v w:=by
  simp [part,FI bs,h]
theorem H3 {P:Program} (xs bj:Array Value) (w:World):∀(ew:List Field) (i:Nat) (dk:List Bool),s_ P i ew=some dk->pA dk (xs.toList.drop i)->pA dk (bj.toList.drop i)->
    (Op.eqFields 9999 xs bj ew).run P w= .ok (o7 dk (xs.toList.drop i) (bj.toList.drop i)) w
  |
    [],i,dk,h,_,_=>by
    simp only [s_,Option.some.injEq] at h
    subst h;rfl
  |f::ew,i,dk,h,hx,hy=>by
    simp only [s_] at h
    cases hb:((f.name== "_")|| !Nat.beq f.offset i) with
    |true=>rw [hb] at h;cases h
    |false=>
      rw [hb] at h
      simp only [Bool.or_eq_false_iff,Bool.not_eq_false'] at hb
      have cX:f.name≠ "_" :=fun e=>by rw [e] at hb;simp at hb
      have bM:f.offset=i:=Nat.eq_of_beq_eq_true hb.2
      simp only [cond_false] at h
      have tail:∀(km:Array Value) (v:Value) (r:List Value),km.toList.drop i=v::r->km[i]? =some v/\km.toList.drop (i+1)=r:=fun km v r e=>by
        have h1:(km.toList.drop i)[0]? =some v:=by rw [e];rfl
        have an:km.toList.drop (i+1)=(km.toList.drop i).drop 1:=by rw [List.drop_drop]
        exact⟨by simpa using h1,by rw [an,e];rfl⟩
      split at h
      · rename_i hu
        cases bn:s_ P (i+1) ew with
        |none=>rw [bn] at h;cases h
        |some KM=>
          rw [bn] at h
          simp only [Option.map_some,Option.some.injEq] at h
          subst h
          have th:lv P f.type=some false:=by unfold lv;rw [hu]
          match JY:xs.toList.drop i,hx with
          | .int .i64 a::akJ,hx=>
            match A5:bj.toList.drop i,hy with
            | .int .i64 b::akT,hy=>
              obtain⟨JW,vP⟩:=tail xs _ _ JY
              obtain⟨JZ,A4⟩:=tail bj _ _ A5
              have gh:=H3 xs bj w ew (i+1) KM bn (by rw [vP];exact hx) (by rw [A4];exact hy)
              unfold Op.eqFields
              rw [if_pos cX,bM]
              simp only [Sem.run_bind,Fs th JW,Fs th JZ,Result.andThen_ok,run_equalIn_int w 9998 f.type .i64 .i64 a b hu]
              rw [vP,A4] at gh
              cases ka:(a==b) with
              |false=>simp [o7,ka]
              |true=>simp only [o7,ka,Bool.true_and,Bool.not_true,Bool.false_eq_true,if_false];exact gh
      · rename_i hu
        cases bn:s_ P (i+1) ew with
        |none=>rw [bn] at h;cases h
        |some KM=>
          rw [bn] at h
          simp only [Option.map_some,Option.some.injEq] at h
          subst h
          have th:lv P f.type=some false:=by unfold lv;rw [hu]
          match JY:xs.toList.drop i,hx with
          | .bool a::akJ,hx=>
            match A5:bj.toList.drop i,hy with
            | .bool b::akT,hy=>
              obtain⟨JW,vP⟩:=tail xs _ _ JY
              obtain⟨JZ,A4⟩:=tail bj _ _ A5
              have gh:=H3 xs bj w ew (i+1) KM bn (by rw [vP];exact hx) (by rw [A4];exact hy)
              unfold Op.eqFields
              rw [if_pos cX,bM]
              simp only [Sem.run_bind,Fs th JW,Fs th JZ,Result.andThen_ok,run_equalIn_bool' w 9998 f.type a b hu]
              rw [vP,A4] at gh
              cases ka:(a==b) with
              |false=>simp [o7,ka]
              |true=>simp only [o7,ka,Bool.true_and,Bool.not_true,Bool.false_eq_true,if_false];exact gh
      · cases h
theorem H4 {P:Program} {t:TypeId} {dk:List Bool} (h:z7 P t=some dk) {xs bj:List Value} (hx:pA dk xs) (hy:pA dk bj) (w:World):(Op.equal t (.agg xs.toArray) (.agg bj.toArray)).run P w= .ok (o7 dk xs bj) w:=by
  unfold z7 at h
  split at h
  · rename_i ew hu
    cases hs:P.stoodInHeld t with
    |true=>rw [hs] at h;cases h
    |false=>
      rw [hs] at h
      have bf:P.fieldsOf t=ew:=by unfold Program.fieldsOf;rw [hu]
      have:=run_equalIn_struct (P:=P) w 9999 t xs.toArray bj.toArray (by rw [bf];exact hu) hs
      rw [bf] at this
      show(Op.equalIn 10000 t _ _).run P w=_
      refine this.trans ?_
      have:=H3 (P:=P) xs.toArray bj.toArray w ew.toList 0 dk h (by simpa using hx) (by simpa using hy)
      simpa using this
  · cases h
section
variable {P:Program} {u:World} {N:au}
theorem QG (x y:aQ):o7 [true,true] (GT.cells x ()) (GT.cells y ())=decide (x=y):=by
  rw [Bool.eq_iff_iff,decide_eq_true_iff,aQ.ext_iff]
  simp [o7,GT.cells,Bool.and_eq_true]
theorem qv {t:TypeId} (x y:aQ) (h:z7 P t=some [true,true]):g2 P u N (.iV (do pure (.bool (←Op.equal t (GT.val x ()) (GT.val y ()))))) (B (decide (x=y))):=fun w _=>by
  show(do pure (.bool (←Op.equal t (GT.val x ()) (GT.val y ()))):Sem Value).run P w=_
  have e:=H4 h (show pA [true,true] (GT.cells x ()) from trivial) (show pA [true,true] (GT.cells y ()) from trivial) w
  rw [QG] at e
  rw [Sem.run_bind]
  show((Op.equal t (.agg (GT.cells x ()).toArray) (.agg (GT.cells y ()).toArray)).run P w).andThen _=_
  rw [e];rfl
theorem We {t:TypeId} (x y:aQ) (h:z7 P t=some [true,true]):g2 P u N (.iV (do pure (.bool (!(←Op.equal t (GT.val x ()) (GT.val y ())))))) (B (!decide (x=y))):=fun w _=>by
  show(do pure (.bool (!(←Op.equal t (GT.val x ()) (GT.val y ())))):Sem Value).run P w=_
  have e:=H4 h (show pA [true,true] (GT.cells x ()) from trivial) (show pA [true,true] (GT.cells y ()) from trivial) w
  rw [QG] at e
  rw [Sem.run_bind]
  show((Op.equal t (.agg (GT.cells x ()).toArray) (.agg (GT.cells y ()).toArray)).run P w).andThen _=_
  rw [e];rfl
theorem aaU (x y:df):o7 [true,true,false,true] (GT.cells x ()) (GT.cells y ())=decide (x=y):=by
  rw [Bool.eq_iff_iff,decide_eq_true_iff,df.ext_iff]
  simp [o7,GT.cells,Bool.and_eq_true]
theorem CE {t:TypeId} (x y:df) (h:z7 P t=some [true,true,false,true]):g2 P u N (.iV (do pure (.bool (←Op.equal t (GT.val x ()) (GT.val y ()))))) (B (decide (x=y))):=fun w _=>by
  show(do pure (.bool (←Op.equal t (GT.val x ()) (GT.val y ()))):Sem Value).run P w=_
  have e:=H4 h (show pA [true,true,false,true] (GT.cells x ()) from trivial) (show pA [true,true,false,true] (GT.cells y ()) from trivial) w
  rw [aaU] at e
  rw [Sem.run_bind]
  show((Op.equal t (.agg (GT.cells x ()).toArray) (.agg (GT.cells y ()).toArray)).run P w).andThen _=_
  rw [e];rfl
end
end Go.Proofs.YtjlocpdfcanlhaaGreat
namespace Go.Proofs.YtjlocpdfcanlhaaGreat
open Go
def a3 (x a b:Int):Bool:=decide (a<=x)&&decide (x<=b)
theorem cU {x a b:Int} (h:a3 x a b=true):a<=x/\x<=b:=by simpa [a3] using h
theorem dm {x a b:Int} (h:a3 x a b=false):¬(a<=x/\x<=b):=by
  intro g;simp [a3,g.1,g.2] at h
def QR (k:Int):Bool:=a3 k 13 17
def amQ (a:nw):Bool:=a3 a.kind 1 17
def amV (a:nw):fo:=⟨a.x,a.y,a.z==1⟩
def cf (n:Nat) (left:Int):Int:=if left-n<0 then-1 else left-n
def ann (l:List nw):List nw:=l.filter fun a=>!QR a.kind
def am8 (a:List nw) (t:List pN):List pN:=((a.zip t).filter fun p=>!QR p.1.kind).map (·.2)
theorem p0 {α:Type} [GT α] {xs:List α} {k:Nat} (h:k<xs.length):el xs k=xs[k]:=by simp [el,h]
theorem jh {α:Type} [GT α] {xs:List α} {k:Nat} (h:k<xs.length):xs.take (k+1)=xs.take k++[el xs k]:=by
  rw [p0 h,List.take_succ_eq_append_getElem h]
theorem sD {α:Type} [GT α] {xs:List α} {k:Nat} {z:α} (h:k<xs.length):(xs.take k++List.replicate (xs.length-k) z).set k (el xs k)=xs.take (k+1)++List.replicate (xs.length-(k+1)) z:=by
  have e:List.replicate (xs.length-k) z=z::List.replicate (xs.length-(k+1)) z:=by
    rw [show xs.length-k=(xs.length-(k+1))+1 by omega,List.replicate_succ]
  have hl:(xs.take k).length=k:=by simp;omega
  rw [jh h,e,List.set_append_right _ _ (by omega),hl]
  simp
theorem sG {α:Type} [GT α] {xs bj:List α} {k:Nat} (h:k<xs.length) (cl:k<bj.length) (e:xs.take k=bj.take k) (h3:el xs k=el bj k):xs.take (k+1)=bj.take (k+1):=by
  rw [jh h,jh cl,e,h3]
theorem sH {α:Type} [GT α] {xs bj:List α} {k:Nat} (h3:¬el xs k=el bj k):¬xs=bj:=fun e=>h3 (by rw [e])
theorem fb {α:Type} {xs:List α} {k:Nat} (h:xs.length<=k):xs.take k=xs:=List.take_of_length_le h
theorem agX {α:Type} [BEq α] [LawfulBEq α] {x y:α} (h:(x != y)=false):x=y:=by
  cases e:x==y
  · rw [bne,e] at h;cases h
  · exact eq_of_beq e
theorem nU {a b:Bool} (h:(a||b)=false):a=false/\b=false:=by cases a<;>cases b<;>simp_all
theorem Ou {a b:Bool} (h:(a&&b)=true):a=true/\b=true:=by cases a<;>cases b<;>simp_all
theorem Ue {a b c d:Int} (h:((a != b)&&(c != d))=false):a=b\/c=d:=by
  by_cases h1:a=b
  · exact .inl h1
  · by_cases an:c=d
    · exact .inr an
    · simp [bne,h1,an] at h
theorem cn {b:Bool} (h:(!b)=true):b=false:=by cases b<;>simp_all
theorem b_ {b:Bool} (h:(!b)=false):b=true:=by cases b<;>simp_all
end Go.Proofs.YtjlocpdfcanlhaaGreat
namespace Go.Proofs.YtjlocpdfcanlhaaGreat
open Go
theorem dS {α:Type} [GT α] {xs:List α} {k:Nat} {y:α} (h:k<xs.length):el (xs.set k y) k=y:=by simp [el,h]
theorem Be {α:Type} {a l:List α} {i:Nat} {y:α} (h:i<a.length) (hl:l.length=i):(l++a.drop i).set i y=(l++[y])++a.drop (i+1):=by
  rw [List.drop_eq_getElem_cons h,List.set_append_right _ _ (by omega),hl,Nat.sub_self,List.set_cons_zero,List.append_assoc]
  rfl
def xY (j:Int):Int:=j
def oe (n:Nat) (k:Int):List Int:=(List.range n).map fun(i:Nat)=>xY (k+1*(i:Int))
theorem abl (n:Nat) (k:Int):(oe n k).length=n:=by simp [oe]
theorem aga {a:List Int} {i:Nat} {k j:Int} (h:i<a.length) (b0:j=k+1*(i:Int)):(oe i k++a.drop i).set i (xY j)=oe (i+1) k++a.drop (i+1):=by
  rw [Be h (abl i k),b0]
  unfold oe
  rw [List.range_succ,List.map_append]
  rfl
def xV (j:Int):Bool:=(Int.tmod j 3==0)
def od (n:Nat) (k:Int):List Bool:=(List.range n).map fun(i:Nat)=>xV (k+1*(i:Int))
theorem abi (n:Nat) (k:Int):(od n k).length=n:=by simp [od]
theorem af8 {a:List Bool} {i:Nat} {k j:Int} (h:i<a.length) (b0:j=k+1*(i:Int)):(od i k++a.drop i).set i (xV j)=od (i+1) k++a.drop (i+1):=by
  rw [Be h (abi i k),b0]
  unfold od
  rw [List.range_succ,List.map_append]
  rfl
def xZ (j:Int):aQ:=⟨j,(j+1)⟩
def nF (n:Nat) (k:Int):List aQ:=(List.range n).map fun(i:Nat)=>xZ (k+2*(i:Int))
theorem abm (n:Nat) (k:Int):(nF n k).length=n:=by simp [nF]
theorem agb {a:List aQ} {i:Nat} {k j:Int} (h:i<a.length) (b0:j=k+2*(i:Int)):(nF i k++a.drop i).set i (xZ j)=nF (i+1) k++a.drop (i+1):=by
  rw [Be h (abm i k),b0]
  unfold nF
  rw [List.range_succ,List.map_append]
  rfl
def xW (j:Int):aG:=⟨j,(j+1),(j+2),(j+3)⟩
def mc (n:Nat) (k:Int):List aG:=(List.range n).map fun(i:Nat)=>xW (k+4*(i:Int))
theorem abj (n:Nat) (k:Int):(mc n k).length=n:=by simp [mc]
theorem af9 {a:List aG} {i:Nat} {k j:Int} (h:i<a.length) (b0:j=k+4*(i:Int)):(mc i k++a.drop i).set i (xW j)=mc (i+1) k++a.drop (i+1):=by
  rw [Be h (abj i k),b0]
  unfold mc
  rw [List.range_succ,List.map_append]
  rfl
def xX (j:Int):c_:=⟨j,(j+1)⟩
def nE (n:Nat) (k:Int):List c_:=(List.range n).map fun(i:Nat)=>xX (k+2*(i:Int))
theorem abk (n:Nat) (k:Int):(nE n k).length=n:=by simp [nE]
theorem af_ {a:List c_} {i:Nat} {k j:Int} (h:i<a.length) (b0:j=k+2*(i:Int)):(nE i k++a.drop i).set i (xX j)=nE (i+1) k++a.drop (i+1):=by
  rw [Be h (abk i k),b0]
  unfold nE
  rw [List.range_succ,List.map_append]
  rfl
def acq (j:Int):fo:=⟨j,(j+1),(Int.tmod (j+2) 3==0)⟩
def ana (n:Nat) (k:Int):List fo:=(List.range n).map fun(i:Nat)=>acq (k+3*(i:Int))
def acr (j:Int):df:=⟨j,(j+1),(Int.tmod (j+2) 3==0),(j+3)⟩
def anb (n:Nat) (k:Int):List df:=(List.range n).map fun(i:Nat)=>acr (k+4*(i:Int))
def acp (j:Int):nw:=⟨j,(j+1),(j+2),(j+3),(j+4),(j+5)⟩
def am_ (n:Nat) (k:Int):List nw:=(List.range n).map fun(i:Nat)=>acp (k+6*(i:Int))
def acs (j:Int):pN:=⟨(Int.tmod j 3==0),(j+1)⟩
def anc (n:Nat) (k:Int):List pN:=(List.range n).map fun(i:Nat)=>acs (k+2*(i:Int))
end Go.Proofs.YtjlocpdfcanlhaaGreat
namespace Go.Proofs.YtjlocpdfcanlhaaGreat
open Go
def dG (P:Program) (t:TypeId) (α:Type) [GT α]:Prop:=
  P.cellsOf t=GT.width α/\∀(H:Type) (enc:TypeId×Value->H) (w:World) (fuel:Nat) (cs:List Value) (x:DataW H×List MemPlace),
    DataW.trod enc P w 0 (fun _=>true) true fuel t cs=some x->∃(d:α) (p:GT.Ptr α),cs=GT.cells d p/\GT.rd kU (fc w.heap.size) w d p
theorem ah9 {P:Program} {t:TypeId} (bs:P.underlying t=some (.int .i64)) (hc:P.cellsOf t=1):dG P t Int:=by
  refine⟨hc,fun H enc w fuel cs x h=>?_⟩
  cases fuel with
  |zero=>simp [DataW.trod] at h
  |succ n=>
    unfold DataW.trod at h
    rw [bs] at h
    split at h<;>simp_all
    rename_i k fq K6 hk
    subst hk
    obtain⟨⟨rfl,hw⟩,_⟩:=h
    refine⟨K6,(),by rfl,?_⟩
    have:=bounds_i64 hw
    exact⟨this.1,this.2⟩
theorem ah8 {P:Program} {t:TypeId} (bs:P.underlying t=some .bool) (hc:P.cellsOf t=1):dG P t Bool:=by
  refine⟨hc,fun H enc w fuel cs x h=>?_⟩
  cases fuel with
  |zero=>simp [DataW.trod] at h
  |succ n=>
    unfold DataW.trod at h
    rw [bs] at h
    split at h<;>simp_all
    rename_i b
    cases b
    · exact .inl ⟨(),rfl,trivial⟩
    · exact .inr ⟨(),rfl,trivial⟩
theorem sr {P:Program} {t e:TypeId} {α:Type} [GT α] (bs:P.underlying t=some (.slice e)) (hc:P.cellsOf t=1) (bM:dG P e α):dG P t (List α):=by
  refine⟨hc,fun H enc w fuel cs x h=>?_⟩
  rcases Go.Deep.open_slice bs h with⟨rfl,_⟩|⟨a,len,cap,m,n,D,alL,rfl,_,hl,hm,SC,_,hx⟩
  · exact⟨[],GT.cY,rfl,GT.gj (GT.gr _ _ _)⟩
  simp only [if_true] at SC
  subst SC
  have:Inhabited α:=⟨GT.eK⟩
  have:Inhabited (GT.Ptr α):=⟨GT.cY⟩
  obtain⟨f,bf⟩:=Go.Deep.choose_lt (α:=α×GT.Ptr α) (n:=m) (p:=fun i y=>w.cells? 0 (a.add (i*P.cellsOf e)) (P.cellsOf e)=some (GT.cells y.1 y.2)/\GT.rd kU (fc w.heap.size) w y.1 y.2) (fun i hi=>by
    obtain⟨lJ,h1,an⟩:=hx i hi
    obtain⟨d,p,rfl,aF⟩:=bM.2 H enc w n lJ _ an
    exact⟨(d,p),h1,aF⟩)
  have hlen:((List.range len).map fun i=>(f i).1).length=len:=by simp
  have h_:∀i,i<len->el ((List.range len).map fun i=>(f i).1) i=(f i).1:=fun i hi=>by simp [el,hi]
  by_cases h0:m=0
  · obtain rfl:len=0:=by omega
    subst h0
    exact⟨[],(⟨true,0,0,0,some a⟩,fun _=>GT.cY),rfl,Nat.zero_le _,Nat.zero_le _,fun h=>absurd h (Nat.lt_irrefl _),fun i hi=>absurd hi (Nat.not_lt_zero _),fun i hi=>absurd hi (Nat.not_lt_zero _)⟩
  have vO:∃b o,a=⟨b,o,none⟩:=by
    obtain⟨_,AS,AK⟩:=World.cells?_some (bf 0 (by omega)).1
    have aF:=AK 0 (by rw [bM.1];exact GT.jM)
    have aJ:∃v,(GT.cells (f 0).1 (f 0).2)[0]? =some v:=⟨_,List.getElem?_eq_getElem (by rw [GT.len];exact GT.jM)⟩
    obtain⟨v,b5⟩:=aJ
    rw [b5,Nat.zero_mul] at aF
    simp only [Addr.add,if_true] at aF
    obtain⟨b,o,s⟩:=a
    cases s with
    |none=>exact⟨b,o,rfl⟩
    |some s=>unfold World.cell? at aF;split at aF<;>simp at aF
  obtain⟨b,o,rfl⟩:=vO
  have ot:∀i,i<m->kQ w b (o+i*GT.width α) (GT.cells (f i).1 (f i).2):=fun i hi=>by
    obtain⟨_,AS,AK⟩:=World.cells?_some (bf i hi).1
    intro j v b0
    have r8:=(List.getElem?_eq_some_iff.1 b0).1
    have aF:=AK j (by omega)
    rw [b0,bM.1,Go.Deep.add_add] at aF
    have e:(Addr.mk b o none).add (i*GT.width α+j)=⟨b,o+i*GT.width α+j,none⟩:=by
      unfold Addr.add
      split
      · rename_i h;simp
      · simp [Nat.add_assoc]
    rwa [e] at aF
  refine⟨(List.range len).map fun i=>(f i).1,(⟨false,b,o,m,none⟩,fun i=>(f i).2),?_,?_,?_,?_,?_,?_⟩
  · show [Value.slice (some _) len m]=[R (List.length _) _]
    rw [hlen]
    rfl
  · rw [hlen];unfold maxLen at hm;unfold kU;omega
  · rw [hlen];exact hl
  · intro h
    refine⟨rfl,?_⟩
    exact(ot 0 (by omega)).lt (by rw [GT.len];exact GT.jM)
  · intro i hi
    rw [hlen] at hi
    rw [h_ i hi]
    exact ot i (by omega)
  · intro i hi
    rw [hlen] at hi
    rw [h_ i hi]
    exact(bf i (by omega)).2
theorem fO {H:Type} {enc:TypeId×Value->H} {P:Program} {w:World} {ew:Array Field} {L:List (TypeId×Nat)} (bf:ew.toList.map (fun f=>(f.type,f.offset))=L) {n:Nat} {cs:List Value} {xs:List (DataW H×List MemPlace)}
    (hl:xs.length=ew.size) (hx:∀(i:Nat) (f:Field),ew[i]? =some f->DataW.trod enc P w 0 (fun _=>true) true n f.type ((cs.drop f.offset).take (P.cellsOf f.type))=xs[i]?)
    (i:Nat) {t:TypeId} {o:Nat} (hi:L[i]? =some (t,o)) {α:Type} [GT α] (bM:dG P t α):∃(d:α) (p:GT.Ptr α),(cs.drop o).take (GT.width α)=GT.cells d p/\GT.rd kU (fc w.heap.size) w d p:=by
  subst bf
  rw [List.getElem?_map,Option.map_eq_some_iff] at hi
  obtain⟨f,h1,an⟩:=hi
  simp only [Prod.mk.injEq] at an
  obtain⟨rfl,rfl⟩:=an
  have aF:ew[i]? =some f:=by simpa using h1
  have b2:=hx i f aF
  have eP:i<xs.length:=by
    rw [hl]
    exact(Array.getElem?_eq_some_iff.1 aF).1
  rw [List.getElem?_eq_getElem eP,bM.1] at b2
  exact bM.2 H enc w n _ _ b2
theorem dH {cs c:List Value} {o w:Nat} (h:(cs.drop o).take w=c) (jW:Nat) (e:jW=o+w):cs.drop o=c++cs.drop jW:=by
  subst h e
  rw [←List.drop_drop,List.take_append_drop]
theorem rR {cs:List Value} {o:Nat} (h:cs.length=o):cs.drop o=[]:=by
  subst h
  exact List.drop_length
theorem W5 {H:Type} {enc:TypeId×Value->H} {P:Program} {w:World} {t:TypeId} {α:Type} [GT α] (bM:dG P t α) {ew:Array Field} (bs:P.underlying t=some (.struct ew)) (ay:GT.agg α=true)
    {r:Reach} {o1:Nat} {v:Value} (b5:Value.okWide P w r o1 t v) {d:DataW H} {yJ:List MemPlace} (h:DataW.Trod enc P w 0 (fun _=>true) true t v d yJ):
    ∃(d:α) (p:GT.Ptr α),v=GT.val d p/\GT.rd kU (fc w.heap.size) w d p:=by
  obtain⟨cs,rfl,_⟩:=Go.WideShapes.okWide_struct bs b5
  obtain⟨fuel,bf⟩:=h
  obtain⟨x,p,h1,an⟩:=bM.2 H enc w fuel _ _ bf
  refine⟨x,p,?_,an⟩
  unfold GT.val
  rw [ay,cond_true,←h1]
  rfl
theorem Ov {H:Type} {enc:TypeId×Value->H} {P:Program} {w:World} {t:TypeId} (bs:P.underlying t=some (.int .i64))
    {r:Reach} {o1:Nat} {v:Value} (b5:Value.okWide P w r o1 t v) {d:DataW H} {yJ:List MemPlace} (h:DataW.Trod enc P w 0 (fun _=>true) true t v d yJ):∃x:Int,v=aa x/\a_ x:=by
  obtain⟨x,rfl,_,_,hw⟩:=Go.ChangeShapes.open_int bs b5 h
  exact⟨x,rfl,(bounds_i64 hw).1,(bounds_i64 hw).2⟩
theorem VZ {H:Type} {enc:TypeId×Value->H} {P:Program} {w:World} {base:Nat} {spare:Nat->Bool} {held:Bool} {V0:List TypeId} {F1:List Value} {Qf:List (DataW H)} {p':List MemPlace} (cl:DataW.TrodAll enc P w base spare held V0 F1 Qf p'):
    ∀{Cx:List TypeId} {ei:List Value} {qH:List (DataW H)} {p:List MemPlace},DataW.TrodAll enc P w base spare held Cx ei qH p->DataW.TrodAll enc P w base spare held (Cx++V0) (ei++F1) (qH++Qf) (p++p')
  |
    [],_,_,_,h=>by
    obtain⟨rfl,rfl,rfl⟩:=Go.ChangeShapes.trodAll_nil h
    exact cl
  |_::_,_,_,_,h=>by
    obtain⟨v,akn,d,aaH,a,b,rfl,rfl,rfl,h1,an⟩:=Go.ChangeShapes.trodAll_cons h
    exact⟨a,b++p',h1,VZ cl an,by simp⟩
theorem aiy {H:Type} {enc:TypeId×Value->H} {P:Program} {f:Func} {s:ChangeSpec} {apart fresh handsOn again:Bool} {W uu:World} {args:Array Value} {v:Value} {qH gs:List (DataW H)} {before pa pv:List MemPlace}
    (aH:DataW.Whole enc P f.params.toList s.vars apart W args.toList qH gs before)
    (SQ:∀(b:Nat) (sp:Nat->Bool) (hd:Bool),DataW.TrodAll enc P uu b sp hd f.resultTypes.toList (v.resultList f.resultTypes.size) (s.fn H (qH++gs)).results [])
    (p9:∀sp:Nat->Bool,(∀p∈before,sp p.block=true)->DataW.TrodAll enc P uu 0 sp true f.params.toList args.toList (s.fn H (qH++gs)).args pa)
    (SV:∀sp:Nat->Bool,(∀p∈before,sp p.block=true)->DataW.TrodVars enc P uu sp s.vars (s.fn H (qH++gs)).vars pv)
    (tl:before=pa++pv) (hb:RowKit.Below W.heap.size W uu)
    (ym:∀(j:Nat) (t:TypeId) (r:Value),f.resultTypes[j]? =some t->(v.resultList f.resultTypes.size)[j]? =some r->Value.okWide P uu .any 0 t r):
    s.post enc P f apart fresh handsOn again W args v uu:=by
  have hold:∀p∈before,(fun b=>decide (b<W.heap.size)) p.block=true:=fun p bD=>by simpa using aH.lt p bD
  have eP:=aH.lt
  refine⟨qH,gs,before,[],pa,pv,aH,SQ _ _ _,p9 _ hold,SV _ hold,World.keptBut_mono (fun p bD=>⟨bD,?_⟩) (hb.frame (· ∈before)),fun _=>?_⟩
  · rw [tl,List.mem_append] at bD
    exact Or.inr bD
  · obtain⟨_,_,_,_,_,ed,cX⟩:=aH
    refine⟨ym,_,_,([]++pa)++pv,⟨[]++pa,pv,VZ (p9 _ (fun _ _=>rfl)) (SQ _ _ _),SV _ (fun _ _=>rfl),rfl,?_,?_⟩,?_⟩
    · intro b off bD
      have SE:MemPlace.cell b off∈before:=by rw [tl];simpa using bD
      rw [hb.frozen (p:=⟨b,off,none⟩) (eP _ SE)]
      exact ed b off SE
    · intro ay
      have:=cX ay
      rw [tl] at this
      simpa using this
    · intro p bD _
      rw [tl]
      simpa using bD
theorem ah7 {P:Program} {t:TypeId} {ew:Array Field} {t0 t1:TypeId} (bs:P.underlying t=some (.struct ew)) (hc:P.cellsOf t=2) (bf:ew.toList.map (fun f=>(f.type,f.offset))=[(t0,0),(t1,1)]) (h0:dG P t0 (Int)) (h1:dG P t1 (Int)):dG P t aQ:=by
  refine⟨hc,fun H enc w fuel cs x h=>?_⟩
  obtain⟨xs,n,_,_,hl,fg,hx⟩:=DataW.trod_struct bs h
  obtain⟨d0,nV,iq,k6⟩:=fO bf fg hx 0 rfl h0
  obtain⟨d1,lq,ct,kj⟩:=fO bf fg hx 1 rfl h1
  refine⟨⟨d0,d1⟩,(),?_,⟨k6,kj⟩⟩
  have e:cs.drop 0=_:=dH iq 1 rfl
  rw [dH ct 2 rfl,rR (hl.trans hc)] at e
  exact e
theorem ah5 {P:Program} {t:TypeId} {ew:Array Field} {t0 t1:TypeId} (bs:P.underlying t=some (.struct ew)) (hc:P.cellsOf t=2) (bf:ew.toList.map (fun f=>(f.type,f.offset))=[(t0,0),(t1,1)]) (h0:dG P t0 (List Bool)) (h1:dG P t1 (List aQ)):dG P t bQ:=by
  refine⟨hc,fun H enc w fuel cs x h=>?_⟩
  obtain⟨xs,n,_,_,hl,fg,hx⟩:=DataW.trod_struct bs h
  obtain⟨d0,nV,iq,k6⟩:=fO bf fg hx 0 rfl h0
  obtain⟨d1,lq,ct,kj⟩:=fO bf fg hx 1 rfl h1
  refine⟨⟨d0,d1⟩,⟨nV,lq⟩,?_,⟨k6,kj⟩⟩
  have e:cs.drop 0=_:=dH iq 1 rfl
  rw [dH ct 2 rfl,rR (hl.trans hc)] at e
  exact e
theorem ah0 {P:Program} {t:TypeId} {ew:Array Field} {t0 t1 t2 t3:TypeId} (bs:P.underlying t=some (.struct ew)) (hc:P.cellsOf t=4) (bf:ew.toList.map (fun f=>(f.type,f.offset))=[(t0,0),(t1,1),(t2,2),(t3,3)]) (h0:dG P t0 (Int)) (h1:dG P t1 (Int)) (an:dG P t2 (Int)) (aF:dG P t3 (Int)):dG P t aG:=by
  refine⟨hc,fun H enc w fuel cs x h=>?_⟩
  obtain⟨xs,n,_,_,hl,fg,hx⟩:=DataW.trod_struct bs h
  obtain⟨d0,nV,iq,k6⟩:=fO bf fg hx 0 rfl h0
  obtain⟨d1,lq,ct,kj⟩:=fO bf fg hx 1 rfl h1
  obtain⟨d2,cw,cA,oN⟩:=fO bf fg hx 2 rfl an
  obtain⟨d3,ng,fe,rp⟩:=fO bf fg hx 3 rfl aF
  refine⟨⟨d0,d1,d2,d3⟩,(),?_,⟨k6,kj,oN,rp⟩⟩
  have e:cs.drop 0=_:=dH iq 1 rfl
  rw [dH ct 2 rfl,dH cA 3 rfl,dH fe 4 rfl,rR (hl.trans hc)] at e
  exact e
theorem ah4 {P:Program} {t:TypeId} {ew:Array Field} {t0 t1:TypeId} (bs:P.underlying t=some (.struct ew)) (hc:P.cellsOf t=2) (bf:ew.toList.map (fun f=>(f.type,f.offset))=[(t0,0),(t1,1)]) (h0:dG P t0 (Int)) (h1:dG P t1 (Int)):dG P t c_:=by
  refine⟨hc,fun H enc w fuel cs x h=>?_⟩
  obtain⟨xs,n,_,_,hl,fg,hx⟩:=DataW.trod_struct bs h
  obtain⟨d0,nV,iq,k6⟩:=fO bf fg hx 0 rfl h0
  obtain⟨d1,lq,ct,kj⟩:=fO bf fg hx 1 rfl h1
  refine⟨⟨d0,d1⟩,(),?_,⟨k6,kj⟩⟩
  have e:cs.drop 0=_:=dH iq 1 rfl
  rw [dH ct 2 rfl,rR (hl.trans hc)] at e
  exact e
theorem ahZ {P:Program} {t:TypeId} {ew:Array Field} {t0 t1 t2:TypeId} (bs:P.underlying t=some (.struct ew)) (hc:P.cellsOf t=3) (bf:ew.toList.map (fun f=>(f.type,f.offset))=[(t0,0),(t1,1),(t2,2)]) (h0:dG P t0 (Int)) (h1:dG P t1 (Int)) (an:dG P t2 (Bool)):dG P t fo:=by
  refine⟨hc,fun H enc w fuel cs x h=>?_⟩
  obtain⟨xs,n,_,_,hl,fg,hx⟩:=DataW.trod_struct bs h
  obtain⟨d0,nV,iq,k6⟩:=fO bf fg hx 0 rfl h0
  obtain⟨d1,lq,ct,kj⟩:=fO bf fg hx 1 rfl h1
  obtain⟨d2,cw,cA,oN⟩:=fO bf fg hx 2 rfl an
  refine⟨⟨d0,d1,d2⟩,(),?_,⟨k6,kj⟩⟩
  have e:cs.drop 0=_:=dH iq 1 rfl
  rw [dH ct 2 rfl,dH cA 3 rfl,rR (hl.trans hc)] at e
  exact e
theorem ah1 {P:Program} {t:TypeId} {ew:Array Field} {t0 t1 t2 t3:TypeId} (bs:P.underlying t=some (.struct ew)) (hc:P.cellsOf t=4) (bf:ew.toList.map (fun f=>(f.type,f.offset))=[(t0,0),(t1,1),(t2,2),(t3,3)]) (h0:dG P t0 (Int)) (h1:dG P t1 (Int)) (an:dG P t2 (Bool)) (aF:dG P t3 (Int)):dG P t df:=by
  refine⟨hc,fun H enc w fuel cs x h=>?_⟩
  obtain⟨xs,n,_,_,hl,fg,hx⟩:=DataW.trod_struct bs h
  obtain⟨d0,nV,iq,k6⟩:=fO bf fg hx 0 rfl h0
  obtain⟨d1,lq,ct,kj⟩:=fO bf fg hx 1 rfl h1
  obtain⟨d2,cw,cA,oN⟩:=fO bf fg hx 2 rfl an
  obtain⟨d3,ng,fe,rp⟩:=fO bf fg hx 3 rfl aF
  refine⟨⟨d0,d1,d2,d3⟩,(),?_,⟨k6,kj,rp⟩⟩
  have e:cs.drop 0=_:=dH iq 1 rfl
  rw [dH ct 2 rfl,dH cA 3 rfl,dH fe 4 rfl,rR (hl.trans hc)] at e
  exact e
theorem ah2 {P:Program} {t:TypeId} {ew:Array Field} {t0 t1 t2 t3 t4 t5 t6 t7 t8 t9:TypeId} (bs:P.underlying t=some (.struct ew)) (hc:P.cellsOf t=15) (bf:ew.toList.map (fun f=>(f.type,f.offset))=[(t0,0),(t1,1),(t2,2),(t3,3),(t4,4),(t5,5),(t6,8),(t7,9),(t8,13),(t9,14)]) (h0:dG P t0 (List c_)) (h1:dG P t1 (Int)) (an:dG P t2 (Int)) (aF:dG P t3 (List aQ)) (b2:dG P t4 (List aQ)) (bl:dG P t5 (fo)) (cR:dG P t6 (Int)) (cD:dG P t7 (df)) (db:dG P t8 (Bool)) (et:dG P t9 (List Int)):dG P t ax:=by
  refine⟨hc,fun H enc w fuel cs x h=>?_⟩
  obtain⟨xs,n,_,_,hl,fg,hx⟩:=DataW.trod_struct bs h
  obtain⟨d0,nV,iq,k6⟩:=fO bf fg hx 0 rfl h0
  obtain⟨d1,lq,ct,kj⟩:=fO bf fg hx 1 rfl h1
  obtain⟨d2,cw,cA,oN⟩:=fO bf fg hx 2 rfl an
  obtain⟨d3,ng,fe,rp⟩:=fO bf fg hx 3 rfl aF
  obtain⟨d4,BK,pY,MZ⟩:=fO bf fg hx 4 rfl b2
  obtain⟨d5,ais,xx,M0⟩:=fO bf fg hx 5 rfl bl
  obtain⟨d6,ait,HW,M1⟩:=fO bf fg hx 6 rfl cR
  obtain⟨d7,U0,HX,M3⟩:=fO bf fg hx 7 rfl cD
  obtain⟨d8,BL,ky,Vt⟩:=fO bf fg hx 8 rfl db
  obtain⟨d9,aiu,aaP,aiU⟩:=fO bf fg hx 9 rfl et
  refine⟨⟨d0,d1,d2,d3,d4,d5,d6,d7,d8,d9⟩,⟨nV,ng,BK,aiu⟩,?_,⟨k6,kj,oN,rp,MZ,M0,M1,M3,aiU⟩⟩
  have e:cs.drop 0=_:=dH iq 1 rfl
  rw [dH ct 2 rfl,dH cA 3 rfl,dH fe 4 rfl,dH pY 5 rfl,dH xx 8 rfl,dH HW 9 rfl,dH HX 13 rfl,dH ky 14 rfl,dH aaP 15 rfl,rR (hl.trans hc)] at e
  exact e
theorem ah6 {P:Program} {t:TypeId} {ew:Array Field} {t0 t1 t2 t3 t4 t5 t6 t7 t8:TypeId} (bs:P.underlying t=some (.struct ew)) (hc:P.cellsOf t=9) (bf:ew.toList.map (fun f=>(f.type,f.offset))=[(t0,0),(t1,1),(t2,2),(t3,3),(t4,4),(t5,5),(t6,6),(t7,7),(t8,8)]) (h0:dG P t0 (List aQ)) (h1:dG P t1 (List (List Int))) (an:dG P t2 (List Bool)) (aF:dG P t3 (List ax)) (b2:dG P t4 (List Int)) (bl:dG P t5 (Int)) (cR:dG P t6 (Int)) (cD:dG P t7 (List bQ)) (db:dG P t8 (Int)):dG P t aO:=by
  refine⟨hc,fun H enc w fuel cs x h=>?_⟩
  obtain⟨xs,n,_,_,hl,fg,hx⟩:=DataW.trod_struct bs h
  obtain⟨d0,nV,iq,k6⟩:=fO bf fg hx 0 rfl h0
  obtain⟨d1,lq,ct,kj⟩:=fO bf fg hx 1 rfl h1
  obtain⟨d2,cw,cA,oN⟩:=fO bf fg hx 2 rfl an
  obtain⟨d3,ng,fe,rp⟩:=fO bf fg hx 3 rfl aF
  obtain⟨d4,BK,pY,MZ⟩:=fO bf fg hx 4 rfl b2
  obtain⟨d5,ais,xx,M0⟩:=fO bf fg hx 5 rfl bl
  obtain⟨d6,ait,HW,M1⟩:=fO bf fg hx 6 rfl cR
  obtain⟨d7,U0,HX,M3⟩:=fO bf fg hx 7 rfl cD
  obtain⟨d8,BL,ky,Vt⟩:=fO bf fg hx 8 rfl db
  refine⟨⟨d0,d1,d2,d3,d4,d5,d6,d7,d8⟩,⟨nV,lq,cw,ng,BK,U0⟩,?_,⟨k6,kj,oN,rp,MZ,M0,M1,M3,Vt⟩⟩
  have e:cs.drop 0=_:=dH iq 1 rfl
  rw [dH ct 2 rfl,dH cA 3 rfl,dH fe 4 rfl,dH pY 5 rfl,dH xx 6 rfl,dH HW 7 rfl,dH HX 8 rfl,dH ky 9 rfl,rR (hl.trans hc)] at e
  exact e
theorem ah3 {P:Program} {t:TypeId} {ew:Array Field} {t0 t1 t2 t3:TypeId} (bs:P.underlying t=some (.struct ew)) (hc:P.cellsOf t=4) (bf:ew.toList.map (fun f=>(f.type,f.offset))=[(t0,0),(t1,1),(t2,2),(t3,3)]) (h0:dG P t0 (List (List Int))) (h1:dG P t1 (List aO)) (an:dG P t2 (List aG)) (aF:dG P t3 (List aG)):dG P t ah:=by
  refine⟨hc,fun H enc w fuel cs x h=>?_⟩
  obtain⟨xs,n,_,_,hl,fg,hx⟩:=DataW.trod_struct bs h
  obtain⟨d0,nV,iq,k6⟩:=fO bf fg hx 0 rfl h0
  obtain⟨d1,lq,ct,kj⟩:=fO bf fg hx 1 rfl h1
  obtain⟨d2,cw,cA,oN⟩:=fO bf fg hx 2 rfl an
  obtain⟨d3,ng,fe,rp⟩:=fO bf fg hx 3 rfl aF
  refine⟨⟨d0,d1,d2,d3⟩,⟨nV,lq,cw,ng⟩,?_,⟨k6,kj,oN,rp⟩⟩
  have e:cs.drop 0=_:=dH iq 1 rfl
  rw [dH ct 2 rfl,dH cA 3 rfl,dH fe 4 rfl,rR (hl.trans hc)] at e
  exact e
end Go.Proofs.YtjlocpdfcanlhaaGreat
namespace Go.Proofs.YtjlocpdfcanlhaaGreat
open Go
class aS (α:Type) [GT α] where
  aW:α->Nat
  cut:∀{K di:Nat} {F:au} {w:World} {x:α} {p:GT.Ptr α},GT.rd K F w x p->aW x<=di->GT.rd di F w x p
def g9 {α:Type} [GT α] [aS α] (xs:List α):Nat:=(xs.map aS.aW).sum
instance:aS Int where
  aW _:=0
  cut h _:=h
instance:aS Bool where
  aW _:=0
  cut h _:=h
theorem gL (n:Nat) (left:Int):(left-n<0/\cf n left=-1)\/(0<=left-n/\cf n left=left-n):=by
  unfold cf;split<;>omega
section
variable {α:Type} [GT α] [aS α]
theorem tX:g9 ([]:List α)=0:=rfl
theorem aj5 (x:α) (xs:List α):g9 (x::xs)=aS.aW x+g9 xs:=by simp [g9]
theorem VS (xs bj:List α):g9 (xs++bj)=g9 xs+g9 bj:=by simp [g9]
theorem aj6 (xs:List α) (k:Nat):g9 xs=g9 (xs.take k)+g9 (xs.drop k):=by rw [←VS,List.take_append_drop]
theorem j0 {xs:List α} {k:Nat} (h:k<xs.length):g9 (xs.take (k+1))=g9 (xs.take k)+aS.aW (el xs k):=by
  rw [List.take_succ_eq_append_getElem h,VS]
  simp [g9,el,h]
theorem hK (xs:List α) (k:Nat):g9 (xs.take k)<=g9 xs:=by rw [aj6 xs k];omega
theorem FX {xs:List α} {k:Nat} (h:xs.length<=k):g9 (xs.take k)=g9 xs:=by rw [List.take_of_length_le h]
theorem aj2 {xs:List α} {k:Nat} (h:k<xs.length):aS.aW (el xs k)<=g9 xs:=by
  have h1:=j0 h
  have an:=hK xs (k+1)
  omega
instance:aS (List α) where
  aW xs:=xs.length+g9 xs
  cut h hk:=⟨by omega,h.cap,h.at_,h.cell,fun i hi=>aS.cut (h.el i hi) (by have:=aj2 hi;omega)⟩
theorem ns (xs:List α):aS.aW xs=xs.length+g9 xs:=rfl
theorem Ct (ed:∀x:α,aS.aW x=0) (xs:List α):g9 xs=0:=by
  induction xs with
  |nil=>rfl
  |cons x xs gh=>rw [aj5,ed,gh]
end
instance:aS aQ where
  aW _:=0
  cut h _:=h
instance:aS bQ where
  aW x:=aS.aW x.known+aS.aW x.aY
  cut h hk:=⟨aS.cut h.known (by omega),aS.cut h.aY (by omega)⟩
theorem FW (x:bQ):aS.aW x=aS.aW x.known+aS.aW x.aY:=rfl
instance:aS aG where
  aW _:=0
  cut h _:=h
instance:aS c_ where
  aW _:=0
  cut h _:=h
instance:aS fo where
  aW _:=0
  cut h _:=h
instance:aS df where
  aW _:=0
  cut h _:=h
instance:aS ax where
  aW x:=aS.aW x.prog+aS.aW x.written+aS.aW x.live+aS.aW x.seen
  cut h hk:=⟨aS.cut h.prog (by omega),h.acc,h.aw,aS.cut h.written (by omega),aS.cut h.live (by omega),h.aN,h.aB,h.exit,aS.cut h.seen (by omega)⟩
theorem y7 (x:ax):aS.aW x=aS.aW x.prog+aS.aW x.written+aS.aW x.live+aS.aW x.seen:=rfl
instance:aS cP where
  aW x:=aS.aW x.mem+aS.aW x.U+aS.aW x.outs
  cut h hk:=⟨aS.cut h.mem (by omega),aS.cut h.U (by omega),aS.cut h.outs (by omega),h.aB⟩
theorem aj1 (x:cP):aS.aW x=aS.aW x.mem+aS.aW x.U+aS.aW x.outs:=rfl
instance:aS aO where
  aW x:=aS.aW x.outer+aS.aW x.out+aS.aW x.aT+aS.aW x.U+aS.aW x.outs+aS.aW x.tables
  cut h hk:=⟨aS.cut h.outer (by omega),aS.cut h.out (by omega),aS.cut h.aT (by omega),aS.cut h.U (by omega),aS.cut h.outs (by omega),h.aB,h.aX,aS.cut h.tables (by omega),h.owned⟩
theorem tW (x:aO):aS.aW x=aS.aW x.outer+aS.aW x.out+aS.aW x.aT+aS.aW x.U+aS.aW x.outs+aS.aW x.tables:=rfl
instance:aS ah where
  aW x:=aS.aW x.mem+aS.aW x.I+aS.aW x.buf+aS.aW x.ag
  cut h hk:=⟨aS.cut h.mem (by omega),aS.cut h.I (by omega),aS.cut h.buf (by omega),aS.cut h.ag (by omega)⟩
theorem Cs (x:ah):aS.aW x=aS.aW x.mem+aS.aW x.I+aS.aW x.buf+aS.aW x.ag:=rfl
instance:aS nw where
  aW _:=0
  cut h _:=h
instance:aS pN where
  aW _:=0
  cut h _:=h
theorem VO (xs:List Int):aS.aW xs=xs.length:=by rw [ns,Ct (fun _=>rfl)];rfl
theorem VN (xs:List Bool):aS.aW xs=xs.length:=by rw [ns,Ct (fun _=>rfl)];rfl
theorem VR (xs:List aQ):aS.aW xs=xs.length:=by rw [ns,Ct (fun _=>rfl)];rfl
theorem VP (xs:List aG):aS.aW xs=xs.length:=by rw [ns,Ct (fun _=>rfl)];rfl
theorem VQ (xs:List c_):aS.aW xs=xs.length:=by rw [ns,Ct (fun _=>rfl)];rfl
end Go.Proofs.YtjlocpdfcanlhaaGreat
namespace Go.Proofs.YtjlocpdfcanlhaaGreat
open Go
def j1:List au->au
  |[]=>ab
  |G::l=>Or G (j1 l)
theorem J.agZ {X:au}:J ab X:=fun _ h _=>False.elim h
theorem J.or {A C X:au} (h:J A X) (k:J C X):J (Or A C) X:=fun b h1 an=>h1.elim (fun y=>h b y an) (fun y=>k b y an)
theorem J.part {A F X:au} (h:J F X) (s:∀b,A b->F b):J A X:=fun b h1 an=>h b (s b h1) an
theorem akh {l:List au} {G:au} (h:G∈l) (b:Nat) (hb:G b):j1 l b:=by
  induction l with
  |nil=>cases h
  |cons A l gh=>
    rcases List.mem_cons.1 h with rfl|h
    · exact Or.inl hb
    · exact Or.inr (gh h)
theorem qu {l:List au} {X:Nat->Prop} (h:∀G,G∈l->∀b,G b->X b) (b:Nat) (hb:j1 l b):X b:=by
  induction l with
  |nil=>exact False.elim hb
  |cons A l gh=>
    rcases hb with hb|hb
    · exact h A List.mem_cons_self b hb
    · exact gh (fun G cM=>h G (List.mem_cons_of_mem _ cM)) hb
theorem Cm {l:List au} (h:l.Pairwise J):nv (j1 l) l:=⟨fun _ cM=>akh cM,h⟩
theorem cy {l:List au} (h:l.Pairwise J) {i j:Nat} {A C:au} (r6:i<j) (hi:l[i]? =some A) (b0:l[j]? =some C):J A C:=by
  obtain⟨h1,rfl⟩:=List.getElem?_eq_some_iff.1 hi
  obtain⟨an,rfl⟩:=List.getElem?_eq_some_iff.1 b0
  exact List.pairwise_iff_getElem.1 h i j h1 an r6
section
variable {w0:World} {M:au} {u:World} {N:au}
theorem l4 {dD cc:au} {x:bQ} {p:fm} (cv:ad w0 M u N dD x.known p.known) (gq:ad w0 M u N cc x.aY p.aY) (rI:J dD cc):ad w0 M u N (j1 [dD,cc]) x p:=by
  refine⟨⟨dD,cc,cv.own,gq.own,Cm (List.Pairwise.cons (by intro G cM;simp only [List.mem_cons,List.not_mem_nil,or_false] at cM;rcases cM with rfl;exact rI) (List.Pairwise.cons (fun G cM=>by cases cM) List.Pairwise.nil))⟩,?_,?_⟩
  · refine qu fun G cM=>?_
    simp only [List.mem_cons,List.not_mem_nil,or_false] at cM
    rcases cM with rfl|rfl
    · exact cv.sub
    · exact gq.sub
  · refine qu fun G cM=>?_
    simp only [List.mem_cons,List.not_mem_nil,or_false] at cM
    rcases cM with rfl|rfl
    · exact cv.dJ
    · exact gq.dJ
theorem tV {F:au} {x:bQ} {p:fm} (o:ad w0 M u N F x p):∃dD cc:au,ad w0 M u N dD x.known p.known/\ad w0 M u N cc x.aY p.aY/\(∀b,dD b->F b)/\(∀b,cc b->F b)/\J dD cc:=by
  obtain⟨⟨dD,cc,dx,cm,s⟩,h1,an⟩:=o
  have ga:∀b,dD b->F b:=s.sub _ (by simp)
  have s1:∀b,cc b->F b:=s.sub _ (by simp)
  exact⟨dD,cc,⟨dx,fun b hb=>h1 b (ga b hb),fun b hb=>an b (ga b hb)⟩,⟨cm,fun b hb=>h1 b (s1 b hb),fun b hb=>an b (s1 b hb)⟩,ga,s1,cy s.cq (i:=0) (j:=1) (by decide) rfl rfl⟩
theorem hI {dD cc br ec:au} {x:ax} {p:c6} (cv:ad w0 M u N dD x.prog p.prog) (gq:ad w0 M u N cc x.written p.written) (bK:ad w0 M u N br x.live p.live) (aD:ad w0 M u N ec x.seen p.seen) (rI:J dD cc) (uB:J dD br) (zM:J dD ec) (uC:J cc br) (zN:J cc ec) (zP:J br ec) (f0:a_ x.acc) (f1:a_ x.aw) (f2:hr x.aN) (f3:a_ x.aB) (f4:fF x.exit):ad w0 M u N (j1 [dD,cc,br,ec]) x p:=by
  refine⟨⟨dD,cc,br,ec,cv.own,gq.own,bK.own,aD.own,Cm (List.Pairwise.cons (by intro G cM;simp only [List.mem_cons,List.not_mem_nil,or_false] at cM;rcases cM with rfl|rfl|rfl;exact rI;exact uB;exact zM) (List.Pairwise.cons (by intro G cM;simp only [List.mem_cons,List.not_mem_nil,or_false] at cM;rcases cM with rfl|rfl;exact uC;exact zN) (List.Pairwise.cons (by intro G cM;simp only [List.mem_cons,List.not_mem_nil,or_false] at cM;rcases cM with rfl;exact zP) (List.Pairwise.cons (fun G cM=>by cases cM) List.Pairwise.nil)))),f0,f1,f2,f3,f4⟩,?_,?_⟩
  · refine qu fun G cM=>?_
    simp only [List.mem_cons,List.not_mem_nil,or_false] at cM
    rcases cM with rfl|rfl|rfl|rfl
    · exact cv.sub
    · exact gq.sub
    · exact bK.sub
    · exact aD.sub
  · refine qu fun G cM=>?_
    simp only [List.mem_cons,List.not_mem_nil,or_false] at cM
    rcases cM with rfl|rfl|rfl|rfl
    · exact cv.dJ
    · exact gq.dJ
    · exact bK.dJ
    · exact aD.dJ
theorem mB {F:au} {x:ax} {p:c6} (o:ad w0 M u N F x p):∃dD cc br ec:au,ad w0 M u N dD x.prog p.prog/\ad w0 M u N cc x.written p.written/\ad w0 M u N br x.live p.live/\ad w0 M u N ec x.seen p.seen/\(∀b,dD b->F b)/\(∀b,cc b->F b)/\(∀b,br b->F b)/\(∀b,ec b->F b)/\J dD cc/\J dD br/\J dD ec/\J cc br/\J cc ec/\J br ec:=by
  obtain⟨⟨dD,cc,br,ec,dx,cm,a8,b4,s,_,_,_,_,_⟩,h1,an⟩:=o
  have ga:∀b,dD b->F b:=s.sub _ (by simp)
  have s1:∀b,cc b->F b:=s.sub _ (by simp)
  have s2:∀b,br b->F b:=s.sub _ (by simp)
  have nr:∀b,ec b->F b:=s.sub _ (by simp)
  exact⟨dD,cc,br,ec,⟨dx,fun b hb=>h1 b (ga b hb),fun b hb=>an b (ga b hb)⟩,⟨cm,fun b hb=>h1 b (s1 b hb),fun b hb=>an b (s1 b hb)⟩,⟨a8,fun b hb=>h1 b (s2 b hb),fun b hb=>an b (s2 b hb)⟩,⟨b4,fun b hb=>h1 b (nr b hb),fun b hb=>an b (nr b hb)⟩,ga,s1,s2,nr,cy s.cq (i:=0) (j:=1) (by decide) rfl rfl,cy s.cq (i:=0) (j:=2) (by decide) rfl rfl,cy s.cq (i:=0) (j:=3) (by decide) rfl rfl,cy s.cq (i:=1) (j:=2) (by decide) rfl rfl,cy s.cq (i:=1) (j:=3) (by decide) rfl rfl,cy s.cq (i:=2) (j:=3) (by decide) rfl rfl⟩
theorem wi {dD cc br:au} {x:cP} {p:iX} (cv:ad w0 M u N dD x.mem p.mem) (gq:ad w0 M u N cc x.U p.U) (bK:ad w0 M u N br x.outs p.outs) (rI:J dD cc) (uB:J dD br) (uC:J cc br) (f0:a_ x.aB):ad w0 M u N (j1 [dD,cc,br]) x p:=by
  refine⟨⟨dD,cc,br,cv.own,gq.own,bK.own,Cm (List.Pairwise.cons (by intro G cM;simp only [List.mem_cons,List.not_mem_nil,or_false] at cM;rcases cM with rfl|rfl;exact rI;exact uB) (List.Pairwise.cons (by intro G cM;simp only [List.mem_cons,List.not_mem_nil,or_false] at cM;rcases cM with rfl;exact uC) (List.Pairwise.cons (fun G cM=>by cases cM) List.Pairwise.nil))),f0⟩,?_,?_⟩
  · refine qu fun G cM=>?_
    simp only [List.mem_cons,List.not_mem_nil,or_false] at cM
    rcases cM with rfl|rfl|rfl
    · exact cv.sub
    · exact gq.sub
    · exact bK.sub
  · refine qu fun G cM=>?_
    simp only [List.mem_cons,List.not_mem_nil,or_false] at cM
    rcases cM with rfl|rfl|rfl
    · exact cv.dJ
    · exact gq.dJ
    · exact bK.dJ
theorem FT {F:au} {x:cP} {p:iX} (o:ad w0 M u N F x p):∃dD cc br:au,ad w0 M u N dD x.mem p.mem/\ad w0 M u N cc x.U p.U/\ad w0 M u N br x.outs p.outs/\(∀b,dD b->F b)/\(∀b,cc b->F b)/\(∀b,br b->F b)/\J dD cc/\J dD br/\J cc br:=by
  obtain⟨⟨dD,cc,br,dx,cm,a8,s,_⟩,h1,an⟩:=o
  have ga:∀b,dD b->F b:=s.sub _ (by simp)
  have s1:∀b,cc b->F b:=s.sub _ (by simp)
  have s2:∀b,br b->F b:=s.sub _ (by simp)
  exact⟨dD,cc,br,⟨dx,fun b hb=>h1 b (ga b hb),fun b hb=>an b (ga b hb)⟩,⟨cm,fun b hb=>h1 b (s1 b hb),fun b hb=>an b (s1 b hb)⟩,⟨a8,fun b hb=>h1 b (s2 b hb),fun b hb=>an b (s2 b hb)⟩,ga,s1,s2,cy s.cq (i:=0) (j:=1) (by decide) rfl rfl,cy s.cq (i:=0) (j:=2) (by decide) rfl rfl,cy s.cq (i:=1) (j:=2) (by decide) rfl rfl⟩
theorem Ff {dD cc br ec e4 dO:au} {x:aO} {p:fj} (cv:ad w0 M u N dD x.outer p.outer) (gq:ad w0 M u N cc x.out p.out) (bK:ad w0 M u N br x.aT p.aT) (aD:ad w0 M u N ec x.U p.U) (fW:ad w0 M u N e4 x.outs p.outs) (bY:ad w0 M u N dO x.tables p.tables) (rI:J dD cc) (uB:J dD br) (zM:J dD ec) (aae:J dD e4) (aaf:J dD dO) (uC:J cc br) (zN:J cc ec) (aag:J cc e4) (aah:J cc dO) (zP:J br ec) (aai:J br e4) (aaj:J br dO) (aao:J ec e4) (aap:J ec dO) (aaz:J e4 dO) (f0:a_ x.aB) (f1:a_ x.aX) (f2:a_ x.owned):ad w0 M u N (j1 [dD,cc,br,ec,e4,dO]) x p:=by
  refine⟨⟨dD,cc,br,ec,e4,dO,cv.own,gq.own,bK.own,aD.own,fW.own,bY.own,Cm (List.Pairwise.cons (by intro G cM;simp only [List.mem_cons,List.not_mem_nil,or_false] at cM;rcases cM with rfl|rfl|rfl|rfl|rfl;exact rI;exact uB;exact zM;exact aae;exact aaf) (List.Pairwise.cons (by intro G cM;simp only [List.mem_cons,List.not_mem_nil,or_false] at cM;rcases cM with rfl|rfl|rfl|rfl;exact uC;exact zN;exact aag;exact aah) (List.Pairwise.cons (by intro G cM;simp only [List.mem_cons,List.not_mem_nil,or_false] at cM;rcases cM with rfl|rfl|rfl;exact zP;exact aai;exact aaj) (List.Pairwise.cons (by intro G cM;simp only [List.mem_cons,List.not_mem_nil,or_false] at cM;rcases cM with rfl|rfl;exact aao;exact aap) (List.Pairwise.cons (by intro G cM;simp only [List.mem_cons,List.not_mem_nil,or_false] at cM;rcases cM with rfl;exact aaz) (List.Pairwise.cons (fun G cM=>by cases cM) List.Pairwise.nil)))))),f0,f1,f2⟩,?_,?_⟩
  · refine qu fun G cM=>?_
    simp only [List.mem_cons,List.not_mem_nil,or_false] at cM
    rcases cM with rfl|rfl|rfl|rfl|rfl|rfl
    · exact cv.sub
    · exact gq.sub
    · exact bK.sub
    · exact aD.sub
    · exact fW.sub
    · exact bY.sub
  · refine qu fun G cM=>?_
    simp only [List.mem_cons,List.not_mem_nil,or_false] at cM
    rcases cM with rfl|rfl|rfl|rfl|rfl|rfl
    · exact cv.dJ
    · exact gq.dJ
    · exact bK.dJ
    · exact aD.dJ
    · exact fW.dJ
    · exact bY.dJ
theorem ajW {F:au} {x:aO} {p:fj} (o:ad w0 M u N F x p):∃dD cc br ec e4 dO:au,ad w0 M u N dD x.outer p.outer/\ad w0 M u N cc x.out p.out/\ad w0 M u N br x.aT p.aT/\ad w0 M u N ec x.U p.U/\ad w0 M u N e4 x.outs p.outs/\ad w0 M u N dO x.tables p.tables/\(∀b,dD b->F b)/\(∀b,cc b->F b)/\(∀b,br b->F b)/\(∀b,ec b->F b)/\(∀b,e4 b->F b)/\(∀b,dO b->F b)/\J dD cc/\J dD br/\J dD ec/\J dD e4/\J dD dO/\J cc br/\J cc ec/\J cc e4/\J cc dO/\J br ec/\J br e4/\J br dO/\J ec e4/\J ec dO/\J e4 dO:=by
  obtain⟨⟨dD,cc,br,ec,e4,dO,dx,cm,a8,b4,cB,dK,s,_,_,_⟩,h1,an⟩:=o
  have ga:∀b,dD b->F b:=s.sub _ (by simp)
  have s1:∀b,cc b->F b:=s.sub _ (by simp)
  have s2:∀b,br b->F b:=s.sub _ (by simp)
  have nr:∀b,ec b->F b:=s.sub _ (by simp)
  have Ci:∀b,e4 b->F b:=s.sub _ (by simp)
  have yX:∀b,dO b->F b:=s.sub _ (by simp)
  exact⟨dD,cc,br,ec,e4,dO,⟨dx,fun b hb=>h1 b (ga b hb),fun b hb=>an b (ga b hb)⟩,⟨cm,fun b hb=>h1 b (s1 b hb),fun b hb=>an b (s1 b hb)⟩,⟨a8,fun b hb=>h1 b (s2 b hb),fun b hb=>an b (s2 b hb)⟩,⟨b4,fun b hb=>h1 b (nr b hb),fun b hb=>an b (nr b hb)⟩,⟨cB,fun b hb=>h1 b (Ci b hb),fun b hb=>an b (Ci b hb)⟩,⟨dK,fun b hb=>h1 b (yX b hb),fun b hb=>an b (yX b hb)⟩,ga,s1,s2,nr,Ci,yX,cy s.cq (i:=0) (j:=1) (by decide) rfl rfl,cy s.cq (i:=0) (j:=2) (by decide) rfl rfl,cy s.cq (i:=0) (j:=3) (by decide) rfl rfl,cy s.cq (i:=0) (j:=4) (by decide) rfl rfl,cy s.cq (i:=0) (j:=5) (by decide) rfl rfl,cy s.cq (i:=1) (j:=2) (by decide) rfl rfl,cy s.cq (i:=1) (j:=3) (by decide) rfl rfl,cy s.cq (i:=1) (j:=4) (by decide) rfl rfl,cy s.cq (i:=1) (j:=5) (by decide) rfl rfl,cy s.cq (i:=2) (j:=3) (by decide) rfl rfl,cy s.cq (i:=2) (j:=4) (by decide) rfl rfl,cy s.cq (i:=2) (j:=5) (by decide) rfl rfl,cy s.cq (i:=3) (j:=4) (by decide) rfl rfl,cy s.cq (i:=3) (j:=5) (by decide) rfl rfl,cy s.cq (i:=4) (j:=5) (by decide) rfl rfl⟩
theorem fi {dD cc br ec:au} {x:ah} {p:cb} (cv:ad w0 M u N dD x.mem p.mem) (gq:ad w0 M u N cc x.I p.I) (bK:ad w0 M u N br x.buf p.buf) (aD:ad w0 M u N ec x.ag p.ag) (rI:J dD cc) (uB:J dD br) (zM:J dD ec) (uC:J cc br) (zN:J cc ec) (zP:J br ec):ad w0 M u N (j1 [dD,cc,br,ec]) x p:=by
  refine⟨⟨dD,cc,br,ec,cv.own,gq.own,bK.own,aD.own,Cm (List.Pairwise.cons (by intro G cM;simp only [List.mem_cons,List.not_mem_nil,or_false] at cM;rcases cM with rfl|rfl|rfl;exact rI;exact uB;exact zM) (List.Pairwise.cons (by intro G cM;simp only [List.mem_cons,List.not_mem_nil,or_false] at cM;rcases cM with rfl|rfl;exact uC;exact zN) (List.Pairwise.cons (by intro G cM;simp only [List.mem_cons,List.not_mem_nil,or_false] at cM;rcases cM with rfl;exact zP) (List.Pairwise.cons (fun G cM=>by cases cM) List.Pairwise.nil))))⟩,?_,?_⟩
  · refine qu fun G cM=>?_
    simp only [List.mem_cons,List.not_mem_nil,or_false] at cM
    rcases cM with rfl|rfl|rfl|rfl
    · exact cv.sub
    · exact gq.sub
    · exact bK.sub
    · exact aD.sub
  · refine qu fun G cM=>?_
    simp only [List.mem_cons,List.not_mem_nil,or_false] at cM
    rcases cM with rfl|rfl|rfl|rfl
    · exact cv.dJ
    · exact gq.dJ
    · exact bK.dJ
    · exact aD.dJ
theorem jL {F:au} {x:ah} {p:cb} (o:ad w0 M u N F x p):∃dD cc br ec:au,ad w0 M u N dD x.mem p.mem/\ad w0 M u N cc x.I p.I/\ad w0 M u N br x.buf p.buf/\ad w0 M u N ec x.ag p.ag/\(∀b,dD b->F b)/\(∀b,cc b->F b)/\(∀b,br b->F b)/\(∀b,ec b->F b)/\J dD cc/\J dD br/\J dD ec/\J cc br/\J cc ec/\J br ec:=by
  obtain⟨⟨dD,cc,br,ec,dx,cm,a8,b4,s⟩,h1,an⟩:=o
  have ga:∀b,dD b->F b:=s.sub _ (by simp)
  have s1:∀b,cc b->F b:=s.sub _ (by simp)
  have s2:∀b,br b->F b:=s.sub _ (by simp)
  have nr:∀b,ec b->F b:=s.sub _ (by simp)
  exact⟨dD,cc,br,ec,⟨dx,fun b hb=>h1 b (ga b hb),fun b hb=>an b (ga b hb)⟩,⟨cm,fun b hb=>h1 b (s1 b hb),fun b hb=>an b (s1 b hb)⟩,⟨a8,fun b hb=>h1 b (s2 b hb),fun b hb=>an b (s2 b hb)⟩,⟨b4,fun b hb=>h1 b (nr b hb),fun b hb=>an b (nr b hb)⟩,ga,s1,s2,nr,cy s.cq (i:=0) (j:=1) (by decide) rfl rfl,cy s.cq (i:=0) (j:=2) (by decide) rfl rfl,cy s.cq (i:=0) (j:=3) (by decide) rfl rfl,cy s.cq (i:=1) (j:=2) (by decide) rfl rfl,cy s.cq (i:=1) (j:=3) (by decide) rfl rfl,cy s.cq (i:=2) (j:=3) (by decide) rfl rfl⟩
end
end Go.Proofs.YtjlocpdfcanlhaaGreat
namespace Go.Proofs.YtjlocpdfcanlhaaGreat
open Go
def jV (l:List aQ) (page:Int) (k:Nat):Int:=
  if k<l.length then(if(el l k).page=page then k else jV l page (k+1)) else-1
termination_by l.length-k
theorem L5 {l:List aQ} {page:Int} {k:Nat} (h:k<l.length) (e:(el l k).page=page):jV l page k=k:=by
  rw [jV,if_pos h,if_pos e]
theorem L6 {l:List aQ} {page:Int} {k:Nat} (h:k<l.length) (e:¬(el l k).page=page):jV l page k=jV l page (k+1):=by
  rw [jV,if_pos h,if_neg e]
theorem L4 {l:List aQ} {page:Int} {k:Nat} (h:l.length<=k):jV l page k=-1:=by
  rw [jV,if_neg (by omega)]
def ir (ms:List aO) (page:Int) (i:Nat):Int×Int:=
  if i<ms.length then(if jV (el ms i).outer page 0<0 then ir ms page (i+1) else((i:Int),jV (el ms i).outer page 0)) else(-1,-1)
termination_by ms.length-i
theorem UF {ms:List aO} {page:Int} {i k:Nat} (h:i<ms.length) (e:jV (el ms i).outer page 0=k):ir ms page i=((i:Int),(k:Int)):=by
  rw [ir,if_pos h,if_neg (by omega),e]
theorem UG {ms:List aO} {page:Int} {i:Nat} (h:i<ms.length) (e:jV (el ms i).outer page 0=-1):ir ms page i=ir ms page (i+1):=by
  rw [ir,if_pos h,if_pos (by omega)]
theorem L3 {ms:List aO} {page:Int} {i:Nat} (h:ms.length<=i):ir ms page i=(-1,-1):=by
  rw [ir,if_neg (by omega)]
def dX (h:ah) (page:Int):Int×Int:=if page<0 then(-1,-1) else ir h.I page 0
theorem L9 {h:ah} {page:Int} (e:page<0):dX h page=(-1,-1):=if_pos e
theorem L_ {h:ah} {page:Int} (e:¬page<0):dX h page=ir h.I page 0:=if_neg e
theorem UK {h:ah} {page:Int} (e:ir h.I page 0=(-1,-1)):dX h page=(-1,-1):=by
  unfold dX;split
  · rfl
  · exact e
def abh (k:bQ):Int:=((k.known.filter fun b=>b).length:Int)
end Go.Proofs.YtjlocpdfcanlhaaGreat
namespace Go.Proofs.YtjlocpdfcanlhaaGreat
open Go
theorem pP {α:Type} [GT α] {xs:List α} {p:α->Bool} {k:Nat} (h:k<xs.length) (e:(xs.take k).all p=true) (h3:p (el xs k)=true):(xs.take (k+1)).all p=true:=by
  rw [jh h,List.all_append];simp [e,h3]
theorem l9 {α:Type} [GT α] {xs:List α} {p:α->Bool} {k:Nat} (h:k<xs.length) (h3:p (el xs k)=false):xs.all p=false:=by
  rw [←Bool.not_eq_true]
  intro hc
  rw [List.all_eq_true] at hc
  have hx:=hc (el xs k) (by rw [p0 h];exact List.getElem_mem h)
  rw [hx] at h3
  cases h3
theorem eR {α:Type} {xs:List α} {p:α->Bool} {k:Nat} (h:xs.length<=k) (e:(xs.take k).all p=true):xs.all p=true:=by rwa [fb h] at e
theorem sP {α:Type} [GT α] {xs:List α} {p:α->Bool} (e:xs.all p=true) {k:Nat} (h:k<xs.length):p (el xs k)=true:=by
  rw [List.all_eq_true] at e
  exact e _ (by rw [p0 h];exact List.getElem_mem h)
theorem ta {α β:Type} [GT α] {f:β->α->β} {z:β} {xs:List α} {k:Nat} (h:k<xs.length):(xs.take (k+1)).foldl f z=f ((xs.take k).foldl f z) (el xs k):=by
  rw [jh h,List.foldl_append];rfl
theorem Q8 {α β:Type} {f:β->α->β} {z:β} {xs:List α} {k:Nat} (h:xs.length<=k):(xs.take k).foldl f z=xs.foldl f z:=by rw [fb h]
theorem ru {p:Nat->Bool} {k:Nat} (e:(List.range k).all p=true) (h3:p k=true):(List.range (k+1)).all p=true:=by
  rw [List.range_succ,List.all_append];simp [e,h3]
theorem FE {p:Nat->Bool} {k n:Nat} (h:k<n) (h3:p k=false):(List.range n).all p=false:=by
  rw [←Bool.not_eq_true]
  intro hc
  rw [List.all_eq_true] at hc
  have hx:=hc k (List.mem_range.2 h)
  rw [hx] at h3
  cases h3
theorem FF {p:Nat->Bool} {n k:Nat} (e:(List.range n).all p=true) (h:k<n):p k=true:=by
  rw [List.all_eq_true] at e
  exact e _ (List.mem_range.2 h)
def abg (t:List bQ) (n:Int):Int:=t.foldl (fun n k=>IntKind.i64.wrap (n+abh k)) n
def am9 (h:ah):Int:=h.I.foldl (fun n m=>abg m.tables n) 0
def mT (i:c_):Bool:=
  if i.eF=1\/i.eF=2\/i.eF=5\/i.eF=6 then a3 i.x 0 99
  else if i.eF=3\/i.eF=4 then a3 i.x 0 15
  else if i.eF=7 then i.x==0
  else if i.eF=8 then a3 i.x 0 11 else false
def j7 (p:List c_):Bool:=p.all mT&&a3 p.length 1 12
def g5 (s:aQ) (eh:Int):Bool:=decide (s=⟨-1,0⟩)||(decide (0<eh)&&a3 s.page 0 (eh-1)&&a3 s.bd 1 3)
def gV (t:List aQ) (size eh:Int):Bool:=t.all (fun s=>g5 s eh)&&((t.length:Int)==size)
theorem wI {t:List aQ} {size eh:Int} (h:gV t size eh=true):(t.length:Int)=size:=by
  simp [gV] at h;exact h.2
theorem Cv {t:List aQ} {size eh:Int} (h:gV t size eh=true) {k:Nat} (hk:k<t.length):g5 (el t k) eh=true:=by
  simp only [gV,Bool.and_eq_true] at h
  exact sP h.1 hk
def hh (c:List Int):Bool:=c.all (fun v=>a3 v 0 99)&&((c.length:Int)==4)
def h6 (m:List (List Int)) (eh:Int):Bool:=m.all hh&&((m.length:Int)==eh)
def e8 (r n:Int):Bool:=a3 r 0 3&&a3 n 0 3&&(jH r n==n)
def mR (c:fo):List Int:=
  (if a3 c.aX 0 3 then [] else [1])++(if a3 c.post 0 255 then [] else [2])++(if c.post≠0/\c.eV=false then [3] else [])++(if c.aX=2/\c.post≠0 then [4] else [])
def mS (c:fo):Bool:=((mR c).length:Int)==0
def uP (e:df):Bool:=
  if e.kind=0\/e.kind=4 then decide (e.page=0)&& !e.wr&&decide (e.n=0)
  else if e.kind=1 then a3 e.page 0 3&&decide (e.n=0)
  else if e.kind=2\/e.kind=3 then a3 e.n 0 99&&decide (e.page=0)&& !e.wr else false
def kz (g:ax):Bool:=
  j7 g.prog&&a3 g.acc 0 99&&a3 g.aw 0 12&&gV g.written 4 8&&gV g.live 4 8&&mS g.aN&&a3 g.aB 0 255&&uP g.exit&&decide ((g.seen.length:Int)<=40)
def nH (m:aO) (i:Nat):Bool:=
  if el m.outer i=⟨-1,0⟩ then hh (el m.out i) else e8 (el m.outer i).bd 1&&decide ((el m.out i).length=0)
def og (m:aO):Bool:=
  a3 m.U.length 1 2&&decide (m.tables.length=m.U.length)&&gV m.outer 8 12&&decide (m.out.length=8)&&decide (m.aT.length=8)
def qN (m:aO):Bool:=decide (m.outs.length<=40)&&a3 m.aB 0 255&&a3 m.aX 0 3&&a3 m.owned 0 1000000000
def hP (m:aO):Bool:=og m&&qN m&&m.U.all kz&&(List.range 8).all (nH m)
theorem q3 {m:aO} (h:hP m=true):m.outer.length=8/\gV m.outer 8 12=true:=by
  simp only [hP,og,Bool.and_eq_true] at h
  have h1:=h.1.1.1.1.1.2
  exact⟨by have:=wI h1;omega,h1⟩
def aK (h:ah) (m:Int):aO×Bool:=if 0<=m/\m<h.I.length then(el h.I m.toNat,true) else(⟨[],[],[],[],[],0,0,[],0⟩,false)
def anf (h:ah) (m:Int):Int:=(aK h m).1.owned
end Go.Proofs.YtjlocpdfcanlhaaGreat
namespace Go.Proofs.YtjlocpdfcanlhaaGreat
open Go
def lL (n:Nat) (p:Nat->Bool):List Int:=((List.range n).filter p).map fun(i:Nat)=>(i:Int)
theorem mq {k:Nat} {p:Nat->Bool} (h:p k=true):lL (k+1) p=lL k p++[(k:Int)]:=by
  unfold lL;rw [List.range_succ,List.filter_append,List.map_append];simp [h]
theorem mo {k:Nat} {p:Nat->Bool} (h:p k=false):lL (k+1) p=lL k p:=by
  unfold lL;rw [List.range_succ,List.filter_append,List.map_append];simp [h]
theorem yu (n:Nat) (p:Nat->Bool):(lL n p).length<=n:=by
  unfold lL;rw [List.length_map];exact Nat.le_trans (List.length_filter_le _ _) (by simp)
def eg (h:ah):List Int:=lL h.mem.length fun p=>decide ((dX h p).1<0)
def lK (g:ax):Bool:=decide (g.exit=⟨0,0,false,0⟩)&& !g.halted
def abq (l:List ax):List Int:=lL l.length fun i=>lK (el l i)
def anj (h:ah):List (List Int):=h.I.map fun m=>abq m.U
def gv (t:List aQ) (page:Int):List Int:=lL t.length fun i=>decide ((el t i).page=page)
def eO (t:List aQ) (page:Int):aQ:=if 0<=page/\page<t.length then el t page.toNat else⟨-1,0⟩
theorem ajU {K:Nat} {F:au} {w:World} {t:List aQ} {p:aC aQ} (h:GT.rd K F w t p) (page:Int):ea (eO t page):=by
  unfold eO
  split
  · exact af.el h _ (by omega)
  · exact⟨⟨by decide,by decide⟩,⟨by decide,by decide⟩⟩
def hg (m:List (List Int)) (page:Int):List Int:=if 0<=page/\page<m.length then el m page.toNat else [0,0,0,0]
def oh (h:ah) (m page:Int):List Int:=
  if(0<=m/\m<h.I.length)/\0<=page/\page<8 then
    (if(eO (el h.I m.toNat).outer page).page≠ -1 then hg h.mem (eO (el h.I m.toNat).outer page).page else hg (el h.I m.toNat).out page)
  else [0,0,0,0]
theorem QB {α:Type} [GT α] {xs:List α} {i k:Nat} (h:k<i):el (xs.take i) k=el xs k:=by
  unfold el
  rw [List.getD_eq_getElem?_getD,List.getD_eq_getElem?_getD,List.getElem?_take_of_lt h]
def oc (b:List aG):Bool:=
  (List.range b.length).all (fun i=>(List.range i).all fun k=>!(decide ((el b i).tag=(el b k).tag)&&decide ((el b i).page=(el b k).page)))&&decide ((b.length:Int)<=6)
def n0 (u:Option (List Bool)) (s:aQ):Option (List Bool):=u.bind fun u=>if s.page<0 then some u else if el u s.page.toNat then none else some (u.set s.page.toNat true)
def pH (u:Option (List Bool)) (m:aO):Option (List Bool):=u.bind fun u=>if hP m then m.outer.foldl n0 (some u) else none
def p2 (h:ah):Bool:=h6 h.mem 12&&a3 h.I.length 1 3&&oc h.buf&&oc h.ag
def s4 (h:ah):Option (List Bool):=h.I.foldl pH (some (List.replicate 12 false))
def eD (h:ah):Bool:=p2 h&&(s4 h).isSome
theorem xM {α β:Type} [GT α] {f:Option β->α->Option β} {z u:Option β} {xs:List α} {k:Nat} (hk:k<xs.length) (cX:∀x,f none x=none) (h:(xs.take k).foldl f z=u) (h1:f u (el xs k)=none):xs.foldl f z=none:=by
  have key:∀bj:List α,bj.foldl f none=none:=fun bj=>by
    induction bj with
    |nil=>rfl
    |cons y r gh=>simp only [List.foldl_cons,cX,gh]
  have e:xs=xs.take k++el xs k::xs.drop (k+1):=by
    rw [p0 hk,←List.drop_eq_getElem_cons hk,List.take_append_drop]
  rw [e,List.foldl_append,h,List.foldl_cons,h1,key]
theorem VL (s:aQ):n0 none s=none:=rfl
theorem Cp (m:aO):pH none m=none:=rfl
theorem Cr {u:List Bool} {s:aQ} (h:s.page<0):n0 (some u) s=some u:=by simp [n0,h]
theorem Nu {u:List Bool} {s:aQ} (h:¬s.page<0) (cl:el u s.page.toNat=true):n0 (some u) s=none:=by simp [n0,h,cl]
theorem sF {u:List Bool} {s:aQ} (h:¬s.page<0) (cl:el u s.page.toNat=false):n0 (some u) s=some (u.set s.page.toNat true):=by simp [n0,h,cl]
theorem Nt {u:List Bool} {m:aO} (h:hP m=false):pH (some u) m=none:=by simp [pH,h]
theorem Cq {u:List Bool} {m:aO} (h:hP m=true):pH (some u) m=m.outer.foldl n0 (some u):=by simp [pH,h]
theorem U6 {m:aO} (h:hP m=true) (k:Nat):(el m.outer k).page<12:=by
  by_cases hk:k<m.outer.length
  · have h1:=Cv (q3 h).2 hk
    simp only [g5,Bool.or_eq_true,Bool.and_eq_true,decide_eq_true_eq] at h1
    rcases h1 with h1|h1
    · rw [h1];decide
    · have:=cU h1.1.2;omega
  · unfold el
    rw [List.getD_eq_getElem?_getD,List.getElem?_eq_none (by omega)]
    decide
theorem D_ {h:ah} (e:s4 h=none):eD h=false:=by simp [eD,e]
theorem r_ {h:ah} (e:eD h=true):1<=h.I.length/\h.I.length<=3/\h.mem.length=12:=by
  simp only [eD,p2,h6,Bool.and_eq_true,beq_iff_eq] at e
  have h1:=cU e.1.1.1.2
  have an:=e.1.1.1.1.2
  omega
def e9 (h:ah) (m:Int):cP:=
  if 0<=m/\m<h.I.length then⟨(List.range 8).map (fun(i:Nat)=>oh h m (i:Int)),(el h.I m.toNat).U,(el h.I m.toNat).outs,(el h.I m.toNat).aB⟩ else⟨[],[],[],0⟩
def QO (h:ah):List cP:=(List.range h.I.length).map fun(i:Nat)=>e9 h (i:Int)
theorem aiX {α:Type} {f:Nat->α} {k:Nat}:(List.range (k+1)).map f=(List.range k).map f++[f k]:=by
  rw [List.range_succ,List.map_append];rfl
theorem tw {h:ah} {m:Int} (e:(aK h m).2=true):0<=m/\m<h.I.length:=by
  unfold aK at e
  split at e
  · assumption
  · cases e
theorem TV {h:ah} {m:Int} (e:(aK h m).2=false):¬(0<=m/\m<h.I.length):=by
  unfold aK at e
  split at e
  · cases e
  · assumption
theorem vW {h:ah} {m:Int} (e:0<=m/\m<h.I.length):(aK h m).1=el h.I m.toNat:=by
  unfold aK;rw [if_pos e]
def abf (h:ah) (l:List cP):Bool:=decide (QO h=l)
def ank (a b:ah):Bool:=abf a (QO b)
def ano (h:ah) (m:Int) (x:aO):ah:=if 0<=m/\m<h.I.length then⟨h.mem,h.I.set m.toNat x,h.buf,h.ag⟩ else h
def anl (h:ah) (m aX:Int):ah×Bool:=
  if eD h=true/\(0<=m/\m<h.I.length)/\0<=aX/\aX<=3 then(⟨h.mem,h.I.set m.toNat {el h.I m.toNat with aX:=aX},h.buf,h.ag⟩,true) else(h,false)
end Go.Proofs.YtjlocpdfcanlhaaGreat
